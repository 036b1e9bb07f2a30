/- Facts and contracts for the laws of the sender, part 11. Conditions: those that each theorem names. -/
import Derived.Test.YtefloieanpgnmaaDoorK09
import Derived.Test.YtefloieanpgnmaaDoorK10
import Derived.Test.YtefloieanpgnmaaDoorK08
import Derived.Test.YtefloieanpgnmaaDoorK02
import Derived.Test.YtefloieanpgnmaaDoorK05
import Derived.KernelRfl
import Derived.Deep.RegionHeld3
import Derived.BigRegion
import Derived.BigQuiet
import Derived.StillTailTactics
/- Plain facts for the law DeltaOperations: a delta that is written operation by operation. -/
namespace Go.Proofs.YtefloieanpgnmaaDoor
open Go.RowKit

structure Stp where
  n : Int
  off : Int
  s : List UInt8

def Stp.copy (x : Stp) : Bool := decide (0 < x.n ∧ x.n < 100000 ∧ -100000 < x.off ∧ x.off < 100000)
def Stp.text (x : Stp) : List UInt8 := x.s.take 400
def Stp.enc (x : Stp) : List UInt8 := if x.copy = true then putInt x.n ++ putInt x.off else putInt 0 ++ putStr x.text
def Stp.good (o : List UInt8) (x : Stp) : Bool := if x.copy = true then decide (0 ≤ x.off ∧ x.off + x.n ≤ o.length) else decide (x.text ≠ [])
def Stp.add (o : List UInt8) (x : Stp) : List UInt8 := if x.copy = true then (if 0 ≤ x.off ∧ x.off + x.n ≤ o.length then (o.drop x.off.toNat).take x.n.toNat else []) else x.text

theorem opAt_cp {o : List UInt8} {n off : Int} (h0 : 0 < n) (h1 : n < 100000) (h2 : -100000 < off) (h3 : off < 100000) (pre r : List UInt8) :
    opAt o (pre ++ (putInt n ++ (putInt off ++ r))) pre.length = if 0 ≤ off ∧ off + n ≤ o.length then .ok ((o.drop off.toNat).take n.toNat, pre.length + (putInt n).length + (putInt off).length) else .error 190 := by
  unfold opAt
  rw [intAt_put (by omega) (by omega)]
  simp only []
  have := intAt_put (n := off) (by omega) (by omega) (pre ++ putInt n) r
  rw [List.append_assoc, List.length_append] at this
  rw [if_neg (by omega), if_neg (by omega), this]
theorem opAt_in {o x : List UInt8} (hx : x.length ≤ 65536) (pre r : List UInt8) :
    opAt o (pre ++ (putInt 0 ++ (putStr x ++ r))) pre.length = if x = [] then .error 190 else .ok (x, pre.length + (putInt 0).length + (putStr x).length) := by
  unfold opAt
  rw [intAt_put (by decide) (by decide)]
  simp only []
  have := strAt_put hx (pre ++ putInt 0) r
  rw [List.append_assoc, List.length_append] at this
  rw [if_neg (by omega), if_pos trivial, this]

theorem Stp.text_len (x : Stp) : x.text.length ≤ 400 := by unfold Stp.text; simp; omega
theorem opAt_stp (o : List UInt8) (x : Stp) (pre r : List UInt8) : opAt o (pre ++ (x.enc ++ r)) pre.length = if x.good o = true then .ok (x.add o, pre.length + x.enc.length) else .error 190 := by
  unfold Stp.enc Stp.good Stp.add
  by_cases hc : x.copy = true
  · rw [if_pos hc, if_pos hc, if_pos hc, List.append_assoc]
    have hc' := of_decide_eq_true hc
    rw [opAt_cp hc'.1 hc'.2.1 hc'.2.2.1 hc'.2.2.2]
    by_cases h : 0 ≤ x.off ∧ x.off + x.n ≤ o.length
    · rw [if_pos h, if_pos (decide_eq_true h), if_pos h, List.length_append, Nat.add_assoc]
    · rw [if_neg h, if_neg (by rw [decide_eq_true_iff]; exact h)]
  · rw [if_neg hc, if_neg hc, if_neg hc, List.append_assoc, opAt_in (by have := x.text_len; omega)]
    by_cases h : x.text = []
    · rw [if_pos h, if_neg (by simp [h])]
    · rw [if_neg h, if_pos (decide_eq_true h), List.length_append, Nat.add_assoc]
theorem Stp.enc_pos (x : Stp) : 0 < x.enc.length := by
  unfold Stp.enc
  split
  · rename_i hc
    have hc' := of_decide_eq_true hc
    have := putInt_len (n := x.n) (by omega) (by omega)
    rw [List.length_append]; omega
  · have := putInt_len (n := 0) (by decide) (by decide)
    rw [List.length_append]; omega
theorem Stp.enc_len (x : Stp) : x.enc.length ≤ 500 := by
  unfold Stp.enc
  split
  · rename_i hc
    have hc' := of_decide_eq_true hc
    have := putInt_len (n := x.n) (by omega) (by omega)
    have := putInt_len (n := x.off) (by omega) (by omega)
    rw [List.length_append]; omega
  · have := putInt_len (n := 0) (by decide) (by decide)
    have h1 := x.text_len
    have := putInt_len (n := (x.text.length : Int)) (by omega) (by omega)
    unfold putStr
    rw [List.length_append, List.length_append]; omega
theorem Stp.add_len (o : List UInt8) (x : Stp) : (x.add o).length ≤ o.length + 400 := by
  unfold Stp.add
  have h1 := x.text_len
  split
  · split
    · simp; omega
    · simp
  · omega

theorem apply_steps (o : List UInt8) : ∀ (l : List Stp) (pre out : List UInt8) (g : Nat), (l.flatMap Stp.enc).length < g → out.length ≤ 8192 →
    applyGo g o (pre ++ l.flatMap Stp.enc) pre.length out = if l.all (Stp.good o) = true ∧ out.length + (l.flatMap (Stp.add o)).length ≤ 8192 then .ok (out ++ l.flatMap (Stp.add o)) else .error 190
  | [], pre, out, g, hg, ho => by
    obtain ⟨g, rfl⟩ : ∃ k, g = k + 1 := ⟨g - 1, by simp at hg; omega⟩
    rw [applyGo_end (by simp)]
    simp [ho]
  | x :: l, pre, out, g, hg, ho => by
    have hp := x.enc_pos
    rw [List.flatMap_cons] at hg ⊢
    rw [List.length_append] at hg
    obtain ⟨g, rfl⟩ : ∃ k, g = k + 1 := ⟨g - 1, by omega⟩
    have ha : ¬ (pre ++ (x.enc ++ l.flatMap Stp.enc)).length ≤ pre.length := by simp only [List.length_append]; omega
    rw [applyGo, if_neg ha, opAt_stp]
    by_cases hgd : x.good o = true
    · rw [if_pos hgd]
      simp only []
      by_cases hl : out.length + (x.add o).length ≤ 8192
      · rw [if_pos hl, ← List.append_assoc, ← List.length_append, apply_steps o l (pre ++ x.enc) (out ++ x.add o) g (by omega) (by simpa using hl)]
        simp only [List.all_cons, hgd, Bool.true_and, List.flatMap_cons, List.length_append, List.append_assoc, Nat.add_assoc]
      · rw [if_neg hl, if_neg]
        rintro ⟨_, h⟩
        rw [List.flatMap_cons, List.length_append] at h
        omega
    · rw [if_neg hgd]
      simp only []
      rw [if_neg]
      rintro ⟨h, _⟩
      rw [List.all_cons, Bool.and_eq_true] at h
      exact hgd h.1

/-- law DeltaOperations -/
theorem apply_written {o : List UInt8} (ho : o.length ≤ 8192) (l : List Stp) {sum : Int} (h0 : 0 ≤ sum) (h1 : sum ≤ 4294967296) :
    applyD o (putInt (crcOf o) ++ putInt sum ++ l.flatMap Stp.enc) = if l.all (Stp.good o) = true ∧ (l.flatMap (Stp.add o)).length ≤ 8192 ∧ sum = crcOf (l.flatMap (Stp.add o)) then .ok (l.flatMap (Stp.add o)) else .error 190 := by
  have c1 := crcOf_le o
  unfold applyD
  rw [if_neg (by omega), List.append_assoc]
  have e1 := intAt_put (n := (crcOf o : Int)) (by omega) (by omega) [] (putInt sum ++ l.flatMap Stp.enc)
  simp only [List.nil_append, List.length_nil, Nat.zero_add] at e1
  rw [e1]
  simp only []
  rw [if_pos trivial]
  have e2 := intAt_put (n := sum) (by omega) (by omega) (putInt (crcOf o : Int)) (l.flatMap Stp.enc)
  rw [e2]
  simp only []
  have e3 := apply_steps o l (putInt (crcOf o : Int) ++ putInt sum) [] ((putInt (crcOf o : Int) ++ (putInt sum ++ l.flatMap Stp.enc)).length + 1) (by simp; omega) (by simp)
  have el : (putInt (crcOf o : Int) ++ putInt sum).length = (putInt (crcOf o : Int)).length + (putInt sum).length := List.length_append
  rw [List.append_assoc, el] at e3
  rw [e3]
  by_cases h : l.all (Stp.good o) = true ∧ ([] : List UInt8).length + (l.flatMap (Stp.add o)).length ≤ 8192
  · rw [if_pos h]
    simp only [List.nil_append, List.length_nil, Nat.zero_add] at h ⊢
    by_cases hs : sum = crcOf (l.flatMap (Stp.add o))
    · rw [if_pos hs.symm, if_pos ⟨h.1, h.2, hs⟩]
    · rw [if_neg (fun e => hs e.symm), if_neg (fun e => hs e.2.2)]
  · rw [if_neg h]
    simp only [List.length_nil, Nat.zero_add] at h ⊢
    rw [if_neg (fun e => h ⟨e.1, e.2.1⟩)]

/-- law DeltaOtherBase -/
theorem apply_other {b o n : List UInt8} (hb : b.length ≤ 8192) (ho : o.length ≤ 8192) (hn : n.length ≤ 8192) (h : crcOf b ≠ crcOf o) : applyD b (diffD o n) = .error 190 := by
  have c1 := crcOf_le o
  unfold applyD diffD
  rw [if_neg (by omega), if_neg (by omega), List.append_assoc]
  have h1 := intAt_put (n := (crcOf o : Int)) (by omega) (by omega) [] (putInt (crcOf n : Int) ++ opsD o (n.length + 1) n [])
  simp only [List.nil_append, List.length_nil, Nat.zero_add] at h1
  rw [h1]
  simp only []
  rw [if_neg (by omega)]
theorem apply_sums {b o n t : List UInt8} (ho : o.length ≤ 8192) (hn : n.length ≤ 8192) (h : applyD b (diffD o n) = .ok t) : crcOf t = crcOf n := by
  have := apply_cut (j := (diffD o n).length) ho hn (by rwa [List.take_length])
  exact this.2.1
/-- law DeltaRoundTrip -/
theorem diff_long {o n : List UInt8} (h : 8192 < o.length ∨ 8192 < n.length) : diffD o n = [] := by unfold diffD; rw [if_pos h]
theorem apply_empty (o : List UInt8) : ∃ e : Int, applyD o [] = .error e ∧ (e = 10 ∨ e = 190) := by
  unfold applyD
  by_cases h : 8192 < o.length
  · rw [if_pos h]; exact ⟨190, rfl, .inr rfl⟩
  · rw [if_neg h]
    have : intAt [] 0 = none := rfl
    rw [this]; exact ⟨10, rfl, .inl rfl⟩
theorem diff_pos {o n : List UInt8} (ho : o.length ≤ 8192) (hn : n.length ≤ 8192) : diffD o n ≠ [] := by
  intro h
  have c1 := crcOf_le o
  have := putInt_len (n := (crcOf o : Int)) (by omega) (by omega)
  unfold diffD at h
  rw [if_neg (by omega)] at h
  have h2 := congrArg List.length h
  simp only [List.length_append, List.length_nil] at h2; omega
end Go.Proofs.YtefloieanpgnmaaDoor
/- delta's Diff. -/
namespace Go.Proofs.YtefloieanpgnmaaDoor
open Go.RowKit Go.Shelf Go.Lib

attribute [local go_sem] Oper.semAt_some

theorem keepsFrom_stab {B : Nat} {W W' : World} (h : KStab W W') : KeepsFrom B W W' := h.from B

/-- an operation within the sizes of texts -/
abbrev SOp : Type := { y : DOp // y.n ≤ 8192 ∧ y.off ≤ 8192 ∧ y.text.length ≤ 8192 }
theorem opers_stops (n : Nat) (hn : 1 ≤ n) (Bo Bn : Nat) (o x : List UInt8) (ho : o.length ≤ 8192) (hx : x.length ≤ 8192) (hs : ∀ y ∈ opsR o x [], y.n ≤ 8192 ∧ y.off ≤ 8192 ∧ y.text.length ≤ 8192) (w : World) (hBo : Boxed w Bo 9 (.string ⟨o.toArray⟩)) (hBn : Boxed w Bn 9 (.string ⟨x.toArray⟩)) :
    SeqStopsK Fence.wide n Tryd.prog 78 #[.pointer (some ⟨Bo, 0, none⟩), .pointer (some ⟨Bn, 0, none⟩)] (fun y : SOp => #[y.1.enc]) KOps (fun ys => ys.map Subtype.val = opsR o x []) (fun pre => pre.map Subtype.val <+: opsR o x []) (opsR o x []).length w :=
  fun l J Jx W hW hJ _ hY h0 => by
    refine (opers1_in n l Bo Bn hn o x ho hx (fun l W => ∃ l' : List SOp, l'.map Subtype.val = l ∧ J l' W) (fun l W => ∃ l' : List SOp, l'.map Subtype.val = l ∧ Jx l' W) W ?_ ((hW.block _ hBo.lt).trans hBo) ((hW.block _ hBn.lt).trans hBn) ?_ ⟨[], rfl, h0⟩).mono ?_
    · rintro s A B row ⟨l', rfl, hl⟩ hg hr
      exact ⟨l', rfl, hJ _ _ _ _ hl hg hr⟩
    · rintro pre y W1 ⟨l', rfl, hl⟩ ⟨hlt, hy⟩
      obtain ⟨fn, tmps, assign, body, h1, h2⟩ := hY l' ⟨y, hs y hy⟩ W1 hl (by rw [List.length_map] at hlt; exact hlt)
      refine ⟨fn, tmps, assign, body, h1, h2.mono ?_⟩
      rintro e W' (⟨rfl, h3, h4⟩ | ⟨rfl, h3⟩)
      · exact .inl ⟨rfl, ⟨l' ++ [⟨y, hs y hy⟩], by rw [List.map_append]; rfl, h3⟩, h4⟩
      · exact .inr ⟨rfl, ⟨l' ++ [⟨y, hs y hy⟩], by rw [List.map_append]; rfl, h3⟩⟩
    · rintro e W' ⟨hv, (⟨ys, rfl, l', h1, h2⟩ | ⟨pre, h0, l', rfl, h2⟩)⟩
      · exact ⟨hv, .inl ⟨l', h1, h2⟩⟩
      · exact ⟨hv, .inr ⟨l', h0, h2⟩⟩
theorem groups_pos : ∀ (f z : Nat), 0 < (groupsF f z).length
  | 0, _ => by simp [groupsF]
  | f + 1, z => by unfold groupsF; split <;> simp
theorem DOp.bytes_pos (y : DOp) : 0 < y.bytes.length := by
  unfold DOp.bytes putInt
  have h1 := groups_pos 9 (zig (y.n : Int))
  have h2 := groups_pos 9 (zig 0)
  split <;> rw [List.length_append] <;> omega
theorem len_bytes : ∀ l : List DOp, l.length ≤ nBytes l
  | [] => Nat.zero_le _
  | y :: l => by
    have := len_bytes l
    have := y.bytes_pos
    rw [nBytes_cons, List.length_cons]; omega
theorem few_bytes : ∀ l : List SOp, ((l.map Subtype.val).flatMap DOp.bytes).length ≤ l.length * 65600
  | [] => by simp
  | y :: l => by
    have := few_bytes l
    have := dop_bytes_len (y := y.1) (by have := y.2; omega) (by have := y.2; omega) (by have := y.2; omega)
    rw [List.map_cons, List.flatMap_cons, List.length_append, List.length_cons]; omega

theorem kstab_freeze {w : World} {g : Nat} {cs : Array Value} {fr : Nat × Nat} (hg : w.heap[g]? = some (.cells cs 5 fr)) (n : Nat) : KStab w (w.drew.freeze ⟨g, 0, none⟩ n) := by
  unfold World.freeze
  split
  · exact ⟨Nat.le_refl _, fun _ _ h _ => h⟩
  · refine ⟨by rw [Array.size_modify]; exact Nat.le_refl _, fun k o hk ho => ?_⟩
    have hne : g ≠ k := fun e => by
      subst e; rw [hg] at hk; cases hk; exact (ho _ _ _ rfl).1 rfl
    simp only [Array.getElem?_modify]
    rw [if_neg hne]; exact hk

set_option maxHeartbeats 2000000 in
set_option maxRecDepth 100000 in
theorem bld_string_K (B b : Nat) (l : List UInt8) (w : World) (h : IsB B b (Lib.byteCells l) w) (h0 : l ≠ []) :
    Calls Tryd.prog 52 #[.pointer (some ⟨b, 0, none⟩)] w fun e w' => e = .returned (.string ⟨l.toArray⟩) ∧ Below B w w' ∧ KStab w w' := by
  obtain ⟨p, hB, v, hbk, hown, hne⟩ : ∃ p, Lib.BuilderAt 115 5 B b p (Lib.byteCells l) w := by
    rcases h with h | h
    · exact ⟨_, h⟩
    · exact ⟨_, h⟩
  have hl0 : l.length ≠ 0 := by simpa using h0
  rw [Lib.byteCells_length] at hown
  obtain ⟨g, cap, cur, rfl, hbg, hg, hnc, hcm, hcs, htake⟩ : ∃ g cap cur, v = .slice (some ⟨g, 0, none⟩) l.length cap ∧ B ≤ g ∧ w.heap[g]? = some (.cells cur 5 (0, 0)) ∧ l.length ≤ cap ∧ cap ≤ maxLen ∧ cur.size = cap * 1 ∧ cur.toList.take (l.length * 1) = Lib.byteCells l := by
    rcases hown.2 with ⟨_, hz⟩ | ⟨g, cap, cur, hv, r⟩
    · exact absurd hz hl0
    · exact ⟨g, cap, cur, hv, r⟩
  have c1 : w.drew.cell? ⟨b, 1, none⟩ = some (.slice (some ⟨g, 0, none⟩) l.length cap) := by
    have : w.drew.heap[b]? = some (.cells #[p, .slice (some ⟨g, 0, none⟩) l.length cap] 115 (0, 0)) := hbk
    rw [Lib.cell_of_heap this]; rfl
  have hSD : (Builtin.unsafeSliceData_ #[71] 129 #[.slice (some ⟨g, 0, none⟩) l.length cap]).run Tryd.prog w.drew = .ok (.pointer (some ⟨g, 0, none⟩)) w.drew :=
    Lib.run_unsafeSliceData_row _ _ _ _ _ _ (by omega)
  have hUS : (Builtin.unsafeString_ #[129, 3] 9 #[.pointer (some ⟨g, 0, none⟩), .int .i64 l.length]).run Tryd.prog w.drew = .ok (.string ⟨l.toArray⟩) (w.drew.freeze ⟨g, 0, none⟩ l.length) := by
    refine Lib.run_unsafeString_row w.drew 129 3 9 5 Tryd.underlying129 cellsU8b g cur.size (by have hg' : w.drew.heap[g]? = some (.cells cur 5 (0, 0)) := hg; simp [World.shape?, hg']) l h0 (by omega) (by unfold maxLen at hcm; omega) ?_
    intro j x hx
    have := hown.cells (g := g) rfl j (.int .u8 x.toNat) (by simp [Lib.byteCells, hx])
    exact this
  have HKF : Hid (KStab w (w.drew.freeze ⟨g, 0, none⟩ l.length)) := Lib.hid (kstab_freeze hg _)
  have mixed := mixedYes
  go_enter Tryd.func52, Tryd.ntmps52
  go_wp2
  go_region_o
  all_goals (go_wp2; go_ret; exact ⟨rfl, Lib.below_freeze (Below.drew (Below.refl B w)) (p := ⟨g, 0, none⟩) hbg _, HKF.out⟩)

/-- what the loop of Diff keeps: the writer in block b holds the bytes so far -/
structure DifI (w : World) (b : Nat) (l0 : List UInt8) (pre : List DOp) (W : World) : Prop where
  bld : IsB b b (Lib.byteCells (l0 ++ pre.flatMap DOp.bytes)) W
  bel : Below w.heap.size w W
  top : b ≤ W.heap.size

theorem isB_own {b : Nat} {bs : List Value} {A B : World} {row : Option Nat} {m : Nat} (h : IsB b b bs A) (hg : A.grownBy B row) (hr : ∀ r, row = some r → m ≤ r ∧ ∃ o : Obj, A.heap[r]? = some o ∧ o.isCells = false) : IsB b b bs B := by
  have key : ∀ p, Lib.BuilderAt 115 5 b b p bs A → Lib.BuilderAt 115 5 b b p bs B := by
    rintro p ⟨hB, v, hv, hown, hne⟩
    refine ⟨hB, v, grown_cells hg hr hv, hown.kept hg ?_, hne⟩
    rcases hown.2 with ⟨rfl, _⟩ | ⟨g, cap, cur, rfl, _, hgb, _⟩
    · exact .inl rfl
    · right
      intro e
      obtain ⟨_, o, h1, h2⟩ := hr g e.symm
      rw [hgb] at h1; cases h1; cases h2
  exact h.imp (key _) (key _)
theorem difI_own (w : World) (b m : Nat) (l0 : List UInt8) (hm : w.heap.size ≤ m) : OwnFrom m (DifI w b l0) := fun _ _ _ _ hs hg hr =>
  ⟨isB_own hs.bld hg hr, hs.bel.grown hg hs.bel.size (fun j e => Nat.le_trans hm (hr j e).1), Nat.le_trans hs.top hg.size⟩

/-- the operations have numbers and texts within the texts -/
theorem ops_small {o : List UInt8} (ho : o.length ≤ 8192) : ∀ (k : Nat) (rest fresh : List UInt8), rest.length ≤ k → fresh.length + rest.length ≤ 8192 → ∀ y ∈ opsR o rest fresh, y.n ≤ 8192 ∧ y.off ≤ 8192 ∧ y.text.length ≤ 8192 := by
  have hins : ∀ z : List UInt8, z.length ≤ 8192 → ∀ y ∈ insL z, y.n ≤ 8192 ∧ y.off ≤ 8192 ∧ y.text.length ≤ 8192 := by
    intro z hz y hy
    unfold insL at hy
    split at hy
    · simp at hy
    · obtain rfl : y = ⟨0, 0, z⟩ := by simpa using hy
      exact ⟨Nat.zero_le _, Nat.zero_le _, hz⟩
  intro k
  induction k with
  | zero =>
    intro rest fresh hk hT y hy
    obtain rfl : rest = [] := List.eq_nil_of_length_eq_zero (by omega)
    rw [opsR_nil] at hy
    exact hins fresh (by simpa using hT) y hy
  | succ k ih =>
    intro rest fresh hk hT y hy
    cases rest with
    | nil => rw [opsR_nil] at hy; exact hins fresh (by simpa using hT) y hy
    | cons c t =>
      have h1 := longD_le o (c :: t)
      have h2 := longD_fit o (c :: t)
      by_cases h : 8 ≤ (longD o (c :: t)).1
      · rw [opsR_hit h] at hy
        rcases List.mem_append.1 hy with hy | hy
        · exact hins fresh (by omega) y hy
        · rcases List.mem_cons.1 hy with rfl | hy
          · exact ⟨by show (longD o (c :: t)).1 ≤ 8192; omega, by show (longD o (c :: t)).2 ≤ 8192; omega, Nat.zero_le _⟩
          · exact ih _ [] (by simp at hk ⊢; omega) (by simp at hT ⊢; omega) y hy
      · rw [opsR_miss h] at hy
        exact ih t _ (by simpa using hk) (by simp at hT ⊢; omega) y hy

def DifEnd (R : List UInt8) (w : World) (e : Ending) (w' : World) : Prop := e = .returned (.string ⟨R.toArray⟩) ∧ Below w.heap.size w w'

set_option maxRecDepth 100000 in
set_option maxHeartbeats 2000000 in
theorem diff_in (n : Nat) (hn : 3 ≤ n) (o x : List UInt8) (ho : o.length ≤ 8192) (hx : x.length ≤ 8192) (w : World) (hsh : ShiftsAt w) :
    CallsIn Fence.wide n Tryd.prog 53 #[.string ⟨o.toArray⟩, .string ⟨x.toArray⟩] w (DifEnd (diffD o x) w) := by
  have g1 : decide ((8192 : Int) < (o.length : Int)) = false := by rw [decide_eq_false_iff_not]; omega
  have g2 : decide ((8192 : Int) < (x.length : Int)) = false := by rw [decide_eq_false_iff_not]; omega
  refine callsIn_of_wp_marks Tryd.func53 rfl trivial ?_ rfl
  simp only [Tryd.ntmps53, List.size_toArray, List.length_cons, List.length_nil, Nat.reduceAdd, Nat.reduceSub, Array.replicate_succ, Array.replicate_zero, List.push_toArray, List.append_toArray, List.nil_append, List.cons_append]
  gi_wp2
  obtain ⟨w1, hw1⟩ : ∃ w1, w.alloc (.cells #[.pointer none, .slice none 0 0] 115) = w1 := ⟨_, rfl⟩
  have hb1 : Below w.heap.size w w1 := by rw [← hw1]; exact (Below.refl _ _).alloc (Nat.le_refl _) _
  have hB1 : IsB w.heap.size w.heap.size (Lib.byteCells []) w1 := .inl ⟨Nat.le_refl _, .slice none 0 0, by rw [← hw1]; exact heap_alloc_new _ _, World.ownsRow_nil _ _ _ _, by simp [Value.ownBlock]⟩
  have hz1 : w1.heap.size = w.heap.size + 1 := by rw [← hw1]; simp
  have HB1 := Lib.hid hB1; have HL1 := Lib.hid hb1
  rw [hw1]
  clear hw1 hB1 hb1
  have c1 := crcOf_int o
  have c2 := crcOf_int x
  have l1 := putInt_len c1.1 c1.2
  have l2 := putInt_len c2.1 c2.2
  refine ⟨trivial, (fun h => by cases h), (callsIn_wide.2 (sum_any ⟨o.toArray⟩ _ (by rw [mk_size]; omega) (shifts_below hsh HL1.out))).mono ?_⟩
  rw [mk_data]
  rintro e w' ⟨rfl, rfl⟩
  gi_wp2
  refine ⟨trivial, (fun h => by cases h), (callsIn_wide.2 (wnum_any w.heap.size [] (crcOf o) _ HB1.out (by simp) c1.1 c1.2 (by omega))).mono ?_⟩
  rintro e w2 ⟨rfl, hB2, hb2, _⟩
  have HB2 := Lib.hid hB2; have HL2 := Lib.hid (HL1.out.trans hb2)
  have hz2 : w.heap.size + 1 ≤ w2.heap.size := by have := hb2.size; omega
  clear hB2 hb2
  gi_wp2
  refine ⟨trivial, (fun h => by cases h), (callsIn_wide.2 (sum_any ⟨x.toArray⟩ _ (by rw [mk_size]; omega) (shifts_below hsh HL2.out))).mono ?_⟩
  rw [mk_data]
  rintro e w' ⟨rfl, rfl⟩
  gi_wp2
  refine ⟨trivial, (fun h => by cases h), (callsIn_wide.2 (wnum_any w.heap.size ([] ++ putInt (crcOf o)) (crcOf x) _ HB2.out (by simp; omega) c2.1 c2.2 (by omega))).mono ?_⟩
  rintro e w3 ⟨rfl, hB3, hb3, _⟩
  rw [List.nil_append] at hB3
  have HB3 := Lib.hid hB3; have HL3 := Lib.hid (HL2.out.trans hb3)
  have hz3 : w.heap.size + 1 ≤ w3.heap.size := by have := hb3.size; omega
  clear hB3 hb3 HB1 HL1 HB2 HL2
  gi_wp2
  refine ⟨trivial, (fun h => by cases h), (callsIn_wide.2 (operations_any _ _ _)).mono ?_⟩
  rintro e w' ⟨rfl, rfl⟩
  gi_wp2
  obtain ⟨w4, hw4⟩ : ∃ w4, (w3.alloc (.cells #[.string ⟨o.toArray⟩] 9)).alloc (.cells #[.string ⟨x.toArray⟩] 9) = w4 := ⟨_, rfl⟩
  have hb4 : Below w3.heap.size w3 w4 := by rw [← hw4]; exact ((Below.refl _ _).alloc (Nat.le_refl _) _).alloc (by simp) _
  have bO : Boxed w4 w3.heap.size 9 (.string ⟨o.toArray⟩) := by rw [← hw4]; exact (Boxed.new w3 _ _).alloc _
  have bX : Boxed w4 (w3.heap.size + 1) 9 (.string ⟨x.toArray⟩) := by
    have := Boxed.new (w3.alloc (.cells #[.string ⟨o.toArray⟩] 9)) 9 (.string ⟨x.toArray⟩)
    rw [World.size_alloc] at this; rw [← hw4]; exact this
  have hI0 : DifI w w.heap.size (putInt (crcOf o) ++ putInt (crcOf x)) [] w4 := ⟨by simpa using isB_below HB3.out hb4, HL3.out.trans (hb4.mono (by omega)), by have := hb4.size; omega⟩
  have hz4 : w.heap.size + 1 ≤ w4.heap.size := by have := hb4.size; omega
  have hsm := ops_small ho x.length x [] (Nat.le_refl _) (by simpa using hx)
  have hnl : (opsR o x []).length ≤ 8196 := by
    have h1 := len_bytes (opsR o x [])
    have h2 := ops_bytes_all ho x.length x [] (Nat.le_refl _) (by simpa using hx)
    simp at h2; omega
  have HDD := Lib.hid (diffD_ops ho hx)
  rw [hw4]
  clear hw4 HB3 HL3
  refine wpIn_rangeFunc_ownH rfl (by omega) (gf := 78) (lb := #[.pointer (some ⟨w3.heap.size, 0, none⟩), .pointer (some ⟨w3.heap.size + 1, 0, none⟩)]) rfl trivial (enters_of Tryd.func78 (by kernel_rfl) rfl)
    (opers_stops (n - 1) (by omega) w3.heap.size (w3.heap.size + 1) o x ho hx hsm w4 bO bX) KOps.trans KOps.putObj (Below.refl _ _) (fun _ => rfl)
    (fun pre W => DifI w w.heap.size (putInt (crcOf o) ++ putInt (crcOf x)) (pre.map Subtype.val) W) (fun _ _ _ => False) (fun s A B row hs hg hr => difI_own w w.heap.size w4.heap.size _ (by omega) (s.map Subtype.val) A B row hs hg hr) (fun _ _ _ _ _ hs _ _ => hs) hI0
    (fun y a' W => ∃ g, W.heap[g]? = some (.cells #[.int .i64 (y.1.n : Int), .int .i64 (y.1.off : Int), .string ⟨y.1.text.toArray⟩] 134 (0, 0)) ∧ a' = { tmps := #[.string ⟨o.toArray⟩, .string ⟨x.toArray⟩, undef, undef, .string ⟨#[]⟩, .pointer (some ⟨w.heap.size, 0, none⟩), .pointer (some ⟨g, 0, none⟩), .string ⟨o.toArray⟩, .int .i64 (o.length : Int), .bool false, .bool false, .string ⟨x.toArray⟩, .int .i64 (x.length : Int), .bool false, .bool false, .string ⟨o.toArray⟩, .int .i64 (crcOf o : Int), .tuple #[], .string ⟨x.toArray⟩, .int .i64 (crcOf x : Int), .tuple #[], .string ⟨o.toArray⟩, .string ⟨x.toArray⟩, .func (.func 78) #[] #[.pointer (some ⟨w3.heap.size, 0, none⟩), .pointer (some ⟨w3.heap.size + 1, 0, none⟩)], y.1.enc, undef, undef, undef, undef], defers := [] })
    (fun y a' s A B row hs hg hr => by obtain ⟨g, h1, h2⟩ := hs; exact ⟨g, grown_cells hg hr h1, h2⟩) ?assign ?body ?done ?stop
  case assign =>
    intro l pre y W K hI hK
    unfold DOp.enc at hK ⊢
    gi_wp2
    have hbW : Below W.heap.size W (W.alloc (.cells #[.int .i64 (y.1.n : Int), .int .i64 (y.1.off : Int), .string ⟨y.1.text.toArray⟩] 134)) := (Below.refl _ _).alloc (Nat.le_refl _) _
    exact hK _ _ ((KeepsOthers.alloc _ _).from _) (KOps.below hbW) ⟨isB_below hI.bld hbW, hI.bel.alloc hI.bel.size _, by have := hI.top; simp; omega⟩ ⟨W.heap.size, heap_alloc_new _ _, rfl⟩
  case stop =>
    rintro D c pre W _ _ h _
    exact h.elim
  case body =>
    rintro l pre y a' W hl hr hI ⟨g, hg, rfl⟩ hlt
    have d0 : W.cell? ⟨g, 0, none⟩ = some (.int .i64 (y.1.n : Int)) := by rw [Lib.cell_of_heap hg]; rfl
    have d1 : W.cell? ⟨g, 1, none⟩ = some (.int .i64 (y.1.off : Int)) := by rw [Lib.cell_of_heap hg]; rfl
    have d2 : W.cell? ⟨g, 2, none⟩ = some (.string ⟨y.1.text.toArray⟩) := by rw [Lib.cell_of_heap hg]; rfl
    have hfw := few_bytes pre
    have HW := Lib.hid (wop_any w.heap.size (putInt (crcOf o) ++ putInt (crcOf x) ++ (pre.map Subtype.val).flatMap DOp.bytes) y.1 W hI.bld (by rw [List.length_append, List.length_append]; omega) (by have := y.2; omega) (by have := y.2; omega) (by have := y.2; omega) hI.top)
    have HI := Lib.hid hI
    unfold DOp.enc at HW ⊢
    clear hI hg hr
    gi_wp2
    refine ⟨trivial, (fun h => by cases h), ?_⟩
    refine (CallsIn.inRound l (callsIn_wide.2 HW.out)).mono ?_
    rintro e w5 ⟨rfl, hB5, hb5, hk5⟩
    have hPost : KeepsFrom w4.heap.size W w5 ∧ KOps W w5 ∧ DifI w w.heap.size (putInt (crcOf o) ++ putInt (crcOf x)) ((pre ++ [y]).map Subtype.val) w5 :=
      ⟨hk5.from _, hk5.ops, by simpa using hB5, HI.out.bel.trans hb5, by have := HI.out.top; have := hb5.size; omega⟩
    have HP := Lib.hid hPost
    clear hB5 hb5 hk5 hPost
    gi_wp2
    exact HP.out
  case done =>
    rintro D ys W hD hys hI hK
    obtain ⟨hB, hL, hT⟩ := hI
    rw [hys, ← HDD.out] at hB
    have HBs := Lib.hid (bld_string_K w.heap.size w.heap.size (diffD o x) W hB (diff_pos ho hx))
    have HL := Lib.hid hL; have HKK := Lib.hid hK
    clear hB hL hys hK
    gi_wp2
    refine ⟨trivial, (fun h => by cases h), (callsIn_wide.2 HBs.out).mono ?_⟩
    rintro e w6 ⟨rfl, hb6, hk6⟩
    have hK6 := hk6.same _ _ HKK.out (stab_off rfl)
    have HB6 := Lib.hid (HL.out.trans hb6)
    clear hb6 hk6
    gi_wp2
    refine ⟨by simp, .inl ⟨_, _, rfl, run_takeDeferred hK6, ?_⟩⟩
    exact ⟨_, results_tmp rfl _ _ _, rfl, HB6.out.trans (belowK_b (w := w) (Nat.le_refl _) w6 D _ _ (by omega) hK6 rfl rfl)⟩
end Go.Proofs.YtefloieanpgnmaaDoor
/- delta's Diff at all texts; what holds while a law of chapter 19 runs. -/
namespace Go.Proofs.YtefloieanpgnmaaDoor
open Go.RowKit

set_option maxHeartbeats 400000 in
theorem diff_any (o x : List UInt8) (w : World) (ho : o.length ≤ 9223372036854775000) (hx : x.length ≤ 9223372036854775000) (hsh : ShiftsAt w) :
    Calls Tryd.prog 53 #[.string ⟨o.toArray⟩, .string ⟨x.toArray⟩] w fun e w' => e = .returned (.string ⟨(diffD o x).toArray⟩) ∧ Below w.heap.size w w' := by
  by_cases h1 : 8192 < o.length
  · have g1 : decide ((8192 : Int) < (o.length : Int)) = true := by rw [decide_eq_true_eq]; omega
    rw [diff_long (.inl h1)]
    go_enter Tryd.func53, Tryd.ntmps53
    go_wp2
    go_ret
    exact ⟨rfl, Below.refl _ _⟩
  · have g1 : decide ((8192 : Int) < (o.length : Int)) = false := by rw [decide_eq_false_iff_not]; omega
    by_cases h2 : 8192 < x.length
    · have g2 : decide ((8192 : Int) < (x.length : Int)) = true := by rw [decide_eq_true_eq]; omega
      rw [diff_long (.inr h2)]
      go_enter Tryd.func53, Tryd.ntmps53
      go_wp2
      go_ret
      exact ⟨rfl, Below.refl _ _⟩
    · exact callsIn_wide.1 (diff_in 3 (by omega) o x (by omega) (by omega) w hsh)

theorem apply_list {a0 a1 : Addr} (o d : List UInt8) (w : World) (ho : o.length ≤ 9223372036854775000) (hd : d.length ≤ 9223372036854775000) (hS : Sents a0 a1 w) (hsh : ShiftsAt w) :
    Calls Tryd.prog 35 #[.string ⟨o.toArray⟩, .string ⟨d.toArray⟩] w fun e w' => e = .returned (exTup (applyD o d)) ∧ Below w.heap.size w w' := by
  have := apply_any ⟨o.toArray⟩ ⟨d.toArray⟩ w (by rw [mk_size]; exact ho) (by rw [mk_size]; exact hd) hS hsh
  rwa [mk_data, mk_data] at this

/-- while a law runs: the variables of the packages lie as they lay, and so does what lay before -/
structure LW (a0 a1 : Addr) (w0 w : World) : Prop where
  S : Sents a0 a1 w0
  H : ShiftsAt w0
  bel : Below w0.heap.size w0 w
theorem LW.s {a0 a1 : Addr} {w0 w : World} (h : LW a0 a1 w0 w) : Sents a0 a1 w := h.S.below h.bel
theorem LW.h {a0 a1 : Addr} {w0 w : World} (h : LW a0 a1 w0 w) : ShiftsAt w := shifts_below h.H h.bel
theorem LW.below {a0 a1 : Addr} {w0 w w' : World} (h : LW a0 a1 w0 w) (hb : Below w.heap.size w w') : LW a0 a1 w0 w' := ⟨h.S, h.H, below_then h.bel hb⟩

/-! ### the fixed examples -/
def exA : List UInt8 := [116, 104, 101, 32, 114, 97, 105, 110, 32, 105, 110, 32, 115, 112, 97, 105, 110]
def exB : List UInt8 := [97, 108, 108, 32, 116, 104, 101, 32, 114, 97, 105, 110, 32, 105, 110, 32, 109, 97, 121]
def exC : List UInt8 := [116, 104, 101, 32, 114, 97, 105, 110, 32, 105, 110, 32, 115, 112, 97, 105, 78]
theorem ex1 : applyD exA (diffD exA exB) = .ok exB := by kernel_rfl
theorem ex2 : applyD exC (diffD exA exB) = .error 190 := by kernel_rfl
theorem ex3 : applyD [97] [] = .error 10 := by kernel_rfl
theorem ex4 : applyD exA (diffD exA exB ++ [120]) = .error 10 := by kernel_rfl
theorem ex5 : diffD [97, 98, 99, 100, 101, 102, 103, 104] [97, 98, 99, 100, 101, 102, 103, 104] ≠ diffD [97, 98, 99, 100, 101, 102, 103] [97, 98, 99, 100, 101, 102, 103] := by decide +kernel
theorem exl : (diffD exA exB).length ≤ 1000 := by decide +kernel

end Go.Proofs.YtefloieanpgnmaaDoor
/- The law's world in memory; a copy's checksum. -/
namespace Go.Proofs.YtefloieanpgnmaaDoor
open Go.RowKit

theorem sum_l (d : List UInt8) (w : World) (hd : d.length ≤ 9223372036854775000) (hsh : ShiftsAt w) :
    Calls Tryd.prog 12 #[.string ⟨d.toArray⟩] w fun e w' => e = .returned (.int .i64 (crcOf d)) ∧ w = w' := by
  have := sum_any ⟨d.toArray⟩ w (by simp [ByteArray.size]; omega) hsh
  simpa using this
/-- the cells of a world: vf, va: the slices of what is on its way -/
def wldV (W : Wld) (vf va : Value) : Nat → Value := fun o =>
  if o = 0 then .int .i64 W.now else if o = 1 then .int .i64 W.lease else if o < 67 then .int .i64 (W.wanted (o - 2) : Nat) else if o = 67 then vf else if o = 68 then va
  else if o < 134 then .int .i64 (W.p.seq (o - 69)) else if o < 199 then .bool (W.p.has (o - 134)) else .string ⟨(W.p.text (o - 199)).toArray⟩
theorem wldV_wanted (W : Wld) (vf va : Value) (j : Nat) (hj : j < 65) : wldV W vf va (2 + j) = .int .i64 (W.wanted j : Nat) := by
  unfold wldV; rw [if_neg (by omega), if_neg (by omega), if_pos (by omega), Nat.add_sub_cancel_left]
theorem wldV_seq (W : Wld) (vf va : Value) (j : Nat) (hj : j < 65) : wldV W vf va (69 + j) = .int .i64 (W.p.seq j) := by
  unfold wldV; rw [if_neg (by omega), if_neg (by omega), if_neg (by omega), if_neg (by omega), if_neg (by omega), if_pos (by omega), Nat.add_sub_cancel_left]
theorem wldV_has (W : Wld) (vf va : Value) (j : Nat) (hj : j < 65) : wldV W vf va (134 + j) = .bool (W.p.has j) := by
  unfold wldV; rw [if_neg (by omega), if_neg (by omega), if_neg (by omega), if_neg (by omega), if_neg (by omega), if_neg (by omega), if_pos (by omega), Nat.add_sub_cancel_left]
theorem wldV_text (W : Wld) (vf va : Value) (j : Nat) (_ : j < 65) : wldV W vf va (199 + j) = .string ⟨(W.p.text j).toArray⟩ := by
  unfold wldV; rw [if_neg (by omega), if_neg (by omega), if_neg (by omega), if_neg (by omega), if_neg (by omega), if_neg (by omega), if_neg (by omega), Nat.add_sub_cancel_left]
theorem put_now (W : Wld) (vf va : Value) (x : Int) : ∀ o, o < 264 → updV (wldV W vf va) 0 (.int .i64 x) o = wldV { W with now := x } vf va o := fun o _ => by
  unfold updV wldV; split <;> rfl
theorem put_lease (W : Wld) (vf va : Value) (x : Int) : ∀ o, o < 264 → updV (wldV W vf va) 1 (.int .i64 x) o = wldV { W with lease := x } vf va o := fun o _ => by
  unfold updV
  by_cases h : o = 1
  · rw [if_pos h]; subst h; rfl
  · rw [if_neg h]; unfold wldV; split
    · rfl
    · rfl
theorem put_flight (W : Wld) (vf va : Value) (l : List Msg) (v : Value) : ∀ o, o < 264 → updV (wldV W vf va) 67 v o = wldV { W with flight := l } v va o := fun o _ => by
  unfold updV
  by_cases h : o = 67
  · rw [if_pos h]; subst h; rfl
  · rw [if_neg h]; unfold wldV; simp only [if_neg h]
theorem put_answers (W : Wld) (vf va : Value) (l : List Msg) (v : Value) : ∀ o, o < 264 → updV (wldV W vf va) 68 v o = wldV { W with answers := l } vf v o := fun o _ => by
  unfold updV
  by_cases h : o = 68
  · rw [if_pos h]; subst h; rfl
  · rw [if_neg h]; unfold wldV; simp only [if_neg h]
theorem put_wanted (W : Wld) (vf va : Value) (j : Nat) (hj : j < 65) (x : Nat) : ∀ o, o < 264 → updV (wldV W vf va) (2 + j) (.int .i64 x) o = wldV { W with wanted := updF W.wanted j x } vf va o := fun o _ => by
  unfold updV
  by_cases h : o = 2 + j
  · rw [if_pos h]; subst h
    rw [wldV_wanted _ _ _ j hj]
    simp only [updF_same]
  · rw [if_neg h]; unfold wldV
    by_cases h2 : o < 67
    · by_cases h3 : 2 ≤ o
      · simp only [if_neg (show ¬ o = 0 by omega), if_neg (show ¬ o = 1 by omega), if_pos h2]
        rw [updF_ne (show o - 2 ≠ j by omega)]
      · have : o = 0 ∨ o = 1 := by omega
        rcases this with rfl | rfl <;> rfl
    · simp only [if_neg h2]
theorem put_seq (W : Wld) (vf va : Value) (j : Nat) (hj : j < 65) (x : Int) : ∀ o, o < 264 → updV (wldV W vf va) (69 + j) (.int .i64 x) o = wldV { W with p := { W.p with seq := updF W.p.seq j x } } vf va o := fun o _ => by
  unfold updV
  by_cases h : o = 69 + j
  · rw [if_pos h]; subst h
    rw [wldV_seq _ _ _ j hj]
    simp only [updF_same]
  · rw [if_neg h]; unfold wldV
    by_cases h2 : 69 ≤ o
    · simp only [updF]
      by_cases h3 : o - 69 = j
      · omega
      · rw [if_neg h3]
    · have h4 : o = 0 ∨ o = 1 ∨ o < 67 ∨ o = 67 ∨ o = 68 := by omega
      rcases h4 with h4 | h4 | h4 | h4 | h4 <;> simp [h4]
theorem put_has (W : Wld) (vf va : Value) (j : Nat) (hj : j < 65) (x : Bool) : ∀ o, o < 264 → updV (wldV W vf va) (134 + j) (.bool x) o = wldV { W with p := { W.p with has := updF W.p.has j x } } vf va o := fun o _ => by
  unfold updV
  by_cases h : o = 134 + j
  · rw [if_pos h]; subst h
    rw [wldV_has _ _ _ j hj]
    simp only [updF_same]
  · rw [if_neg h]; unfold wldV
    by_cases h2 : 134 ≤ o
    · simp only [updF]
      by_cases h3 : o - 134 = j
      · omega
      · rw [if_neg h3]
    · by_cases h4 : o = 0
      · simp [h4]
      · simp only [if_neg h4]
        by_cases h5 : o < 134
        · simp only [if_pos h5]
        · omega
theorem put_text (W : Wld) (vf va : Value) (j : Nat) (hj : j < 65) (x : List UInt8) : ∀ o, o < 264 → updV (wldV W vf va) (199 + j) (.string ⟨x.toArray⟩) o = wldV { W with p := { W.p with text := updF W.p.text j x } } vf va o := fun o _ => by
  unfold updV
  by_cases h : o = 199 + j
  · rw [if_pos h]; subst h
    rw [wldV_text _ _ _ j hj]
    simp only [updF_same]
  · rw [if_neg h]; unfold wldV
    by_cases h2 : 199 ≤ o
    · simp only [updF]
      by_cases h3 : o - 199 = j
      · omega
      · rw [if_neg h3]
    · have h5 : o < 199 := by omega
      simp only [if_pos h5]

set_option maxRecDepth 100000 in
theorem psum_any {W : Wld} {vf va : Value} {q : Nat} {w : World} (h : SenF 264 w q (wldV W vf va)) (j : Nat) (hj : j < 65) (hl : (W.p.text j).length ≤ 9223372036854775000) (hsh : ShiftsAt w) :
    Calls Tryd.prog 34 #[.pointer (some ⟨q, 69, none⟩), .int .i64 j] w fun e w' => e = .returned (.int .i64 (W.p.sum j)) ∧ w = w' := by
  have c1 := (h (134 + j) (by omega)).1
  have c2 := (h (199 + j) (by omega)).1
  rw [wldV_has _ _ _ _ hj] at c1
  rw [wldV_text _ _ _ _ hj] at c2
  have hji : (j : Int) < 65 := by omega
  obtain ⟨tx, htx⟩ : ∃ t, W.p.text j = t := ⟨_, rfl⟩
  have HC := fun W => Lib.hid (fun hw => sum_l tx W (by rw [← htx]; exact hl) hw)
  have HS := Lib.hid hsh
  rw [htx] at c2
  cases hh : W.p.has j with
  | true =>
    have hs : W.p.sum j = (crcOf tx : Int) := by unfold Peer.sum; rw [hh, htx]; rfl
    rw [hs]
    rw [hh] at c1
    clear h hs hh hsh htx hl
    go_enter Tryd.func34, Tryd.ntmps34
    go_wp2_with fail
    refine ((HC _).out HS.out).mono ?_
    rintro e w2 ⟨rfl, rfl⟩
    go_wp2
    go_ret
    exact ⟨rfl, rfl⟩
  | false =>
    have hs : W.p.sum j = 0 := by unfold Peer.sum; rw [hh]; rfl
    rw [hs]
    rw [hh] at c1
    clear h hs hh hsh htx hl
    go_enter Tryd.func34, Tryd.ntmps34
    go_wp2_with fail
    go_ret
    exact ⟨rfl, rfl⟩
end Go.Proofs.YtefloieanpgnmaaDoor
