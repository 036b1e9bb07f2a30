/- Facts and contracts for the laws of the sender, part 18. Conditions: those that each theorem names. -/
import Derived.Test.YtogjgibaolppfaaGreatDoorK17
import Derived.Test.YtogjgibaolppfaaGreatDoorK02
import Derived.Test.YtogjgibaolppfaaGreatDoorK06
import Derived.Test.YtogjgibaolppfaaGreatDoorK04
import Derived.Test.YtogjgibaolppfaaGreatDoorK08
import Derived.IntWalk
import Derived.Laws.Concat
import Derived.OwnWalk
import Derived.Deep.RegionHeld3
import Derived.Deep.QuietTactic
import Derived.BigQuiet
import Derived.Deep.DeepCutAuto
import Derived.Deep.CutBlock
/- New and run. -/
namespace Go.Proofs.YtogjgibaolppfaaGreatDoor
open Go.RowKit Go.Sort Go.Proofs Go.Maps

theorem vocab_nil : vocab [] = [] := List.eq_nil_iff_forall_not_mem.2 fun x h => by
  obtain ⟨d, hd, _⟩ := mem_vocab.1 h
  cases hd
theorem cntD_nil : cntD [] = fun _ _ => 0 := rfl
set_option maxRecDepth 100000 in
theorem new_any (w : World) : Calls Tryz.prog 33 #[] w fun e w' => ∃ p S, e = .returned (.pointer (some ⟨p, 0, none⟩)) ∧ IdxAt S (fun _ => False) 0 w' p [] ∧ (∀ k, S k → w.heap.size ≤ k) ∧ Below w.heap.size w w' := by
  have hmm := @run_makeMap Tryz.prog
  go_enter Tryz.func33, Tryz.ntmps33
  go_wp2
  go_ret
  obtain ⟨w1, hw1⟩ : ∃ w1, w.alloc (.map #[] 0) = w1 := ⟨_, rfl⟩
  obtain ⟨w2, hw2⟩ : ∃ w2, w1.alloc (.map #[] 0) = w2 := ⟨_, rfl⟩
  obtain ⟨w3, hw3⟩ : ∃ w3, w2.alloc (.cells #[.map (some w.heap.size), .map (some w1.heap.size), .slice none 0 0] 99 (0, 0)) = w3 := ⟨_, rfl⟩
  have hs1 : w1.heap.size = w.heap.size + 1 := by rw [← hw1]; simp
  have hs2 : w2.heap.size = w.heap.size + 2 := by rw [← hw2]; simp [hs1]
  have hs3 : w3.heap.size = w.heap.size + 3 := by rw [← hw3]; simp [hs2]
  have hb1 : Below w.heap.size w w1 := by rw [← hw1]; exact (Below.refl _ w).alloc (Nat.le_refl _) _
  have hb2 : Below w1.heap.size w1 w2 := by rw [← hw2]; exact (Below.refl _ w1).alloc (Nat.le_refl _) _
  have hb3 : Below w2.heap.size w2 w3 := by rw [← hw3]; exact (Below.refl _ w2).alloc (Nat.le_refl _) _
  have hM1 : IM w.heap.size 0 (fun _ => none) w1 := by rw [← hw1]; exact RMap.new w
  have hM2 : SM w1.heap.size 0 (fun _ => none) w2 := by rw [← hw2]; exact RMap.new w1
  have hM13 : IM w.heap.size 0 (fun _ => none) w3 := (hM1.kept (hb2.block _ (by omega))).kept (hb3.block _ (by omega))
  have hM23 : SM w1.heap.size 0 (fun _ => none) w3 := hM2.kept (hb3.block _ (by omega))
  have hcell : w3.heap[w2.heap.size]? = some (.cells #[.map (some w.heap.size), .map (some w1.heap.size), .slice none 0 0] 99 (0, 0)) := by rw [← hw3]; exact heap_alloc_new _ _
  have hI : IdxAt (fun k => w.heap.size ≤ k ∧ k < w3.heap.size) (fun _ => False) 0 w3 w2.heap.size [] :=
      ⟨.nil, (fun d hd => by cases hd), (fun d hd => by cases hd), (fun d hd => by cases hd), fun k h => h.2, fun k _ h => h, ⟨by omega, by omega⟩, w.heap.size, w1.heap.size, .slice none 0 0, fun _ => none, fun _ => none, hcell, by omega,
        ⟨hM13, ⟨by omega, by omega⟩, fun _ _ => rfl, (fun id l h => by simp [wordsAt] at h)⟩,
        ⟨hM23, ⟨by omega, by omega⟩, (fun x b h => by cases h), (fun x y b h => by cases h), (fun x => by simp [cntD_nil])⟩,
        ⟨⟨0, by rw [vocab_nil]; exact ⟨rfl, .inl ⟨rfl, rfl⟩⟩⟩, (fun k h => by cases h)⟩⟩
  have hB : Below w.heap.size w w3 := bthen hb1 (bthen hb2 hb3)
  have e2 : w2.heap.size = w.heap.size + 1 + 1 := by omega
  rw [e2] at hI
  have hw : ((w.alloc (.map #[] 0)).alloc (.map #[] 0)).alloc (.cells #[.map (some w.heap.size), .map (some (w.heap.size + 1)), .slice none 0 0] 99 (0, 0)) = w3 := by
    rw [hw1, hw2, ← hs1]; exact hw3
  refine ⟨w.heap.size + 1 + 1, fun k => w.heap.size ≤ k ∧ k < w3.heap.size, rfl, ?_, fun k h => h.1, ?_⟩
  · rw [hw]; exact hI
  · rw [hw]; exact hB

/-- what an operation makes of the documents -/
def stepD (D : List Dc) (o : Op3) : List Dc := if o.1 = 0 then remD D o.2.1 else if 1 ≤ o.2.1 ∧ o.2.1 ≤ 256 then putD D o.2.1 (wordsOf o.2.2) else D
def runD (l : List Op3) : List Dc := l.foldl stepD []
theorem runD_succ (l : List Op3) (k : Nat) (h : k < l.length) : runD (l.take (k + 1)) = stepD (runD (l.take k)) l[k] := by
  unfold runD; rw [List.take_succ_eq_append_getElem h, List.foldl_append]; rfl

theorem IdxAt.more {S Q : Nat → Prop} {N M : Nat} {w : World} {p : Nat} {D : List Dc} (h : IdxAt S Q N w p D) (hM : N ≤ M) : IdxAt S Q M w p D := by
  obtain ⟨b1, b2, v, tx, g, hp⟩ := h.pat
  exact ((hp.x.more hM).full hp.found.some).idx h.asc h.ids h.oks h.small

end Go.Proofs.YtogjgibaolppfaaGreatDoor
/- Parts of a query in memory. -/
namespace Go.Proofs.YtogjgibaolppfaaGreatDoor
open Go.RowKit Go.Sort Go.Proofs Go.Maps

/-- a part, and the value of its slice of words -/
abbrev Pv := Prt × Value
def prtC (x : Pv) : List Value := [.int .i64 (x.1.kind : Int), x.2, .bool x.1.neg]
theorem infoPart : (Tryz.prog.info? 53).map (fun i => (i.zero, i.size, i.bytes)) = some (some (.agg #[.int .i64 0, .slice none 0 0, .bool false]), 3, 40) := by kernel_rfl
theorem infoStrP : (Tryz.prog.info? 9).map (fun i => (i.zero, i.size, i.bytes)) = some (some (.string ⟨#[]⟩), 1, 16) := by kernel_rfl
theorem prtC_len (l : List Pv) : (l.flatMap prtC).length = l.length * 3 := by
  induction l with
  | nil => rfl
  | cons x l ih => rw [List.flatMap_cons, List.length_append, ih]; simp [prtC]; omega
/-- a row of strings that somebody made -/
def WordsO (W : World) (v : Value) (ws : List Wd) : Prop := W.ownsRow 0 9 1 v ws.length (ws.map encW)
theorem WordsO.stay {W W' : World} {v : Value} {ws : List Wd} (h : WordsO W v ws) (hk : ∀ j, v.ownBlock = some j → W'.heap[j]? = W.heap[j]?) : WordsO W' v ws := row_stay h hk
theorem WordsO.below {W W' : World} {v : Value} {ws : List Wd} (h : WordsO W v ws) (hb : Below W.heap.size W W') : WordsO W' v ws := h.stay fun j hj => hb.block j (h.lt j hj).2
theorem WordsO.at {W : World} {v : Value} {ws : List Wd} (h : WordsO W v ws) (hl : ws.length ≤ 1099511627776) : StrsAt W v ws := strsAt_of_owns h hl
theorem WordsO.form {W : World} {v : Value} {ws : List Wd} (h : WordsO W v ws) : ∃ a c, v = .slice a ws.length c := row_form h
theorem wordsO_new (w : World) (xs : List Wd) (hl : xs.length ≤ 1099511627776) : WordsO (w.alloc (.cells (xs.map encW).toArray 9)) (.slice (some ⟨w.heap.size, 0, none⟩) xs.length xs.length) xs :=
  ⟨by simp, .inr ⟨w.heap.size, xs.length, _, rfl, by omega, heap_alloc_new w _, Nat.le_refl _, by unfold maxLen; omega, by simp, by simp [← List.map_take]⟩⟩
/-- v is a slice of parts: what a reader sees -/
def PartsAt (W : World) (v : Value) (l : List Prt) : Prop :=
  ∃ (P : List Pv) (a : Option Addr) (c : Nat), P.map (·.1) = l ∧ v = .slice a P.length c ∧ P.length ≤ c ∧ c ≤ 9223372036854775807 ∧
    (∀ j (h : j < P.length), ∃ b off, a = some ⟨b, off, none⟩ ∧ W.cell? ⟨b, off + j * 3, none⟩ = some (.int .i64 (P[j].1.kind : Int)) ∧ W.cell? ⟨b, off + j * 3 + 1, none⟩ = some P[j].2 ∧ W.cell? ⟨b, off + j * 3 + 2, none⟩ = some (.bool P[j].1.neg)) ∧
    ∀ x ∈ P, WordsO W x.2 x.1.words
theorem PartsAt.below {W W' : World} {v : Value} {l : List Prt} (h : PartsAt W v l) (hb : Below W.heap.size W W') : PartsAt W' v l := by
  obtain ⟨P, a, c, h1, h2, h3, h4, h5, h6⟩ := h
  refine ⟨P, a, c, h1, h2, h3, h4, fun j hj => ?_, fun x hx => (h6 x hx).below hb⟩
  obtain ⟨b, off, ha, k1, k2, k3⟩ := h5 j hj
  exact ⟨b, off, ha, (hb.cell (World.block_lt_of_cell? W _ k1)).trans k1, (hb.cell (World.block_lt_of_cell? W _ k2)).trans k2, (hb.cell (World.block_lt_of_cell? W _ k3)).trans k3⟩
theorem PartsAt.at {W : World} {v : Value} {l : List Prt} (h : PartsAt W v l) : ∃ a c, v = .slice a l.length c ∧ l.length ≤ c ∧ c ≤ 9223372036854775807 ∧ ∀ j (hj : j < l.length), ∃ b off u, a = some ⟨b, off, none⟩ ∧
    W.cell? ⟨b, off + j * 3, none⟩ = some (.int .i64 (l[j].kind : Int)) ∧ W.cell? ⟨b, off + j * 3 + 1, none⟩ = some u ∧ W.cell? ⟨b, off + j * 3 + 2, none⟩ = some (.bool l[j].neg) ∧ WordsO W u l[j].words := by
  obtain ⟨P, a, c, rfl, h2, h3, h4, h5, h6⟩ := h
  refine ⟨a, c, by rw [List.length_map]; exact h2, by rw [List.length_map]; exact h3, h4, fun j hj => ?_⟩
  have hj' : j < P.length := by rw [List.length_map] at hj; exact hj
  obtain ⟨b, off, ha, k1, k2, k3⟩ := h5 j hj'
  simp only [List.getElem_map]
  exact ⟨b, off, P[j].2, ha, k1, k2, k3, h6 _ (List.getElem_mem hj')⟩
/-- a row of parts that the call made -/
def PartsR (base : Nat) (W : World) (v : Value) (P : List Pv) : Prop := W.ownsRow base 53 3 v P.length (P.flatMap prtC) ∧ ∀ x ∈ P, WordsO W x.2 x.1.words
theorem PartsR.nil (base : Nat) (W : World) : PartsR base W (.slice none 0 0) [] := ⟨W.ownsRow_nil base _ _, fun x hx => by cases hx⟩
theorem PartsR.below {base : Nat} {W W' : World} {v : Value} {P : List Pv} (h : PartsR base W v P) (hb : Below W.heap.size W W') : PartsR base W' v P :=
  ⟨row_stay h.1 fun j hj => hb.block j (h.1.lt j hj).2, fun x hx => (h.2 x hx).below hb⟩
theorem part_ne_str : 9 ≠ 53 := by decide
/-- behind an append of one part -/
theorem PartsR.snoc {base : Nat} {W w2 : World} {v v' : Value} {P : List Pv} (h : PartsR base W v P) {x : Pv} (hx : WordsO W x.2 x.1.words) (ho : w2.ownsRow base 53 3 v' (P.length + 1) (P.flatMap prtC ++ prtC x)) (hg : W.grownBy w2 v.ownBlock) : PartsR base w2 v' (P ++ [x]) := by
  refine ⟨by rw [List.length_append, List.flatMap_append]; simpa using ho, fun y hy => ?_⟩
  rcases List.mem_append.1 hy with hy | hy
  · exact row_grown (h.2 y hy) h.1 part_ne_str hg
  · rw [List.mem_singleton.1 hy]; exact row_grown hx h.1 part_ne_str hg
theorem PartsR.at {base : Nat} {W : World} {v : Value} {P : List Pv} (h : PartsR base W v P) : PartsAt W v (P.map (·.1)) := by
  obtain ⟨h1, h6⟩ := h
  rcases h1.2 with ⟨rfl, h0⟩ | ⟨g, cap, cur, rfl, _, hg, hc, hm, _⟩
  · exact ⟨P, none, 0, rfl, by rw [h0], by omega, by omega, fun j hj => by omega, h6⟩
  · refine ⟨P, some ⟨g, 0, none⟩, cap, rfl, rfl, hc, by unfold maxLen at hm; exact hm, fun j hj => ⟨g, 0, rfl, ?_⟩, h6⟩
    have hcells : ∀ i u, (P.flatMap prtC)[i]? = some u → W.cell? ((⟨g, 0, none⟩ : Addr).add i) = some u := h1.cells rfl
    have hat : ∀ c (hc : c < 3), (P.flatMap prtC)[j * 3 + c]? = (prtC P[j])[c]? := fun c hc => by
      rw [flatMap_at prtC 3 (by decide) (fun _ => rfl), show (j * 3 + c) / 3 = j by omega, show (j * 3 + c) % 3 = c by omega, List.getElem?_eq_getElem hj]; rfl
    have ha : ∀ i, (⟨g, 0, none⟩ : Addr).add i = ⟨g, 0 + i, none⟩ := fun i => by unfold Addr.add; by_cases h0 : i = 0 <;> simp [h0]
    refine ⟨?_, ?_, ?_⟩
    · rw [← ha]; exact hcells _ _ (hat 0 (by decide))
    · rw [Nat.add_assoc, ← ha]; exact hcells _ _ (hat 1 (by decide))
    · rw [Nat.add_assoc, ← ha]; exact hcells _ _ (hat 2 (by decide))
end Go.Proofs.YtogjgibaolppfaaGreatDoor
/- the law's small functions: pick, Vocabulary, Text. -/
namespace Go.Proofs.YtogjgibaolppfaaGreatDoor
open Go.RowKit Go.Lib Go.Proofs

def I64 (n : Int) : Prop := -9223372036854775808 ≤ n ∧ n ≤ 9223372036854775807
set_option maxHeartbeats 1000000 in
theorem pick_any (c : Int) (hc : I64 c) (n : Nat) (hn : 0 < n) (hn2 : n ≤ 4611686018427387904) (w : World) :
    Calls Tryz.prog 31 #[.int .i64 c, .int .i64 (n : Int)] w fun e w' => e = .returned (.int .i64 ((pickN c n : Nat) : Int)) ∧ w = w' := by
  rw [pickN_eq hn]
  obtain ⟨h1, h2⟩ := hc
  obtain ⟨R, hR⟩ : ∃ R, pickI c (n : Int) = R := ⟨_, rfl⟩
  rw [hR]
  obtain ⟨N, hN⟩ : ∃ N : Int, (n : Int) = N := ⟨_, rfl⟩
  rw [hN] at hR ⊢
  have hN1 : 0 < N := by omega
  have hN2 : N ≤ 4611686018427387904 := by omega
  have HR := Lib.hid hR
  clear hR hN hn hn2
  by_cases hneg : c < 0
  · have e1 : IntKind.i64.wrap (c + 1) = c + 1 := IntWalk.i64_in _ (by omega)
    have e2 : IntKind.i64.wrap (-(c + 1)) = -(c + 1) := IntWalk.i64_in _ (by omega)
    have h0 : 0 ≤ -(c + 1) := by omega
    have hu : -(c + 1) ≤ 9223372036854775807 := by omega
    have hnz : ¬ N = 0 := by omega
    have HF : Hid ((-(c + 1)) % N = R) := Lib.hid (by have h := HR.out; unfold pickI at h; rw [if_pos hneg] at h; exact h)
    have HT : Hid ((-(c + 1)).tmod N = R) := Lib.hid (by rw [← HF.out]; exact Int.tmod_eq_emod_of_nonneg h0)
    have HU : Hid (-((c + 1).tmod N) = R) := Lib.hid (by rw [← Int.neg_tmod]; exact HT.out)
    go_enter Tryz.func31, Tryz.ntmps31
    go_wp2_with fail
    go_ret
    exact ⟨by first | (rw [← HU.out]; rfl) | (rw [← HF.out]; rfl) | (rw [← HT.out]; rfl), rfl⟩
  · have h0 : 0 ≤ c := by omega
    have hnz : ¬ N = 0 := by omega
    have HF : Hid (c % N = R) := Lib.hid (by have h := HR.out; unfold pickI at h; rw [if_neg hneg] at h; exact h)
    have HT : Hid (c.tmod N = R) := Lib.hid (by rw [← HF.out]; exact Int.tmod_eq_emod_of_nonneg h0)
    go_enter Tryz.func31, Tryz.ntmps31
    go_wp2_with fail
    go_ret
    exact ⟨by first | (rw [← HF.out]; rfl) | (rw [← HT.out]; rfl), rfl⟩
theorem vocF_pick {c : Int} (h : 0 ≤ c) : vocF (pickN c 7) = vocF c.toNat := by
  have e : pickN c 7 = c.toNat % 7 := by unfold pickN pickI; rw [if_neg (by omega)]; omega
  unfold vocF
  rw [e, Nat.mod_mod]
set_option maxRecDepth 100000 in
set_option maxHeartbeats 2000000 in
theorem voc_any (c : Int) (hc : I64 c) (w : World) :
    Calls Tryz.prog 23 #[.int .i64 c] w fun e w' => e = .returned (.string ⟨(vocF (pickN c 7)).toArray⟩) ∧ Below w.heap.size w w' := by
  have hp : ∀ W, Calls Tryz.prog 31 #[.int .i64 c, .int .i64 7] W fun e w' => e = .returned (.int .i64 ((pickN c 7 : Nat) : Int)) ∧ W = w' := fun W => pick_any c hc 7 (by decide) (by decide) W
  have hlt := pickN_lt (c := c) (n := 7) (by decide)
  obtain ⟨m, hm⟩ : ∃ m, pickN c 7 = m := ⟨_, rfl⟩
  rw [hm] at hp hlt ⊢
  have hb : Below w.heap.size w (w.alloc (.cells (vocL.map encW).toArray 9)) := (Below.refl _ w).alloc (Nat.le_refl _) _
  obtain ⟨a, cc, e1, -, -, hx⟩ := strsAt_new w vocL (by decide)
  obtain ⟨b, off, e2, ck⟩ := hx m hlt
  injection e1 with e3 _ _
  rw [e2] at e3
  injection e3 with e3
  injection e3 with e4 e5
  subst e4; subst e5
  have hv : vocF m = vocL[m] := by unfold vocF; rw [Nat.mod_eq_of_lt hlt, List.getD_eq_getElem?_getD, List.getElem?_eq_getElem hlt]; rfl
  rw [← hv, Nat.zero_add] at ck
  unfold encW at ck
  obtain ⟨V, hV⟩ : ∃ V, vocF m = V := ⟨_, rfl⟩
  rw [hV] at ck ⊢
  obtain ⟨w1, hw1⟩ : ∃ w1, w.alloc (.cells (vocL.map encW).toArray 9) = w1 := ⟨_, rfl⟩
  have hw1' : w.alloc (.cells #[.string ⟨#[116, 104, 101]⟩, .string ⟨#[99, 105, 116, 121]⟩, .string ⟨#[114, 97, 105, 110]⟩, .string ⟨#[99, 111, 117, 110, 99, 105, 108]⟩, .string ⟨#[114, 97, 105, 110, 121]⟩, .string ⟨#[99, 105, 116]⟩, .string ⟨#[50, 110, 100]⟩] 9) = w1 := hw1
  have ck' : w1.cell? ⟨w.heap.size, m, none⟩ = some (.string ⟨V.toArray⟩) := by rw [← hw1]; exact ck
  rw [hw1] at hb
  have HB := Lib.hid hb
  have hm0 : (0 : Int) ≤ (m : Int) := by omega
  have hm7 : (m : Int) < 7 := by omega
  clear hw1 ck hv hV hb hx hm e2 hlt hc
  go_enter Tryz.func23, Tryz.ntmps23
  go_wp2_with (first
    | (go_at_call 31; (with_reducible (refine (hp _).mono ?_)); rintro e wx ⟨rfl, rfl⟩)
    | fail)
  go_ret
  exact ⟨rfl, HB.out⟩
theorem str_cat (x y : List UInt8) : (⟨x.toArray⟩ : ByteArray) ++ ⟨y.toArray⟩ = ⟨(x ++ y).toArray⟩ := by
  apply ByteArray.ext
  simp
/-- a sum of two texts that is not too long -/
theorem run_cat (x y : List UInt8) (h : x.length + y.length ≤ 1000000) (W : World) : (Op.stringOp .add ⟨x.toArray⟩ ⟨y.toArray⟩).run Tryz.prog W = .ok (.string ⟨(x ++ y).toArray⟩) W := by
  rw [run_string_add_sum (P := Tryz.prog) W _ _ (by show x.toArray.size + y.toArray.size ≤ _; simp; omega), str_cat]
theorem markF_mod (m : Nat) : markF (m % 4) = markF m := by unfold markF; rw [Nat.mod_mod]
set_option maxRecDepth 100000 in
set_option maxHeartbeats 4000000 in
theorem text_any (n : Int) (hn : I64 n) (w : World) :
    Calls Tryz.prog 35 #[.int .i64 n] w fun e w' => e = .returned (.string ⟨(textF n).toArray⟩) ∧ Below w.heap.size w w' := by
  have hp : ∀ W, Calls Tryz.prog 31 #[.int .i64 n, .int .i64 1099511627776] W fun e w' => e = .returned (.int .i64 ((pickN n 1099511627776 : Nat) : Int)) ∧ W = w' := fun W => pick_any n hn 1099511627776 (by decide) (by decide) W
  have hlt := pickN_lt (c := n) (n := 1099511627776) (by decide)
  have htl := text_len n
  have hT : textF n = textGo (pickN n 1099511627776 % 10) (pickN n 1099511627776) [] := rfl
  obtain ⟨T, hTT⟩ : ∃ T, textF n = T := ⟨_, rfl⟩
  rw [hTT] at hT htl ⊢
  obtain ⟨m0, hm⟩ : ∃ m, pickN n 1099511627776 = m := ⟨_, rfl⟩
  rw [hm] at hp hlt hT
  have hb : Below w.heap.size w (w.alloc (.cells (markL.map encW).toArray 9)) := (Below.refl _ w).alloc (Nat.le_refl _) _
  obtain ⟨a, cc, e1, -, -, hx⟩ := strsAt_new w markL (by decide)
  have hmk : ∀ j (h : j < 4), (w.alloc (.cells (markL.map encW).toArray 9)).cell? ⟨w.heap.size, j, none⟩ = some (.string ⟨(markF j).toArray⟩) := fun j h => by
    obtain ⟨b, off, e2, ck⟩ := hx j h
    injection e1 with e3 _ _
    rw [e2] at e3
    injection e3 with e3
    injection e3 with e4 e5
    subst e4; subst e5
    rw [Nat.zero_add] at ck
    rw [ck]
    unfold markF encW
    rw [Nat.mod_eq_of_lt h, List.getD_eq_getElem?_getD, List.getElem?_eq_getElem h]; rfl
  obtain ⟨w1, hw1⟩ : ∃ w1, w.alloc (.cells (markL.map encW).toArray 9) = w1 := ⟨_, rfl⟩
  have hw1' : w.alloc (.cells #[.string ⟨#[32]⟩, .string ⟨#[46, 32]⟩, .string ⟨#[44, 32]⟩, .string ⟨#[45]⟩] 9) = w1 := hw1
  rw [hw1] at hb hmk
  have HMK := Lib.hid hmk
  have HB0 := Lib.hid hb
  have hk9 : m0 % 10 ≤ 9 := by omega
  obtain ⟨k0, hk0⟩ : ∃ k0, m0 % 10 = k0 := ⟨_, rfl⟩
  have hk0' : (m0 : Int) % 10 = (k0 : Int) := by omega
  rw [hk0] at hT hk9
  have HT := Lib.hid hT
  have hm00 : (0 : Int) ≤ (m0 : Int) := by omega
  obtain ⟨B, hB⟩ : ∃ B, w.heap.size = B := ⟨_, rfl⟩
  have hlB : B < w1.heap.size := by rw [← hw1, ← hB]; simp
  rw [hB] at HMK
  clear hw1 hmk hb hx e1 hT hm hTT hk0
  go_enter Tryz.func35, Tryz.ntmps35
  go_upto_region 5 with (first
    | (go_at_call 31; (with_reducible (refine (hp _).mono ?_)); rintro e wx ⟨rfl, rfl⟩)
    | fail)
  clear hp hw1' hB
  have HK0 := Lib.hid hk0'
  clear hk0'
  go_loopw [0, 4, 5] (fun v0 v4 v5 wr => ∃ (k m : Nat) (s : List UInt8), v0 = .int .i64 m ∧ v5 = .int .i64 k ∧ v4 = .string ⟨s.toArray⟩ ∧ k ≤ 9 ∧ m < 1099511627776 ∧ s.length + 9 * k ≤ 81 ∧ Hid (T = textGo k m s) ∧ Hid (Below w1.heap.size w1 wr)) (fun _ _ v5 _ => (intOf v5).toNat)
  case atStart => exact ⟨k0, m0, [], rfl, by rw [HK0.out], rfl, hk9, hlt, by simp; omega, HT, Lib.hid (Below.refl _ _)⟩
  case round =>
    clear HT hlt hk9 HK0
    obtain ⟨k, m, s, rfl, rfl, rfl, hk, hm, hsl, HG, HB⟩ := hrel
    by_cases h0 : k = 0
    · subst h0
      have hT : T = s := HG.out
      have g0 : ¬ (0 : Int) < ((0 : Nat) : Int) := by omega
      subst hT
      have HF : Hid (Below w.heap.size w wr) := Lib.hid (HB0.out.trans (HB.out.mono HB0.out.size))
      clear HG HB
      go_wp2_with fail
      go_ret
      exact ⟨rfl, HF.out⟩
    · obtain ⟨k', rfl⟩ : ∃ k', k = k' + 1 := ⟨k - 1, by omega⟩
      have hkp : (0 : Int) < ((k' + 1 : Nat) : Int) := by omega
      obtain ⟨m2, hm2⟩ : ∃ m2, m / 7 = m2 := ⟨_, rfl⟩
      have hq : (m : Int) / 7 = (m2 : Int) := by omega
      obtain ⟨j, hj⟩ : ∃ j, m2 % 4 = j := ⟨_, rfl⟩
      have hr : (m2 : Int) % 4 = (j : Int) := by omega
      have hrt : (m2 : Int).tmod 4 = (j : Int) := by rw [Int.tmod_eq_emod_of_nonneg (by omega)]; exact hr
      have hj4 : j < 4 := by omega
      have hj0 : (0 : Int) ≤ (j : Int) := by omega
      have hj4i : (j : Int) < 4 := by omega
      have hm0 : (0 : Int) ≤ (m : Int) := by omega
      have hm20 : (0 : Int) ≤ (m2 : Int) := by omega
      have ck0 := HMK.out j hj4
      have hmf : markF j = markF m2 := by rw [← hj]; exact markF_mod m2
      rw [hmf] at ck0
      have ck : wr.cell? ⟨B, j, none⟩ = some (.string ⟨(markF m2).toArray⟩) := (HB.out.cell (p := ⟨B, j, none⟩) hlB).trans ck0
      have hlBr : B < wr.heap.size := Nat.lt_of_lt_of_le hlB HB.out.size
      have hvv : vocF (pickN (m2 : Int) 7) = vocF m2 := by rw [vocF_pick (by omega)]; simp
      have HV : Hid (∀ W, Calls Tryz.prog 23 #[.int .i64 (m2 : Int)] W fun e w' => e = .returned (.string ⟨(vocF m2).toArray⟩) ∧ Below W.heap.size W w') := Lib.hid (fun W => by rw [← hvv]; exact voc_any (m2 : Int) (by unfold I64; omega) W)
      have HG2 : Hid (T = textGo k' m2 (s ++ vocF m2 ++ markF m2)) := Lib.hid (by have h := HG.out; rw [textGo, hm2] at h; exact h)
      have hl2 : (s ++ vocF m2 ++ markF m2).length + 9 * k' ≤ 81 := by
        have h1 := (voc_ok _ (voc_mem m2)).2.2
        have h2 := mark_le m2
        simp only [List.length_append]; omega
      have hvl : (vocF m2).length ≤ 7 := (voc_ok _ (voc_mem m2)).2.2
      have hml := mark_le m2
      have hsl81 : s.length ≤ 81 := by omega
      obtain ⟨V, hV⟩ : ∃ V, vocF m2 = V := ⟨_, rfl⟩
      obtain ⟨M, hM⟩ : ∃ M, markF m2 = M := ⟨_, rfl⟩
      rw [hV] at HV HG2 hl2 hvl
      rw [hM] at ck HG2 hl2 hml
      have hc1 := run_cat s V (by omega)
      have hc2 := run_cat (s ++ V) M (by rw [List.length_append]; omega)
      have hl9 : (s ++ V).length ≤ 88 := by rw [List.length_append]; omega
      have hl10 : s.length + V.length ≤ 88 := by omega
      clear hV hM hvv ck0 hmf hm2 hj HG
      go_upto_region 8 with fail
      go_region_held3 (fun w' => w'.cell? ⟨B, j, none⟩ = some (.string ⟨M.toArray⟩))
        (first | assumption | go_keep)
        (first
          | (go_at_call 23; (with_reducible (refine (HV.out _).mono ?_)); rintro e w6 ⟨rfl, hb6⟩; have d6 := (hb6.cell (p := ⟨B, j, none⟩) hlBr).trans ck)
          | fail)
      have HB6 : Hid (Below w1.heap.size w1 w6) := Lib.hid (HB.out.trans ((((Below.refl _ wr).drewN 1).trans hb6).mono HB.out.size))
      clear hb6 d6
      go_wp2_with fail
      go_roundw
      case rel => exact ⟨k', m2, s ++ V ++ M, rfl, by go_num, by rw [List.append_assoc], by omega, by omega, hl2, HG2, HB6⟩
      case measure => simp [intOf]
end Go.Proofs.YtogjgibaolppfaaGreatDoor
/- the reference: Word, Pieces. -/
namespace Go.Proofs.YtogjgibaolppfaaGreatDoor
open Go.RowKit Go.Lib Go.Proofs

set_option maxRecDepth 100000 in
set_option maxHeartbeats 4000000 in
theorem refWordQ_any (s : List UInt8) (hs : s.length ≤ 1000000) (w : World) : Calls Tryz.prog 75 #[.string ⟨s.toArray⟩] w fun e w' => e = .returned (.bool (isWd s)) ∧ Below w.heap.size w w' := by
  have hss : (⟨s.toArray⟩ : ByteArray).size ≤ 274877906944 := by show s.toArray.size ≤ _; simp; omega
  have HW := Lib.hid ((refWords_any ⟨s.toArray⟩ (by omega) w).mono fun e w' h => h.strs hss)
  have hiff := word_iff s
  obtain ⟨R, hR⟩ : ∃ R, isWd s = R := ⟨_, rfl⟩
  rw [hR] at hiff ⊢
  have HI := Lib.hid hiff
  clear hiff hR hss
  go_enter Tryz.func75, Tryz.ntmps75
  go_wp2_with fail
  refine HW.out.mono ?_
  rintro e w1 ⟨v, rfl, ⟨a, c, rfl, hc, hl, hcell⟩, hb⟩
  have hlen : (wordsOf (⟨s.toArray⟩ : ByteArray).data.toList) = wordsOf s := by simp
  have HB := Lib.hid hb
  have HC := Lib.hid hcell
  clear hb HW hcell
  obtain ⟨ws, hws⟩ : ∃ ws, wordsOf (⟨s.toArray⟩ : ByteArray).data.toList = ws := ⟨_, rfl⟩
  have hws2 : wordsOf s = ws := by rw [← hlen, hws]
  rw [hws] at hc hl HC ⊢
  rw [hws2] at HI
  clear hlen hws hws2
  by_cases h30 : s.length ≤ 30
  · have g1 : decide ((s.length : Int) ≤ 30) = true := by simp; omega
    have g1' : decide (s.length ≤ 30) = true := by simp; omega
    by_cases h1 : ws.length = 1
    · obtain ⟨x, rfl⟩ := List.length_eq_one_iff.1 h1
      obtain ⟨b, off, rfl, ck⟩ := HC.out 0 (by simp)
      have ck' : w1.cell? ⟨b, off, none⟩ = some (.string ⟨x.toArray⟩) := ck
      by_cases hx : x.length = s.length
      · have HF : Hid (true = R) := Lib.hid (HI.out.1 ⟨h30, rfl, hx⟩).symm
        have g3 : ((x.length : Int) == (s.length : Int)) = true := by simp; omega
        have g3' : (x.length == s.length) = true := by simp; omega
        simp only [List.length_cons, List.length_nil, Nat.zero_add] at hc hl h1 ⊢
        clear ck h30 h1 hx HC HI
        go_wp2_with fail
        go_ret
        exact ⟨by rw [← HF.out]; rfl, HB.out⟩
      · have HF : Hid (false = R) := Lib.hid (by
          cases hr : R with
          | false => rfl
          | true => exact absurd (HI.out.2 hr).2.2 hx)
        have g3 : ((x.length : Int) == (s.length : Int)) = false := by simp; omega
        have g3' : (x.length == s.length) = false := by simp; omega
        simp only [List.length_cons, List.length_nil, Nat.zero_add] at hc hl h1 ⊢
        clear ck h30 h1 hx HC HI
        go_wp2_with fail
        go_ret
        exact ⟨by rw [← HF.out]; rfl, HB.out⟩
    · have HF : Hid (false = R) := Lib.hid (by
        cases hr : R with
        | false => rfl
        | true => exact absurd (HI.out.2 hr).2.1 h1)
      have g2 : ((ws.length : Int) == 1) = false := by simp; omega
      have g2' : (ws.length == 1) = false := by simp; omega
      clear h30 h1 HC HI
      go_wp2_with fail
      go_ret
      exact ⟨by rw [← HF.out]; rfl, HB.out⟩
  · have HF : Hid (false = R) := Lib.hid (by
      cases hr : R with
      | false => rfl
      | true => exact absurd (HI.out.2 hr).1 h30)
    have g1 : decide ((s.length : Int) ≤ 30) = false := by simp; omega
    have g1' : decide (s.length ≤ 30) = false := by simp; omega
    clear h30 HC HI
    go_wp2_with fail
    go_ret
    exact ⟨by rw [← HF.out]; rfl, HB.out⟩

/-! Pieces -/
theorem piecesGo_nil (cur : List UInt8) (q : Bool) : piecesGo cur q [] = if cur = [] then [] else [cur] := rfl
set_option maxRecDepth 100000 in
set_option maxHeartbeats 4000000 in
theorem refPieces_any (t : ByteArray) (hs : t.size ≤ 1000) (w : World) : Calls Tryz.prog 40 #[.string t] w fun e w' => ∃ v, e = .returned v ∧ WordsO w' v (piecesR t.data.toList) ∧ w'.ownsRow w.heap.size 9 1 v (piecesR t.data.toList).length ((piecesR t.data.toList).map encW) ∧ Below w.heap.size w w' := by
  obtain ⟨i0, hi, hz0, hz1, hz2⟩ := info_parts infoStrP
  obtain ⟨R, hR⟩ : ∃ R, piecesR t.data.toList = R := ⟨_, rfl⟩
  rw [hR]
  have HR := Lib.hid hR
  clear hR
  go_enter Tryz.func40, Tryz.ntmps40
  go_wp2_with fail
  go_loopw [3, 4, 5, 6] (fun v3 v4 v5 vi wr => ∃ (k : Nat) (ps : List (List UInt8)) (cur : List UInt8) (q : Bool), vi = .int .i64 k ∧ k ≤ t.size ∧ v4 = .string ⟨cur.toArray⟩ ∧ v5 = .bool q ∧ cur.length ≤ k ∧ ps.length ≤ k ∧ Hid (R = ps ++ piecesGo cur q (t.data.toList.drop k)) ∧ Hid (wr.ownsRow w.heap.size 9 1 v3 ps.length (ps.map encW)) ∧ Hid (Below w.heap.size w wr)) (fun _ _ _ vi _ => t.size - (intOf vi).toNat)
  case atStart => exact ⟨0, [], [], false, rfl, Nat.zero_le _, rfl, rfl, by simp, by simp, Lib.hid (by rw [← HR.out]; rfl), Lib.hid (w.ownsRow_nil _ _ _), Lib.hid (Below.refl _ _)⟩
  case round =>
    obtain ⟨k, ps, cur, q, rfl, hk, rfl, rfl, hcl, hpl, HG, HO, HB⟩ := hrel
    obtain ⟨a3, c3, hv3⟩ := row_form HO.out
    subst hv3
    have hdl : t.data.toList.length = t.size := by simp
    by_cases hlt : k < t.size
    · have hki : (k : Int) < (t.size : Int) := by omega
      have hk0 : (0 : Int) ≤ (k : Int) := by omega
      have hdr : t.data.toList.drop k = t[k] :: t.data.toList.drop (k + 1) := by
        rw [List.drop_eq_getElem_cons (by rw [hdl]; exact hlt)]; simp; rfl
      rw [hdr] at HG
      have hx1 : t.extract k (k + 1) = ⟨[t[k]].toArray⟩ := by
        apply ByteArray.ext
        apply Array.toList_inj.1
        rw [Lib.extract_data, hdr]
        simp
      have hx2 : ∀ c : UInt8, (⟨cur.toArray⟩ : ByteArray) ++ ⟨[c].toArray⟩ = ⟨(cur ++ [c]).toArray⟩ := fun c => str_add cur [c]
      have hbs := HB.out.size
      obtain ⟨c, hc⟩ : ∃ c, t[k] = c := ⟨_, rfl⟩
      have hx3 := hx2 c
      rw [hc] at HG hx1
      have hlt2 : (k : Int) + 1 ≤ (t.size : Int) := by omega
      have hle2 : (k : Int) ≤ (k : Int) + 1 := by omega
      have HC := Lib.hid hc
      clear hdr hx2 hdl hc
      have HPUSH : Hid (∀ q', (c ≠ 32 ∨ nextQ c q = true) → nextQ c q = q' → R = ps ++ piecesGo (cur ++ [c]) q' (t.data.toList.drop (k + 1))) := Lib.hid (fun q' h1 h2 => by
        have h := HG.out
        rw [piecesGo, if_pos h1, h2] at h
        exact h)
      have hl1 : (cur ++ [c]).length ≤ k + 1 := by rw [List.length_append]; simp; omega
      by_cases h34 : c = 34
      · have e1 : ((t[k].toNat : Int) == 34) = true := by rw [HC.out, h34]; rfl
        have e2 : ((t[k].toNat : Int) != 32) = true := by rw [HC.out, h34]; rfl
        have HG2 := Lib.hid (HPUSH.out (!q) (.inl (by rw [h34]; decide)) (by unfold nextQ; rw [if_pos h34]))
        clear h34 HPUSH HG
        go_wp2_with fail
        go_roundw
        case rel => exact ⟨k + 1, ps, cur ++ [c], !q, by go_num, by omega, rfl, rfl, hl1, by omega, HG2, HO, HB⟩
        case measure => simp [intOf]; omega
      · have e1 : ((t[k].toNat : Int) == 34) = false := by
          rw [HC.out, beq_eq_false_iff_ne]; intro h; apply h34; apply UInt8.toNat_inj.1
          have : c.toNat = 34 := by omega
          rw [this]; rfl
        have hnq : nextQ c q = q := by unfold nextQ; rw [if_neg h34]
        by_cases h32 : c = 32
        · have e2 : ((t[k].toNat : Int) != 32) = false := by rw [HC.out, h32]; rfl
          cases q with
          | true =>
            have HG2 := Lib.hid (HPUSH.out true (.inr hnq) hnq)
            clear h34 h32 hnq HPUSH HG
            go_wp2_with fail
            go_roundw
            case rel => exact ⟨k + 1, ps, cur ++ [c], true, by go_num, by omega, rfl, rfl, hl1, by omega, HG2, HO, HB⟩
            case measure => simp [intOf]; omega
          | false =>
            have HG2 : Hid (R = (ps ++ (if cur = [] then [] else [cur])) ++ piecesGo [] false (t.data.toList.drop (k + 1))) := Lib.hid (by
              have h := HG.out
              rw [piecesGo, hnq, if_neg (by simp [h32])] at h
              rw [List.append_assoc]; exact h)
            clear h34 h32 hnq HPUSH HG
            by_cases h0 : cur = []
            · subst h0
              have HG3 : Hid (R = ps ++ piecesGo [] false (t.data.toList.drop (k + 1))) := Lib.hid (by have h := HG2.out; rw [if_pos rfl, List.append_nil] at h; exact h)
              clear HG2
              go_wp2_with fail
              go_roundw
              case rel => exact ⟨k + 1, ps, [], false, by go_num, by omega, rfl, rfl, by simp, by omega, HG3, HO, HB⟩
              case measure => simp [intOf]; omega
            · have hse : (!cur.isEmpty) = true := by cases cur <;> simp_all
              have HG3 : Hid (R = (ps ++ [cur]) ++ piecesGo [] false (t.data.toList.drop (k + 1))) := Lib.hid (by have h := HG2.out; rw [if_neg h0] at h; exact h)
              clear HG2 h0
              go_wp2_with (at_builtin; go_loud (refine wpList_append_own _ rfl _ _ 28 rfl w.heap.size 9 i0 _ 1 16 Tryz.underlying28 hi hz0 hz1 hz2 rfl (by decide) _ _ _ rfl (HO.out.alloc _) ⟨wr.heap.size, 0, none⟩ 1 1 [.string ⟨cur.toArray⟩] rfl rfl (World.news_of_block (cs := #[.string ⟨cur.toArray⟩]) (t := 9) (fr := (0, 0)) (heap_alloc_new wr _)) (by simp [Value.oneCell']) ?d3 ?d4 ?d5 ?_))
              case d3 => unfold maxLen; omega
              case d4 => omega
              case d5 => first | omega | (simp; omega)
              intro v' w5 ho5 hg5 _
              have HO5 : Hid (w5.ownsRow w.heap.size 9 1 v' (ps ++ [cur]).length ((ps ++ [cur]).map encW)) := Lib.hid (by
                rw [List.length_append, List.map_append]; exact ho5)
              have HB5 : Hid (Below w.heap.size w w5) := Lib.hid ((HB.out.alloc hbs _).grown hg5 (by simp; omega) (fun j e => (HO.out.lt j e).1))
              clear ho5 hg5
              go_wp2_with fail
              go_roundw
              case rel => exact ⟨k + 1, ps ++ [cur], [], false, by go_num, by omega, rfl, rfl, by simp, by rw [List.length_append]; simp; omega, HG3, HO5, HB5⟩
              case measure => simp [intOf]; omega
        · have e2 : ((t[k].toNat : Int) != 32) = true := by
            rw [HC.out, bne_iff_ne]; intro h; apply h32; apply UInt8.toNat_inj.1
            have : c.toNat = 32 := by omega
            rw [this]; rfl
          have HG2 := Lib.hid (HPUSH.out q (.inl h32) hnq)
          clear h34 h32 hnq HPUSH HG
          go_wp2_with fail
          go_roundw
          case rel => exact ⟨k + 1, ps, cur ++ [c], q, by go_num, by omega, rfl, rfl, hl1, by omega, HG2, HO, HB⟩
          case measure => simp [intOf]; omega
    · obtain rfl : k = t.size := by omega
      have hbs := HB.out.size
      have hdr : t.data.toList.drop t.size = [] := List.drop_eq_nil_of_le (by omega)
      rw [hdr, piecesGo_nil] at HG
      have HEND : Hid (∀ v W, W.ownsRow w.heap.size 9 1 v R.length (R.map encW) → WordsO W v R) := Lib.hid (fun v W h => h.mono_base (Nat.zero_le _))
      by_cases h0 : cur = []
      · subst h0
        have HO2 : Hid (wr.ownsRow w.heap.size 9 1 (.slice a3 ps.length c3) R.length (R.map encW)) := Lib.hid (by have h := HG.out; rw [if_pos rfl, List.append_nil] at h; rw [h]; exact HO.out)
        clear HG hdr hdl
        go_wp2_with fail
        go_ret
        exact ⟨_, rfl, HEND.out _ _ HO2.out, HO2.out, HB.out⟩
      · have hse : (!cur.isEmpty) = true := by cases cur <;> simp_all
        have HR2 : Hid (R = ps ++ [cur]) := Lib.hid (by have h := HG.out; rw [if_neg h0] at h; exact h)
        clear HG hdr hdl h0
        go_wp2_with (at_builtin; go_loud (refine wpList_append_own _ rfl _ _ 28 rfl w.heap.size 9 i0 _ 1 16 Tryz.underlying28 hi hz0 hz1 hz2 rfl (by decide) _ _ _ rfl (HO.out.alloc _) ⟨wr.heap.size, 0, none⟩ 1 1 [.string ⟨cur.toArray⟩] rfl rfl (World.news_of_block (cs := #[.string ⟨cur.toArray⟩]) (t := 9) (fr := (0, 0)) (heap_alloc_new wr _)) (by simp [Value.oneCell']) ?f3 ?f4 ?f5 ?_))
        case f3 => unfold maxLen; omega
        case f4 => omega
        case f5 => first | omega | (simp; omega)
        intro v' w5 ho5 hg5 _
        have HO5 : Hid (w5.ownsRow w.heap.size 9 1 v' R.length (R.map encW)) := Lib.hid (by
          rw [HR2.out, List.length_append, List.map_append]; exact ho5)
        have HB5 : Hid (Below w.heap.size w w5) := Lib.hid ((HB.out.alloc hbs _).grown hg5 (by simp; omega) (fun j e => (HO.out.lt j e).1))
        clear ho5 hg5
        go_wp2_with fail
        go_ret
        exact ⟨_, rfl, HEND.out _ _ HO5.out, HO5.out, HB5.out⟩
end Go.Proofs.YtogjgibaolppfaaGreatDoor
