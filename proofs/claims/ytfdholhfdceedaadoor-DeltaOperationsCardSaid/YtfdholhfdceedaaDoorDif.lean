/- delta's Diff. -/
import Derived.Test.YtfdholhfdceedaaDoorOps
import Derived.Test.YtfdholhfdceedaaDoorWtr
import Derived.Test.YtfdholhfdceedaaDoorBldS
import Derived.Test.YtfdholhfdceedaaDoorDOp
namespace Go.Proofs.YtfdholhfdceedaaDoor
open Go.RowKit Go.Shelf Go.Lib

attribute [local go_sem] Oper.semAt_some

theorem keepsFrom_stab {B : Nat} {W W' : World} (h : KStab W W') : KeepsFrom B W W' := h.from B

/-- an operation within the sizes of texts -/
abbrev SOp : Type := { y : DOp // y.n ≤ 8192 ∧ y.off ≤ 8192 ∧ y.text.length ≤ 8192 }
theorem opers_stops (n : Nat) (hn : 1 ≤ n) (Bo Bn : Nat) (o x : List UInt8) (ho : o.length ≤ 8192) (hx : x.length ≤ 8192) (hs : ∀ y ∈ opsR o x [], y.n ≤ 8192 ∧ y.off ≤ 8192 ∧ y.text.length ≤ 8192) (w : World) (hBo : Boxed w Bo 9 (.string ⟨o.toArray⟩)) (hBn : Boxed w Bn 9 (.string ⟨x.toArray⟩)) :
    SeqStopsK Fence.wide n Tryd.prog 35 #[.pointer (some ⟨Bo, 0, none⟩), .pointer (some ⟨Bn, 0, none⟩)] (fun y : SOp => #[y.1.enc]) KOps (fun ys => ys.map Subtype.val = opsR o x []) (fun pre => pre.map Subtype.val <+: opsR o x []) (opsR o x []).length w :=
  fun l J Jx W hW hJ _ hY h0 => by
    refine (opers1_in n l Bo Bn hn o x ho hx (fun l W => ∃ l' : List SOp, l'.map Subtype.val = l ∧ J l' W) (fun l W => ∃ l' : List SOp, l'.map Subtype.val = l ∧ Jx l' W) W ?_ ((hW.block _ hBo.lt).trans hBo) ((hW.block _ hBn.lt).trans hBn) ?_ ⟨[], rfl, h0⟩).mono ?_
    · rintro s A B row ⟨l', rfl, hl⟩ hg hr
      exact ⟨l', rfl, hJ _ _ _ _ hl hg hr⟩
    · rintro pre y W1 ⟨l', rfl, hl⟩ ⟨hlt, hy⟩
      obtain ⟨fn, tmps, assign, body, h1, h2⟩ := hY l' ⟨y, hs y hy⟩ W1 hl (by rw [List.length_map] at hlt; exact hlt)
      refine ⟨fn, tmps, assign, body, h1, h2.mono ?_⟩
      rintro e W' (⟨rfl, h3, h4⟩ | ⟨rfl, h3⟩)
      · exact .inl ⟨rfl, ⟨l' ++ [⟨y, hs y hy⟩], by rw [List.map_append]; rfl, h3⟩, h4⟩
      · exact .inr ⟨rfl, ⟨l' ++ [⟨y, hs y hy⟩], by rw [List.map_append]; rfl, h3⟩⟩
    · rintro e W' ⟨hv, (⟨ys, rfl, l', h1, h2⟩ | ⟨pre, h0, l', rfl, h2⟩)⟩
      · exact ⟨hv, .inl ⟨l', h1, h2⟩⟩
      · exact ⟨hv, .inr ⟨l', h0, h2⟩⟩
theorem groups_pos : ∀ (f z : Nat), 0 < (groupsF f z).length
  | 0, _ => by simp [groupsF]
  | f + 1, z => by unfold groupsF; split <;> simp
theorem DOp.bytes_pos (y : DOp) : 0 < y.bytes.length := by
  unfold DOp.bytes putInt
  have h1 := groups_pos 9 (zig (y.n : Int))
  have h2 := groups_pos 9 (zig 0)
  split <;> rw [List.length_append] <;> omega
theorem len_bytes : ∀ l : List DOp, l.length ≤ nBytes l
  | [] => Nat.zero_le _
  | y :: l => by
    have := len_bytes l
    have := y.bytes_pos
    rw [nBytes_cons, List.length_cons]; omega
theorem few_bytes : ∀ l : List SOp, ((l.map Subtype.val).flatMap DOp.bytes).length ≤ l.length * 65600
  | [] => by simp
  | y :: l => by
    have := few_bytes l
    have := dop_bytes_len (y := y.1) (by have := y.2; omega) (by have := y.2; omega) (by have := y.2; omega)
    rw [List.map_cons, List.flatMap_cons, List.length_append, List.length_cons]; omega

theorem kstab_freeze {w : World} {g : Nat} {cs : Array Value} {fr : Nat × Nat} (hg : w.heap[g]? = some (.cells cs 5 fr)) (n : Nat) : KStab w (w.drew.freeze ⟨g, 0, none⟩ n) := by
  unfold World.freeze
  split
  · exact ⟨Nat.le_refl _, fun _ _ h _ => h⟩
  · refine ⟨by rw [Array.size_modify]; exact Nat.le_refl _, fun k o hk ho => ?_⟩
    have hne : g ≠ k := fun e => by
      subst e; rw [hg] at hk; cases hk; exact (ho _ _ _ rfl).1 rfl
    simp only [Array.getElem?_modify]
    rw [if_neg hne]; exact hk

set_option maxHeartbeats 2000000 in
set_option maxRecDepth 100000 in
theorem bld_string_K (B b : Nat) (l : List UInt8) (w : World) (h : IsB B b (Lib.byteCells l) w) (h0 : l ≠ []) :
    Calls Tryd.prog 22 #[.pointer (some ⟨b, 0, none⟩)] w fun e w' => e = .returned (.string ⟨l.toArray⟩) ∧ Below B w w' ∧ KStab w w' := by
  obtain ⟨p, hB, v, hbk, hown, hne⟩ : ∃ p, Lib.BuilderAt 49 5 B b p (Lib.byteCells l) w := by
    rcases h with h | h
    · exact ⟨_, h⟩
    · exact ⟨_, h⟩
  have hl0 : l.length ≠ 0 := by simpa using h0
  rw [Lib.byteCells_length] at hown
  obtain ⟨g, cap, cur, rfl, hbg, hg, hnc, hcm, hcs, htake⟩ : ∃ g cap cur, v = .slice (some ⟨g, 0, none⟩) l.length cap ∧ B ≤ g ∧ w.heap[g]? = some (.cells cur 5 (0, 0)) ∧ l.length ≤ cap ∧ cap ≤ maxLen ∧ cur.size = cap * 1 ∧ cur.toList.take (l.length * 1) = Lib.byteCells l := by
    rcases hown.2 with ⟨_, hz⟩ | ⟨g, cap, cur, hv, r⟩
    · exact absurd hz hl0
    · exact ⟨g, cap, cur, hv, r⟩
  have c1 : w.drew.cell? ⟨b, 1, none⟩ = some (.slice (some ⟨g, 0, none⟩) l.length cap) := by
    have : w.drew.heap[b]? = some (.cells #[p, .slice (some ⟨g, 0, none⟩) l.length cap] 49 (0, 0)) := hbk
    rw [Lib.cell_of_heap this]; rfl
  have hSD : (Builtin.unsafeSliceData_ #[45] 86 #[.slice (some ⟨g, 0, none⟩) l.length cap]).run Tryd.prog w.drew = .ok (.pointer (some ⟨g, 0, none⟩)) w.drew :=
    Lib.run_unsafeSliceData_row _ _ _ _ _ _ (by omega)
  have hUS : (Builtin.unsafeString_ #[86, 3] 9 #[.pointer (some ⟨g, 0, none⟩), .int .i64 l.length]).run Tryd.prog w.drew = .ok (.string ⟨l.toArray⟩) (w.drew.freeze ⟨g, 0, none⟩ l.length) := by
    refine Lib.run_unsafeString_row w.drew 86 3 9 5 Tryd.underlying86 cellsU8b g cur.size (by have hg' : w.drew.heap[g]? = some (.cells cur 5 (0, 0)) := hg; simp [World.shape?, hg']) l h0 (by omega) (by unfold maxLen at hcm; omega) ?_
    intro j x hx
    have := hown.cells (g := g) rfl j (.int .u8 x.toNat) (by simp [Lib.byteCells, hx])
    exact this
  have HKF : Hid (KStab w (w.drew.freeze ⟨g, 0, none⟩ l.length)) := Lib.hid (kstab_freeze hg _)
  have mixed := mixedYes
  go_enter Tryd.func22, Tryd.ntmps22
  go_wp2
  go_region_o
  all_goals (go_wp2; go_ret; exact ⟨rfl, Lib.below_freeze (Below.drew (Below.refl B w)) (p := ⟨g, 0, none⟩) hbg _, HKF.out⟩)

/-- what the loop of Diff keeps: the writer in block b holds the bytes so far -/
structure DifI (w : World) (b : Nat) (l0 : List UInt8) (pre : List DOp) (W : World) : Prop where
  bld : IsB b b (Lib.byteCells (l0 ++ pre.flatMap DOp.bytes)) W
  bel : Below w.heap.size w W
  top : b ≤ W.heap.size

theorem isB_own {b : Nat} {bs : List Value} {A B : World} {row : Option Nat} {m : Nat} (h : IsB b b bs A) (hg : A.grownBy B row) (hr : ∀ r, row = some r → m ≤ r ∧ ∃ o : Obj, A.heap[r]? = some o ∧ o.isCells = false) : IsB b b bs B := by
  have key : ∀ p, Lib.BuilderAt 49 5 b b p bs A → Lib.BuilderAt 49 5 b b p bs B := by
    rintro p ⟨hB, v, hv, hown, hne⟩
    refine ⟨hB, v, grown_cells hg hr hv, hown.kept hg ?_, hne⟩
    rcases hown.2 with ⟨rfl, _⟩ | ⟨g, cap, cur, rfl, _, hgb, _⟩
    · exact .inl rfl
    · right
      intro e
      obtain ⟨_, o, h1, h2⟩ := hr g e.symm
      rw [hgb] at h1; cases h1; cases h2
  exact h.imp (key _) (key _)
theorem difI_own (w : World) (b m : Nat) (l0 : List UInt8) (hm : w.heap.size ≤ m) : OwnFrom m (DifI w b l0) := fun _ _ _ _ hs hg hr =>
  ⟨isB_own hs.bld hg hr, hs.bel.grown hg hs.bel.size (fun j e => Nat.le_trans hm (hr j e).1), Nat.le_trans hs.top hg.size⟩

/-- the operations have numbers and texts within the texts -/
theorem ops_small {o : List UInt8} (ho : o.length ≤ 8192) : ∀ (k : Nat) (rest fresh : List UInt8), rest.length ≤ k → fresh.length + rest.length ≤ 8192 → ∀ y ∈ opsR o rest fresh, y.n ≤ 8192 ∧ y.off ≤ 8192 ∧ y.text.length ≤ 8192 := by
  have hins : ∀ z : List UInt8, z.length ≤ 8192 → ∀ y ∈ insL z, y.n ≤ 8192 ∧ y.off ≤ 8192 ∧ y.text.length ≤ 8192 := by
    intro z hz y hy
    unfold insL at hy
    split at hy
    · simp at hy
    · obtain rfl : y = ⟨0, 0, z⟩ := by simpa using hy
      exact ⟨Nat.zero_le _, Nat.zero_le _, hz⟩
  intro k
  induction k with
  | zero =>
    intro rest fresh hk hT y hy
    obtain rfl : rest = [] := List.eq_nil_of_length_eq_zero (by omega)
    rw [opsR_nil] at hy
    exact hins fresh (by simpa using hT) y hy
  | succ k ih =>
    intro rest fresh hk hT y hy
    cases rest with
    | nil => rw [opsR_nil] at hy; exact hins fresh (by simpa using hT) y hy
    | cons c t =>
      have h1 := longD_le o (c :: t)
      have h2 := longD_fit o (c :: t)
      by_cases h : 8 ≤ (longD o (c :: t)).1
      · rw [opsR_hit h] at hy
        rcases List.mem_append.1 hy with hy | hy
        · exact hins fresh (by omega) y hy
        · rcases List.mem_cons.1 hy with rfl | hy
          · exact ⟨by show (longD o (c :: t)).1 ≤ 8192; omega, by show (longD o (c :: t)).2 ≤ 8192; omega, Nat.zero_le _⟩
          · exact ih _ [] (by simp at hk ⊢; omega) (by simp at hT ⊢; omega) y hy
      · rw [opsR_miss h] at hy
        exact ih t _ (by simpa using hk) (by simp at hT ⊢; omega) y hy

def DifEnd (R : List UInt8) (w : World) (e : Ending) (w' : World) : Prop := e = .returned (.string ⟨R.toArray⟩) ∧ Below w.heap.size w w'

set_option maxRecDepth 100000 in
set_option maxHeartbeats 2000000 in
theorem diff_in (n : Nat) (hn : 3 ≤ n) (o x : List UInt8) (ho : o.length ≤ 8192) (hx : x.length ≤ 8192) (w : World) (hsh : ShiftsAt w) :
    CallsIn Fence.wide n Tryd.prog 12 #[.string ⟨o.toArray⟩, .string ⟨x.toArray⟩] w (DifEnd (diffD o x) w) := by
  have g1 : decide ((8192 : Int) < (o.length : Int)) = false := by rw [decide_eq_false_iff_not]; omega
  have g2 : decide ((8192 : Int) < (x.length : Int)) = false := by rw [decide_eq_false_iff_not]; omega
  refine callsIn_of_wp_marks Tryd.func12 rfl trivial ?_ rfl
  simp only [Tryd.ntmps12, List.size_toArray, List.length_cons, List.length_nil, Nat.reduceAdd, Nat.reduceSub, Array.replicate_succ, Array.replicate_zero, List.push_toArray, List.append_toArray, List.nil_append, List.cons_append]
  gi_wp2
  obtain ⟨w1, hw1⟩ : ∃ w1, w.alloc (.cells #[.pointer none, .slice none 0 0] 49) = w1 := ⟨_, rfl⟩
  have hb1 : Below w.heap.size w w1 := by rw [← hw1]; exact (Below.refl _ _).alloc (Nat.le_refl _) _
  have hB1 : IsB w.heap.size w.heap.size (Lib.byteCells []) w1 := .inl ⟨Nat.le_refl _, .slice none 0 0, by rw [← hw1]; exact heap_alloc_new _ _, World.ownsRow_nil _ _ _ _, by simp [Value.ownBlock]⟩
  have hz1 : w1.heap.size = w.heap.size + 1 := by rw [← hw1]; simp
  have HB1 := Lib.hid hB1; have HL1 := Lib.hid hb1
  rw [hw1]
  clear hw1 hB1 hb1
  have c1 := crcOf_int o
  have c2 := crcOf_int x
  have l1 := putInt_len c1.1 c1.2
  have l2 := putInt_len c2.1 c2.2
  refine ⟨trivial, (fun h => by cases h), (callsIn_wide.2 (sum_any ⟨o.toArray⟩ _ (by rw [mk_size]; omega) (shifts_below hsh HL1.out))).mono ?_⟩
  rw [mk_data]
  rintro e w' ⟨rfl, rfl⟩
  gi_wp2
  refine ⟨trivial, (fun h => by cases h), (callsIn_wide.2 (wnum_any w.heap.size [] (crcOf o) _ HB1.out (by simp) c1.1 c1.2 (by omega))).mono ?_⟩
  rintro e w2 ⟨rfl, hB2, hb2, _⟩
  have HB2 := Lib.hid hB2; have HL2 := Lib.hid (HL1.out.trans hb2)
  have hz2 : w.heap.size + 1 ≤ w2.heap.size := by have := hb2.size; omega
  clear hB2 hb2
  gi_wp2
  refine ⟨trivial, (fun h => by cases h), (callsIn_wide.2 (sum_any ⟨x.toArray⟩ _ (by rw [mk_size]; omega) (shifts_below hsh HL2.out))).mono ?_⟩
  rw [mk_data]
  rintro e w' ⟨rfl, rfl⟩
  gi_wp2
  refine ⟨trivial, (fun h => by cases h), (callsIn_wide.2 (wnum_any w.heap.size ([] ++ putInt (crcOf o)) (crcOf x) _ HB2.out (by simp; omega) c2.1 c2.2 (by omega))).mono ?_⟩
  rintro e w3 ⟨rfl, hB3, hb3, _⟩
  rw [List.nil_append] at hB3
  have HB3 := Lib.hid hB3; have HL3 := Lib.hid (HL2.out.trans hb3)
  have hz3 : w.heap.size + 1 ≤ w3.heap.size := by have := hb3.size; omega
  clear hB3 hb3 HB1 HL1 HB2 HL2
  gi_wp2
  refine ⟨trivial, (fun h => by cases h), (callsIn_wide.2 (operations_any _ _ _)).mono ?_⟩
  rintro e w' ⟨rfl, rfl⟩
  gi_wp2
  obtain ⟨w4, hw4⟩ : ∃ w4, (w3.alloc (.cells #[.string ⟨o.toArray⟩] 9)).alloc (.cells #[.string ⟨x.toArray⟩] 9) = w4 := ⟨_, rfl⟩
  have hb4 : Below w3.heap.size w3 w4 := by rw [← hw4]; exact ((Below.refl _ _).alloc (Nat.le_refl _) _).alloc (by simp) _
  have bO : Boxed w4 w3.heap.size 9 (.string ⟨o.toArray⟩) := by rw [← hw4]; exact (Boxed.new w3 _ _).alloc _
  have bX : Boxed w4 (w3.heap.size + 1) 9 (.string ⟨x.toArray⟩) := by
    have := Boxed.new (w3.alloc (.cells #[.string ⟨o.toArray⟩] 9)) 9 (.string ⟨x.toArray⟩)
    rw [World.size_alloc] at this; rw [← hw4]; exact this
  have hI0 : DifI w w.heap.size (putInt (crcOf o) ++ putInt (crcOf x)) [] w4 := ⟨by simpa using isB_below HB3.out hb4, HL3.out.trans (hb4.mono (by omega)), by have := hb4.size; omega⟩
  have hz4 : w.heap.size + 1 ≤ w4.heap.size := by have := hb4.size; omega
  have hsm := ops_small ho x.length x [] (Nat.le_refl _) (by simpa using hx)
  have hnl : (opsR o x []).length ≤ 8196 := by
    have h1 := len_bytes (opsR o x [])
    have h2 := ops_bytes_all ho x.length x [] (Nat.le_refl _) (by simpa using hx)
    simp at h2; omega
  have HDD := Lib.hid (diffD_ops ho hx)
  rw [hw4]
  clear hw4 HB3 HL3
  refine wpIn_rangeFunc_ownH rfl (by omega) (gf := 35) (lb := #[.pointer (some ⟨w3.heap.size, 0, none⟩), .pointer (some ⟨w3.heap.size + 1, 0, none⟩)]) rfl trivial (enters_of Tryd.func35 (by kernel_rfl) rfl)
    (opers_stops (n - 1) (by omega) w3.heap.size (w3.heap.size + 1) o x ho hx hsm w4 bO bX) KOps.trans KOps.putObj (Below.refl _ _) (fun _ => rfl)
    (fun pre W => DifI w w.heap.size (putInt (crcOf o) ++ putInt (crcOf x)) (pre.map Subtype.val) W) (fun _ _ _ => False) (fun s A B row hs hg hr => difI_own w w.heap.size w4.heap.size _ (by omega) (s.map Subtype.val) A B row hs hg hr) (fun _ _ _ _ _ hs _ _ => hs) hI0
    (fun y a' W => ∃ g, W.heap[g]? = some (.cells #[.int .i64 (y.1.n : Int), .int .i64 (y.1.off : Int), .string ⟨y.1.text.toArray⟩] 55 (0, 0)) ∧ a' = { tmps := #[.string ⟨o.toArray⟩, .string ⟨x.toArray⟩, undef, undef, .string ⟨#[]⟩, .pointer (some ⟨w.heap.size, 0, none⟩), .pointer (some ⟨g, 0, none⟩), .string ⟨o.toArray⟩, .int .i64 (o.length : Int), .bool false, .bool false, .string ⟨x.toArray⟩, .int .i64 (x.length : Int), .bool false, .bool false, .string ⟨o.toArray⟩, .int .i64 (crcOf o : Int), .tuple #[], .string ⟨x.toArray⟩, .int .i64 (crcOf x : Int), .tuple #[], .string ⟨o.toArray⟩, .string ⟨x.toArray⟩, .func (.func 35) #[] #[.pointer (some ⟨w3.heap.size, 0, none⟩), .pointer (some ⟨w3.heap.size + 1, 0, none⟩)], y.1.enc, undef, undef, undef, undef], defers := [] })
    (fun y a' s A B row hs hg hr => by obtain ⟨g, h1, h2⟩ := hs; exact ⟨g, grown_cells hg hr h1, h2⟩) ?assign ?body ?done ?stop
  case assign =>
    intro l pre y W K hI hK
    unfold DOp.enc at hK ⊢
    gi_wp2
    have hbW : Below W.heap.size W (W.alloc (.cells #[.int .i64 (y.1.n : Int), .int .i64 (y.1.off : Int), .string ⟨y.1.text.toArray⟩] 55)) := (Below.refl _ _).alloc (Nat.le_refl _) _
    exact hK _ _ ((KeepsOthers.alloc _ _).from _) (KOps.below hbW) ⟨isB_below hI.bld hbW, hI.bel.alloc hI.bel.size _, by have := hI.top; simp; omega⟩ ⟨W.heap.size, heap_alloc_new _ _, rfl⟩
  case stop =>
    rintro D c pre W _ _ h _
    exact h.elim
  case body =>
    rintro l pre y a' W hl hr hI ⟨g, hg, rfl⟩ hlt
    have d0 : W.cell? ⟨g, 0, none⟩ = some (.int .i64 (y.1.n : Int)) := by rw [Lib.cell_of_heap hg]; rfl
    have d1 : W.cell? ⟨g, 1, none⟩ = some (.int .i64 (y.1.off : Int)) := by rw [Lib.cell_of_heap hg]; rfl
    have d2 : W.cell? ⟨g, 2, none⟩ = some (.string ⟨y.1.text.toArray⟩) := by rw [Lib.cell_of_heap hg]; rfl
    have hfw := few_bytes pre
    have HW := Lib.hid (wop_any w.heap.size (putInt (crcOf o) ++ putInt (crcOf x) ++ (pre.map Subtype.val).flatMap DOp.bytes) y.1 W hI.bld (by rw [List.length_append, List.length_append]; omega) (by have := y.2; omega) (by have := y.2; omega) (by have := y.2; omega) hI.top)
    have HI := Lib.hid hI
    unfold DOp.enc at HW ⊢
    clear hI hg hr
    gi_wp2
    refine ⟨trivial, (fun h => by cases h), ?_⟩
    refine (CallsIn.inRound l (callsIn_wide.2 HW.out)).mono ?_
    rintro e w5 ⟨rfl, hB5, hb5, hk5⟩
    have hPost : KeepsFrom w4.heap.size W w5 ∧ KOps W w5 ∧ DifI w w.heap.size (putInt (crcOf o) ++ putInt (crcOf x)) ((pre ++ [y]).map Subtype.val) w5 :=
      ⟨hk5.from _, hk5.ops, by simpa using hB5, HI.out.bel.trans hb5, by have := HI.out.top; have := hb5.size; omega⟩
    have HP := Lib.hid hPost
    clear hB5 hb5 hk5 hPost
    gi_wp2
    exact HP.out
  case done =>
    rintro D ys W hD hys hI hK
    obtain ⟨hB, hL, hT⟩ := hI
    rw [hys, ← HDD.out] at hB
    have HBs := Lib.hid (bld_string_K w.heap.size w.heap.size (diffD o x) W hB (diff_pos ho hx))
    have HL := Lib.hid hL; have HKK := Lib.hid hK
    clear hB hL hys hK
    gi_wp2
    refine ⟨trivial, (fun h => by cases h), (callsIn_wide.2 HBs.out).mono ?_⟩
    rintro e w6 ⟨rfl, hb6, hk6⟩
    have hK6 := hk6.same _ _ HKK.out (stab_off rfl)
    have HB6 := Lib.hid (HL.out.trans hb6)
    clear hb6 hk6
    gi_wp2
    refine ⟨by simp, .inl ⟨_, _, rfl, run_takeDeferred hK6, ?_⟩⟩
    exact ⟨_, results_tmp rfl _ _ _, rfl, HB6.out.trans (belowK_b (w := w) (Nat.le_refl _) w6 D _ _ (by omega) hK6 rfl rfl)⟩
end Go.Proofs.YtfdholhfdceedaaDoor
