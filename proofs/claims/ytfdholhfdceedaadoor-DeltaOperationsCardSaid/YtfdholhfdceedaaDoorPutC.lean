/- wire's PutInt, negative numbers; PutString. -/
import Derived.Test.YtfdholhfdceedaaDoorPutB
import Derived.Test.YtfdholhfdceedaaDoorWireG
namespace Go.Proofs.YtfdholhfdceedaaDoor
open Go.RowKit Go.Shelf

attribute [local go_sem] Oper.semAt_some

set_option maxRecDepth 100000 in
set_option maxHeartbeats 1000000 in
theorem putNeg_in (n : Nat) (hn : 3 ≤ n) (m : Nat) (h1 : 1 ≤ m) (h2 : m ≤ 4611686018427387903) (w : World) :
    CallsIn Fence.wide n Tryd.prog 14 #[.int .i64 (-(m : Int))] w (PutEnd (putTup (putInt (-(m : Int)))) w) := by
  have g1 : decide (-(m : Int) < -4611686018427387903) = false := by rw [decide_eq_false_iff_not]; omega
  have g2 : decide (4611686018427387903 < -(m : Int)) = false := by rw [decide_eq_false_iff_not]; omega
  have g3 : decide (-(m : Int) < 0) = true := by rw [decide_eq_true_eq]; omega
  refine callsIn_of_wp_marks Tryd.func14 rfl trivial ?_ rfl
  simp only [Tryd.ntmps14, List.size_toArray, List.length_cons, List.length_nil, Nat.reduceAdd, Nat.reduceSub, Array.replicate_succ, Array.replicate_zero, List.push_toArray, List.append_toArray, List.nil_append, List.cons_append]
  gi_wp2
  refine ⟨trivial, (fun h => by cases h), (callsIn_wide.2 (groups_any _ _)).mono ?_⟩
  rintro e w' ⟨rfl, rfl⟩
  gi_wp2
  have bZ := Boxed.new ((w.alloc (.cells #[.int .u8 0, .int .u8 0, .int .u8 0, .int .u8 0, .int .u8 0, .int .u8 0, .int .u8 0, .int .u8 0, .int .u8 0, .int .u8 0] 63)).alloc (.cells #[.int .i64 0] 3)) 62 (.int .u64 (2 * (m : Int) - 1))
  have bS := Boxed.new (w.alloc (.cells #[.int .u8 0, .int .u8 0, .int .u8 0, .int .u8 0, .int .u8 0, .int .u8 0, .int .u8 0, .int .u8 0, .int .u8 0, .int .u8 0] 63)) 3 (.int .i64 0)
  have bT := heap_alloc_new w (.cells #[.int .u8 0, .int .u8 0, .int .u8 0, .int .u8 0, .int .u8 0, .int .u8 0, .int .u8 0, .int .u8 0, .int .u8 0, .int .u8 0] 63)
  rw [World.size_alloc] at bS
  rw [World.size_alloc, World.size_alloc] at bZ
  have hI0 : PutI w [] (((w.alloc (.cells #[.int .u8 0, .int .u8 0, .int .u8 0, .int .u8 0, .int .u8 0, .int .u8 0, .int .u8 0, .int .u8 0, .int .u8 0, .int .u8 0] 63)).alloc (.cells #[.int .i64 0] 3)).alloc (.cells #[.int .u64 (2 * (m : Int) - 1)] 62)) := by
    refine ⟨⟨_, (Below.heap_alloc _ _ _ (by simp; omega)).trans ((Below.heap_alloc _ _ _ (by simp)).trans bT), rfl, by simp, by simp⟩, bS.alloc _, (((Below.refl _ w).alloc (Nat.le_refl _) _).alloc (by simp) _).alloc (by simp; omega) _, by simp⟩
  have hcz : (((w.alloc (.cells #[.int .u8 0, .int .u8 0, .int .u8 0, .int .u8 0, .int .u8 0, .int .u8 0, .int .u8 0, .int .u8 0, .int .u8 0, .int .u8 0] 63)).alloc (.cells #[.int .i64 0] 3)).alloc (.cells #[.int .u64 (2 * (m : Int) - 1)] 62)).cell? ⟨w.heap.size + 1 + 1, 0, none⟩ = some (.int .u64 ((2 * m - 1 : Nat) : Int)) := by
    have := bZ.cell
    rw [this]; congr 2; omega
  have hzz : zig (-(m : Int)) = 2 * m - 1 := by unfold zig; rw [if_pos (by omega)]; omega
  have hR : putInt (-(m : Int)) = groupsF 9 (2 * m - 1) := by unfold putInt; rw [hzz]
  have hgl : (groupsF 9 (2 * m - 1)).length ≤ 9 := by
    have := putInt_len (n := (-(m : Int))) (by omega) (by omega); rw [hR] at this; exact this.2
  have HRR := Lib.hid hR
  have HGL := Lib.hid hgl
  clear hR hgl hzz
  refine' wpIn_rangeFunc_ownG rfl (by omega) (gf := 39) (lb := #[.pointer (some ⟨w.heap.size + 1 + 1, 0, none⟩)]) rfl trivial (enters_of Tryd.func39 (by kernel_rfl) rfl)
    (groups_stops (n - 1) (by omega) (w.heap.size + 1 + 1) (2 * m - 1) (by omega) _ (by simp) hcz) KeepsAt.trans (KeepsAt.putObj (by simp)) (Below.refl _ _) (fun _ => rfl)
    (PutI w) (fun _ _ _ => False) (putI_own w _ (by simp; omega)) (fun _ _ _ _ _ hs _ _ => hs) hI0
    _ ?assign ?body ?done ?stop
  case assign =>
    intro l x W K hK
    gi_wp2
    exact hK
  case stop =>
    rintro D c pre W _ _ h _
    exact h.elim
  case body =>
    rintro l pre x W hI hlt
    have hlt9 : pre.length < 10 := by have := HGL.out; omega
    obtain ⟨⟨C, hC, hT⟩, hS, hB, hZ⟩ := hI
    have hTp := hT.push hlt9 x
    obtain ⟨v0, hv0⟩ : ∃ v, C[pre.length]? = some v := ⟨_, Array.getElem?_eq_getElem (by rw [hT.1]; exact hlt9)⟩
    have c0 : W.cell? ⟨w.heap.size, pre.length, none⟩ = some v0 := by rw [Lib.cell_of_heap hC]; exact hv0
    have f0 : W.frozen? ⟨w.heap.size, pre.length, none⟩ = false := Lib.frozen_of_heap hC _
    have c1 := hS.cell
    have f1 := hS.frozen
    unfold encU
    gi_wp2
    refine ⟨((KeepsOthers.setCell _ _ _).trans (KeepsOthers.setCell _ _ _)).from _, ⟨by simp [World.setCell], ?_⟩, ⟨_, ?_, hTp⟩, ?_, ?_, ?_⟩
    · exact (Below.heap_setCell _ _ _ _ (by simp)).trans (Below.heap_setCell _ _ _ _ (by simp; omega))
    · exact (Below.heap_setCell _ _ _ _ (by simp)).trans (heap_setCell_same W w.heap.size pre.length C 63 _ hC)
    · have h3 : Boxed (W.setCell ⟨w.heap.size, pre.length, none⟩ (.int .u8 (x.toNat : Int))) (w.heap.size + 1) 3 (.int .i64 (pre.length : Int)) := (Below.heap_setCell _ _ _ _ (by simp)).trans hS
      have h4 := h3.set (.int .i64 ((pre ++ [x]).length : Int))
      simpa using h4
    · exact (hB.setCell (p := ⟨w.heap.size, pre.length, none⟩) (Nat.le_refl _) _).setCell (p := ⟨w.heap.size + 1, 0, none⟩) (by simp) _
    · simp [World.setCell]; omega
  case done =>
    rintro D ys W hD rfl hI hK
    obtain ⟨⟨C, hC, hT⟩, hS, hB, hZ⟩ := hI
    have c1 := hS.cell
    have hsl := slice_ten w.heap.size (groupsF 9 (2 * m - 1)).length hT.2.2 W
    have hconv : (convert 45 9 (.slice (some ⟨w.heap.size, 0, none⟩) (groupsF 9 (2 * m - 1)).length 10)).run Tryd.prog W = .ok (.string ⟨(groupsF 9 (2 * m - 1)).toArray⟩) W :=
      run_convert_bytes_back _ 45 9 5 ⟨w.heap.size, 0, none⟩ 10 (groupsF 9 (2 * m - 1)) Tryd.underlying45 Tryd.underlying5 Tryd.underlying9 (fun j hj => by
        rw [addr_add, Lib.cell_of_heap hC]
        exact hT.2.1 j hj)
    have hl9 := HGL.out
    generalize groupsF 9 (2 * m - 1) = G at *
    gi_wp2
    refine ⟨by simp, .inl ⟨_, _, rfl, run_takeDeferred hK, ?_⟩⟩
    refine ⟨putTup (putInt (-(m : Int))), by rw [HRR.out]; simp [results, Tryd.results14, go_sem, putTup], rfl, ?_⟩
    exact hB.trans (belowK_b (w := w) (Nat.le_refl _) W D _ _ (by simp at hD; omega) hK rfl rfl)

theorem putInt_any (i : Int) (w : World) (h1 : -4611686018427387903 ≤ i) (h2 : i ≤ 4611686018427387903) :
    Calls Tryd.prog 14 #[.int .i64 i] w fun e w' => e = .returned (putTup (putInt i)) ∧ Below w.heap.size w w' := by
  by_cases h : 0 ≤ i
  · exact callsIn_wide.1 (putInt_in 3 (by omega) i h h2 w)
  · obtain ⟨m, rfl⟩ : ∃ m : Nat, i = -(m : Int) := ⟨(-i).toNat, by omega⟩
    exact callsIn_wide.1 (putNeg_in 3 (by omega) m (by omega) (by omega) w)

set_option maxHeartbeats 400000 in
theorem putString_any (x : List UInt8) (w : World) (hx : x.length ≤ 65536) :
    Calls Tryd.prog 15 #[.string ⟨x.toArray⟩] w fun e w' => e = .returned (putTup (putStr x)) ∧ Below w.heap.size w w' := by
  have hl := putInt_len (n := (x.length : Int)) (by omega) (by omega)
  have hfin : putTup (putStr x) = .tuple #[.string ⟨(putInt x.length ++ x).toArray⟩, .int .i64 0] := rfl
  rw [hfin]
  clear hfin
  obtain ⟨P, hP⟩ : ∃ P, putInt (x.length : Int) = P := ⟨_, rfl⟩
  rw [hP] at hl ⊢
  have HP := Lib.hid hP; clear hP
  obtain ⟨hl1, hl2⟩ := hl
  go_enter Tryd.func15, Tryd.ntmps15
  go_wp2_with fail
  refine (putInt_any x.length _ (by omega) (by omega)).mono ?_
  rw [HP.out]
  unfold putTup
  rintro e w' ⟨rfl, hb⟩
  go_wp2
  go_ret2
  exact ⟨by rw [← str_add]; rfl, hb⟩
end Go.Proofs.YtfdholhfdceedaaDoor
