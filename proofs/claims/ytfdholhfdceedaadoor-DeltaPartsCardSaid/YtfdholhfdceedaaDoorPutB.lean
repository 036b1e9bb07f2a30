/- wire's PutInt. -/
import Derived.Test.YtfdholhfdceedaaDoorPutA
import Derived.Test.YtfdholhfdceedaaDoorWireG
namespace Go.Proofs.YtfdholhfdceedaaDoor
open Go.RowKit Go.Shelf

attribute [local go_sem] Oper.semAt_some

theorem ten_len : Tryd.prog.arrayLen 63 = 10 := by kernel_rfl
theorem ten_elem : Tryd.prog.elem 63 = 5 := by kernel_rfl
theorem slice_ten (b n : Nat) (h : n ≤ 10) (w : World) : (Instr.sliceAt 63 (.pointer (some ⟨b, 0, none⟩)) none (some (.int .i64 (n : Int))) none).run Tryd.prog w = .ok (.slice (some ⟨b, 0, none⟩) n 10) w := by
  have hz : (sizeOf 5).run Tryd.prog w = .ok 1 w := by kernel_rfl
  rw [run_sliceAt_array_h w 63 ⟨b, 0, none⟩ (by rw [ten_len, ten_elem]; exact Tryd.underlying63) .i64 n (by omega) (by rw [ten_len]; omega), ten_len, ten_elem, hz]
  simp [Result.andThen, slicedAt, Addr.add]

/-- the first bytes of an array of ten are these -/
def TenIs (C : Array Value) (cur : List UInt8) : Prop := C.size = 10 ∧ (∀ j (h : j < cur.length), C[j]? = some (.int .u8 (cur[j].toNat : Int))) ∧ cur.length ≤ 10
theorem TenIs.push {C : Array Value} {cur : List UInt8} (h : TenIs C cur) (hf : cur.length < 10) (c : UInt8) : TenIs (C.setIfInBounds cur.length (.int .u8 (c.toNat : Int))) (cur ++ [c]) := by
  refine ⟨by simp [h.1], fun j hj => ?_, by simp; omega⟩
  rw [Array.getElem?_setIfInBounds]
  by_cases e : cur.length = j
  · subst e; simp [h.1, hf]
  · simp at hj
    have hj' : j < cur.length := by omega
    rw [if_neg e, h.2.1 j hj', List.getElem_append_left hj']

/-- what the loop of PutInt keeps -/
structure PutI (w : World) (pre : List UInt8) (W : World) : Prop where
  ten : ∃ C, W.heap[w.heap.size]? = some (.cells C 63 (0, 0)) ∧ TenIs C pre
  size : Boxed W (w.heap.size + 1) 3 (.int .i64 (pre.length : Int))
  bel : Below w.heap.size w W
  top : w.heap.size + 3 ≤ W.heap.size
theorem grown_cells {A B : World} {row : Option Nat} {k : Nat} {cs : Array Value} {t : TypeId} {fr : Nat × Nat} {m : Nat} (hg : A.grownBy B row) (hr : ∀ r, row = some r → m ≤ r ∧ ∃ o : Obj, A.heap[r]? = some o ∧ o.isCells = false) (h : A.heap[k]? = some (.cells cs t fr)) : B.heap[k]? = some (.cells cs t fr) :=
  (hg.block k (Array.getElem?_eq_some_iff.1 h).1 (fun e => by
    obtain ⟨_, o, h1, h2⟩ := hr k e.symm
    rw [h] at h1; cases h1; cases h2)).trans h
theorem putI_own (w : World) (m : Nat) (hm : w.heap.size ≤ m) : OwnFrom m (PutI w) := fun s A B row hs hg hr => by
  obtain ⟨⟨C, h1, h2⟩, h3, h4, h5⟩ := hs
  exact ⟨⟨C, grown_cells hg hr h1, h2⟩, grown_cells hg hr h3, h4.grown hg (by omega) (fun j e => Nat.le_trans hm (hr j e).1), Nat.le_trans h5 hg.size⟩

def PutEnd (R : Value) (w : World) (e : Ending) (w' : World) : Prop := e = .returned R ∧ Below w.heap.size w w'

set_option maxRecDepth 100000 in
set_option maxHeartbeats 1000000 in
theorem putInt_in (n : Nat) (hn : 3 ≤ n) (i : Int) (h1 : 0 ≤ i) (h2 : i ≤ 4611686018427387903) (w : World) :
    CallsIn Fence.wide n Tryd.prog 14 #[.int .i64 i] w (PutEnd (putTup (putInt i)) w) := by
  have g1 : decide (i < -4611686018427387903) = false := by rw [decide_eq_false_iff_not]; omega
  have g2 : decide (4611686018427387903 < i) = false := by rw [decide_eq_false_iff_not]; omega
  have g3 : decide (i < 0) = false := by rw [decide_eq_false_iff_not]; omega
  obtain ⟨z, rfl⟩ : ∃ z : Nat, i = z := ⟨i.toNat, by omega⟩
  refine callsIn_of_wp_marks Tryd.func14 rfl trivial ?_ rfl
  simp only [Tryd.ntmps14, List.size_toArray, List.length_cons, List.length_nil, Nat.reduceAdd, Nat.reduceSub, Array.replicate_succ, Array.replicate_zero, List.push_toArray, List.append_toArray, List.nil_append, List.cons_append]
  gi_wp2
  refine ⟨trivial, (fun h => by cases h), (callsIn_wide.2 (groups_any _ _)).mono ?_⟩
  rintro e w' ⟨rfl, rfl⟩
  gi_wp2
  have bZ := Boxed.new ((w.alloc (.cells #[.int .u8 0, .int .u8 0, .int .u8 0, .int .u8 0, .int .u8 0, .int .u8 0, .int .u8 0, .int .u8 0, .int .u8 0, .int .u8 0] 63)).alloc (.cells #[.int .i64 0] 3)) 62 (.int .u64 (2 * (z : Int)))
  have bS := Boxed.new (w.alloc (.cells #[.int .u8 0, .int .u8 0, .int .u8 0, .int .u8 0, .int .u8 0, .int .u8 0, .int .u8 0, .int .u8 0, .int .u8 0, .int .u8 0] 63)) 3 (.int .i64 0)
  have bT := heap_alloc_new w (.cells #[.int .u8 0, .int .u8 0, .int .u8 0, .int .u8 0, .int .u8 0, .int .u8 0, .int .u8 0, .int .u8 0, .int .u8 0, .int .u8 0] 63)
  rw [World.size_alloc] at bS
  rw [World.size_alloc, World.size_alloc] at bZ
  have hI0 : PutI w [] (((w.alloc (.cells #[.int .u8 0, .int .u8 0, .int .u8 0, .int .u8 0, .int .u8 0, .int .u8 0, .int .u8 0, .int .u8 0, .int .u8 0, .int .u8 0] 63)).alloc (.cells #[.int .i64 0] 3)).alloc (.cells #[.int .u64 (2 * (z : Int))] 62)) := by
    refine ⟨⟨_, (Below.heap_alloc _ _ _ (by simp; omega)).trans ((Below.heap_alloc _ _ _ (by simp)).trans bT), rfl, by simp, by simp⟩, bS.alloc _, (((Below.refl _ w).alloc (Nat.le_refl _) _).alloc (by simp) _).alloc (by simp; omega) _, by simp⟩
  have hcz : (((w.alloc (.cells #[.int .u8 0, .int .u8 0, .int .u8 0, .int .u8 0, .int .u8 0, .int .u8 0, .int .u8 0, .int .u8 0, .int .u8 0, .int .u8 0] 63)).alloc (.cells #[.int .i64 0] 3)).alloc (.cells #[.int .u64 (2 * (z : Int))] 62)).cell? ⟨w.heap.size + 1 + 1, 0, none⟩ = some (.int .u64 ((2 * z : Nat) : Int)) := by
    have := bZ.cell
    rw [this]; congr 1
  have hzz : zig (z : Int) = 2 * z := by unfold zig; rw [if_neg (by omega)]; omega
  have hR : putInt (z : Int) = groupsF 9 (2 * z) := by unfold putInt; rw [hzz]
  have hgl : (groupsF 9 (2 * z)).length ≤ 9 := by
    have := putInt_len (n := (z : Int)) (by omega) (by omega); rw [hR] at this; exact this.2
  have HRR := Lib.hid hR
  have HGL := Lib.hid hgl
  clear hR hgl hzz
  refine' wpIn_rangeFunc_ownG rfl (by omega) (gf := 39) (lb := #[.pointer (some ⟨w.heap.size + 1 + 1, 0, none⟩)]) rfl trivial (enters_of Tryd.func39 (by kernel_rfl) rfl)
    (groups_stops (n - 1) (by omega) (w.heap.size + 1 + 1) (2 * z) (by omega) _ (by simp) hcz) KeepsAt.trans (KeepsAt.putObj (by simp)) (Below.refl _ _) (fun _ => rfl)
    (PutI w) (fun _ _ _ => False) (putI_own w _ (by simp; omega)) (fun _ _ _ _ _ hs _ _ => hs) hI0
    _ ?assign ?body ?done ?stop
  case assign =>
    intro l x W K hK
    gi_wp2
    exact hK
  case stop =>
    rintro D c pre W _ _ h _
    exact h.elim
  case body =>
    rintro l pre x W hI hlt
    have hlt9 : pre.length < 10 := by have := HGL.out; omega
    obtain ⟨⟨C, hC, hT⟩, hS, hB, hZ⟩ := hI
    have hTp := hT.push hlt9 x
    obtain ⟨v0, hv0⟩ : ∃ v, C[pre.length]? = some v := ⟨_, Array.getElem?_eq_getElem (by rw [hT.1]; exact hlt9)⟩
    have c0 : W.cell? ⟨w.heap.size, pre.length, none⟩ = some v0 := by rw [Lib.cell_of_heap hC]; exact hv0
    have f0 : W.frozen? ⟨w.heap.size, pre.length, none⟩ = false := Lib.frozen_of_heap hC _
    have c1 := hS.cell
    have f1 := hS.frozen
    unfold encU
    gi_wp2
    refine ⟨((KeepsOthers.setCell _ _ _).trans (KeepsOthers.setCell _ _ _)).from _, ⟨by simp [World.setCell], ?_⟩, ⟨_, ?_, hTp⟩, ?_, ?_, ?_⟩
    · exact (Below.heap_setCell _ _ _ _ (by simp)).trans (Below.heap_setCell _ _ _ _ (by simp; omega))
    · exact (Below.heap_setCell _ _ _ _ (by simp)).trans (heap_setCell_same W w.heap.size pre.length C 63 _ hC)
    · have h3 : Boxed (W.setCell ⟨w.heap.size, pre.length, none⟩ (.int .u8 (x.toNat : Int))) (w.heap.size + 1) 3 (.int .i64 (pre.length : Int)) := (Below.heap_setCell _ _ _ _ (by simp)).trans hS
      have h4 := h3.set (.int .i64 ((pre ++ [x]).length : Int))
      simpa using h4
    · exact (hB.setCell (p := ⟨w.heap.size, pre.length, none⟩) (Nat.le_refl _) _).setCell (p := ⟨w.heap.size + 1, 0, none⟩) (by simp) _
    · simp [World.setCell]; omega
  case done =>
    rintro D ys W hD rfl hI hK
    obtain ⟨⟨C, hC, hT⟩, hS, hB, hZ⟩ := hI
    have c1 := hS.cell
    have hsl := slice_ten w.heap.size (groupsF 9 (2 * z)).length hT.2.2 W
    have hconv : (convert 45 9 (.slice (some ⟨w.heap.size, 0, none⟩) (groupsF 9 (2 * z)).length 10)).run Tryd.prog W = .ok (.string ⟨(groupsF 9 (2 * z)).toArray⟩) W :=
      run_convert_bytes_back _ 45 9 5 ⟨w.heap.size, 0, none⟩ 10 (groupsF 9 (2 * z)) Tryd.underlying45 Tryd.underlying5 Tryd.underlying9 (fun j hj => by
        rw [addr_add, Lib.cell_of_heap hC]
        exact hT.2.1 j hj)
    have hl9 := HGL.out
    generalize groupsF 9 (2 * z) = G at *
    gi_wp2
    refine ⟨by simp, .inl ⟨_, _, rfl, run_takeDeferred hK, ?_⟩⟩
    refine ⟨putTup (putInt (z : Int)), by rw [HRR.out]; simp [results, Tryd.results14, go_sem, putTup], rfl, ?_⟩
    exact hB.trans (belowK_b (w := w) (Nat.le_refl _) W D _ _ (by simp at hD; omega) hK rfl rfl)
end Go.Proofs.YtfdholhfdceedaaDoor
