/- Facts and contracts for the laws of the sender, part 7. Conditions: those that each theorem names. -/
import Derived.Test.YtefloieanpgnmaaDoorK02
import Derived.Test.YtefloieanpgnmaaDoorK01
import Derived.RangeFuncNested
import Derived.Deep.DeepCutAuto
import Derived.Lib.Hide
import Derived.RangeFuncBound
import Derived.RangeFuncCalls
import Derived.Shelf.Abstract
import Derived.OwnWalkIn
import Derived.TacticsInMore
import Derived.LoopNIn
import Derived.LoopIn
import Derived.Laws.IdiomStrings
import Derived.Deep.RegionWith
import Derived.Test.YtefloieanpgnmaaDoorProg
import Derived.WalkKit
import Derived.WalkSpells
import Derived.WalkLawsBesides
import Derived.LaidEql
import Derived.Stop.Asserts
import Derived.RowKitTokens
/- wire's iterator over the groups of a number. -/
namespace Go.Proofs.YtefloieanpgnmaaDoor
open Go.RowKit Go.Shelf

attribute [local go_sem] Oper.semAt_some

/-- 'groups(z)': z is boxed; the function value captures the box. -/
theorem groups_any (z : Int) (w : World) :
    Calls Tryd.prog 86 #[.int .u64 z] w fun e w' => e = .returned (.func (.func 88) #[] #[.pointer (some ⟨w.heap.size, 0, none⟩)]) ∧ w' = w.alloc (.cells #[.int .u64 z] 92) := by
  go_enter Tryd.func86, Tryd.ntmps86
  go_wp2
  go_ret
  exact ⟨rfl, rfl⟩

def encU (c : UInt8) : Value := .int .u8 (c.toNat : Int)

set_option maxRecDepth 100000 in
set_option maxHeartbeats 1000000 in
theorem groups1_in (n l Bs : Nat) (hn : 1 ≤ n) (z : Nat) (hz : z < 9223372036854775808) (J Jx : List UInt8 → World → Prop) (W : World) (_ : Bs < W.heap.size)
    (hY : ∀ pre x W, J pre W → pre.length < (groupsF 9 z).length → YieldAt Fence.wide (n - 1) Tryd.prog l #[encU x] W fun e W' =>
      (e = .returned (.bool true) ∧ J (pre ++ [x]) W' ∧ KeepsAt Bs W W') ∨ (e = .returned (.bool false) ∧ Jx (pre ++ [x]) W'))
    (hBn : W.cell? ⟨Bs, 0, none⟩ = some (.int .u64 (z : Int))) (h0 : J [] W) :
    CallsIn Fence.wide n Tryd.prog 88 #[.func (.yield l) #[] #[], .pointer (some ⟨Bs, 0, none⟩)] W fun e W' => (∃ v, e = .returned v) ∧
      ((∃ ys, ys = groupsF 9 z ∧ J ys W') ∨ (∃ pre, pre <+: groupsF 9 z ∧ Jx pre W')) := by
  refine callsIn_wide.2 ?_
  have HY := Lib.hid hY; clear hY
  go_enter Tryd.func88, Tryd.ntmps88
  go_wp2
  go_loopw [3] (fun r wr => ∃ (Z : Nat) (pre : List UInt8), r = .int .u64 (Z : Int) ∧ Z < 9223372036854775808 ∧ pre.length ≤ 9 ∧ Hid (Z < 128 ^ (9 - pre.length + 1)) ∧ Hid (groupsF 9 z = pre ++ groupsF (9 - pre.length) Z) ∧ J pre wr)
    (fun r _ => (intOf r).toNat)
  case atStart => exact ⟨z, [], rfl, hz, by simp, Lib.hid (by simp; omega), Lib.hid rfl, h0⟩
  case round =>
    clear h0
    obtain ⟨Z, pre, rfl, hZ, hp9, hZp, hx, hJp⟩ := hrel
    by_cases hc : (128 : Int) ≤ (Z : Int)
    · have hkl : pre.length < 9 := by
        rcases Nat.lt_or_ge pre.length 9 with h | h
        · exact h
        · have := hZp.out; rw [show 9 - pre.length + 1 = 1 by omega] at this; omega
      obtain ⟨c, hcc⟩ : ∃ c : UInt8, c = UInt8.ofNat (Z % 128 + 128) := ⟨_, rfl⟩
      have hcn : (c.toNat : Int) = (Z : Int) % 128 + 128 := by rw [hcc, ofNat_toNat (by omega)]; omega
      have hstep : groupsF 9 z = (pre ++ [c]) ++ groupsF (9 - (pre ++ [c]).length) (Z / 128) := by
        rw [hx.out, show 9 - pre.length = (9 - (pre.length + 1)) + 1 by omega, groupsF, if_neg (by omega), hcc]; simp
      have HS := Lib.hid hstep
      have HP := Lib.hid (by have := hZp.out; rw [show 9 - pre.length + 1 = (9 - (pre ++ [c]).length + 1) + 1 by rw [List.length_append, List.length_singleton]; omega, Nat.pow_succ] at this; omega : Z / 128 < 128 ^ (9 - (pre ++ [c]).length + 1))
      have hlt : pre.length < (groupsF 9 z).length := by rw [hstep, List.length_append, List.length_append, List.length_singleton]; omega
      obtain ⟨fn, tmps, assign, body, hy, hR⟩ := HY.out pre c _ hJp hlt
      unfold encU at hy
      rw [hcn] at hy
      clear hstep hcc hcn hx hZp
      go_upto_region 2 with (fail)
      refine (wpIn_wide (n := n)).1 ?_
      gi_wp2
      refine hR.mono ?_
      rintro e W3 (⟨rfl, hJ3, hk3⟩ | ⟨rfl, hJx3⟩)
      · gi_wp2
        go_wp2
        go_roundw
        case rel => exact ⟨Z / 128, pre ++ [c], by go_num, by omega, by simp; omega, HP, HS, hJ3⟩
        case measure => simp [intOf]; omega
      · gi_wp2
        go_wp2
        exact bodyPost_ret (v := .tuple #[]) (by simp [results, Tryd.results88, go_sem]) rfl ⟨⟨_, rfl⟩, .inr ⟨pre ++ [c], ⟨_, HS.out.symm⟩, hJx3⟩⟩
    · obtain ⟨c, hcc⟩ : ∃ c : UInt8, c = UInt8.ofNat Z := ⟨_, rfl⟩
      have hcn : (c.toNat : Int) = (Z : Int) := by rw [hcc, ofNat_toNat (by omega)]
      have hfin : groupsF 9 z = pre ++ [c] := by
        rw [hx.out, hcc]
        cases hk9 : 9 - pre.length with
        | zero => rfl
        | succ f => rw [groupsF, if_pos (by omega)]
      have HF := Lib.hid hfin
      have hlt : pre.length < (groupsF 9 z).length := by rw [hfin]; simp
      obtain ⟨fn, tmps, assign, body, hy, hR⟩ := HY.out pre c _ hJp hlt
      unfold encU at hy
      rw [hcn] at hy
      clear hfin hcc hcn hx hZp
      go_upto_region 4 with (fail)
      refine (wpIn_wide (n := n)).1 ?_
      gi_wp2
      refine hR.mono ?_
      rintro e W3 (⟨rfl, hJ3, hk3⟩ | ⟨rfl, hJx3⟩)
      · gi_wp2
        go_wp2
        go_end0
        exact ⟨⟨_, rfl⟩, .inl ⟨_, HF.out.symm, hJ3⟩⟩
      · gi_wp2
        go_wp2
        go_end0
        exact ⟨⟨_, rfl⟩, .inr ⟨pre ++ [c], by rw [HF.out]; exact List.prefix_refl _, hJx3⟩⟩

theorem groups_stops (n : Nat) (hn : 1 ≤ n) (Bs z : Nat) (hz : z < 9223372036854775808) (w : World) (hBs : Bs < w.heap.size) (hc : w.cell? ⟨Bs, 0, none⟩ = some (.int .u64 (z : Int))) :
    SeqStopsK Fence.wide n Tryd.prog 88 #[.pointer (some ⟨Bs, 0, none⟩)] (fun x => #[encU x]) (KeepsAt Bs) (fun ys => ys = groupsF 9 z) (fun pre => pre <+: groupsF 9 z) (groupsF 9 z).length w :=
  fun l J Jx W hW _ _ hY h0 => groups1_in n l Bs hn z hz J Jx W (by have := hW.size; omega) hY ((hW.cell (p := ⟨Bs, 0, none⟩) hBs).trans hc) h0
end Go.Proofs.YtefloieanpgnmaaDoor
/- wire's PutInt. -/
namespace Go.Proofs.YtefloieanpgnmaaDoor
open Go.RowKit Go.Shelf

attribute [local go_sem] Oper.semAt_some

theorem ten_len : Tryd.prog.arrayLen 174 = 10 := by kernel_rfl
theorem ten_elem : Tryd.prog.elem 174 = 5 := by kernel_rfl
theorem slice_ten (b n : Nat) (h : n ≤ 10) (w : World) : (Instr.sliceAt 174 (.pointer (some ⟨b, 0, none⟩)) none (some (.int .i64 (n : Int))) none).run Tryd.prog w = .ok (.slice (some ⟨b, 0, none⟩) n 10) w := by
  have hz : (sizeOf 5).run Tryd.prog w = .ok 1 w := by kernel_rfl
  rw [run_sliceAt_array_h w 174 ⟨b, 0, none⟩ (by rw [ten_len, ten_elem]; exact Tryd.underlying174) .i64 n (by omega) (by rw [ten_len]; omega), ten_len, ten_elem, hz]
  simp [Result.andThen, slicedAt, Addr.add]

/-- the first bytes of an array of ten are these -/
def TenIs (C : Array Value) (cur : List UInt8) : Prop := C.size = 10 ∧ (∀ j (h : j < cur.length), C[j]? = some (.int .u8 (cur[j].toNat : Int))) ∧ cur.length ≤ 10
theorem TenIs.push {C : Array Value} {cur : List UInt8} (h : TenIs C cur) (hf : cur.length < 10) (c : UInt8) : TenIs (C.setIfInBounds cur.length (.int .u8 (c.toNat : Int))) (cur ++ [c]) := by
  refine ⟨by simp [h.1], fun j hj => ?_, by simp; omega⟩
  rw [Array.getElem?_setIfInBounds]
  by_cases e : cur.length = j
  · subst e; simp [h.1, hf]
  · simp at hj
    have hj' : j < cur.length := by omega
    rw [if_neg e, h.2.1 j hj', List.getElem_append_left hj']

/-- what the loop of PutInt keeps -/
structure PutI (w : World) (pre : List UInt8) (W : World) : Prop where
  ten : ∃ C, W.heap[w.heap.size]? = some (.cells C 174 (0, 0)) ∧ TenIs C pre
  size : Boxed W (w.heap.size + 1) 3 (.int .i64 (pre.length : Int))
  bel : Below w.heap.size w W
  top : w.heap.size + 3 ≤ W.heap.size
theorem grown_cells {A B : World} {row : Option Nat} {k : Nat} {cs : Array Value} {t : TypeId} {fr : Nat × Nat} {m : Nat} (hg : A.grownBy B row) (hr : ∀ r, row = some r → m ≤ r ∧ ∃ o : Obj, A.heap[r]? = some o ∧ o.isCells = false) (h : A.heap[k]? = some (.cells cs t fr)) : B.heap[k]? = some (.cells cs t fr) :=
  (hg.block k (Array.getElem?_eq_some_iff.1 h).1 (fun e => by
    obtain ⟨_, o, h1, h2⟩ := hr k e.symm
    rw [h] at h1; cases h1; cases h2)).trans h
theorem putI_own (w : World) (m : Nat) (hm : w.heap.size ≤ m) : OwnFrom m (PutI w) := fun s A B row hs hg hr => by
  obtain ⟨⟨C, h1, h2⟩, h3, h4, h5⟩ := hs
  exact ⟨⟨C, grown_cells hg hr h1, h2⟩, grown_cells hg hr h3, h4.grown hg (by omega) (fun j e => Nat.le_trans hm (hr j e).1), Nat.le_trans h5 hg.size⟩

def PutEnd (R : Value) (w : World) (e : Ending) (w' : World) : Prop := e = .returned R ∧ Below w.heap.size w w'

set_option maxRecDepth 100000 in
set_option maxHeartbeats 1000000 in
theorem putInt_in (n : Nat) (hn : 3 ≤ n) (i : Int) (h1 : 0 ≤ i) (h2 : i ≤ 4611686018427387903) (w : World) :
    CallsIn Fence.wide n Tryd.prog 77 #[.int .i64 i] w (PutEnd (putTup (putInt i)) w) := by
  have g1 : decide (i < -4611686018427387903) = false := by rw [decide_eq_false_iff_not]; omega
  have g2 : decide (4611686018427387903 < i) = false := by rw [decide_eq_false_iff_not]; omega
  have g3 : decide (i < 0) = false := by rw [decide_eq_false_iff_not]; omega
  obtain ⟨z, rfl⟩ : ∃ z : Nat, i = z := ⟨i.toNat, by omega⟩
  refine callsIn_of_wp_marks Tryd.func77 rfl trivial ?_ rfl
  simp only [Tryd.ntmps77, List.size_toArray, List.length_cons, List.length_nil, Nat.reduceAdd, Nat.reduceSub, Array.replicate_succ, Array.replicate_zero, List.push_toArray, List.append_toArray, List.nil_append, List.cons_append]
  gi_wp2
  refine ⟨trivial, (fun h => by cases h), (callsIn_wide.2 (groups_any _ _)).mono ?_⟩
  rintro e w' ⟨rfl, rfl⟩
  gi_wp2
  have bZ := Boxed.new ((w.alloc (.cells #[.int .u8 0, .int .u8 0, .int .u8 0, .int .u8 0, .int .u8 0, .int .u8 0, .int .u8 0, .int .u8 0, .int .u8 0, .int .u8 0] 174)).alloc (.cells #[.int .i64 0] 3)) 92 (.int .u64 (2 * (z : Int)))
  have bS := Boxed.new (w.alloc (.cells #[.int .u8 0, .int .u8 0, .int .u8 0, .int .u8 0, .int .u8 0, .int .u8 0, .int .u8 0, .int .u8 0, .int .u8 0, .int .u8 0] 174)) 3 (.int .i64 0)
  have bT := heap_alloc_new w (.cells #[.int .u8 0, .int .u8 0, .int .u8 0, .int .u8 0, .int .u8 0, .int .u8 0, .int .u8 0, .int .u8 0, .int .u8 0, .int .u8 0] 174)
  rw [World.size_alloc] at bS
  rw [World.size_alloc, World.size_alloc] at bZ
  have hI0 : PutI w [] (((w.alloc (.cells #[.int .u8 0, .int .u8 0, .int .u8 0, .int .u8 0, .int .u8 0, .int .u8 0, .int .u8 0, .int .u8 0, .int .u8 0, .int .u8 0] 174)).alloc (.cells #[.int .i64 0] 3)).alloc (.cells #[.int .u64 (2 * (z : Int))] 92)) := by
    refine ⟨⟨_, (Below.heap_alloc _ _ _ (by simp; omega)).trans ((Below.heap_alloc _ _ _ (by simp)).trans bT), rfl, by simp, by simp⟩, bS.alloc _, (((Below.refl _ w).alloc (Nat.le_refl _) _).alloc (by simp) _).alloc (by simp; omega) _, by simp⟩
  have hcz : (((w.alloc (.cells #[.int .u8 0, .int .u8 0, .int .u8 0, .int .u8 0, .int .u8 0, .int .u8 0, .int .u8 0, .int .u8 0, .int .u8 0, .int .u8 0] 174)).alloc (.cells #[.int .i64 0] 3)).alloc (.cells #[.int .u64 (2 * (z : Int))] 92)).cell? ⟨w.heap.size + 1 + 1, 0, none⟩ = some (.int .u64 ((2 * z : Nat) : Int)) := by
    have := bZ.cell
    rw [this]; congr 1
  have hzz : zig (z : Int) = 2 * z := by unfold zig; rw [if_neg (by omega)]; omega
  have hR : putInt (z : Int) = groupsF 9 (2 * z) := by unfold putInt; rw [hzz]
  have hgl : (groupsF 9 (2 * z)).length ≤ 9 := by
    have := putInt_len (n := (z : Int)) (by omega) (by omega); rw [hR] at this; exact this.2
  have HRR := Lib.hid hR
  have HGL := Lib.hid hgl
  clear hR hgl hzz
  refine' wpIn_rangeFunc_ownG rfl (by omega) (gf := 88) (lb := #[.pointer (some ⟨w.heap.size + 1 + 1, 0, none⟩)]) rfl trivial (enters_of Tryd.func88 (by kernel_rfl) rfl)
    (groups_stops (n - 1) (by omega) (w.heap.size + 1 + 1) (2 * z) (by omega) _ (by simp) hcz) KeepsAt.trans (KeepsAt.putObj (by simp)) (Below.refl _ _) (fun _ => rfl)
    (PutI w) (fun _ _ _ => False) (putI_own w _ (by simp; omega)) (fun _ _ _ _ _ hs _ _ => hs) hI0
    _ ?assign ?body ?done ?stop
  case assign =>
    intro l x W K hK
    gi_wp2
    exact hK
  case stop =>
    rintro D c pre W _ _ h _
    exact h.elim
  case body =>
    rintro l pre x W hI hlt
    have hlt9 : pre.length < 10 := by have := HGL.out; omega
    obtain ⟨⟨C, hC, hT⟩, hS, hB, hZ⟩ := hI
    have hTp := hT.push hlt9 x
    obtain ⟨v0, hv0⟩ : ∃ v, C[pre.length]? = some v := ⟨_, Array.getElem?_eq_getElem (by rw [hT.1]; exact hlt9)⟩
    have c0 : W.cell? ⟨w.heap.size, pre.length, none⟩ = some v0 := by rw [Lib.cell_of_heap hC]; exact hv0
    have f0 : W.frozen? ⟨w.heap.size, pre.length, none⟩ = false := Lib.frozen_of_heap hC _
    have c1 := hS.cell
    have f1 := hS.frozen
    unfold encU
    gi_wp2
    refine ⟨((KeepsOthers.setCell _ _ _).trans (KeepsOthers.setCell _ _ _)).from _, ⟨by simp [World.setCell], ?_⟩, ⟨_, ?_, hTp⟩, ?_, ?_, ?_⟩
    · exact (Below.heap_setCell _ _ _ _ (by simp)).trans (Below.heap_setCell _ _ _ _ (by simp; omega))
    · exact (Below.heap_setCell _ _ _ _ (by simp)).trans (heap_setCell_same W w.heap.size pre.length C 174 _ hC)
    · have h3 : Boxed (W.setCell ⟨w.heap.size, pre.length, none⟩ (.int .u8 (x.toNat : Int))) (w.heap.size + 1) 3 (.int .i64 (pre.length : Int)) := (Below.heap_setCell _ _ _ _ (by simp)).trans hS
      have h4 := h3.set (.int .i64 ((pre ++ [x]).length : Int))
      simpa using h4
    · exact (hB.setCell (p := ⟨w.heap.size, pre.length, none⟩) (Nat.le_refl _) _).setCell (p := ⟨w.heap.size + 1, 0, none⟩) (by simp) _
    · simp [World.setCell]; omega
  case done =>
    rintro D ys W hD rfl hI hK
    obtain ⟨⟨C, hC, hT⟩, hS, hB, hZ⟩ := hI
    have c1 := hS.cell
    have hsl := slice_ten w.heap.size (groupsF 9 (2 * z)).length hT.2.2 W
    have hconv : (convert 71 9 (.slice (some ⟨w.heap.size, 0, none⟩) (groupsF 9 (2 * z)).length 10)).run Tryd.prog W = .ok (.string ⟨(groupsF 9 (2 * z)).toArray⟩) W :=
      run_convert_bytes_back _ 71 9 5 ⟨w.heap.size, 0, none⟩ 10 (groupsF 9 (2 * z)) Tryd.underlying71 Tryd.underlying5 Tryd.underlying9 (fun j hj => by
        rw [addr_add, Lib.cell_of_heap hC]
        exact hT.2.1 j hj)
    have hl9 := HGL.out
    generalize groupsF 9 (2 * z) = G at *
    gi_wp2
    refine ⟨by simp, .inl ⟨_, _, rfl, run_takeDeferred hK, ?_⟩⟩
    refine ⟨putTup (putInt (z : Int)), by rw [HRR.out]; simp [results, Tryd.results77, go_sem, putTup], rfl, ?_⟩
    exact hB.trans (belowK_b (w := w) (Nat.le_refl _) W D _ _ (by simp at hD; omega) hK rfl rfl)
end Go.Proofs.YtefloieanpgnmaaDoor
/- wire's PutInt, negative numbers; PutString. -/
namespace Go.Proofs.YtefloieanpgnmaaDoor
open Go.RowKit Go.Shelf

attribute [local go_sem] Oper.semAt_some

set_option maxRecDepth 100000 in
set_option maxHeartbeats 1000000 in
theorem putNeg_in (n : Nat) (hn : 3 ≤ n) (m : Nat) (h1 : 1 ≤ m) (h2 : m ≤ 4611686018427387903) (w : World) :
    CallsIn Fence.wide n Tryd.prog 77 #[.int .i64 (-(m : Int))] w (PutEnd (putTup (putInt (-(m : Int)))) w) := by
  have g1 : decide (-(m : Int) < -4611686018427387903) = false := by rw [decide_eq_false_iff_not]; omega
  have g2 : decide (4611686018427387903 < -(m : Int)) = false := by rw [decide_eq_false_iff_not]; omega
  have g3 : decide (-(m : Int) < 0) = true := by rw [decide_eq_true_eq]; omega
  refine callsIn_of_wp_marks Tryd.func77 rfl trivial ?_ rfl
  simp only [Tryd.ntmps77, List.size_toArray, List.length_cons, List.length_nil, Nat.reduceAdd, Nat.reduceSub, Array.replicate_succ, Array.replicate_zero, List.push_toArray, List.append_toArray, List.nil_append, List.cons_append]
  gi_wp2
  refine ⟨trivial, (fun h => by cases h), (callsIn_wide.2 (groups_any _ _)).mono ?_⟩
  rintro e w' ⟨rfl, rfl⟩
  gi_wp2
  have bZ := Boxed.new ((w.alloc (.cells #[.int .u8 0, .int .u8 0, .int .u8 0, .int .u8 0, .int .u8 0, .int .u8 0, .int .u8 0, .int .u8 0, .int .u8 0, .int .u8 0] 174)).alloc (.cells #[.int .i64 0] 3)) 92 (.int .u64 (2 * (m : Int) - 1))
  have bS := Boxed.new (w.alloc (.cells #[.int .u8 0, .int .u8 0, .int .u8 0, .int .u8 0, .int .u8 0, .int .u8 0, .int .u8 0, .int .u8 0, .int .u8 0, .int .u8 0] 174)) 3 (.int .i64 0)
  have bT := heap_alloc_new w (.cells #[.int .u8 0, .int .u8 0, .int .u8 0, .int .u8 0, .int .u8 0, .int .u8 0, .int .u8 0, .int .u8 0, .int .u8 0, .int .u8 0] 174)
  rw [World.size_alloc] at bS
  rw [World.size_alloc, World.size_alloc] at bZ
  have hI0 : PutI w [] (((w.alloc (.cells #[.int .u8 0, .int .u8 0, .int .u8 0, .int .u8 0, .int .u8 0, .int .u8 0, .int .u8 0, .int .u8 0, .int .u8 0, .int .u8 0] 174)).alloc (.cells #[.int .i64 0] 3)).alloc (.cells #[.int .u64 (2 * (m : Int) - 1)] 92)) := by
    refine ⟨⟨_, (Below.heap_alloc _ _ _ (by simp; omega)).trans ((Below.heap_alloc _ _ _ (by simp)).trans bT), rfl, by simp, by simp⟩, bS.alloc _, (((Below.refl _ w).alloc (Nat.le_refl _) _).alloc (by simp) _).alloc (by simp; omega) _, by simp⟩
  have hcz : (((w.alloc (.cells #[.int .u8 0, .int .u8 0, .int .u8 0, .int .u8 0, .int .u8 0, .int .u8 0, .int .u8 0, .int .u8 0, .int .u8 0, .int .u8 0] 174)).alloc (.cells #[.int .i64 0] 3)).alloc (.cells #[.int .u64 (2 * (m : Int) - 1)] 92)).cell? ⟨w.heap.size + 1 + 1, 0, none⟩ = some (.int .u64 ((2 * m - 1 : Nat) : Int)) := by
    have := bZ.cell
    rw [this]; congr 2; omega
  have hzz : zig (-(m : Int)) = 2 * m - 1 := by unfold zig; rw [if_pos (by omega)]; omega
  have hR : putInt (-(m : Int)) = groupsF 9 (2 * m - 1) := by unfold putInt; rw [hzz]
  have hgl : (groupsF 9 (2 * m - 1)).length ≤ 9 := by
    have := putInt_len (n := (-(m : Int))) (by omega) (by omega); rw [hR] at this; exact this.2
  have HRR := Lib.hid hR
  have HGL := Lib.hid hgl
  clear hR hgl hzz
  refine' wpIn_rangeFunc_ownG rfl (by omega) (gf := 88) (lb := #[.pointer (some ⟨w.heap.size + 1 + 1, 0, none⟩)]) rfl trivial (enters_of Tryd.func88 (by kernel_rfl) rfl)
    (groups_stops (n - 1) (by omega) (w.heap.size + 1 + 1) (2 * m - 1) (by omega) _ (by simp) hcz) KeepsAt.trans (KeepsAt.putObj (by simp)) (Below.refl _ _) (fun _ => rfl)
    (PutI w) (fun _ _ _ => False) (putI_own w _ (by simp; omega)) (fun _ _ _ _ _ hs _ _ => hs) hI0
    _ ?assign ?body ?done ?stop
  case assign =>
    intro l x W K hK
    gi_wp2
    exact hK
  case stop =>
    rintro D c pre W _ _ h _
    exact h.elim
  case body =>
    rintro l pre x W hI hlt
    have hlt9 : pre.length < 10 := by have := HGL.out; omega
    obtain ⟨⟨C, hC, hT⟩, hS, hB, hZ⟩ := hI
    have hTp := hT.push hlt9 x
    obtain ⟨v0, hv0⟩ : ∃ v, C[pre.length]? = some v := ⟨_, Array.getElem?_eq_getElem (by rw [hT.1]; exact hlt9)⟩
    have c0 : W.cell? ⟨w.heap.size, pre.length, none⟩ = some v0 := by rw [Lib.cell_of_heap hC]; exact hv0
    have f0 : W.frozen? ⟨w.heap.size, pre.length, none⟩ = false := Lib.frozen_of_heap hC _
    have c1 := hS.cell
    have f1 := hS.frozen
    unfold encU
    gi_wp2
    refine ⟨((KeepsOthers.setCell _ _ _).trans (KeepsOthers.setCell _ _ _)).from _, ⟨by simp [World.setCell], ?_⟩, ⟨_, ?_, hTp⟩, ?_, ?_, ?_⟩
    · exact (Below.heap_setCell _ _ _ _ (by simp)).trans (Below.heap_setCell _ _ _ _ (by simp; omega))
    · exact (Below.heap_setCell _ _ _ _ (by simp)).trans (heap_setCell_same W w.heap.size pre.length C 174 _ hC)
    · have h3 : Boxed (W.setCell ⟨w.heap.size, pre.length, none⟩ (.int .u8 (x.toNat : Int))) (w.heap.size + 1) 3 (.int .i64 (pre.length : Int)) := (Below.heap_setCell _ _ _ _ (by simp)).trans hS
      have h4 := h3.set (.int .i64 ((pre ++ [x]).length : Int))
      simpa using h4
    · exact (hB.setCell (p := ⟨w.heap.size, pre.length, none⟩) (Nat.le_refl _) _).setCell (p := ⟨w.heap.size + 1, 0, none⟩) (by simp) _
    · simp [World.setCell]; omega
  case done =>
    rintro D ys W hD rfl hI hK
    obtain ⟨⟨C, hC, hT⟩, hS, hB, hZ⟩ := hI
    have c1 := hS.cell
    have hsl := slice_ten w.heap.size (groupsF 9 (2 * m - 1)).length hT.2.2 W
    have hconv : (convert 71 9 (.slice (some ⟨w.heap.size, 0, none⟩) (groupsF 9 (2 * m - 1)).length 10)).run Tryd.prog W = .ok (.string ⟨(groupsF 9 (2 * m - 1)).toArray⟩) W :=
      run_convert_bytes_back _ 71 9 5 ⟨w.heap.size, 0, none⟩ 10 (groupsF 9 (2 * m - 1)) Tryd.underlying71 Tryd.underlying5 Tryd.underlying9 (fun j hj => by
        rw [addr_add, Lib.cell_of_heap hC]
        exact hT.2.1 j hj)
    have hl9 := HGL.out
    generalize groupsF 9 (2 * m - 1) = G at *
    gi_wp2
    refine ⟨by simp, .inl ⟨_, _, rfl, run_takeDeferred hK, ?_⟩⟩
    refine ⟨putTup (putInt (-(m : Int))), by rw [HRR.out]; simp [results, Tryd.results77, go_sem, putTup], rfl, ?_⟩
    exact hB.trans (belowK_b (w := w) (Nat.le_refl _) W D _ _ (by simp at hD; omega) hK rfl rfl)

theorem putInt_any (i : Int) (w : World) (h1 : -4611686018427387903 ≤ i) (h2 : i ≤ 4611686018427387903) :
    Calls Tryd.prog 77 #[.int .i64 i] w fun e w' => e = .returned (putTup (putInt i)) ∧ Below w.heap.size w w' := by
  by_cases h : 0 ≤ i
  · exact callsIn_wide.1 (putInt_in 3 (by omega) i h h2 w)
  · obtain ⟨m, rfl⟩ : ∃ m : Nat, i = -(m : Int) := ⟨(-i).toNat, by omega⟩
    exact callsIn_wide.1 (putNeg_in 3 (by omega) m (by omega) (by omega) w)

set_option maxHeartbeats 400000 in
theorem putString_any (x : List UInt8) (w : World) (hx : x.length ≤ 65536) :
    Calls Tryd.prog 80 #[.string ⟨x.toArray⟩] w fun e w' => e = .returned (putTup (putStr x)) ∧ Below w.heap.size w w' := by
  have hl := putInt_len (n := (x.length : Int)) (by omega) (by omega)
  have hfin : putTup (putStr x) = .tuple #[.string ⟨(putInt x.length ++ x).toArray⟩, .int .i64 0] := rfl
  rw [hfin]
  clear hfin
  obtain ⟨P, hP⟩ : ∃ P, putInt (x.length : Int) = P := ⟨_, rfl⟩
  rw [hP] at hl ⊢
  have HP := Lib.hid hP; clear hP
  obtain ⟨hl1, hl2⟩ := hl
  go_enter Tryd.func80, Tryd.ntmps80
  go_wp2_with fail
  refine (putInt_any x.length _ (by omega) (by omega)).mono ?_
  rw [HP.out]
  unfold putTup
  rintro e w' ⟨rfl, hb⟩
  go_wp2
  go_ret2
  exact ⟨by rw [← str_add]; rfl, hb⟩
end Go.Proofs.YtefloieanpgnmaaDoor
/- delta's reader and its panics. -/
namespace Go.Proofs.YtefloieanpgnmaaDoor
open Go.RowKit

/-- the two sentinels of package delta -/
structure Sents (a0 a1 : Addr) (W : World) : Prop where
  g0 : W.cell? ⟨1, 0, none⟩ = some (.iface 181 (.pointer (some a0)))
  g1 : W.cell? ⟨2, 0, none⟩ = some (.iface 181 (.pointer (some a1)))
  ne : a0 ≠ a1
  r0 : ∃ c t, W.heap[a0.block]? = some (.cells c t (0, 0))
  r1 : ∃ c t, W.heap[a1.block]? = some (.cells c t (0, 0))

theorem some_lt {w : World} {b : Nat} {o : Obj} (h : w.heap[b]? = some o) : b < w.heap.size := by
  rcases Nat.lt_or_ge b w.heap.size with h' | h'
  · exact h'
  · rw [Array.getElem?_eq_none h'] at h; cases h

theorem Sents.kept {a0 a1 : Addr} {W W' : World} (h : Sents a0 a1 W) (hk : ∀ k, k = 1 ∨ k = 2 ∨ k = a0.block ∨ k = a1.block → W'.heap[k]? = W.heap[k]?) : Sents a0 a1 W' :=
  ⟨(World.cell?_of_block (w := W) (hk _ (.inl rfl))).trans h.g0, (World.cell?_of_block (w := W) (hk _ (.inr (.inl rfl)))).trans h.g1, h.ne,
    by rw [hk _ (.inr (.inr (.inl rfl)))]; exact h.r0, by rw [hk _ (.inr (.inr (.inr rfl)))]; exact h.r1⟩

theorem Sents.lt {a0 a1 : Addr} {W : World} (h : Sents a0 a1 W) (k : Nat) (hk : k = 1 ∨ k = 2 ∨ k = a0.block ∨ k = a1.block) : k < W.heap.size := by
  obtain ⟨_, _, h0⟩ := h.r0
  obtain ⟨_, _, h1⟩ := h.r1
  rcases hk with rfl | rfl | rfl | rfl
  · exact World.block_lt_of_cell? W _ h.g0
  · exact World.block_lt_of_cell? W _ h.g1
  · exact some_lt h0
  · exact some_lt h1

theorem Sents.below {a0 a1 : Addr} {W W' : World} (h : Sents a0 a1 W) (hb : Below W.heap.size W W') : Sents a0 a1 W' :=
  h.kept fun k hk => hb.block k (h.lt k hk)

/-- the panic's value -/
def boom (a : Addr) : Ending := .panicked [{ v := .iface 181 (.pointer (some a)), recovered := false }]

theorem demand_any {a0 a1 : Addr} (c : Bool) (w : World) (hS : Sents a0 a1 w) :
    Calls Tryd.prog 47 #[.bool c] w fun e w' => e = (if c then .returned (.tuple #[]) else boom a1) ∧ w = w' := by
  have h1 := hS.g1
  go_enter Tryd.func47, Tryd.ntmps47
  cases c
  · go_wp2
    exact ⟨rfl, rfl, rfl⟩
  · go_wp2
    go_end0
    exact ⟨rfl, rfl⟩

/-- a reader in block r: the delta d, read up to a -/
def RdAt (r : Nat) (d : ByteArray) (a : Nat) (w : World) : Prop := w.heap[r]? = some (.cells #[.string d, .int .i64 (a : Int)] 109 (0, 0))

theorem RdAt.put {r : Nat} {d : ByteArray} {a k : Nat} {w : World} (h : RdAt r d a w) : RdAt r d k (w.drew.setCell ⟨r, 1, none⟩ (.int .i64 (k : Int))) := by
  unfold RdAt at *
  have h' : w.drew.heap[r]? = _ := h
  simp [World.setCell, Array.getElem?_modify, h']

theorem ButAt.drew_put {r o : Nat} (w : World) (v : Value) : ButAt w.heap.size r w (w.drew.setCell ⟨r, o, none⟩ v) :=
  (ButAt.of_below (n₀ := w.heap.size) (B := r) ((Below.refl _ w).drew)).trans (ButAt.setCell _ _)

/-- what a reading method answers -/
def readEnd {α : Type} (a0 : Addr) (enc : α → Value) (r : Nat) (d : ByteArray) (w : World) (x : Option (α × Nat)) (e : Ending) (w' : World) : Prop :=
  ButAt w.heap.size r w w' ∧ match x with
  | some (n, k) => e = .returned (enc n) ∧ RdAt r d k w'
  | none => e = boom a0

set_option maxRecDepth 100000 in
set_option maxHeartbeats 2000000 in
theorem rnum_any {a0 a1 : Addr} (r : Nat) (d : ByteArray) (a : Nat) (w : World) (hd : d.size ≤ 9223372036854775000) (ha : a ≤ d.size) (hS : Sents a0 a1 w) (hr : RdAt r d a w) :
    Calls Tryd.prog 48 #[.pointer (some ⟨r, 0, none⟩)] w (readEnd a0 (Value.int .i64) r d w (intAt d.data.toList a)) := by
  have g0 : w.drew.cell? ⟨1, 0, none⟩ = _ := hS.g0
  have c0 : w.drew.cell? ⟨r, 0, none⟩ = some (.string d) := by
    have h' : w.drew.heap[r]? = _ := hr
    rw [Lib.cell_of_heap h']; rfl
  have c1 : w.drew.cell? ⟨r, 1, none⟩ = some (.int .i64 (a : Int)) := by
    have h' : w.drew.heap[r]? = _ := hr
    rw [Lib.cell_of_heap h']; rfl
  have f1 : w.drew.frozen? ⟨r, 1, none⟩ = false := by
    have h' : w.drew.heap[r]? = _ := hr
    exact Lib.frozen_of_heap h' 1
  have HP : ∀ k : Nat, Hid (RdAt r d k (w.drew.setCell ⟨r, 1, none⟩ (.int .i64 (k : Int)))) := fun k => Lib.hid hr.put
  have HB : ∀ v, Hid (ButAt w.heap.size r w (w.drew.setCell ⟨r, 1, none⟩ v)) := fun v => Lib.hid (ButAt.drew_put w v)
  have HB0 : Hid (ButAt w.heap.size r w w.drew) := Lib.hid (ButAt.of_below ((Below.refl _ w).drew))
  have HI := fun w => Lib.hid (int_any d a w hd ha)
  unfold RdAt at hr
  obtain ⟨R, hR⟩ : ∃ R, intAt d.data.toList a = R := ⟨_, rfl⟩
  rw [hR] at HI ⊢
  clear hR hS hr
  go_enter Tryd.func48, Tryd.ntmps48
  go_wp2
  cases R with
  | none =>
    replace HI : ∀ w, Hid (Calls Tryd.prog 59 #[.string d, .int .i64 (a : Int)] w fun e w' => e = .returned (.tuple #[.int .i64 0, .int .i64 0, .int .i64 10]) ∧ w = w') := HI
    go_region_with (go_at_call 59; refine (HI _).out.mono ?_; rintro e w1 ⟨rfl, rfl⟩)
    all_goals go_wp2
    all_goals exact ⟨rfl, HB0.out, rfl⟩
  | some p =>
    obtain ⟨n, k⟩ := p
    replace HI : ∀ w, Hid (Calls Tryd.prog 59 #[.string d, .int .i64 (a : Int)] w fun e w' => e = .returned (.tuple #[.int .i64 n, .int .i64 (k : Int), .int .i64 0]) ∧ w = w') := HI
    go_region_with (go_at_call 59; refine (HI _).out.mono ?_; rintro e w1 ⟨rfl, rfl⟩)
    all_goals go_wp2
    all_goals go_ret
    all_goals exact ⟨(HB _).out, rfl, (HP k).out⟩
def encB (x : List UInt8) : Value := .string ⟨x.toArray⟩

set_option maxRecDepth 100000 in
set_option maxHeartbeats 2000000 in
theorem rtext_any {a0 a1 : Addr} (r : Nat) (d : ByteArray) (a : Nat) (w : World) (hd : d.size ≤ 9223372036854775000) (ha : a ≤ d.size) (hS : Sents a0 a1 w) (hr : RdAt r d a w) :
    Calls Tryd.prog 60 #[.pointer (some ⟨r, 0, none⟩)] w (readEnd a0 encB r d w (strAt d.data.toList a)) := by
  have g0 : w.drew.cell? ⟨1, 0, none⟩ = _ := hS.g0
  have c0 : w.drew.cell? ⟨r, 0, none⟩ = some (.string d) := by
    have h' : w.drew.heap[r]? = _ := hr
    rw [Lib.cell_of_heap h']; rfl
  have c1 : w.drew.cell? ⟨r, 1, none⟩ = some (.int .i64 (a : Int)) := by
    have h' : w.drew.heap[r]? = _ := hr
    rw [Lib.cell_of_heap h']; rfl
  have f1 : w.drew.frozen? ⟨r, 1, none⟩ = false := by
    have h' : w.drew.heap[r]? = _ := hr
    exact Lib.frozen_of_heap h' 1
  have HP : ∀ k : Nat, Hid (RdAt r d k (w.drew.setCell ⟨r, 1, none⟩ (.int .i64 (k : Int)))) := fun k => Lib.hid hr.put
  have HB : ∀ v, Hid (ButAt w.heap.size r w (w.drew.setCell ⟨r, 1, none⟩ v)) := fun v => Lib.hid (ButAt.drew_put w v)
  have HB0 : Hid (ButAt w.heap.size r w w.drew) := Lib.hid (ButAt.of_below ((Below.refl _ w).drew))
  have HI := fun w => Lib.hid (string_any d a w hd ha)
  unfold RdAt at hr
  obtain ⟨R, hR⟩ : ∃ R, strAt d.data.toList a = R := ⟨_, rfl⟩
  rw [hR] at HI ⊢
  clear hR hS hr
  go_enter Tryd.func60, Tryd.ntmps60
  go_wp2
  cases R with
  | none =>
    replace HI : ∀ w, Hid (Calls Tryd.prog 75 #[.string d, .int .i64 (a : Int)] w fun e w' => e = .returned (.tuple #[.string ⟨#[]⟩, .int .i64 0, .int .i64 10]) ∧ w = w') := HI
    go_region_with (go_at_call 75; refine (HI _).out.mono ?_; rintro e w1 ⟨rfl, rfl⟩)
    all_goals go_wp2
    all_goals exact ⟨rfl, HB0.out, rfl⟩
  | some p =>
    obtain ⟨n, k⟩ := p
    replace HI : ∀ w, Hid (Calls Tryd.prog 75 #[.string d, .int .i64 (a : Int)] w fun e w' => e = .returned (.tuple #[.string ⟨n.toArray⟩, .int .i64 (k : Int), .int .i64 0]) ∧ w = w') := HI
    go_region_with (go_at_call 75; refine (HI _).out.mono ?_; rintro e w1 ⟨rfl, rfl⟩)
    all_goals go_wp2
    all_goals go_ret
    all_goals exact ⟨(HB _).out, rfl, (HP k).out⟩
end Go.Proofs.YtefloieanpgnmaaDoor
/- delta's reader: one operation. -/
namespace Go.Proofs.YtefloieanpgnmaaDoor
open Go.RowKit

def addEnd (a0 a1 : Addr) (r : Nat) (d : ByteArray) (w : World) (x : Except Int (List UInt8 × Nat)) (e : Ending) (w' : World) : Prop :=
  ButAt w.heap.size r w w' ∧ match x with
  | .ok (x, k) => e = .returned (encB x) ∧ RdAt r d k w'
  | .error c => e = boom (if c = 10 then a0 else a1)

theorem ButAt.then {r : Nat} {a b c : World} (h : ButAt a.heap.size r a b) (k : ButAt b.heap.size r b c) : ButAt a.heap.size r a c :=
  ⟨k.os.trans h.os, k.tape.trans h.tape, k.output.trans h.output, Nat.le_trans h.size k.size, fun i hi hb => (k.block i (Nat.lt_of_lt_of_le hi h.size) hb).trans (h.block i hi hb)⟩

/-- the sentinels do not lie in the reader -/
def Apart (a0 a1 : Addr) (r : Nat) : Prop := ∀ k, k = 1 ∨ k = 2 ∨ k = a0.block ∨ k = a1.block → k ≠ r

theorem Sents.but {a0 a1 : Addr} {r : Nat} {W W' : World} (h : Sents a0 a1 W) (hap : Apart a0 a1 r) (hb : ButAt W.heap.size r W W') : Sents a0 a1 W' :=
  h.kept fun k hk => hb.block k (h.lt k hk) (hap k hk)

theorem demand_yes {a0 a1 : Addr} (c : Bool) (w : World) (hS : Sents a0 a1 w) (hc : c = true) :
    Calls Tryd.prog 47 #[.bool c] w fun e w' => e = .returned (.tuple #[]) ∧ w = w' := by
  subst hc; exact demand_any true w hS
theorem demand_no {a0 a1 : Addr} (c : Bool) (w : World) (hS : Sents a0 a1 w) (hc : c = false) :
    Calls Tryd.prog 47 #[.bool c] w fun e w' => e = boom a1 ∧ w = w' := by
  subst hc; exact demand_any false w hS

set_option maxRecDepth 100000 in
set_option maxHeartbeats 2000000 in
theorem radd_any {a0 a1 : Addr} (r : Nat) (o d : ByteArray) (a : Nat) (w : World) (ho : o.size ≤ 8192) (hd : d.size ≤ 9223372036854775000) (ha : a ≤ d.size) (hS : Sents a0 a1 w) (hap : Apart a0 a1 r) (hr : RdAt r d a w) :
    Calls Tryd.prog 49 #[.pointer (some ⟨r, 0, none⟩), .string o] w (addEnd a0 a1 r d w (opAt o.data.toList d.data.toList a)) := by
  have HS := Lib.hid hS
  have HR := Lib.hid hr
  have HA := Lib.hid hap
  clear hS hr hap
  obtain ⟨X, hX⟩ : ∃ X, opAt o.data.toList d.data.toList a = X := ⟨_, rfl⟩
  rw [hX]
  have HX := Lib.hid hX; clear hX
  go_enter Tryd.func49, Tryd.ntmps49
  go_wp2_with fail
  refine (rnum_any r d a _ hd ha HS.out HR.out).mono ?_
  intro e w1 hp1
  obtain ⟨R1, hR1⟩ : ∃ R1, intAt d.data.toList a = R1 := ⟨_, rfl⟩
  rw [hR1] at hp1
  cases R1 with
  | none =>
    have hx : X = .error 10 := by rw [← HX.out]; unfold opAt; rw [hR1]
    obtain ⟨hb1, rfl⟩ := hp1
    subst hx
    exact ⟨rfl, hb1, rfl⟩
  | some p =>
    obtain ⟨n, k⟩ := p
    obtain ⟨hb1, rfl, hr1⟩ := hp1
    have hk := intAt_le (by simpa using ha) hR1
    have hS1 := HS.out.but HA.out hb1
    have HR1 := Lib.hid hR1; clear hR1
    have HB1 := Lib.hid hb1; clear hb1
    have Hr1 := Lib.hid hr1; clear hr1
    go_wp2_with fail
    by_cases hn : n < 0
    · refine (demand_no _ _ hS1 (by simp; omega)).mono ?_
      rintro e w2 ⟨rfl, rfl⟩
      have hx : X = .error 190 := by rw [← HX.out]; unfold opAt; rw [HR1.out]; simp [hn]
      subst hx
      exact ⟨rfl, HB1.out, rfl⟩
    · refine (demand_yes _ _ hS1 (by simp; omega)).mono ?_
      rintro e w2 ⟨rfl, rfl⟩
      by_cases hz : n = 0
      · subst hz
        go_wp2_with fail
        refine (rtext_any r d k _ hd (by have := hk.2.1; simpa using this) hS1 Hr1.out).mono ?_
        intro e w2 hp2
        obtain ⟨R2, hR2⟩ : ∃ R2, strAt d.data.toList k = R2 := ⟨_, rfl⟩
        rw [hR2] at hp2
        cases R2 with
        | none =>
          have hx : X = .error 10 := by rw [← HX.out]; unfold opAt; rw [HR1.out]; simp [hR2]
          obtain ⟨hb2, rfl⟩ := hp2
          subst hx
          exact ⟨rfl, HB1.out.then hb2, rfl⟩
        | some p2 =>
          obtain ⟨x, k2⟩ := p2
          obtain ⟨hb2, rfl, hr2⟩ := hp2
          have hS2 := hS1.but HA.out hb2
          have HB2 := Lib.hid (HB1.out.then hb2); clear hb2
          have Hr2 := Lib.hid hr2; clear hr2
          have HX2 : Hid (X = if x = [] then .error 190 else .ok (x, k2)) := Lib.hid (by rw [← HX.out]; unfold opAt; rw [HR1.out]; simp [hR2])
          clear hR2
          cases hx0 : x with
          | nil =>
            subst hx0
            have hx : X = .error 190 := by rw [HX2.out]; rfl
            subst hx
            unfold encB
            go_wp2_with fail
            refine (demand_no _ _ hS2 (by simp)).mono ?_
            rintro e w3 ⟨rfl, rfl⟩
            exact ⟨rfl, HB2.out, rfl⟩
          | cons y l =>
            have hx : X = .ok (y :: l, k2) := by rw [HX2.out, hx0]; rfl
            clear hx0 HX2
            subst hx
            unfold encB
            go_wp2_with fail
            refine (demand_yes _ _ hS2 (by simp)).mono ?_
            rintro e w3 ⟨rfl, rfl⟩
            go_wp2
            go_ret
            exact ⟨HB2.out, rfl, Hr2.out⟩
      · go_wp2_with fail
        refine (rnum_any r d k _ hd (by have := hk.2.1; simpa using this) hS1 Hr1.out).mono ?_
        intro e w2 hp2
        obtain ⟨R2, hR2⟩ : ∃ R2, intAt d.data.toList k = R2 := ⟨_, rfl⟩
        rw [hR2] at hp2
        cases R2 with
        | none =>
          have hx : X = .error 10 := by rw [← HX.out]; unfold opAt; rw [HR1.out]; simp only []; rw [if_neg (by omega), if_neg hz, hR2]
          obtain ⟨hb2, rfl⟩ := hp2
          subst hx
          exact ⟨rfl, HB1.out.then hb2, rfl⟩
        | some p2 =>
          obtain ⟨off, k2⟩ := p2
          obtain ⟨hb2, rfl, hr2⟩ := hp2
          have hk2 := intAt_le hk.2.1 hR2
          have hS2 := hS1.but HA.out hb2
          have HB2 := Lib.hid (HB1.out.then hb2); clear hb2
          have Hr2 := Lib.hid hr2; clear hr2
          have HX2 : Hid (X = if 0 ≤ off ∧ off + n ≤ (o.size : Int) then .ok ((o.data.toList.drop off.toNat).take n.toNat, k2) else .error 190) := Lib.hid (by rw [← HX.out]; unfold opAt; rw [HR1.out]; simp only []; rw [if_neg (by omega), if_neg hz, hR2]; rfl)
          clear hR2
          by_cases h1 : 0 ≤ off
          · obtain ⟨m, rfl⟩ : ∃ m : Nat, off = m := ⟨off.toNat, by omega⟩
            obtain ⟨j, rfl⟩ : ∃ j : Nat, n = j := ⟨n.toNat, by omega⟩
            by_cases h2 : m ≤ o.size
            · by_cases h3 : m + j ≤ o.size
              · go_wp2_with fail
                refine (demand_yes _ _ hS2 (by simp <;> omega)).mono ?_
                rintro e w3 ⟨rfl, rfl⟩
                have hx : X = .ok ((o.data.toList.drop m).take j, k2) := by rw [HX2.out, if_pos (by omega)]; rfl
                subst hx
                go_wp2
                go_ret
                exact ⟨HB2.out, ret_str (by rw [extract_mk, Nat.add_sub_cancel_left]), Hr2.out⟩
              · go_wp2_with fail
                refine (demand_no _ _ hS2 (by simp <;> omega)).mono ?_
                rintro e w3 ⟨rfl, rfl⟩
                have hx : X = .error 190 := by rw [HX2.out, if_neg (by omega)]
                subst hx
                exact ⟨rfl, HB2.out, rfl⟩
            · go_wp2_with fail
              refine (demand_no _ _ hS2 (by simp <;> omega)).mono ?_
              rintro e w3 ⟨rfl, rfl⟩
              have hx : X = .error 190 := by rw [HX2.out, if_neg (by omega)]
              subst hx
              exact ⟨rfl, HB2.out, rfl⟩
          · go_wp2_with fail
            refine (demand_no _ _ hS2 (by simp <;> omega)).mono ?_
            rintro e w3 ⟨rfl, rfl⟩
            have hx : X = .error 190 := by rw [HX2.out, if_neg (by omega)]
            subst hx
            exact ⟨rfl, HB2.out, rfl⟩
end Go.Proofs.YtefloieanpgnmaaDoor
/- errors.Is at the two sentinels of package delta: the same, or the other. -/
namespace Go.Proofs.YtefloieanpgnmaaDoor
open Go.RowKit Go.Extern.Stop Go.Stop Go.Extern

/-- the entry reflectlite.Comparable -/
def cmpM := Extern.ReflectliteType.method fun t => do Extern.Rtype.noPackHeld "Comparable" t; pure (.bool (← typeInfo t).comparable)

theorem isTypeOf (v : Value) (w : World) : (Extern.ReflectliteType.typeOf #[.iface 181 v]).run Tryd.prog w = .ok (.iface 147 (.agg #[.pointer (some ⟨3, 181, none⟩)])) w := by kernel_rfl
theorem isComparable (w : World) : (cmpM #[.agg #[.pointer (some ⟨3, 181, none⟩)]]).run Tryd.prog w = .ok (.bool true) w := by kernel_rfl
theorem isMethodComparable (n : Nat) (v : Value) (w : World) : (Go.method (n + 1) 147 v "Comparable").run Tryd.prog w = .ok (109, v) w := by kernel_rfl
theorem isComp : (Tryd.prog.info? 181).map (·.comparable) = some true := by kernel_rfl
theorem isSize : (Tryd.prog.info? 204).map (·.size) = some 1 := by kernel_rfl
theorem noIsE (v : Value) (xT : TypeId) (w : World) : (Instr.typeAssert (.iface 181 v) xT 149 true).run Tryd.prog w = .ok (.tuple #[.nilIface, .bool false]) w := run_typeAssert_lacksB Tryd.underlying149 (by kernel_rfl) (by kernel_rfl) v xT w
theorem noUnwrapE (v : Value) (xT : TypeId) (w : World) : (Instr.typeAssert (.iface 181 v) xT 152 true).run Tryd.prog w = .ok (.tuple #[.nilIface, .bool false]) w := run_typeAssert_lacksB Tryd.underlying152 (by kernel_rfl) (by kernel_rfl) v xT w
theorem noUnwrapsE (v : Value) (xT : TypeId) (w : World) : (Instr.typeAssert (.iface 181 v) xT 154 true).run Tryd.prog w = .ok (.tuple #[.nilIface, .bool false]) w := run_typeAssert_lacksB Tryd.underlying154 (by kernel_rfl) (by kernel_rfl) v xT w

set_option maxRecDepth 100000 in
set_option maxHeartbeats 400000 in
/-- errors.Is(x, x) -/
theorem is_same (a : Addr) (w : World) :
    Calls Tryd.prog 46 #[.iface 181 (.pointer (some a)), .iface 181 (.pointer (some a))] w fun e w' => e = .returned (.bool true) ∧ w = w' := by
  obtain ⟨i, hi, hcmp⟩ := Option.map_eq_some_iff.1 isComp
  obtain ⟨j, hj, hjs⟩ := Option.map_eq_some_iff.1 isSize
  have h8 := @run_callFunc_extern Tryd.prog 57 _ Extern.ReflectliteType.typeOf Tryd.func57 (by kernel_rfl) (by kernel_rfl) (by kernel_rfl) (by kernel_rfl)
  have h32 := @run_callFunc_extern Tryd.prog 109 _ cmpM Tryd.func109 (by kernel_rfl) (by kernel_rfl) (by kernel_rfl) (by kernel_rfl)
  have tT := isTypeOf
  have cT := isComparable
  have mR := isMethodComparable
  have heq := run_eql_iface_ptr_same (P := Tryd.prog) w a Tryd.underlying103 Tryd.underlying181 hi hcmp hj
  go_enter Tryd.func46, Tryd.ntmps46
  go_wp2
  refine wp_loop_rounds 1 ?_
  rw [rounds_succ]
  go_wp2
  go_ret
  exact ⟨rfl, rfl⟩

set_option maxRecDepth 100000 in
set_option maxHeartbeats 400000 in
/-- errors.Is(x, y), two different pointers to errors.errorString -/
theorem is_other (a b : Addr) (ca cb : Array Value) (ta tb : TypeId) (w : World) (hne : a ≠ b) (ha : w.heap[a.block]? = some (.cells ca ta (0, 0))) (hb : w.heap[b.block]? = some (.cells cb tb (0, 0))) :
    Calls Tryd.prog 46 #[.iface 181 (.pointer (some a)), .iface 181 (.pointer (some b))] w fun e w' => e = .returned (.bool false) ∧ w = w' := by
  obtain ⟨i, hi, hcmp⟩ := Option.map_eq_some_iff.1 isComp
  obtain ⟨j, hj, hjs⟩ := Option.map_eq_some_iff.1 isSize
  have h8 := @run_callFunc_extern Tryd.prog 57 _ Extern.ReflectliteType.typeOf Tryd.func57 (by kernel_rfl) (by kernel_rfl) (by kernel_rfl) (by kernel_rfl)
  have h32 := @run_callFunc_extern Tryd.prog 109 _ cmpM Tryd.func109 (by kernel_rfl) (by kernel_rfl) (by kernel_rfl) (by kernel_rfl)
  have tT := isTypeOf
  have cT := isComparable
  have mR := isMethodComparable
  have nE := noIsE
  have uE := noUnwrapE
  have vE := noUnwrapsE
  have heq := run_eql_iface_ptr_other (P := Tryd.prog) w Tryd.underlying103 Tryd.underlying181 hi hcmp hj (by rw [hjs]; decide) hne ha hb
  go_enter Tryd.func46, Tryd.ntmps46
  go_wp2
  refine wp_loop_rounds 1 ?_
  rw [rounds_succ]
  go_wp2
  go_ret
  exact ⟨rfl, rfl⟩
end Go.Proofs.YtefloieanpgnmaaDoor
