/- wire's iterator over the groups of a number. -/
import Derived.Test.YtfdholhfdceedaaDoorWireG
import Derived.Test.YtfdholhfdceedaaDoorMemL
import Derived.RangeFuncNested
import Derived.Deep.DeepCutAuto
import Derived.Lib.Hide
import Derived.RangeFuncBound
import Derived.RangeFuncCalls
import Derived.Shelf.Abstract
import Derived.OwnWalkIn
import Derived.TacticsInMore
import Derived.LoopNIn
import Derived.LoopIn
import Derived.Laws.IdiomStrings
namespace Go.Proofs.YtfdholhfdceedaaDoor
open Go.RowKit Go.Shelf

attribute [local go_sem] Oper.semAt_some

/-- 'groups(z)': z is boxed; the function value captures the box. -/
theorem groups_any (z : Int) (w : World) :
    Calls Tryd.prog 27 #[.int .u64 z] w fun e w' => e = .returned (.func (.func 39) #[] #[.pointer (some ⟨w.heap.size, 0, none⟩)]) ∧ w' = w.alloc (.cells #[.int .u64 z] 62) := by
  go_enter Tryd.func27, Tryd.ntmps27
  go_wp2
  go_ret
  exact ⟨rfl, rfl⟩

def encU (c : UInt8) : Value := .int .u8 (c.toNat : Int)

set_option maxRecDepth 100000 in
set_option maxHeartbeats 1000000 in
theorem groups1_in (n l Bs : Nat) (hn : 1 ≤ n) (z : Nat) (hz : z < 9223372036854775808) (J Jx : List UInt8 → World → Prop) (W : World) (_ : Bs < W.heap.size)
    (hY : ∀ pre x W, J pre W → pre.length < (groupsF 9 z).length → YieldAt Fence.wide (n - 1) Tryd.prog l #[encU x] W fun e W' =>
      (e = .returned (.bool true) ∧ J (pre ++ [x]) W' ∧ KeepsAt Bs W W') ∨ (e = .returned (.bool false) ∧ Jx (pre ++ [x]) W'))
    (hBn : W.cell? ⟨Bs, 0, none⟩ = some (.int .u64 (z : Int))) (h0 : J [] W) :
    CallsIn Fence.wide n Tryd.prog 39 #[.func (.yield l) #[] #[], .pointer (some ⟨Bs, 0, none⟩)] W fun e W' => (∃ v, e = .returned v) ∧
      ((∃ ys, ys = groupsF 9 z ∧ J ys W') ∨ (∃ pre, pre <+: groupsF 9 z ∧ Jx pre W')) := by
  refine callsIn_wide.2 ?_
  have HY := Lib.hid hY; clear hY
  go_enter Tryd.func39, Tryd.ntmps39
  go_wp2
  go_loopw [3] (fun r wr => ∃ (Z : Nat) (pre : List UInt8), r = .int .u64 (Z : Int) ∧ Z < 9223372036854775808 ∧ pre.length ≤ 9 ∧ Hid (Z < 128 ^ (9 - pre.length + 1)) ∧ Hid (groupsF 9 z = pre ++ groupsF (9 - pre.length) Z) ∧ J pre wr)
    (fun r _ => (intOf r).toNat)
  case atStart => exact ⟨z, [], rfl, hz, by simp, Lib.hid (by simp; omega), Lib.hid rfl, h0⟩
  case round =>
    clear h0
    obtain ⟨Z, pre, rfl, hZ, hp9, hZp, hx, hJp⟩ := hrel
    by_cases hc : (128 : Int) ≤ (Z : Int)
    · have hkl : pre.length < 9 := by
        rcases Nat.lt_or_ge pre.length 9 with h | h
        · exact h
        · have := hZp.out; rw [show 9 - pre.length + 1 = 1 by omega] at this; omega
      obtain ⟨c, hcc⟩ : ∃ c : UInt8, c = UInt8.ofNat (Z % 128 + 128) := ⟨_, rfl⟩
      have hcn : (c.toNat : Int) = (Z : Int) % 128 + 128 := by rw [hcc, ofNat_toNat (by omega)]; omega
      have hstep : groupsF 9 z = (pre ++ [c]) ++ groupsF (9 - (pre ++ [c]).length) (Z / 128) := by
        rw [hx.out, show 9 - pre.length = (9 - (pre.length + 1)) + 1 by omega, groupsF, if_neg (by omega), hcc]; simp
      have HS := Lib.hid hstep
      have HP := Lib.hid (by have := hZp.out; rw [show 9 - pre.length + 1 = (9 - (pre ++ [c]).length + 1) + 1 by rw [List.length_append, List.length_singleton]; omega, Nat.pow_succ] at this; omega : Z / 128 < 128 ^ (9 - (pre ++ [c]).length + 1))
      have hlt : pre.length < (groupsF 9 z).length := by rw [hstep, List.length_append, List.length_append, List.length_singleton]; omega
      obtain ⟨fn, tmps, assign, body, hy, hR⟩ := HY.out pre c _ hJp hlt
      unfold encU at hy
      rw [hcn] at hy
      clear hstep hcc hcn hx hZp
      go_upto_region 2 with (fail)
      refine (wpIn_wide (n := n)).1 ?_
      gi_wp2
      refine hR.mono ?_
      rintro e W3 (⟨rfl, hJ3, hk3⟩ | ⟨rfl, hJx3⟩)
      · gi_wp2
        go_wp2
        go_roundw
        case rel => exact ⟨Z / 128, pre ++ [c], by go_num, by omega, by simp; omega, HP, HS, hJ3⟩
        case measure => simp [intOf]; omega
      · gi_wp2
        go_wp2
        exact bodyPost_ret (v := .tuple #[]) (by simp [results, Tryd.results39, go_sem]) rfl ⟨⟨_, rfl⟩, .inr ⟨pre ++ [c], ⟨_, HS.out.symm⟩, hJx3⟩⟩
    · obtain ⟨c, hcc⟩ : ∃ c : UInt8, c = UInt8.ofNat Z := ⟨_, rfl⟩
      have hcn : (c.toNat : Int) = (Z : Int) := by rw [hcc, ofNat_toNat (by omega)]
      have hfin : groupsF 9 z = pre ++ [c] := by
        rw [hx.out, hcc]
        cases hk9 : 9 - pre.length with
        | zero => rfl
        | succ f => rw [groupsF, if_pos (by omega)]
      have HF := Lib.hid hfin
      have hlt : pre.length < (groupsF 9 z).length := by rw [hfin]; simp
      obtain ⟨fn, tmps, assign, body, hy, hR⟩ := HY.out pre c _ hJp hlt
      unfold encU at hy
      rw [hcn] at hy
      clear hfin hcc hcn hx hZp
      go_upto_region 4 with (fail)
      refine (wpIn_wide (n := n)).1 ?_
      gi_wp2
      refine hR.mono ?_
      rintro e W3 (⟨rfl, hJ3, hk3⟩ | ⟨rfl, hJx3⟩)
      · gi_wp2
        go_wp2
        go_end0
        exact ⟨⟨_, rfl⟩, .inl ⟨_, HF.out.symm, hJ3⟩⟩
      · gi_wp2
        go_wp2
        go_end0
        exact ⟨⟨_, rfl⟩, .inr ⟨pre ++ [c], by rw [HF.out]; exact List.prefix_refl _, hJx3⟩⟩

theorem groups_stops (n : Nat) (hn : 1 ≤ n) (Bs z : Nat) (hz : z < 9223372036854775808) (w : World) (hBs : Bs < w.heap.size) (hc : w.cell? ⟨Bs, 0, none⟩ = some (.int .u64 (z : Int))) :
    SeqStopsK Fence.wide n Tryd.prog 39 #[.pointer (some ⟨Bs, 0, none⟩)] (fun x => #[encU x]) (KeepsAt Bs) (fun ys => ys = groupsF 9 z) (fun pre => pre <+: groupsF 9 z) (groupsF 9 z).length w :=
  fun l J Jx W hW _ _ hY h0 => groups1_in n l Bs hn z hz J Jx W (by have := hW.size; omega) hY ((hW.cell (p := ⟨Bs, 0, none⟩) hBs).trans hc) h0
end Go.Proofs.YtfdholhfdceedaaDoor
