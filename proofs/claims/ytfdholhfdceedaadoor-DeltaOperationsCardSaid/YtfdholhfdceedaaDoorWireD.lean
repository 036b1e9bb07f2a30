import Derived.Test.YtfdholhfdceedaaDoorWireC
import Derived.Maps.AppendAt
import Derived.RangeFuncBox
namespace Go.Proofs.YtfdholhfdceedaaDoor
open Go.RowKit

def putTup (x : List UInt8) : Value := .tuple #[.string ⟨x.toArray⟩, .int .i64 0]

theorem byte_wrap (z : Nat) (hz : z < 256) : IntKind.u8.wrap (z : Int) = z := by
  rw [show IntKind.u8.wrap (z : Int) = (z : Int) % 256 by simp [IntKind.wrap, IntKind.bits, IntKind.signed]]; omega

theorem conv_last {w : World} {base g cap : Nat} {bs : List UInt8} {c : UInt8} {n : Int} (hc : (c.toNat : Int) = n) (h : w.ownsRow base 5 1 (.slice (some ⟨g, 0, none⟩) (bs.length + 1) cap) (bs.length + 1) (intCells bs ++ [.int .u8 n])) :
    (convert 45 9 (.slice (some ⟨g, 0, none⟩) (bs.length + 1) cap)).run Tryd.prog w = .ok (.string ⟨(bs ++ [c]).toArray⟩) w := by
  have e : (bs ++ [c]).length = bs.length + 1 := by simp
  have hh := conv_owned (w := w) (base := base) (g := g) (cap := cap) (bs := bs ++ [c]) (by rw [e, intCells, List.map_append]; simpa [intCells, hc] using h)
  rw [e] at hh
  exact hh

set_option maxRecDepth 100000 in
set_option maxHeartbeats 1000000 in
theorem refPutInt_any (n : Int) (w : World) (h1 : -4611686018427387903 ≤ n) (h2 : n ≤ 4611686018427387903) :
    Calls Tryd.prog 37 #[.int .i64 n] w fun e w' => e = .returned (putTup (putInt n)) ∧ Below w.heap.size w w' := by
  obtain ⟨i0, hi, hz0, hz1, hz2⟩ := info_parts infoU8
  have hzl := zig_lt h1 h2
  obtain ⟨X, hX⟩ : ∃ X, putInt n = X := ⟨_, rfl⟩
  rw [hX]
  have HX : Hid (groupsF 9 (zig n) = X) := hX
  clear hX
  have hd1 : decide (n < -4611686018427387903) = false := by rw [decide_eq_false_iff_not]; omega
  have hd2 : decide (4611686018427387903 < n) = false := by rw [decide_eq_false_iff_not]; omega
  go_enter Tryd.func37, Tryd.ntmps37
  go_wp2_with fail
  refine (zigzag_any n _ h1 h2).mono ?_
  rintro e w' ⟨rfl, rfl⟩
  generalize zig n = Z0 at *
  go_wp2
  go_loopw [4, 5] (fun z v wr => ∃ (k Z : Nat) (bs : List UInt8), z = .int .u64 (Z : Int) ∧ k ≤ 9 ∧ Z < 9223372036854775808 ∧ Hid (Z < 128 ^ (9 - k + 1)) ∧ Hid (X = bs ++ groupsF (9 - k) Z) ∧ bs.length = k ∧ wr.ownsRow w.heap.size 5 1 v bs.length (intCells bs) ∧ Below w.heap.size w wr)
    (fun z _ _ => (intOf z).toNat)
  case atStart => exact ⟨0, Z0, [], rfl, by omega, by omega, Lib.hid (by omega), Lib.hid HX.out.symm, rfl, World.ownsRow_nil _ _ _ _, Below.refl _ _⟩
  case round =>
    obtain ⟨k, Z, bs, rfl, hk, hZ, hZp, hx, hbl, hown, hB⟩ := hrel
    have HO := Lib.hid hown
    have HBL := Lib.hid hbl
    have hbl9 : bs.length ≤ 9 := by omega
    clear hown hbl
    have hbs : w.heap.size ≤ wr.heap.size := hB.size
    by_cases hc : (128 : Int) ≤ (Z : Int)
    · have hkl : k < 9 := by
        rcases Nat.lt_or_ge k 9 with h | h
        · exact h
        · have := hZp.out; rw [show 9 - k + 1 = 1 by omega] at this; omega
      obtain ⟨c, hcc⟩ : ∃ c : UInt8, c = UInt8.ofNat (Z % 128 + 128) := ⟨_, rfl⟩
      have hcn : (c.toNat : Int) = (Z : Int) % 128 + 128 := by rw [hcc, ofNat_toNat (by omega)]; omega
      have hstep : X = (bs ++ [c]) ++ groupsF (9 - (k + 1)) (Z / 128) := by
        rw [hx.out, show 9 - k = (9 - (k + 1)) + 1 by omega, groupsF, if_neg (by omega), hcc]; simp
      have HS := Lib.hid hstep
      have HP := Lib.hid (by have := hZp.out; rw [show 9 - k + 1 = (9 - (k + 1) + 1) + 1 by omega, Nat.pow_succ] at this; omega : Z / 128 < 128 ^ (9 - (k + 1) + 1))
      have HC := Lib.hid hcn
      clear hstep hcc hcn
      have h63 : bs.length + 1 ≤ maxLen := by unfold maxLen; omega
      have hby : (bs.length + 1) * 1 ≤ 140737488355328 := by omega
      have h1c : ∀ u ∈ [Value.int .u8 ((Z : Int) % 128 + 128)], u.oneCell' = true := by simp [Value.oneCell']
      have hba : w.heap.size ≤ (wr.alloc (.cells #[.int .u8 ((Z : Int) % 128 + 128)] 5)).heap.size := by simp; omega
      go_wp2_with (at_builtin; refine wpList_append_own _ rfl _ _ 45 rfl w.heap.size 5 i0 (.int .u8 0) 1 1 Tryd.underlying45 hi hz0 hz1 hz2 rfl (by decide) u5 bs.length (intCells bs) rfl (HO.out.alloc _) ⟨wr.heap.size, 0, none⟩ 1 1 [.int .u8 ((Z : Int) % 128 + 128)] rfl rfl (cell_one_new _ _ _) h1c h63 hby hba ?_; intro v' w1 hown' hgrow _)
      go_roundw
      case rel =>
        refine ⟨k + 1, Z / 128, bs ++ [c], by go_num, by omega, by omega, HP, HS, by have := HBL.out; simp; omega, ?_, (hB.alloc hB.size _).grown hgrow hba (fun j e => (HO.out.lt j e).1)⟩
        rw [List.length_append, intCells, List.map_append]
        simpa [intCells, HC.out] using hown'
      case measure => simp [intOf]; omega
    · obtain ⟨c, hcc⟩ : ∃ c : UInt8, c = UInt8.ofNat Z := ⟨_, rfl⟩
      have hcn : (c.toNat : Int) = (Z : Int) := by rw [hcc, ofNat_toNat (by omega)]
      have hfin : X = bs ++ [c] := by
        rw [hx.out, hcc]
        cases hk9 : 9 - k with
        | zero => rfl
        | succ f => rw [groupsF, if_pos (by omega)]
      have HF := Lib.hid hfin
      have HC := Lib.hid hcn
      clear hfin hcc hcn
      have hwr : IntKind.u8.wrap (Z : Int) = Z := byte_wrap Z (by omega)
      have h63 : bs.length + 1 ≤ maxLen := by unfold maxLen; omega
      have hby : (bs.length + 1) * 1 ≤ 140737488355328 := by omega
      have h1c : ∀ u ∈ [Value.int .u8 (Z : Int)], u.oneCell' = true := by simp [Value.oneCell']
      have hba : w.heap.size ≤ (wr.alloc (.cells #[.int .u8 (Z : Int)] 5)).heap.size := by simp; omega
      go_wp2_with (at_builtin; refine wpList_append_own _ rfl _ _ 45 rfl w.heap.size 5 i0 (.int .u8 0) 1 1 Tryd.underlying45 hi hz0 hz1 hz2 rfl (by decide) u5 bs.length (intCells bs) rfl (HO.out.alloc _) ⟨wr.heap.size, 0, none⟩ 1 1 [.int .u8 (Z : Int)] rfl rfl (cell_one_new _ _ _) h1c h63 hby hba ?_; intro v' w1 hown' hgrow _; obtain ⟨g', cap', rfl⟩ := ownsRow_succ hown'; have hcv := conv_last HC.out hown')
      go_ret2
      refine ⟨by rw [HF.out]; rfl, (hB.alloc hB.size _).grown hgrow hba (fun j e => (HO.out.lt j e).1)⟩
end Go.Proofs.YtfdholhfdceedaaDoor
