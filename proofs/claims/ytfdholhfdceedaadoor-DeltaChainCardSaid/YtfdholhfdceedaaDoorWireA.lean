import Derived.Test.YtfdholhfdceedaaDoorWireM
import Derived.Test.YtfdholhfdceedaaDoorProg
import Derived.WalkKit
import Derived.WalkSpells
import Derived.WalkLawsBesides
import Derived.Laws.BitsAllLaws
import Derived.Laws.ShiftsVarLaws
import Derived.Lib.Hide
namespace Go.Proofs.YtfdholhfdceedaaDoor
open Go.RowKit

theorem ret_int {k : IntKind} {a b : Int} (h : a = b) : Ending.returned (.int k a) = .returned (.int k b) := by rw [h]
theorem wrap64_nat (m : Nat) (h : m ≤ 4294967295) : wrap64 (m : Int) = m := by unfold wrap64; omega
def ShiftsAt (W : World) : Prop := ∀ i, i < 16 → W.cell? ⟨0, i, none⟩ = some (.int .u32 (shiftT i))

theorem take_snoc (s : ByteArray) (k : Nat) (h : k < s.size) : s.data.toList.take (k + 1) = s.data.toList.take k ++ [s[k]] := by
  rw [List.take_succ_eq_append_getElem (by simpa using h)]; rfl

set_option maxHeartbeats 400000 in
theorem sum_any (s : ByteArray) (w : World) (hs : s.size ≤ 9223372036854775807) (hsh : ShiftsAt w) :
    Calls Tryd.prog 16 #[.string s] w fun e w' => e = .returned (.int .i64 (crcOf s.data.toList)) ∧ w = w' := by
  have HS := Lib.hid hsh; clear hsh
  go_enter Tryd.func16, Tryd.ntmps16
  go_wp2
  go_loop [3, 4] (fun r p => ∃ (k q : Nat), p = .int .i64 k ∧ k ≤ s.size ∧ r = .int .u32 q ∧ q < 4294967296 ∧ Hid (q = crcFold (s.data.toList.take k))) (fun _ p => s.size - (intOf p).toNat)
  case atStart => exact ⟨0, 4294967295, rfl, by omega, rfl, by omega, Lib.hid rfl⟩
  case round =>
    obtain ⟨k, q, rfl, hk, rfl, hq, hcr⟩ := hrel
    by_cases hlt : k < s.size
    · have hb := s[k].toNat_lt
      obtain ⟨q1, hq1⟩ : ∃ q1, q ^^^ s[k].toNat = q1 := ⟨_, rfl⟩
      have hx1 : bits .xor .u32 (q : Int) (s[k].toNat : Int) = (q1 : Int) := by rw [u32_xor_nat _ _ hq (by omega), hq1]
      have hq1l : q1 < 4294967296 := by rw [← hq1]; exact xor_byte_lt hq _
      have HQ1 := Lib.hid hq1; clear hq1
      have hc1 := HS.out (q1 % 16) (by omega)
      obtain ⟨q2, hq2⟩ : ∃ q2, crcNib q1 = q2 := ⟨_, rfl⟩
      have hx2 : bits .xor .u32 ((q1 : Int) / 16) (shiftT (q1 % 16) : Int) = (q2 : Int) := by
        rw [← hq2, show ((q1 : Int) / 16) = ((q1 / 16 : Nat) : Int) by omega, u32_xor_nat _ _ (by omega) (shiftT_lt _ (by omega))]; rfl
      have hq2l : q2 < 4294967296 := by rw [← hq2]; exact crcNib_lt hq1l
      have HQ2 := Lib.hid hq2; clear hq2
      have hc2 := HS.out (q2 % 16) (by omega)
      obtain ⟨q3, hq3⟩ : ∃ q3, crcNib q2 = q3 := ⟨_, rfl⟩
      have hx3 : bits .xor .u32 ((q2 : Int) / 16) (shiftT (q2 % 16) : Int) = (q3 : Int) := by
        rw [← hq3, show ((q2 : Int) / 16) = ((q2 / 16 : Nat) : Int) by omega, u32_xor_nat _ _ (by omega) (shiftT_lt _ (by omega))]; rfl
      have hq3l : q3 < 4294967296 := by rw [← hq3]; exact crcNib_lt hq2l
      have HQ3 := Lib.hid hq3; clear hq3
      go_wp2
      go_round
      case rel => exact ⟨k + 1, q3, by go_num, by omega, rfl, hq3l, Lib.hid (by rw [take_snoc s k hlt, crcFold_snoc, crcByte_nibs, ← hcr.out, HQ1.out, HQ2.out, HQ3.out])⟩
      case measure => simp [intOf]; omega
    · obtain ⟨m, hm⟩ : ∃ m, 4294967295 - q = m := ⟨_, rfl⟩
      have hx : bits .xor .u32 IntKind.u32.max (q : Int) = (m : Int) := by
        rw [show IntKind.u32.max = ((4294967295 : Nat) : Int) from rfl, u32_xor_nat _ _ (by omega) hq, xor_ones hq, hm]
      have hml : m ≤ 4294967295 := by omega
      have hfin : (m : Int) = (crcOf s.data.toList : Int) := by
        rw [← hm, hcr.out, List.take_of_length_le (by simp; omega)]; rfl
      have HF := Lib.hid hfin; clear hfin hm
      go_wp2
      go_ret
      exact ⟨ret_int ((wrap64_nat m (by omega)).trans HF.out), rfl⟩

set_option maxHeartbeats 400000 in
theorem refSum_any (s : ByteArray) (w : World) (hs : s.size ≤ 9223372036854775807) :
    Calls Tryd.prog 24 #[.string s] w fun e w' => e = .returned (.int .i64 (crcOf s.data.toList)) ∧ w = w' := by
  go_enter Tryd.func24, Tryd.ntmps24
  go_wp2
  go_loop [3, 4] (fun r p => ∃ (k q : Nat), p = .int .i64 k ∧ k ≤ s.size ∧ r = .int .u32 q ∧ q < 4294967296 ∧ Hid (q = crcFold (s.data.toList.take k))) (fun _ p => s.size - (intOf p).toNat)
  case atStart => exact ⟨0, 4294967295, rfl, by omega, rfl, by omega, Lib.hid rfl⟩
  case round =>
    obtain ⟨k, q, rfl, hk, rfl, hq, hcr⟩ := hrel
    by_cases hlt : k < s.size
    · have hb := s[k].toNat_lt
      obtain ⟨q1, hq1⟩ : ∃ q1, q ^^^ s[k].toNat = q1 := ⟨_, rfl⟩
      have hx1 : bits .xor .u32 (q : Int) (s[k].toNat : Int) = (q1 : Int) := by rw [u32_xor_nat _ _ hq (by omega), hq1]
      have hq1l : q1 < 4294967296 := by rw [← hq1]; exact xor_byte_lt hq _
      have HQ1 := Lib.hid hq1; clear hq1
      go_wp2
      go_loop [3, 5] (fun r p => ∃ (j q2 : Nat), p = .int .i64 j ∧ j ≤ 8 ∧ r = .int .u32 q2 ∧ q2 < 4294967296 ∧ Hid (crcBits 8 q1 = crcBits (8 - j) q2)) (fun _ p => 8 - (intOf p).toNat)
      case atStart => exact ⟨0, q1, rfl, by omega, rfl, hq1l, Lib.hid rfl⟩
      case round =>
        obtain ⟨j, q2, rfl, hj, rfl, hq2, hcb⟩ := hrel
        by_cases hlj : j < 8
        · have hstep : crcBits 8 q1 = crcBits (8 - (j + 1)) (crcBit q2) := by
            rw [hcb.out, show 8 - j = (8 - (j + 1)) + 1 by omega]; rfl
          have HST := Lib.hid hstep; clear hstep
          by_cases hodd : q2 % 2 = 1
          · have ho : (((q2 : Int) % 2) == 1) = true := by rw [beq_iff_eq]; omega
            obtain ⟨q3, hq3⟩ : ∃ q3, crcBit q2 = q3 := ⟨_, rfl⟩
            have hx2 : bits .xor .u32 ((q2 : Int) / 2) 2197175160 = (q3 : Int) := by
              rw [← hq3, crcBit, if_pos hodd, show ((q2 : Int) / 2) = ((q2 / 2 : Nat) : Int) by omega, show (2197175160 : Int) = ((2197175160 : Nat) : Int) from rfl, u32_xor_nat _ _ (by omega) (by omega)]
            have hq3l : q3 < 4294967296 := by rw [← hq3]; exact crcBit_lt hq2
            have HQ3 := Lib.hid hq3; clear hq3 hodd
            go_wp2
            go_round
            case rel => exact ⟨j + 1, q3, by go_num, by omega, rfl, hq3l, Lib.hid (by rw [HST.out, HQ3.out])⟩
            case measure => simp [intOf]; omega
          · have ho : (((q2 : Int) % 2) == 1) = false := by rw [beq_eq_false_iff_ne]; omega
            have hq3 : crcBit q2 = q2 / 2 := by rw [crcBit, if_neg hodd]
            have HQ3 := Lib.hid hq3; clear hq3 hodd
            go_wp2
            go_round
            case rel => exact ⟨j + 1, q2 / 2, by go_num, by omega, by go_num, by omega, Lib.hid (by rw [HST.out, HQ3.out])⟩
            case measure => simp [intOf]; omega
        · have hfin : q2 = crcByte q s[k] := by
            have := hcb.out
            rw [show 8 - j = 0 by omega] at this
            unfold crcByte; rw [HQ1.out, this]; rfl
          have HF := Lib.hid hfin; clear hfin
          go_wp2
          go_round
          case rel => exact ⟨k + 1, q2, by go_num, by omega, rfl, hq2, Lib.hid (by rw [take_snoc s k hlt, crcFold_snoc, ← hcr.out, HF.out])⟩
          case measure => simp [intOf]; omega
    · obtain ⟨m, hm⟩ : ∃ m, 4294967295 - q = m := ⟨_, rfl⟩
      have hx : bits .xor .u32 IntKind.u32.max (q : Int) = (m : Int) := by
        rw [show IntKind.u32.max = ((4294967295 : Nat) : Int) from rfl, u32_xor_nat _ _ (by omega) hq, xor_ones hq, hm]
      have hml : m ≤ 4294967295 := by omega
      have hfin : (m : Int) = (crcOf s.data.toList : Int) := by
        rw [← hm, hcr.out, List.take_of_length_le (by simp; omega)]; rfl
      have HF := Lib.hid hfin; clear hfin hm
      go_wp2
      go_ret
      exact ⟨ret_int ((wrap64_nat m (by omega)).trans HF.out), rfl⟩

end Go.Proofs.YtfdholhfdceedaaDoor
