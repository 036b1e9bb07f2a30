import Derived.Test.YtfdholhfdceedaaDoorWireA
import Derived.Test.YtfdholhfdceedaaDoorWireN
namespace Go.Proofs.YtfdholhfdceedaaDoor
open Go.RowKit

/-- the bytes from a on that have been read: all go on -/
def GoOn (l : List UInt8) (i : Nat) : Prop := i ≤ l.length ∧ ∀ j (_h : j < i) (hl : j < l.length), 128 ≤ l[j].toNat
theorem GoOn.succ {l : List UInt8} {i : Nat} (h : GoOn l i) (hi : i < l.length) (hb : 128 ≤ l[i].toNat) : GoOn l (i + 1) :=
  ⟨hi, fun j h1 h2 => by
    rcases Nat.lt_or_ge j i with hj | hj
    · exact h.2 j hj h2
    · obtain rfl : j = i := by omega
      exact hb⟩

def intTup : Option (Int × Nat) → Value
  | some (n, k) => .tuple #[.int .i64 n, .int .i64 (k : Int), .int .i64 0]
  | none => .tuple #[.int .i64 0, .int .i64 0, .int .i64 10]

theorem intAt_rest {l : List UInt8} {a : Nat} : intAt l a = (intRest (l.drop a)).map fun p => (p.1, a + p.2) := rfl
theorem rest_nine {l : List UInt8} (h : GoOn l 9) : intRest l = none := by
  have := lead_ge h.1 h.2
  unfold intRest; rw [dif_neg (by omega)]
theorem rest_end {l : List UInt8} (h : GoOn l l.length) : intRest l = none := by
  have := lead_ge h.1 h.2
  unfold intRest; rw [dif_neg (by omega)]
theorem rest_stop {l : List UInt8} {i : Nat} (h : GoOn l i) (hi : i < l.length) (hi9 : i < 9) (hb : l[i].toNat < 128) :
    intRest l = if (l[i].toNat = 0 ∧ 0 < i) ∨ unzig (groupVal (l.take (i + 1))) < -4611686018427387903 then none else some (unzig (groupVal (l.take (i + 1))), i + 1) := by
  have he : lead l = i := lead_eq hi h.2 hb
  unfold intRest
  simp only [he]
  rw [dif_pos ⟨hi9, hi⟩]

theorem pow_seven (i : Nat) : (2 : Nat) ^ (7 * i) = 128 ^ i := by rw [Nat.pow_mul]
theorem groupVal_take_lt (l : List UInt8) (i : Nat) (hi : i ≤ 9) : groupVal (l.take i) < 9223372036854775808 := by
  have h1 := groupVal_lt (l.take i)
  have h3 : (128 : Nat) ^ (l.take i).length ≤ 128 ^ 9 := Nat.pow_le_pow_right (by omega) (by simp; omega)
  have h63 : (128 : Nat) ^ 9 = 9223372036854775808 := by decide
  omega
theorem or_group {l : List UInt8} {i : Nat} (h : i < l.length) (hi : i < 9) {b : UInt8} (hb : b = l[i]) :
    bits .or .u64 (groupVal (l.take i) : Int) (IntKind.u64.wrap ((b.toNat : Int) % 128 * 2 ^ (7 * i))) = (groupVal (l.take (i + 1)) : Int) := by
  subst hb
  have hp : (0 : Nat) < 128 ^ i := Nat.pow_pos (by omega)
  have hp8 : (128 : Nat) ^ i ≤ 128 ^ 8 := Nat.pow_le_pow_right (by omega) (by omega)
  have h8 : (128 : Nat) ^ 8 = 72057594037927936 := by decide
  have hm : l[i].toNat % 128 * 128 ^ i ≤ 127 * 72057594037927936 := Nat.mul_le_mul (by omega) (by omega)
  have hv := groupVal_lt (l.take i)
  have hl : (l.take i).length = i := by simp; omega
  rw [hl] at hv
  have e : ((l[i].toNat : Int) % 128 * 2 ^ (7 * i)) = ((l[i].toNat % 128 * 128 ^ i : Nat) : Int) := by
    rw [← pow_seven]; push_cast; rfl
  have ew : IntKind.u64.wrap ((l[i].toNat % 128 * 128 ^ i : Nat) : Int) = ((l[i].toNat % 128 * 128 ^ i : Nat) : Int) := by
    rw [show IntKind.u64.wrap ((l[i].toNat % 128 * 128 ^ i : Nat) : Int) = ((l[i].toNat % 128 * 128 ^ i : Nat) : Int) % 18446744073709551616 by simp [IntKind.wrap, IntKind.bits, IntKind.signed]]
    omega
  rw [e, ew, u64_or_nat _ _ (by omega) (by omega), Nat.or_comm, nat_join (7 * i) _ _ (by rw [pow_seven]; exact Nat.mul_mod_left _ _) (by rw [pow_seven]; exact hv), List.take_succ_eq_append_getElem h, groupVal_snoc, hl, Nat.add_comm]

theorem tup3 {a b c d e f : Int} (h1 : a = d) (h2 : b = e) (h3 : c = f) : Ending.returned (.tuple #[.int .i64 a, .int .i64 b, .int .i64 c]) = .returned (.tuple #[.int .i64 d, .int .i64 e, .int .i64 f]) := by rw [h1, h2, h3]

section
variable {R : Value} {l : List UInt8} {a i Z : Nat} {b : UInt8} {U : Int} {hi : i < l.length}
theorem int_bad (HR : Hid (R = intTup ((intRest l).map fun p => (p.1, a + p.2))))
    (HS : Hid (intRest l = if (l[i].toNat = 0 ∧ 0 < i) ∨ unzig (groupVal (l.take (i + 1))) < -4611686018427387903 then none else some (unzig (groupVal (l.take (i + 1))), i + 1)))
    (HZ : Hid (groupVal (l.take (i + 1)) = Z)) (HE : Hid (b = l[i])) (HU : Hid (unzig Z = U)) (h : (b.toNat = 0 ∧ 0 < i) ∨ U < -4611686018427387903) :
    R = .tuple #[.int .i64 0, .int .i64 0, .int .i64 10] := by
  rw [HR.out, HS.out, if_pos (by rw [HZ.out, HU.out, ← HE.out]; exact h)]; rfl
theorem int_good (HR : Hid (R = intTup ((intRest l).map fun p => (p.1, a + p.2))))
    (HS : Hid (intRest l = if (l[i].toNat = 0 ∧ 0 < i) ∨ unzig (groupVal (l.take (i + 1))) < -4611686018427387903 then none else some (unzig (groupVal (l.take (i + 1))), i + 1)))
    (HZ : Hid (groupVal (l.take (i + 1)) = Z)) (HE : Hid (b = l[i])) (HU : Hid (unzig Z = U)) (h : ¬ ((b.toNat = 0 ∧ 0 < i) ∨ U < -4611686018427387903)) :
    R = .tuple #[.int .i64 U, .int .i64 ((a + (i + 1) : Nat) : Int), .int .i64 0] := by
  rw [HR.out, HS.out, if_neg (by rw [HZ.out, HU.out, ← HE.out]; exact h), HZ.out, HU.out]; rfl
end

set_option maxRecDepth 100000 in
set_option maxHeartbeats 1000000 in
theorem int_any (s : ByteArray) (a : Nat) (w : World) (hs : s.size ≤ 9223372036854775000) (ha : a ≤ s.size) :
    Calls Tryd.prog 42 #[.string s, .int .i64 a] w fun e w' => e = .returned (intTup (intAt s.data.toList a)) ∧ w = w' := by
  obtain ⟨l, hl⟩ : ∃ l, s.data.toList.drop a = l := ⟨_, rfl⟩
  have hll : l.length = s.size - a := by rw [← hl]; simp
  have hby : ∀ i (h : i < l.length) (h' : a + i < s.size), s[a + i] = l[i] := fun i h h' => by
    subst hl; rw [List.getElem_drop]; rfl
  obtain ⟨R, hR⟩ : ∃ R, intTup (intAt s.data.toList a) = R := ⟨_, rfl⟩
  have HR : Hid (R = intTup ((intRest l).map fun p => (p.1, a + p.2))) := Lib.hid (by rw [← hR, intAt_rest, hl])
  rw [hR]
  have HB := Lib.hid hby
  clear hl hby hR
  have h0 : decide ((a : Int) < 0) = false := by simp
  have h1 : decide (s.size < a) = false := by rw [decide_eq_false_iff_not]; omega
  go_enter Tryd.func42, Tryd.ntmps42
  go_wp2
  go_loop [1, 7, 8] (fun p z q => ∃ i Z : Nat, p = .int .i64 ((a + i : Nat) : Int) ∧ i ≤ 9 ∧ a + i ≤ s.size ∧ q = .int .i64 ((7 * i : Nat) : Int) ∧ z = .int .u64 (Z : Int) ∧ Z < 9223372036854775808 ∧ Hid (Z = groupVal (l.take i)) ∧ Hid (GoOn l i)) (fun _ _ q => 63 - (intOf q).toNat)
  case atStart => exact ⟨0, 0, rfl, by omega, by omega, rfl, rfl, by omega, Lib.hid rfl, Lib.hid ⟨by omega, fun j h => by omega⟩⟩
  case round =>
    obtain ⟨i, Z, rfl, hi, hai, rfl, rfl, hZ, hzv, hgo⟩ := hrel
    by_cases hi9 : i < 9
    · by_cases hend : a + i = s.size
      · have hb : ((a : Int) + (i : Int) == (s.size : Int)) = true := by rw [beq_iff_eq]; omega
        have hfin : R = .tuple #[.int .i64 0, .int .i64 0, .int .i64 10] := by
          rw [HR.out, rest_end (by rw [show l.length = i by omega]; exact hgo.out)]; rfl
        have HF := Lib.hid hfin
        clear hend hfin
        go_wp2
        go_ret3
        exact ⟨by rw [HF.out]; rfl, rfl⟩
      · have hb : ((a : Int) + (i : Int) == (s.size : Int)) = false := by rw [beq_eq_false_iff_ne]; omega
        have hlt : a + i < s.size := by omega
        have hil : i < l.length := by omega
        have HO := Lib.hid (or_group hil hi9 (HB.out i hil hlt))
        obtain ⟨Z2, hZ2⟩ : ∃ Z2, groupVal (l.take (i + 1)) = Z2 := ⟨_, rfl⟩
        have hZ2l : Z2 < 9223372036854775808 := by rw [← hZ2]; exact groupVal_take_lt l (i + 1) (by omega)
        have hor : bits .or .u64 (Z : Int) (IntKind.u64.wrap ((s[a + i].toNat : Int) % 128 * 2 ^ (7 * i))) = (Z2 : Int) := by rw [hzv.out, HO.out, hZ2]
        have HZ2 := Lib.hid hZ2
        clear hend hZ2 HO
        by_cases hc : (128 : Int) ≤ (s[a + i].toNat : Int)
        · have HG := Lib.hid (hgo.out.succ hil (by rw [← HB.out i hil hlt]; omega))
          go_wp2
          go_round
          case rel => exact ⟨i + 1, Z2, by go_num, by omega, by omega, by go_num, rfl, hZ2l, Lib.hid HZ2.out.symm, HG⟩
          case measure => simp [intOf]; omega
        · have HS := Lib.hid (rest_stop hgo.out hil hi9 (by rw [← HB.out i hil hlt]; omega))
          have HE := Lib.hid (HB.out i hil hlt)
          by_cases hodd : Z2 % 2 = 1
          · have hob : (((Z2 : Int) % 2) == 1) = true := by rw [beq_iff_eq]; omega
            have HU := Lib.hid (by unfold unzig; rw [if_pos hodd]; omega : unzig Z2 = -((Z2 : Int) / 2) - 1)
            clear hodd
            go_wp2
            all_goals go_ret3
            all_goals refine ⟨?_, rfl⟩
            all_goals first
              | (rw [int_bad HR HS HZ2 HE HU (by omega)]; rfl)
              | (rw [int_good HR HS HZ2 HE HU (by omega)]; exact tup3 rfl (by omega) rfl)
          · have hob : (((Z2 : Int) % 2) == 1) = false := by rw [beq_eq_false_iff_ne]; omega
            have HU := Lib.hid (by unfold unzig; rw [if_neg hodd]; omega : unzig Z2 = ((Z2 : Int) / 2))
            clear hodd
            go_wp2
            all_goals go_ret3
            all_goals refine ⟨?_, rfl⟩
            all_goals first
              | (rw [int_bad HR HS HZ2 HE HU (by omega)]; rfl)
              | (rw [int_good HR HS HZ2 HE HU (by omega)]; exact tup3 rfl (by omega) rfl)
    · have hfin : R = .tuple #[.int .i64 0, .int .i64 0, .int .i64 10] := by
        rw [HR.out, rest_nine (by rw [show (9 : Nat) = i by omega]; exact hgo.out)]; rfl
      have HF := Lib.hid hfin; clear hfin
      go_wp2
      go_ret3
      exact ⟨by rw [HF.out]; rfl, rfl⟩
end Go.Proofs.YtfdholhfdceedaaDoor
