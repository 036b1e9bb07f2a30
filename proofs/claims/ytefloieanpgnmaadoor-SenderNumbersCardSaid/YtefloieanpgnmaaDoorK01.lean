/- Facts and contracts for the laws of the sender, part 1. Conditions: those that each theorem names. -/
import Derived.Test.YtefloieanpgnmaaDoorProg
import Derived.WalkKit
import Derived.WalkSpells
import Derived.WalkLawsBesides
import Derived.Laws.BitsAllLaws
import Derived.Laws.ShiftsVarLaws
import Derived.Lib.Hide
import Derived.RangeFuncBox
import Derived.RangeFuncLeaves
import Derived.Maps.AppendAt
import Derived.RegionTactic
/- Checksums and the encoding of integers: plain facts, no program in sight. -/
namespace Go.Proofs.YtefloieanpgnmaaDoor

/-! ### the checksum -/
def crcBit (r : Nat) : Nat := if r % 2 = 1 then r / 2 ^^^ 2197175160 else r / 2
def crcBits : Nat → Nat → Nat
  | 0, r => r
  | n + 1, r => crcBits n (crcBit r)
def shiftT (i : Nat) : Nat := crcBits 4 i
def crcNib (r : Nat) : Nat := r / 16 ^^^ shiftT (r % 16)
def crcByte (r : Nat) (b : UInt8) : Nat := crcBits 8 (r ^^^ b.toNat)
def crcFold (l : List UInt8) : Nat := l.foldl crcByte 4294967295
def crcOf (l : List UInt8) : Nat := 4294967295 - crcFold l

theorem crcBit_lt {r : Nat} (h : r < 4294967296) : crcBit r < 4294967296 := by
  unfold crcBit
  split
  · exact Nat.xor_lt_two_pow (n := 32) (by omega) (by decide)
  · omega
theorem crcBits_lt : ∀ (n : Nat) {r : Nat}, r < 4294967296 → crcBits n r < 4294967296
  | 0, _, h => h
  | n + 1, _, h => crcBits_lt n (crcBit_lt h)
theorem shiftT_lt (i : Nat) (h : i < 16) : shiftT i < 4294967296 := crcBits_lt 4 (by omega)
theorem xor_byte_lt {r : Nat} (h : r < 4294967296) (b : UInt8) : r ^^^ b.toNat < 4294967296 := Nat.xor_lt_two_pow (n := 32) h (by have := b.toNat_lt; omega)
theorem crcByte_lt {r : Nat} (h : r < 4294967296) (b : UInt8) : crcByte r b < 4294967296 := crcBits_lt 8 (xor_byte_lt h b)
theorem crcFold_lt (l : List UInt8) : crcFold l < 4294967296 := by
  unfold crcFold
  have : ∀ (l : List UInt8) (r : Nat), r < 4294967296 → l.foldl crcByte r < 4294967296 := by
    intro l
    induction l with
    | nil => intro r h; exact h
    | cons b l ih => intro r h; exact ih _ (crcByte_lt h b)
  exact this l _ (by decide)
theorem crcNib_lt {r : Nat} (h : r < 4294967296) : crcNib r < 4294967296 := Nat.xor_lt_two_pow (n := 32) (by omega) (shiftT_lt _ (by omega))
theorem crcFold_snoc (l : List UInt8) (b : UInt8) : crcFold (l ++ [b]) = crcByte (crcFold l) b := by unfold crcFold; rw [List.foldl_append]; rfl
theorem crcOf_le (l : List UInt8) : crcOf l ≤ 4294967295 := Nat.sub_le _ _
theorem crcOf_nil : crcOf [] = 0 := rfl

theorem xor_half (a b : Nat) : (a ^^^ b) / 2 = a / 2 ^^^ b / 2 := by
  have := Nat.shiftRight_xor_distrib (a := a) (b := b) (i := 1)
  simpa [Nat.shiftRight_succ] using this
theorem xor_odd (a b : Nat) : (a ^^^ b) % 2 = (a % 2 + b % 2) % 2 := by
  have h := Nat.testBit_xor a b 0
  rw [Nat.testBit_zero, Nat.testBit_zero, Nat.testBit_zero] at h
  rcases Nat.mod_two_eq_zero_or_one a with ha | ha <;> rcases Nat.mod_two_eq_zero_or_one b with hb | hb <;> rcases Nat.mod_two_eq_zero_or_one (a ^^^ b) with hc | hc <;> rw [ha, hb, hc] at h <;> first | omega | (simp at h)

theorem crcBit_xor (a b : Nat) : crcBit (a ^^^ b) = crcBit a ^^^ crcBit b := by
  unfold crcBit
  rw [xor_half, xor_odd]
  rcases Nat.mod_two_eq_zero_or_one a with ha | ha <;> rcases Nat.mod_two_eq_zero_or_one b with hb | hb <;> simp only [ha, hb] <;> simp
  · rw [Nat.xor_assoc]
  · rw [Nat.xor_assoc, Nat.xor_comm (b / 2), Nat.xor_assoc]
  · rw [Nat.xor_assoc, ← Nat.xor_assoc 2197175160, Nat.xor_comm 2197175160, Nat.xor_assoc, Nat.xor_self, Nat.xor_zero]
theorem crcBits_xor : ∀ (n a b : Nat), crcBits n (a ^^^ b) = crcBits n a ^^^ crcBits n b
  | 0, _, _ => rfl
  | n + 1, a, b => by rw [crcBits, crcBits, crcBits, crcBit_xor, crcBits_xor n]
theorem crcBit_even (r : Nat) : crcBit (2 * r) = r := by unfold crcBit; rw [if_neg (by omega)]; omega
theorem xor_low {q n : Nat} (hn : n < 16) : 16 * q + n = 16 * q ^^^ n := by
  apply Nat.eq_of_testBit_eq
  intro i
  rw [Nat.testBit_xor, show (16 * q + n) = 2 ^ 4 * q + n from rfl, show 16 * q = 2 ^ 4 * q from rfl, Nat.testBit_two_pow_mul_add q hn, Nat.testBit_two_pow_mul]
  by_cases h : i < 4
  · simp [h, show ¬ 4 ≤ i by omega]
  · have hlt : n < 2 ^ i := Nat.lt_of_lt_of_le (show n < 2 ^ 4 from hn) (Nat.pow_le_pow_right (show 0 < 2 by omega) (by omega))
    have hb : n.testBit i = false := Nat.testBit_lt_two_pow hlt
    simp [h, hb, show 4 ≤ i by omega]
theorem crcBits_four (r : Nat) : crcBits 4 r = crcNib r := by
  have e : r = 16 * (r / 16) ^^^ (r % 16) := by rw [← xor_low (by omega)]; omega
  conv => lhs; rw [e]
  rw [crcBits_xor]
  have h16 : crcBits 4 (16 * (r / 16)) = r / 16 := by
    show crcBit (crcBit (crcBit (crcBit (16 * (r / 16))))) = _
    rw [show 16 * (r / 16) = 2 * (8 * (r / 16)) by omega, crcBit_even, show 8 * (r / 16) = 2 * (4 * (r / 16)) by omega, crcBit_even, show 4 * (r / 16) = 2 * (2 * (r / 16)) by omega, crcBit_even, crcBit_even]
  rw [h16]; rfl
theorem crcByte_nibs (r : Nat) (b : UInt8) : crcByte r b = crcNib (crcNib (r ^^^ b.toNat)) := by
  unfold crcByte
  rw [← crcBits_four, ← crcBits_four]; rfl

theorem xor_ones {q : Nat} (h : q < 4294967296) : 4294967295 ^^^ q = 4294967295 - q := by
  have e : (BitVec.allOnes 32 ^^^ BitVec.ofNat 32 q) = ~~~ (BitVec.ofNat 32 q) := BitVec.allOnes_xor
  have := congrArg BitVec.toNat e
  rw [BitVec.toNat_xor, BitVec.toNat_not, BitVec.toNat_allOnes, BitVec.toNat_ofNat, Nat.mod_eq_of_lt (by simpa using h)] at this
  simpa using this

end Go.Proofs.YtefloieanpgnmaaDoor
namespace Go.Proofs.YtefloieanpgnmaaDoor
open Go.RowKit

theorem ret_int {k : IntKind} {a b : Int} (h : a = b) : Ending.returned (.int k a) = .returned (.int k b) := by rw [h]
theorem wrap64_nat (m : Nat) (h : m ≤ 4294967295) : wrap64 (m : Int) = m := by unfold wrap64; omega
def ShiftsAt (W : World) : Prop := ∀ i, i < 16 → W.cell? ⟨0, i, none⟩ = some (.int .u32 (shiftT i))

theorem take_snoc (s : ByteArray) (k : Nat) (h : k < s.size) : s.data.toList.take (k + 1) = s.data.toList.take k ++ [s[k]] := by
  rw [List.take_succ_eq_append_getElem (by simpa using h)]; rfl

set_option maxHeartbeats 400000 in
theorem sum_any (s : ByteArray) (w : World) (hs : s.size ≤ 9223372036854775807) (hsh : ShiftsAt w) :
    Calls Tryd.prog 12 #[.string s] w fun e w' => e = .returned (.int .i64 (crcOf s.data.toList)) ∧ w = w' := by
  have HS := Lib.hid hsh; clear hsh
  go_enter Tryd.func12, Tryd.ntmps12
  go_wp2
  go_loop [3, 4] (fun r p => ∃ (k q : Nat), p = .int .i64 k ∧ k ≤ s.size ∧ r = .int .u32 q ∧ q < 4294967296 ∧ Hid (q = crcFold (s.data.toList.take k))) (fun _ p => s.size - (intOf p).toNat)
  case atStart => exact ⟨0, 4294967295, rfl, by omega, rfl, by omega, Lib.hid rfl⟩
  case round =>
    obtain ⟨k, q, rfl, hk, rfl, hq, hcr⟩ := hrel
    by_cases hlt : k < s.size
    · have hb := s[k].toNat_lt
      obtain ⟨q1, hq1⟩ : ∃ q1, q ^^^ s[k].toNat = q1 := ⟨_, rfl⟩
      have hx1 : bits .xor .u32 (q : Int) (s[k].toNat : Int) = (q1 : Int) := by rw [u32_xor_nat _ _ hq (by omega), hq1]
      have hq1l : q1 < 4294967296 := by rw [← hq1]; exact xor_byte_lt hq _
      have HQ1 := Lib.hid hq1; clear hq1
      have hc1 := HS.out (q1 % 16) (by omega)
      obtain ⟨q2, hq2⟩ : ∃ q2, crcNib q1 = q2 := ⟨_, rfl⟩
      have hx2 : bits .xor .u32 ((q1 : Int) / 16) (shiftT (q1 % 16) : Int) = (q2 : Int) := by
        rw [← hq2, show ((q1 : Int) / 16) = ((q1 / 16 : Nat) : Int) by omega, u32_xor_nat _ _ (by omega) (shiftT_lt _ (by omega))]; rfl
      have hq2l : q2 < 4294967296 := by rw [← hq2]; exact crcNib_lt hq1l
      have HQ2 := Lib.hid hq2; clear hq2
      have hc2 := HS.out (q2 % 16) (by omega)
      obtain ⟨q3, hq3⟩ : ∃ q3, crcNib q2 = q3 := ⟨_, rfl⟩
      have hx3 : bits .xor .u32 ((q2 : Int) / 16) (shiftT (q2 % 16) : Int) = (q3 : Int) := by
        rw [← hq3, show ((q2 : Int) / 16) = ((q2 / 16 : Nat) : Int) by omega, u32_xor_nat _ _ (by omega) (shiftT_lt _ (by omega))]; rfl
      have hq3l : q3 < 4294967296 := by rw [← hq3]; exact crcNib_lt hq2l
      have HQ3 := Lib.hid hq3; clear hq3
      go_wp2
      go_round
      case rel => exact ⟨k + 1, q3, by go_num, by omega, rfl, hq3l, Lib.hid (by rw [take_snoc s k hlt, crcFold_snoc, crcByte_nibs, ← hcr.out, HQ1.out, HQ2.out, HQ3.out])⟩
      case measure => simp [intOf]; omega
    · obtain ⟨m, hm⟩ : ∃ m, 4294967295 - q = m := ⟨_, rfl⟩
      have hx : bits .xor .u32 IntKind.u32.max (q : Int) = (m : Int) := by
        rw [show IntKind.u32.max = ((4294967295 : Nat) : Int) from rfl, u32_xor_nat _ _ (by omega) hq, xor_ones hq, hm]
      have hml : m ≤ 4294967295 := by omega
      have hfin : (m : Int) = (crcOf s.data.toList : Int) := by
        rw [← hm, hcr.out, List.take_of_length_le (by simp; omega)]; rfl
      have HF := Lib.hid hfin; clear hfin hm
      go_wp2
      go_ret
      exact ⟨ret_int ((wrap64_nat m (by omega)).trans HF.out), rfl⟩

end Go.Proofs.YtefloieanpgnmaaDoor
/- The encoding of integers: plain facts, no program in sight. -/
namespace Go.Proofs.YtefloieanpgnmaaDoor

def unzig (z : Nat) : Int := if z % 2 = 1 then -((z / 2 : Nat) : Int) - 1 else ((z / 2 : Nat) : Int)
def zig (n : Int) : Nat := if n < 0 then (2 * (-n) - 1).toNat else (2 * n).toNat
/-- the groups of z, the least significant first -/
def groupsF : Nat → Nat → List UInt8
  | 0, z => [UInt8.ofNat z]
  | f + 1, z => if z < 128 then [UInt8.ofNat z] else UInt8.ofNat (z % 128 + 128) :: groupsF f (z / 128)
def putInt (n : Int) : List UInt8 := groupsF 9 (zig n)
def groupVal : List UInt8 → Nat
  | [] => 0
  | b :: r => b.toNat % 128 + 128 * groupVal r
/-- how many bytes at the head of l go on -/
def lead : List UInt8 → Nat
  | [] => 0
  | b :: r => if 128 ≤ b.toNat then lead r + 1 else 0
def intRest (l : List UInt8) : Option (Int × Nat) :=
  if h : lead l < 9 ∧ lead l < l.length then
    if (l[lead l].toNat = 0 ∧ 0 < lead l) ∨ unzig (groupVal (l.take (lead l + 1))) < -4611686018427387903 then none
    else some (unzig (groupVal (l.take (lead l + 1))), lead l + 1)
  else none
def intAt (l : List UInt8) (i : Nat) : Option (Int × Nat) := (intRest (l.drop i)).map fun p => (p.1, i + p.2)

theorem unzig_zig (n : Int) : unzig (zig n) = n := by unfold unzig zig; split <;> split <;> omega
theorem zig_unzig (z : Nat) : zig (unzig z) = z := by unfold unzig zig; split <;> split <;> omega
theorem zig_lt {n : Int} (h1 : -4611686018427387903 ≤ n) (h2 : n ≤ 4611686018427387903) : zig n < 9223372036854775807 := by unfold zig; split <;> omega

theorem lead_le : ∀ l : List UInt8, lead l ≤ l.length
  | [] => by simp [lead]
  | b :: r => by unfold lead; have := lead_le r; split <;> simp <;> omega
theorem lead_ge : ∀ {l : List UInt8} {i : Nat}, i ≤ l.length → (∀ j (_h : j < i) (hl : j < l.length), 128 ≤ l[j].toNat) → i ≤ lead l
  | [], i, h, _ => by simp at h; omega
  | b :: r, 0, _, _ => Nat.zero_le _
  | b :: r, i + 1, h, hj => by
    have h0 := hj 0 (by omega) (by simp)
    simp only [List.getElem_cons_zero] at h0
    rw [lead, if_pos h0]
    exact Nat.succ_le_succ (lead_ge (by simpa using h) (fun j h1 h2 => by have := hj (j + 1) (by omega) (by simpa using h2); simpa using this))
theorem lead_eq : ∀ {l : List UInt8} {i : Nat} (_hi : i < l.length), (∀ j (_h : j < i) (hl : j < l.length), 128 ≤ l[j].toNat) → l[i].toNat < 128 → lead l = i
  | [], i, h, _, _ => by simp at h
  | b :: r, 0, _, _, h => by simp only [List.getElem_cons_zero] at h; rw [lead, if_neg (by omega)]
  | b :: r, i + 1, h, hj, hb => by
    have h0 := hj 0 (by omega) (by simp)
    simp only [List.getElem_cons_zero] at h0
    rw [lead, if_pos h0, lead_eq (by simpa using h) (fun j h1 h2 => by have := hj (j + 1) (by omega) (by simpa using h2); simpa using this) (by simpa using hb)]
theorem lead_all {l : List UInt8} {j : Nat} (h : j < lead l) (hl : j < l.length) : 128 ≤ l[j].toNat := by
  induction l generalizing j with
  | nil => simp at hl
  | cons b r ih =>
    rw [lead] at h
    split at h
    · rename_i hb
      cases j with
      | zero => simpa using hb
      | succ j => simpa using ih (by omega) (by simpa using hl)
    · omega
theorem lead_stop {l : List UInt8} (h : lead l < l.length) : l[lead l].toNat < 128 := by
  induction l with
  | nil => simp at h
  | cons b r ih =>
    by_cases hb : 128 ≤ b.toNat
    · have e : lead (b :: r) = lead r + 1 := by rw [lead, if_pos hb]
      have hr : lead r < r.length := by rw [e] at h; simpa using h
      have := ih hr
      simp only [e, List.getElem_cons_succ]; exact this
    · have e : lead (b :: r) = 0 := by rw [lead, if_neg hb]
      simp only [e, List.getElem_cons_zero]; omega

theorem groupVal_lt : ∀ l : List UInt8, groupVal l < 128 ^ l.length
  | [] => by simp [groupVal]
  | b :: r => by
    have := groupVal_lt r
    rw [groupVal, List.length_cons, Nat.pow_succ]
    have hb : b.toNat % 128 < 128 := Nat.mod_lt _ (by omega)
    omega
theorem groupVal_snoc : ∀ (l : List UInt8) (b : UInt8), groupVal (l ++ [b]) = groupVal l + (b.toNat % 128) * 128 ^ l.length
  | [], b => by simp [groupVal]
  | c :: r, b => by
    rw [List.cons_append, groupVal, groupVal_snoc r b, groupVal, List.length_cons, Nat.pow_succ, Nat.mul_add, Nat.add_assoc, ← Nat.mul_assoc, Nat.mul_comm 128, Nat.mul_assoc, Nat.mul_comm 128, Nat.mul_assoc]

theorem ofNat_toNat {n : Nat} (h : n < 256) : (UInt8.ofNat n).toNat = n := by rw [UInt8.toNat_ofNat']; exact Nat.mod_eq_of_lt (by simpa using h)
theorem byte_eq {b : UInt8} {n : Nat} (h : b.toNat = n) : b = UInt8.ofNat n := by apply UInt8.toNat_inj.1; rw [ofNat_toNat (by have := b.toNat_lt; omega), h]

/-- groups that are written canonically are the groups of their value -/
theorem groups_of_val : ∀ (bs : List UInt8) (b : UInt8) (f : Nat), (∀ c ∈ bs, 128 ≤ c.toNat) → b.toNat < 128 → (bs = [] ∨ b.toNat ≠ 0) → bs.length ≤ f → groupsF f (groupVal (bs ++ [b])) = bs ++ [b]
  | [], b, f, _, hb, _, _ => by
    have e : groupVal ([] ++ [b]) = b.toNat := by simp [groupVal]; omega
    rw [e, List.nil_append]
    have hb' : UInt8.ofNat b.toNat = b := (byte_eq rfl).symm
    cases f with
    | zero => rw [groupsF, hb']
    | succ f => rw [groupsF, if_pos hb, hb']
  | c :: bs, b, 0, _, _, _, hf => by simp at hf
  | c :: bs, b, f + 1, hc, hb, hn, hf => by
    have hn' : b.toNat ≠ 0 := by rcases hn with h | h; simp at h; exact h
    have hpos : ∀ l : List UInt8, 0 < groupVal (l ++ [b]) := by
      intro l
      rw [groupVal_snoc]
      have : 0 < b.toNat % 128 * 128 ^ l.length := Nat.mul_pos (by omega) (Nat.pow_pos (by omega))
      omega
    have h0 := hpos bs
    have e : groupVal (c :: bs ++ [b]) = c.toNat % 128 + 128 * groupVal (bs ++ [b]) := rfl
    have hc0 := hc c (by simp)
    have hc1 := c.toNat_lt
    have hv : c.toNat % 128 + 128 * groupVal (bs ++ [b]) = groupVal (bs ++ [b]) * 128 + c.toNat % 128 := by omega
    rw [e, groupsF, if_neg (by omega), show (c.toNat % 128 + 128 * groupVal (bs ++ [b])) / 128 = groupVal (bs ++ [b]) by omega,
      show (c.toNat % 128 + 128 * groupVal (bs ++ [b])) % 128 + 128 = c.toNat by omega, (byte_eq rfl : c = UInt8.ofNat c.toNat).symm,
      groups_of_val bs b f (fun d hd => hc d (by simp [hd])) hb (.inr hn') (by simpa using hf)]
    rfl

/-- the groups of z: bytes that go on, then one that does not; their value is z; the last is 0 for z = 0 alone -/
theorem groups_form : ∀ (f z : Nat), z < 128 ^ (f + 1) → ∃ bs b, groupsF f z = bs ++ [b] ∧ (∀ c ∈ bs, 128 ≤ c.toNat) ∧ b.toNat < 128 ∧ (bs = [] ∨ b.toNat ≠ 0) ∧ bs.length ≤ f ∧ groupVal (bs ++ [b]) = z
  | 0, z, h => ⟨[], UInt8.ofNat z, rfl, by simp, by rw [ofNat_toNat (by omega)]; omega, .inl rfl, by simp, by simp [groupVal]; omega⟩
  | f + 1, z, h => by
    by_cases hz : z < 128
    · exact ⟨[], UInt8.ofNat z, by rw [groupsF, if_pos hz]; rfl, by simp, by rw [ofNat_toNat (by omega)]; exact hz, .inl rfl, by simp, by simp [groupVal]; omega⟩
    · obtain ⟨bs, b, h1, h2, h3, h4, h5, h6⟩ := groups_form f (z / 128) (by rw [Nat.pow_succ] at h; omega)
      have hm : z % 128 + 128 < 256 := by omega
      refine ⟨UInt8.ofNat (z % 128 + 128) :: bs, b, by rw [groupsF, if_neg hz, h1]; rfl, ?_, h3, .inr ?_, by simp; omega, ?_⟩
      · intro c hc
        rcases List.mem_cons.1 hc with rfl | hc
        · rw [ofNat_toNat hm]; omega
        · exact h2 c hc
      · rcases h4 with rfl | h4
        · intro h0
          have e : groupVal ([] ++ [b]) = b.toNat % 128 := by simp [groupVal]
          rw [e] at h6; omega
        · exact h4
      · show (UInt8.ofNat (z % 128 + 128)).toNat % 128 + 128 * groupVal (bs ++ [b]) = z
        rw [ofNat_toNat hm, h6]; omega

theorem lead_append {bs : List UInt8} {b : UInt8} {r : List UInt8} (hc : ∀ c ∈ bs, 128 ≤ c.toNat) (hb : b.toNat < 128) : lead (bs ++ b :: r) = bs.length := by
  induction bs with
  | nil => simp only [List.nil_append, lead, List.length_nil]; rw [if_neg (by omega)]
  | cons c bs ih => rw [List.cons_append, lead, if_pos (hc c (by simp)), ih (fun d hd => hc d (by simp [hd]))]; rfl

/-- (T1) what is written is read -/
theorem int_put {n : Int} (h1 : -4611686018427387903 ≤ n) (h2 : n ≤ 4611686018427387903) (r : List UInt8) : intRest (putInt n ++ r) = some (n, (putInt n).length) := by
  have hz := zig_lt h1 h2
  obtain ⟨bs, b, e, hc, hb, hn, hl, hv⟩ := groups_form 9 (zig n) (Nat.lt_trans hz (by decide))
  have hlt : bs.length < 9 := by
    rcases Nat.lt_or_ge bs.length 9 with h | h
    · exact h
    · have h9 : bs.length = 9 := by omega
      have hb1 : 1 ≤ b.toNat := by rcases hn with rfl | hn; simp at h9; omega
      have : 128 ^ 9 ≤ groupVal (bs ++ [b]) := by
        rw [groupVal_snoc, h9]
        have : 1 * 128 ^ 9 ≤ b.toNat % 128 * 128 ^ 9 := Nat.mul_le_mul_right _ (by omega)
        omega
      rw [hv] at this
      have h63 : (128 : Nat) ^ 9 = 9223372036854775808 := by decide
      omega
  have hld : lead (putInt n ++ r) = bs.length := by rw [putInt, e, List.append_assoc]; exact lead_append hc hb
  have hpl : (putInt n).length = bs.length + 1 := by rw [putInt, e]; simp
  have htk : (putInt n ++ r).take (bs.length + 1) = bs ++ [b] := by rw [← hpl, List.take_left, putInt, e]
  have hgl : (putInt n ++ r).length = bs.length + 1 + r.length := by rw [List.length_append, hpl]
  have hget : ∀ h : bs.length < (putInt n ++ r).length, (putInt n ++ r)[bs.length] = b := by
    intro h
    have : (putInt n ++ r)[bs.length]? = some b := by rw [putInt, e, List.append_assoc]; simp
    exact (List.getElem?_eq_some_iff.1 this).2
  unfold intRest
  simp only [hld]
  rw [dif_pos ⟨hlt, by omega⟩, htk, hv, unzig_zig, hget, if_neg, hpl]
  rintro (⟨h0, hp⟩ | h0)
  · rcases hn with rfl | hn
    · simp at hp
    · exact hn h0
  · omega

/-- (T2) what is read was written so -/
theorem put_int {l : List UInt8} {n : Int} {k : Nat} (h : intRest l = some (n, k)) : l.take k = putInt n ∧ -4611686018427387903 ≤ n ∧ n ≤ 4611686018427387903 ∧ k ≤ l.length ∧ 0 < k := by
  unfold intRest at h
  split at h
  · rename_i hl
    split at h
    · cases h
    · rename_i hn
      have hn1 := not_or.1 hn
      cases h
      have hst := lead_stop hl.2
      have htk : l.take (lead l + 1) = l.take (lead l) ++ [l[lead l]] := List.take_succ_eq_append_getElem hl.2
      have hlen : (l.take (lead l)).length = lead l := by simp; omega
      have hall : ∀ c ∈ l.take (lead l), 128 ≤ c.toNat := by
        intro c hc
        obtain ⟨j, hj, rfl⟩ := List.getElem_of_mem hc
        rw [List.getElem_take]
        rw [hlen] at hj
        exact lead_all hj (by omega)
      have hg := groups_of_val (l.take (lead l)) l[lead l] 9 hall hst (by
        by_cases h0 : lead l = 0
        · left; rw [h0]; rfl
        · right; intro h; exact hn1.1 ⟨h, by omega⟩) (by omega)
      have hz : groupVal (l.take (lead l + 1)) < 9223372036854775808 := by
        have h1 := groupVal_lt (l.take (lead l + 1))
        have h2 : (l.take (lead l + 1)).length ≤ 9 := by simp; omega
        have h3 : (128 : Nat) ^ (l.take (lead l + 1)).length ≤ 128 ^ 9 := Nat.pow_le_pow_right (by omega) h2
        have h63 : (128 : Nat) ^ 9 = 9223372036854775808 := by decide
        omega
      refine ⟨?_, by omega, ?_, by omega, by omega⟩
      · rw [putInt, zig_unzig, htk, hg]
      · unfold unzig; split <;> omega
  · cases h

end Go.Proofs.YtefloieanpgnmaaDoor
namespace Go.Proofs.YtefloieanpgnmaaDoor
open Go.RowKit

/-- the bytes from a on that have been read: all go on -/
def GoOn (l : List UInt8) (i : Nat) : Prop := i ≤ l.length ∧ ∀ j (_h : j < i) (hl : j < l.length), 128 ≤ l[j].toNat
theorem GoOn.succ {l : List UInt8} {i : Nat} (h : GoOn l i) (hi : i < l.length) (hb : 128 ≤ l[i].toNat) : GoOn l (i + 1) :=
  ⟨hi, fun j h1 h2 => by
    rcases Nat.lt_or_ge j i with hj | hj
    · exact h.2 j hj h2
    · obtain rfl : j = i := by omega
      exact hb⟩

def intTup : Option (Int × Nat) → Value
  | some (n, k) => .tuple #[.int .i64 n, .int .i64 (k : Int), .int .i64 0]
  | none => .tuple #[.int .i64 0, .int .i64 0, .int .i64 10]

theorem intAt_rest {l : List UInt8} {a : Nat} : intAt l a = (intRest (l.drop a)).map fun p => (p.1, a + p.2) := rfl
theorem rest_nine {l : List UInt8} (h : GoOn l 9) : intRest l = none := by
  have := lead_ge h.1 h.2
  unfold intRest; rw [dif_neg (by omega)]
theorem rest_end {l : List UInt8} (h : GoOn l l.length) : intRest l = none := by
  have := lead_ge h.1 h.2
  unfold intRest; rw [dif_neg (by omega)]
theorem rest_stop {l : List UInt8} {i : Nat} (h : GoOn l i) (hi : i < l.length) (hi9 : i < 9) (hb : l[i].toNat < 128) :
    intRest l = if (l[i].toNat = 0 ∧ 0 < i) ∨ unzig (groupVal (l.take (i + 1))) < -4611686018427387903 then none else some (unzig (groupVal (l.take (i + 1))), i + 1) := by
  have he : lead l = i := lead_eq hi h.2 hb
  unfold intRest
  simp only [he]
  rw [dif_pos ⟨hi9, hi⟩]

theorem pow_seven (i : Nat) : (2 : Nat) ^ (7 * i) = 128 ^ i := by rw [Nat.pow_mul]
theorem groupVal_take_lt (l : List UInt8) (i : Nat) (hi : i ≤ 9) : groupVal (l.take i) < 9223372036854775808 := by
  have h1 := groupVal_lt (l.take i)
  have h3 : (128 : Nat) ^ (l.take i).length ≤ 128 ^ 9 := Nat.pow_le_pow_right (by omega) (by simp; omega)
  have h63 : (128 : Nat) ^ 9 = 9223372036854775808 := by decide
  omega
theorem or_group {l : List UInt8} {i : Nat} (h : i < l.length) (hi : i < 9) {b : UInt8} (hb : b = l[i]) :
    bits .or .u64 (groupVal (l.take i) : Int) (IntKind.u64.wrap ((b.toNat : Int) % 128 * 2 ^ (7 * i))) = (groupVal (l.take (i + 1)) : Int) := by
  subst hb
  have hp : (0 : Nat) < 128 ^ i := Nat.pow_pos (by omega)
  have hp8 : (128 : Nat) ^ i ≤ 128 ^ 8 := Nat.pow_le_pow_right (by omega) (by omega)
  have h8 : (128 : Nat) ^ 8 = 72057594037927936 := by decide
  have hm : l[i].toNat % 128 * 128 ^ i ≤ 127 * 72057594037927936 := Nat.mul_le_mul (by omega) (by omega)
  have hv := groupVal_lt (l.take i)
  have hl : (l.take i).length = i := by simp; omega
  rw [hl] at hv
  have e : ((l[i].toNat : Int) % 128 * 2 ^ (7 * i)) = ((l[i].toNat % 128 * 128 ^ i : Nat) : Int) := by
    rw [← pow_seven]; push_cast; rfl
  have ew : IntKind.u64.wrap ((l[i].toNat % 128 * 128 ^ i : Nat) : Int) = ((l[i].toNat % 128 * 128 ^ i : Nat) : Int) := by
    rw [show IntKind.u64.wrap ((l[i].toNat % 128 * 128 ^ i : Nat) : Int) = ((l[i].toNat % 128 * 128 ^ i : Nat) : Int) % 18446744073709551616 by simp [IntKind.wrap, IntKind.bits, IntKind.signed]]
    omega
  rw [e, ew, u64_or_nat _ _ (by omega) (by omega), Nat.or_comm, nat_join (7 * i) _ _ (by rw [pow_seven]; exact Nat.mul_mod_left _ _) (by rw [pow_seven]; exact hv), List.take_succ_eq_append_getElem h, groupVal_snoc, hl, Nat.add_comm]

theorem tup3 {a b c d e f : Int} (h1 : a = d) (h2 : b = e) (h3 : c = f) : Ending.returned (.tuple #[.int .i64 a, .int .i64 b, .int .i64 c]) = .returned (.tuple #[.int .i64 d, .int .i64 e, .int .i64 f]) := by rw [h1, h2, h3]

section
variable {R : Value} {l : List UInt8} {a i Z : Nat} {b : UInt8} {U : Int} {hi : i < l.length}
theorem int_bad (HR : Hid (R = intTup ((intRest l).map fun p => (p.1, a + p.2))))
    (HS : Hid (intRest l = if (l[i].toNat = 0 ∧ 0 < i) ∨ unzig (groupVal (l.take (i + 1))) < -4611686018427387903 then none else some (unzig (groupVal (l.take (i + 1))), i + 1)))
    (HZ : Hid (groupVal (l.take (i + 1)) = Z)) (HE : Hid (b = l[i])) (HU : Hid (unzig Z = U)) (h : (b.toNat = 0 ∧ 0 < i) ∨ U < -4611686018427387903) :
    R = .tuple #[.int .i64 0, .int .i64 0, .int .i64 10] := by
  rw [HR.out, HS.out, if_pos (by rw [HZ.out, HU.out, ← HE.out]; exact h)]; rfl
theorem int_good (HR : Hid (R = intTup ((intRest l).map fun p => (p.1, a + p.2))))
    (HS : Hid (intRest l = if (l[i].toNat = 0 ∧ 0 < i) ∨ unzig (groupVal (l.take (i + 1))) < -4611686018427387903 then none else some (unzig (groupVal (l.take (i + 1))), i + 1)))
    (HZ : Hid (groupVal (l.take (i + 1)) = Z)) (HE : Hid (b = l[i])) (HU : Hid (unzig Z = U)) (h : ¬ ((b.toNat = 0 ∧ 0 < i) ∨ U < -4611686018427387903)) :
    R = .tuple #[.int .i64 U, .int .i64 ((a + (i + 1) : Nat) : Int), .int .i64 0] := by
  rw [HR.out, HS.out, if_neg (by rw [HZ.out, HU.out, ← HE.out]; exact h), HZ.out, HU.out]; rfl
end

set_option maxRecDepth 100000 in
set_option maxHeartbeats 1000000 in
theorem int_any (s : ByteArray) (a : Nat) (w : World) (hs : s.size ≤ 9223372036854775000) (ha : a ≤ s.size) :
    Calls Tryd.prog 59 #[.string s, .int .i64 a] w fun e w' => e = .returned (intTup (intAt s.data.toList a)) ∧ w = w' := by
  obtain ⟨l, hl⟩ : ∃ l, s.data.toList.drop a = l := ⟨_, rfl⟩
  have hll : l.length = s.size - a := by rw [← hl]; simp
  have hby : ∀ i (h : i < l.length) (h' : a + i < s.size), s[a + i] = l[i] := fun i h h' => by
    subst hl; rw [List.getElem_drop]; rfl
  obtain ⟨R, hR⟩ : ∃ R, intTup (intAt s.data.toList a) = R := ⟨_, rfl⟩
  have HR : Hid (R = intTup ((intRest l).map fun p => (p.1, a + p.2))) := Lib.hid (by rw [← hR, intAt_rest, hl])
  rw [hR]
  have HB := Lib.hid hby
  clear hl hby hR
  have h0 : decide ((a : Int) < 0) = false := by simp
  have h1 : decide (s.size < a) = false := by rw [decide_eq_false_iff_not]; omega
  go_enter Tryd.func59, Tryd.ntmps59
  go_wp2
  go_loop [1, 7, 8] (fun p z q => ∃ i Z : Nat, p = .int .i64 ((a + i : Nat) : Int) ∧ i ≤ 9 ∧ a + i ≤ s.size ∧ q = .int .i64 ((7 * i : Nat) : Int) ∧ z = .int .u64 (Z : Int) ∧ Z < 9223372036854775808 ∧ Hid (Z = groupVal (l.take i)) ∧ Hid (GoOn l i)) (fun _ _ q => 63 - (intOf q).toNat)
  case atStart => exact ⟨0, 0, rfl, by omega, by omega, rfl, rfl, by omega, Lib.hid rfl, Lib.hid ⟨by omega, fun j h => by omega⟩⟩
  case round =>
    obtain ⟨i, Z, rfl, hi, hai, rfl, rfl, hZ, hzv, hgo⟩ := hrel
    by_cases hi9 : i < 9
    · by_cases hend : a + i = s.size
      · have hb : ((a : Int) + (i : Int) == (s.size : Int)) = true := by rw [beq_iff_eq]; omega
        have hfin : R = .tuple #[.int .i64 0, .int .i64 0, .int .i64 10] := by
          rw [HR.out, rest_end (by rw [show l.length = i by omega]; exact hgo.out)]; rfl
        have HF := Lib.hid hfin
        clear hend hfin
        go_wp2
        go_ret3
        exact ⟨by rw [HF.out]; rfl, rfl⟩
      · have hb : ((a : Int) + (i : Int) == (s.size : Int)) = false := by rw [beq_eq_false_iff_ne]; omega
        have hlt : a + i < s.size := by omega
        have hil : i < l.length := by omega
        have HO := Lib.hid (or_group hil hi9 (HB.out i hil hlt))
        obtain ⟨Z2, hZ2⟩ : ∃ Z2, groupVal (l.take (i + 1)) = Z2 := ⟨_, rfl⟩
        have hZ2l : Z2 < 9223372036854775808 := by rw [← hZ2]; exact groupVal_take_lt l (i + 1) (by omega)
        have hor : bits .or .u64 (Z : Int) (IntKind.u64.wrap ((s[a + i].toNat : Int) % 128 * 2 ^ (7 * i))) = (Z2 : Int) := by rw [hzv.out, HO.out, hZ2]
        have HZ2 := Lib.hid hZ2
        clear hend hZ2 HO
        by_cases hc : (128 : Int) ≤ (s[a + i].toNat : Int)
        · have HG := Lib.hid (hgo.out.succ hil (by rw [← HB.out i hil hlt]; omega))
          go_wp2
          go_round
          case rel => exact ⟨i + 1, Z2, by go_num, by omega, by omega, by go_num, rfl, hZ2l, Lib.hid HZ2.out.symm, HG⟩
          case measure => simp [intOf]; omega
        · have HS := Lib.hid (rest_stop hgo.out hil hi9 (by rw [← HB.out i hil hlt]; omega))
          have HE := Lib.hid (HB.out i hil hlt)
          by_cases hodd : Z2 % 2 = 1
          · have hob : (((Z2 : Int) % 2) == 1) = true := by rw [beq_iff_eq]; omega
            have HU := Lib.hid (by unfold unzig; rw [if_pos hodd]; omega : unzig Z2 = -((Z2 : Int) / 2) - 1)
            clear hodd
            go_wp2
            all_goals go_ret3
            all_goals refine ⟨?_, rfl⟩
            all_goals first
              | (rw [int_bad HR HS HZ2 HE HU (by omega)]; rfl)
              | (rw [int_good HR HS HZ2 HE HU (by omega)]; exact tup3 rfl (by omega) rfl)
          · have hob : (((Z2 : Int) % 2) == 1) = false := by rw [beq_eq_false_iff_ne]; omega
            have HU := Lib.hid (by unfold unzig; rw [if_neg hodd]; omega : unzig Z2 = ((Z2 : Int) / 2))
            clear hodd
            go_wp2
            all_goals go_ret3
            all_goals refine ⟨?_, rfl⟩
            all_goals first
              | (rw [int_bad HR HS HZ2 HE HU (by omega)]; rfl)
              | (rw [int_good HR HS HZ2 HE HU (by omega)]; exact tup3 rfl (by omega) rfl)
    · have hfin : R = .tuple #[.int .i64 0, .int .i64 0, .int .i64 10] := by
        rw [HR.out, rest_nine (by rw [show (9 : Nat) = i by omega]; exact hgo.out)]; rfl
      have HF := Lib.hid hfin; clear hfin
      go_wp2
      go_ret3
      exact ⟨by rw [HF.out]; rfl, rfl⟩
end Go.Proofs.YtefloieanpgnmaaDoor
/- Small laws on worlds: no program in sight. -/
namespace Go.Proofs.YtefloieanpgnmaaDoor
open Go.RowKit

/-- Below n₀ all but block B lies as it lay. -/
structure ButAt (n₀ B : Nat) (w w' : World) : Prop where
  os : w'.os = w.os
  tape : w'.tape = w.tape
  output : w'.output = w.output
  size : w.heap.size ≤ w'.heap.size
  block : ∀ k, k < n₀ → k ≠ B → w'.heap[k]? = w.heap[k]?

theorem ButAt.below {n₀ B m : Nat} {w w' : World} (h : ButAt n₀ B w w') (hm : m ≤ n₀) (hB : m ≤ B) : Below m w w' := ⟨h.os, h.tape, h.output, h.size, fun k hk => h.block k (by omega) (by omega)⟩
theorem ButAt.of_below {n₀ B : Nat} {w w' : World} (h : Below n₀ w w') : ButAt n₀ B w w' := ⟨h.os, h.tape, h.output, h.size, fun k hk _ => h.block k hk⟩
theorem ButAt.trans {n₀ B : Nat} {a b c : World} (h : ButAt n₀ B a b) (k : ButAt n₀ B b c) : ButAt n₀ B a c :=
  ⟨k.os.trans h.os, k.tape.trans h.tape, k.output.trans h.output, Nat.le_trans h.size k.size, fun i hi hb => (k.block i hi hb).trans (h.block i hi hb)⟩
theorem ButAt.setCell {n₀ B o : Nat} (w : World) (u : Value) : ButAt n₀ B w (w.setCell ⟨B, o, none⟩ u) :=
  ⟨rfl, rfl, rfl, by simp [World.setCell], fun k _ hb => Below.heap_setCell _ _ _ _ hb⟩

/-- Block b lies as it lay. -/
def KeepsAt (b : Nat) (W W' : World) : Prop := W.heap.size ≤ W'.heap.size ∧ W'.heap[b]? = W.heap[b]?
theorem KeepsAt.refl (b : Nat) (W : World) : KeepsAt b W W := ⟨Nat.le_refl _, rfl⟩
theorem KeepsAt.trans {b : Nat} {A B C : World} (h : KeepsAt b A B) (k : KeepsAt b B C) : KeepsAt b A C := ⟨Nat.le_trans h.1 k.1, k.2.trans h.2⟩
theorem KeepsAt.alloc {b : Nat} {A B : World} (h : KeepsAt b A B) (hb : b < B.heap.size) (o : Obj) : KeepsAt b A (B.alloc o) := h.trans ⟨by simp, Below.heap_alloc _ _ _ hb⟩
theorem KeepsAt.cell {b : Nat} {W W' : World} (h : KeepsAt b W W') : W'.cell? ⟨b, 0, none⟩ = W.cell? ⟨b, 0, none⟩ := World.cell?_of_block (w := W) h.2
theorem KeepsAt.putObj {b : Nat} {w : World} (hb : b < w.heap.size) (W : World) (l : Nat) (o o' : Obj) (hl : w.heap.size ≤ l) (_ : W.heap[l]? = some o) (_ : o.isCells = false) (_ : o.isWalk = false) : KeepsAt b W (W.putObj l o') :=
  ⟨by simp, World.putObj_heap_other (by omega)⟩
theorem ButAt.keepsAt {n₀ B b : Nat} {w w' : World} (h : ButAt n₀ B w w') (hb : b < n₀) (hB : b ≠ B) : KeepsAt b w w' := ⟨h.size, h.block b hb hB⟩

/-- 'Boxed.appended' where nothing was laid for what is appended; the frame by blocks. -/
theorem boxed_appended {W w1 : World} {n₀ B : Nat} {t e : TypeId} {size : Nat} {v v' : Value} {k m : Nat} {xs ys : List Value}
    (hv : Boxed W B t v) (hte : t ≠ e) (hrow : W.ownsRow n₀ e size v k xs) (hn₀ : n₀ ≤ W.heap.size)
    (hown' : w1.ownsRow n₀ e size v' m ys) (hgrow : W.grownBy w1 v.ownBlock) :
    Boxed w1 B t v ∧ Boxed (w1.setCell ⟨B, 0, none⟩ v') B t v' ∧ (w1.setCell ⟨B, 0, none⟩ v').ownsRow n₀ e size v' m ys ∧ KeepsOthers W (w1.setCell ⟨B, 0, none⟩ v') ∧ ButAt n₀ B W (w1.setCell ⟨B, 0, none⟩ v') := by
  have hv1 : Boxed w1 B t v := hv.kept hgrow (hv.not_row hte hrow)
  refine ⟨hv1, hv1.set v', hown'.kept (grownBy_setCell' w1 B v') (.inr (hv1.not_row hte hown').symm), ?_, ?_⟩
  · refine (KeepsOthers.of_grownBy hgrow fun j o ej hj => ?_).trans (KeepsOthers.setCell _ _ _)
    rcases hrow.2 with ⟨rfl, _⟩ | ⟨g, cap, cur, rfl, _, hgb, _⟩
    · simp [Value.ownBlock] at ej
    · obtain rfl : g = j := by simpa [Value.ownBlock] using ej
      rw [hgb] at hj; cases hj; rfl
  · refine (ButAt.of_below ((Below.refl n₀ W).grown hgrow (by omega) fun j ej => ?_)).trans (ButAt.setCell _ _)
    rcases hrow.2 with ⟨rfl, _⟩ | ⟨g, cap, cur, rfl, hb, _, _⟩
    · simp [Value.ownBlock] at ej
    · obtain rfl : g = j := by simpa [Value.ownBlock] using ej
      exact hb

theorem _root_.Go.World.ownsRow.mono_base {w : World} {base base' : Nat} {e : TypeId} {size : Nat} {v : Value} {n : Nat} {xs : List Value} (h : w.ownsRow base e size v n xs) (hb : base' ≤ base) : w.ownsRow base' e size v n xs := by
  obtain ⟨h1, h2⟩ := h
  refine ⟨h1, ?_⟩
  rcases h2 with h2 | ⟨g, cap, cur, hv, hg, r⟩
  · exact .inl h2
  · exact .inr ⟨g, cap, cur, hv, by omega, r⟩

theorem _root_.Go.RowKit.Below.drewN {B : Nat} {a w : World} (h : Below B a w) (n : Nat) : Below B a (w.drewN n) := ⟨h.os, h.tape, h.output, h.size, h.block⟩

theorem below_then {a b c : World} (h : Below a.heap.size a b) (k : Below b.heap.size b c) : Below a.heap.size a c := h.trans (k.mono h.size)
theorem below_alloc {a b : World} (h : Below a.heap.size a b) (o : Obj) : Below a.heap.size a (b.alloc o) := h.alloc h.size o

theorem cell_one {w : World} {b : Nat} {v : Value} (h : w.cell? ⟨b, 0, none⟩ = some v) : ∀ j u, [v][j]? = some u → w.cell? ((⟨b, 0, none⟩ : Addr).add j) = some u := by
  intro j u hj
  cases j with
  | zero => simp at hj; subst hj; simpa [Addr.add] using h
  | succ j => simp at hj

end Go.Proofs.YtefloieanpgnmaaDoor
/- 'append(v, src...)' where v is a row of the call's own and src whatever slice: nil, empty or not. No program in sight. -/
namespace Go.Proofs.YtefloieanpgnmaaDoor
open Go.RowKit

/-- what a source of an append holds -/
def Src (w : World) (size : Nat) (A : Option Addr) (m : Nat) (news : List Value) : Prop :=
  news.length = m * size ∧ (A = none → m = 0) ∧ ∀ ad, A = some ad → ∀ j u, news[j]? = some u → w.cell? (ad.add j) = some u

section
variable {P : Program} (w : World)

theorem run_append_src (base : Nat) (t ty e : TypeId) (i : TypeInfo) (z : Value) (size bytes : Nat) (ht : P.underlying t = some (.slice e)) (hi : P.info? e = some i) (hz : i.zero = some z)
    (hsize : i.size = size) (hby : i.bytes = bytes) (hzs : z.cells.size = size) (hsz : 0 < size)
    (v : Value) (n : Nat) (xs : List Value) (hown : w.ownsRow base e size v n xs) (A : Option Addr) (m c : Nat) (news : List Value) (hs : Src w size A m news) (h1 : ∀ u ∈ news, u.oneCell' = true)
    (h63 : n + m ≤ maxLen) (hbytes : (n + m) * bytes ≤ 140737488355328) (hbase : base ≤ w.heap.size) :
    ∃ v' w', (Builtin.append_ #[t, t] ty #[v, .slice A m c]).run P w = .ok v' w' ∧ w'.ownsRow base e size v' (n + m) (xs ++ news) ∧ w.grownBy w' v.ownBlock := by
  obtain ⟨hl, h0, hc⟩ := hs
  cases A with
  | some ad =>
    obtain ⟨v', w', hr, h2, h3, _⟩ := run_append_own (P := P) w base t ty e i z size bytes ht hi hz hsize hby hzs hsz v n xs hown ad m c news hl (hc ad rfl) h1 h63 hbytes hbase
    exact ⟨v', w', hr, h2, h3⟩
  | none =>
    obtain rfl := h0 rfl
    obtain rfl : news = [] := List.eq_nil_of_length_eq_zero (by simpa using hl)
    refine ⟨v, w, ?_, by simpa using hown, ⟨rfl, rfl, rfl, Nat.le_refl _, fun _ _ _ => rfl⟩⟩
    rcases hown.2 with ⟨rfl, rfl⟩ | ⟨g, cap, cur, rfl, _, _, hnc, _⟩
    · simp [Builtin.append_, run_underlying ht, sizeOf, typeInfo, hi, Builtin.lenOf, Builtin.firstCells]
    · simp [Builtin.append_, run_underlying ht, sizeOf, typeInfo, hi, Builtin.lenOf, Builtin.firstCells, hnc, storeCells]

theorem wpList_append_src {ops : Array Oper} {rest : List Oper} {o : Oper} {a : Act} {Q : Exit → Act → World → Prop} (hgd : o.guard = none) (s x : Operand) (t : TypeId)
    (ho : o.op = .call { callee := .builtin .append, args := #[s, x], argTypes := #[t, t] })
    (base : Nat) (e : TypeId) (i : TypeInfo) (z : Value) (size bytes : Nat) (ht : P.underlying t = some (.slice e)) (hi : P.info? e = some i) (hz : i.zero = some z)
    (hsize : i.size = size) (hby : i.bytes = bytes) (hzs : z.cells.size = size) (hsz : 0 < size)
    (v : Value) (n : Nat) (xs : List Value) (hs : a.eval s = v) (hown : w.ownsRow base e size v n xs)
    (A : Option Addr) (m c : Nat) (news : List Value) (hx : a.eval x = .slice A m c) (hr : Src w size A m news) (h1 : ∀ u ∈ news, u.oneCell' = true)
    (h63 : n + m ≤ maxLen) (hbytes : (n + m) * bytes ≤ 140737488355328) (hbase : base ≤ w.heap.size)
    (h : ∀ v' w', w'.ownsRow base e size v' (n + m) (xs ++ news) → w.grownBy w' v.ownBlock → wpList P ops Q rest (a.put o.dst v') w') : wpList P ops Q (o :: rest) a w :=
  wpList_plain hgd fun _ hK => by
    obtain ⟨v', w', hrun, h2, h3⟩ := run_append_src (P := P) w base t o.type e i z size bytes ht hi hz hsize hby hzs hsz v n xs hown A m c news hr h1 h63 hbytes hbase
    unfold Oper.wp execOp
    simp only [ho, resolve, invoke, builtin, Sem.run_bind, Sem.run_pure, Result.andThen_ok, List.map_toArray, List.map_cons, List.map_nil, hs, hx, hrun]
    exact hK _ _ (h v' w' h2 h3)
end
end Go.Proofs.YtefloieanpgnmaaDoor
