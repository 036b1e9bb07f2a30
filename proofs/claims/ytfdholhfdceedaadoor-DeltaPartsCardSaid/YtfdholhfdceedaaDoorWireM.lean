/- Checksums and the encoding of integers: plain facts, no program in sight. -/
namespace Go.Proofs.YtfdholhfdceedaaDoor

/-! ### the checksum -/
def crcBit (r : Nat) : Nat := if r % 2 = 1 then r / 2 ^^^ 2197175160 else r / 2
def crcBits : Nat → Nat → Nat
  | 0, r => r
  | n + 1, r => crcBits n (crcBit r)
def shiftT (i : Nat) : Nat := crcBits 4 i
def crcNib (r : Nat) : Nat := r / 16 ^^^ shiftT (r % 16)
def crcByte (r : Nat) (b : UInt8) : Nat := crcBits 8 (r ^^^ b.toNat)
def crcFold (l : List UInt8) : Nat := l.foldl crcByte 4294967295
def crcOf (l : List UInt8) : Nat := 4294967295 - crcFold l

theorem crcBit_lt {r : Nat} (h : r < 4294967296) : crcBit r < 4294967296 := by
  unfold crcBit
  split
  · exact Nat.xor_lt_two_pow (n := 32) (by omega) (by decide)
  · omega
theorem crcBits_lt : ∀ (n : Nat) {r : Nat}, r < 4294967296 → crcBits n r < 4294967296
  | 0, _, h => h
  | n + 1, _, h => crcBits_lt n (crcBit_lt h)
theorem shiftT_lt (i : Nat) (h : i < 16) : shiftT i < 4294967296 := crcBits_lt 4 (by omega)
theorem xor_byte_lt {r : Nat} (h : r < 4294967296) (b : UInt8) : r ^^^ b.toNat < 4294967296 := Nat.xor_lt_two_pow (n := 32) h (by have := b.toNat_lt; omega)
theorem crcByte_lt {r : Nat} (h : r < 4294967296) (b : UInt8) : crcByte r b < 4294967296 := crcBits_lt 8 (xor_byte_lt h b)
theorem crcFold_lt (l : List UInt8) : crcFold l < 4294967296 := by
  unfold crcFold
  have : ∀ (l : List UInt8) (r : Nat), r < 4294967296 → l.foldl crcByte r < 4294967296 := by
    intro l
    induction l with
    | nil => intro r h; exact h
    | cons b l ih => intro r h; exact ih _ (crcByte_lt h b)
  exact this l _ (by decide)
theorem crcNib_lt {r : Nat} (h : r < 4294967296) : crcNib r < 4294967296 := Nat.xor_lt_two_pow (n := 32) (by omega) (shiftT_lt _ (by omega))
theorem crcFold_snoc (l : List UInt8) (b : UInt8) : crcFold (l ++ [b]) = crcByte (crcFold l) b := by unfold crcFold; rw [List.foldl_append]; rfl
theorem crcOf_le (l : List UInt8) : crcOf l ≤ 4294967295 := Nat.sub_le _ _
theorem crcOf_nil : crcOf [] = 0 := rfl

theorem xor_half (a b : Nat) : (a ^^^ b) / 2 = a / 2 ^^^ b / 2 := by
  have := Nat.shiftRight_xor_distrib (a := a) (b := b) (i := 1)
  simpa [Nat.shiftRight_succ] using this
theorem xor_odd (a b : Nat) : (a ^^^ b) % 2 = (a % 2 + b % 2) % 2 := by
  have h := Nat.testBit_xor a b 0
  rw [Nat.testBit_zero, Nat.testBit_zero, Nat.testBit_zero] at h
  rcases Nat.mod_two_eq_zero_or_one a with ha | ha <;> rcases Nat.mod_two_eq_zero_or_one b with hb | hb <;> rcases Nat.mod_two_eq_zero_or_one (a ^^^ b) with hc | hc <;> rw [ha, hb, hc] at h <;> first | omega | (simp at h)

theorem crcBit_xor (a b : Nat) : crcBit (a ^^^ b) = crcBit a ^^^ crcBit b := by
  unfold crcBit
  rw [xor_half, xor_odd]
  rcases Nat.mod_two_eq_zero_or_one a with ha | ha <;> rcases Nat.mod_two_eq_zero_or_one b with hb | hb <;> simp only [ha, hb] <;> simp
  · rw [Nat.xor_assoc]
  · rw [Nat.xor_assoc, Nat.xor_comm (b / 2), Nat.xor_assoc]
  · rw [Nat.xor_assoc, ← Nat.xor_assoc 2197175160, Nat.xor_comm 2197175160, Nat.xor_assoc, Nat.xor_self, Nat.xor_zero]
theorem crcBits_xor : ∀ (n a b : Nat), crcBits n (a ^^^ b) = crcBits n a ^^^ crcBits n b
  | 0, _, _ => rfl
  | n + 1, a, b => by rw [crcBits, crcBits, crcBits, crcBit_xor, crcBits_xor n]
theorem crcBit_even (r : Nat) : crcBit (2 * r) = r := by unfold crcBit; rw [if_neg (by omega)]; omega
theorem xor_low {q n : Nat} (hn : n < 16) : 16 * q + n = 16 * q ^^^ n := by
  apply Nat.eq_of_testBit_eq
  intro i
  rw [Nat.testBit_xor, show (16 * q + n) = 2 ^ 4 * q + n from rfl, show 16 * q = 2 ^ 4 * q from rfl, Nat.testBit_two_pow_mul_add q hn, Nat.testBit_two_pow_mul]
  by_cases h : i < 4
  · simp [h, show ¬ 4 ≤ i by omega]
  · have hlt : n < 2 ^ i := Nat.lt_of_lt_of_le (show n < 2 ^ 4 from hn) (Nat.pow_le_pow_right (show 0 < 2 by omega) (by omega))
    have hb : n.testBit i = false := Nat.testBit_lt_two_pow hlt
    simp [h, hb, show 4 ≤ i by omega]
theorem crcBits_four (r : Nat) : crcBits 4 r = crcNib r := by
  have e : r = 16 * (r / 16) ^^^ (r % 16) := by rw [← xor_low (by omega)]; omega
  conv => lhs; rw [e]
  rw [crcBits_xor]
  have h16 : crcBits 4 (16 * (r / 16)) = r / 16 := by
    show crcBit (crcBit (crcBit (crcBit (16 * (r / 16))))) = _
    rw [show 16 * (r / 16) = 2 * (8 * (r / 16)) by omega, crcBit_even, show 8 * (r / 16) = 2 * (4 * (r / 16)) by omega, crcBit_even, show 4 * (r / 16) = 2 * (2 * (r / 16)) by omega, crcBit_even, crcBit_even]
  rw [h16]; rfl
theorem crcByte_nibs (r : Nat) (b : UInt8) : crcByte r b = crcNib (crcNib (r ^^^ b.toNat)) := by
  unfold crcByte
  rw [← crcBits_four, ← crcBits_four]; rfl

theorem xor_ones {q : Nat} (h : q < 4294967296) : 4294967295 ^^^ q = 4294967295 - q := by
  have e : (BitVec.allOnes 32 ^^^ BitVec.ofNat 32 q) = ~~~ (BitVec.ofNat 32 q) := BitVec.allOnes_xor
  have := congrArg BitVec.toNat e
  rw [BitVec.toNat_xor, BitVec.toNat_not, BitVec.toNat_allOnes, BitVec.toNat_ofNat, Nat.mod_eq_of_lt (by simpa using h)] at this
  simpa using this

end Go.Proofs.YtfdholhfdceedaaDoor
