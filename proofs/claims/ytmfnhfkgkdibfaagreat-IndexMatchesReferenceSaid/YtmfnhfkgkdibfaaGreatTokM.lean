/- Plain facts about words: no program in sight. -/
import Derived.Lib.Join
namespace Go.Proofs.YtmfnhfkgkdibfaaGreat

def isPart (c : UInt8) : Bool := decide ((97 ≤ c.toNat ∧ c.toNat ≤ 122) ∨ (65 ≤ c.toNat ∧ c.toNat ≤ 90) ∨ (48 ≤ c.toNat ∧ c.toNat ≤ 57))
def low (c : UInt8) : UInt8 := if 65 ≤ c.toNat ∧ c.toNat ≤ 90 then c + 32 else c

theorem isPart_iff (c : UInt8) : isPart c = true ↔ (97 ≤ c.toNat ∧ c.toNat ≤ 122) ∨ (65 ≤ c.toNat ∧ c.toNat ≤ 90) ∨ (48 ≤ c.toNat ∧ c.toNat ≤ 57) := by simp [isPart]
theorem isPart_of {c : UInt8} (h : (97 ≤ c.toNat ∧ c.toNat ≤ 122) ∨ (65 ≤ c.toNat ∧ c.toNat ≤ 90) ∨ (48 ≤ c.toNat ∧ c.toNat ≤ 57)) : isPart c = true := (isPart_iff c).2 h
theorem not_isPart_of {c : UInt8} (h : ¬ ((97 ≤ c.toNat ∧ c.toNat ≤ 122) ∨ (65 ≤ c.toNat ∧ c.toNat ≤ 90) ∨ (48 ≤ c.toNat ∧ c.toNat ≤ 57))) : isPart c = false := by
  cases e : isPart c with
  | false => rfl
  | true => exact absurd ((isPart_iff c).1 e) h
theorem low_big {c : UInt8} (h : 65 ≤ c.toNat ∧ c.toNat ≤ 90) : ((low c).toNat : Int) = c.toNat - 65 + 97 := by
  unfold low; rw [if_pos h, UInt8.toNat_add]; simp; omega
theorem low_small {c : UInt8} (h : ¬ (65 ≤ c.toNat ∧ c.toNat ≤ 90)) : low c = c := by
  unfold low; rw [if_neg h]

/-- What 'small' returns first. -/
def smallV (c : UInt8) : Int := if isPart c = true then ((low c).toNat : Int) else 0
theorem smallV_big {c : UInt8} (h : 65 ≤ c.toNat ∧ c.toNat ≤ 90) : smallV c = c.toNat - 65 + 97 := by
  unfold smallV; rw [if_pos (isPart_of (by omega)), low_big h]
theorem smallV_small {c : UInt8} (h : (97 ≤ c.toNat ∧ c.toNat ≤ 122) ∨ (48 ≤ c.toNat ∧ c.toNat ≤ 57)) : smallV c = c.toNat := by
  unfold smallV; rw [if_pos (isPart_of (by omega)), low_small (by omega)]
theorem smallV_none {c : UInt8} (h : isPart c = false) : smallV c = 0 := by
  unfold smallV; rw [if_neg (by rw [h]; simp)]

/-- The words of a list of bytes: 'cur' is the run so far (at most 30 bytes of it). -/
def wordsGo : List UInt8 → List UInt8 → List (List UInt8)
  | cur, [] => if cur = [] then [] else [cur]
  | cur, c :: r => if isPart c = true then wordsGo (if cur.length < 30 then cur ++ [low c] else cur) r
      else (if cur = [] then [] else [cur]) ++ wordsGo [] r
def wordsOf (l : List UInt8) : List (List UInt8) := wordsGo [] l

theorem wordsGo_part {cur r : List UInt8} {c : UInt8} (h : isPart c = true) (h2 : cur.length < 30) : wordsGo cur (c :: r) = wordsGo (cur ++ [low c]) r := by
  rw [wordsGo, if_pos h, if_pos h2]
theorem wordsGo_full {cur r : List UInt8} {c : UInt8} (h : isPart c = true) (h2 : ¬ cur.length < 30) : wordsGo cur (c :: r) = wordsGo cur r := by
  rw [wordsGo, if_pos h, if_neg h2]
/-- a word is over: at a byte that is no part, or at the end -/
theorem wordsGo_over {cur r : List UInt8} (h : ∀ c r', r = c :: r' → isPart c = false) (hc : cur ≠ []) : wordsGo cur r = cur :: wordsGo [] r := by
  cases r with
  | nil => simp [wordsGo, hc]
  | cons c r => simp [wordsGo, h c r rfl, hc]
/-- no word: a byte that is no part is passed over -/
theorem wordsGo_skip {r : List UInt8} (h : ∀ c r', r = c :: r' → isPart c = false) : wordsGo [] r = wordsGo [] (r.drop 1) := by
  cases r with
  | nil => rfl
  | cons c r => simp [wordsGo, h c r rfl]

/-- A word: 1 to 30 bytes, small letters and digits. -/
def okWord (x : List UInt8) : Prop := x ≠ [] ∧ x.length ≤ 30 ∧ ∀ c ∈ x, isPart c = true ∧ low c = c

theorem low_low (c : UInt8) : low (low c) = low c := by
  by_cases h : 65 ≤ c.toNat ∧ c.toNat ≤ 90
  · have := low_big h
    exact low_small (by omega)
  · rw [low_small h]; exact low_small h
theorem part_low {c : UInt8} (h : isPart c = true) : isPart (low c) = true := by
  by_cases hb : 65 ≤ c.toNat ∧ c.toNat ≤ 90
  · have := low_big hb
    exact isPart_of (by omega)
  · rw [low_small hb]; exact h

theorem wordsGo_ok : ∀ (l cur : List UInt8), (cur = [] ∨ okWord cur) → ∀ x ∈ wordsGo cur l, okWord x
  | [], cur, hc, x, hx => by
    unfold wordsGo at hx
    split at hx
    · simp at hx
    · rename_i hne
      simp at hx; subst hx
      exact hc.resolve_left hne
  | c :: r, cur, hc, x, hx => by
    unfold wordsGo at hx
    split at hx
    · rename_i hp
      refine wordsGo_ok r _ (.inr ?_) x hx
      split
      · rename_i hl
        refine ⟨by simp, by simp; omega, fun d hd => ?_⟩
        rcases List.mem_append.1 hd with hd | hd
        · rcases hc with rfl | hc
          · simp at hd
          · exact hc.2.2 d hd
        · simp at hd; subst hd; exact ⟨part_low hp, low_low c⟩
      · rename_i hl
        rcases hc with rfl | hc
        · simp at hl
        · exact hc
    · rcases List.mem_append.1 hx with hx | hx
      · split at hx
        · simp at hx
        · rename_i hne; simp at hx; subst hx; exact hc.resolve_left hne
      · exact wordsGo_ok r [] (.inl rfl) x hx
theorem words_ok (l : List UInt8) : ∀ x ∈ wordsOf l, okWord x := wordsGo_ok l [] (.inl rfl)

theorem lens_nil : Lib.lens [] = 0 := rfl
theorem wordsGo_lens : ∀ (l cur : List UInt8), Lib.lens (wordsGo cur l) + (wordsGo cur l).length ≤ 2 * l.length + cur.length + (if cur = [] then 0 else 1)
  | [], cur => by
    unfold wordsGo
    split <;> simp_all [Lib.lens]
  | c :: r, cur => by
    unfold wordsGo
    split
    · have := wordsGo_lens r (if cur.length < 30 then cur ++ [low c] else cur)
      split at this <;> split at this <;> split <;> simp_all <;> omega
    · have := wordsGo_lens r []
      split
      · rw [List.nil_append]; simp only [if_true, List.length_nil] at this; simp; omega
      · simp only [if_true, List.length_nil] at this
        have e : Lib.lens ([cur] ++ wordsGo [] r) = cur.length + Lib.lens (wordsGo [] r) := by simp [Lib.lens]
        rw [e]; simp; omega
theorem words_lens (l : List UInt8) : Lib.lens (wordsOf l) + (wordsOf l).length ≤ 2 * l.length := by
  have := wordsGo_lens l []; simpa [wordsOf] using this

def normOf (ws : List (List UInt8)) : List UInt8 := Lib.join ws [32]

theorem normOf_len (ws : List (List UInt8)) : (normOf ws).length ≤ Lib.lens ws + ws.length := by
  cases ws with
  | nil => simp [normOf, Lib.join_nil]
  | cons x r => rw [normOf, Lib.join_length]; simp; omega

end Go.Proofs.YtmfnhfkgkdibfaaGreat
