/- What a delta is: plain definitions, no program in sight. -/
import Derived.Test.YtfdholhfdceedaaDoorWireC
namespace Go.Proofs.YtfdholhfdceedaaDoor
open Go.RowKit

def opAt (old d : List UInt8) (a : Nat) : Except Int (List UInt8 × Nat) :=
  match intAt d a with
  | none => .error 10
  | some (n, k) =>
    if n < 0 then .error 190
    else if n = 0 then
      match strAt d k with
      | none => .error 10
      | some (x, k2) => if x = [] then .error 190 else .ok (x, k2)
    else
      match intAt d k with
      | none => .error 10
      | some (off, k2) => if 0 ≤ off ∧ off + n ≤ old.length then .ok ((old.drop off.toNat).take n.toNat, k2) else .error 190

def applyGo : Nat → List UInt8 → List UInt8 → Nat → List UInt8 → Except Int (List UInt8)
  | 0, _, _, _, out => .ok out
  | f + 1, old, d, a, out =>
    if d.length ≤ a then .ok out
    else match opAt old d a with
      | .error e => .error e
      | .ok (x, k) => if out.length + x.length ≤ 8192 then applyGo f old d k (out ++ x) else .error 190

def applyD (old d : List UInt8) : Except Int (List UInt8) :=
  if 8192 < old.length then .error 190
  else match intAt d 0 with
    | none => .error 10
    | some (sum, a) =>
      if sum = crcOf old then
        match intAt d a with
        | none => .error 10
        | some (want, a2) =>
          match applyGo (d.length + 1) old d a2 [] with
          | .error e => .error e
          | .ok out => if (crcOf out : Int) = want then .ok out else .error 190
      else .error 190

def exTup : Except Int (List UInt8) → Value
  | .ok x => .tuple #[.string ⟨x.toArray⟩, .int .i64 0]
  | .error e => .tuple #[.string ⟨#[]⟩, .int .i64 e]
def opTup : Except Int (List UInt8 × Nat) → Value
  | .ok (x, k) => .tuple #[.string ⟨x.toArray⟩, .int .i64 (k : Int), .int .i64 0]
  | .error e => .tuple #[.string ⟨#[]⟩, .int .i64 0, .int .i64 e]

theorem strAt_le {l : List UInt8} {a k : Nat} {x : List UInt8} (ha : a ≤ l.length) (h : strAt l a = some (x, k)) : a < k ∧ k ≤ l.length ∧ x.length ≤ 65536 := by
  unfold strAt at h
  cases hi : intAt l a with
  | none => rw [hi] at h; cases h
  | some p =>
    obtain ⟨n, j⟩ := p
    rw [hi] at h
    simp only [] at h
    have := intAt_le ha hi
    split at h
    · rename_i hn
      cases h
      simp; omega
    · cases h

/-- what an operation gives: it goes forward, and what it adds is no longer than what it reads from -/
theorem opAt_le {old d x : List UInt8} {a k : Nat} (ha : a ≤ d.length) (h : opAt old d a = .ok (x, k)) : a < k ∧ k ≤ d.length ∧ x ≠ [] ∧ (x.length ≤ 65536 ∨ x.length ≤ old.length) := by
  unfold opAt at h
  cases hi : intAt d a with
  | none => rw [hi] at h; cases h
  | some p =>
    obtain ⟨n, j⟩ := p
    have h1 := intAt_le ha hi
    rw [hi] at h
    simp only [] at h
    split at h
    · cases h
    · split at h
      · cases hs : strAt d j with
        | none => rw [hs] at h; cases h
        | some q =>
          obtain ⟨y, j2⟩ := q
          have h2 := strAt_le h1.2.1 hs
          rw [hs] at h
          simp only [] at h
          split at h
          · cases h
          · cases h
            exact ⟨by omega, h2.2.1, by assumption, .inl h2.2.2⟩
      · cases hs : intAt d j with
        | none => rw [hs] at h; cases h
        | some q =>
          obtain ⟨off, j2⟩ := q
          have h2 := intAt_le h1.2.1 hs
          rw [hs] at h
          simp only [] at h
          split at h
          · rename_i h5 h6 h7
            cases h
            refine ⟨by omega, h2.2.1, ?_, .inr (by simp; omega)⟩
            intro he
            have := congrArg List.length he
            simp at this; omega
          · cases h
theorem opAt_err {old d : List UInt8} {a : Nat} {e : Int} (h : opAt old d a = .error e) : e = 10 ∨ e = 190 := by
  unfold opAt at h
  cases hi : intAt d a with
  | none => rw [hi] at h; cases h; exact .inl rfl
  | some p =>
    obtain ⟨n, j⟩ := p
    rw [hi] at h
    simp only [] at h
    by_cases h1 : n < 0
    · rw [if_pos h1] at h; cases h; exact .inr rfl
    · rw [if_neg h1] at h
      by_cases h2 : n = 0
      · rw [if_pos h2] at h
        cases hs : strAt d j with
        | none => rw [hs] at h; cases h; exact .inl rfl
        | some q =>
          obtain ⟨y, j2⟩ := q
          rw [hs] at h
          simp only [] at h
          by_cases h3 : y = []
          · rw [if_pos h3] at h; cases h; exact .inr rfl
          · rw [if_neg h3] at h; cases h
      · rw [if_neg h2] at h
        cases hs : intAt d j with
        | none => rw [hs] at h; cases h; exact .inl rfl
        | some q =>
          obtain ⟨off, j2⟩ := q
          rw [hs] at h
          simp only [] at h
          by_cases h3 : 0 ≤ off ∧ off + n ≤ old.length
          · rw [if_pos h3] at h; cases h
          · rw [if_neg h3] at h; cases h; exact .inr rfl
end Go.Proofs.YtfdholhfdceedaaDoor
