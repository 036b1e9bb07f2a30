/- What Diff writes: plain definitions, no program in sight. -/
import Derived.Test.YtfdholhfdceedaaDoorDelM
import Derived.Test.YtfdholhfdceedaaDoorWireG
namespace Go.Proofs.YtfdholhfdceedaaDoor
open Go.RowKit

def comm : List UInt8 → List UInt8 → Nat
  | a :: l, b :: r => if a = b then comm l r + 1 else 0
  | _, _ => 0

theorem comm_le : ∀ (x y : List UInt8), comm x y ≤ x.length ∧ comm x y ≤ y.length
  | [], _ => by simp [comm]
  | _ :: _, [] => by simp [comm]
  | a :: l, b :: r => by
    unfold comm
    have := comm_le l r
    split <;> simp <;> omega

theorem comm_take : ∀ (x y : List UInt8), x.take (comm x y) = y.take (comm x y)
  | [], _ => by simp [comm]
  | _ :: _, [] => by simp [comm]
  | a :: l, b :: r => by
    unfold comm
    have := comm_take l r
    split
    · rename_i h; subst h; simp [this]
    · simp

theorem comm_more : ∀ (x y : List UInt8) (n : Nat) (h1 : n < x.length) (h2 : n < y.length), n ≤ comm x y → x[n] = y[n] → n + 1 ≤ comm x y
  | [], _, _, h1, _, _, _ => by simp at h1
  | _ :: _, [], _, _, h2, _, _ => by simp at h2
  | a :: l, b :: r, 0, _, _, _, he => by
    simp at he; subst he; simp [comm]
  | a :: l, b :: r, n + 1, h1, h2, hn, he => by
    unfold comm at hn ⊢
    split at hn
    · rename_i hab
      rw [if_pos hab]
      have := comm_more l r n (by simpa using h1) (by simpa using h2) (by omega) (by simpa using he)
      omega
    · omega

theorem comm_eq : ∀ (x y : List UInt8) (n : Nat) (h1 : n < x.length) (h2 : n < y.length), n < comm x y → x[n] = y[n]
  | [], _, _, h1, _, _ => by simp at h1
  | _ :: _, [], _, _, h2, _ => by simp at h2
  | a :: l, b :: r, 0, _, _, hn => by
    unfold comm at hn
    split at hn
    · simpa
    · omega
  | a :: l, b :: r, n + 1, h1, h2, hn => by
    unfold comm at hn
    split at hn
    · have := comm_eq l r n (by simpa using h1) (by simpa using h2) (by omega)
      simpa using this
    · omega

/-- the best of the offsets 0 .. k - 1 -/
def longAt (o s : List UInt8) : Nat → Nat × Nat
  | 0 => (0, 0)
  | k + 1 => if (longAt o s k).1 < comm (o.drop k) s then (comm (o.drop k) s, k) else longAt o s k

def longD (o s : List UInt8) : Nat × Nat := longAt o s o.length

theorem longAt_ok (o s : List UInt8) (k : Nat) (hk : k ≤ o.length) : (longAt o s k).1 ≤ s.length ∧ (longAt o s k).2 + (longAt o s k).1 ≤ o.length ∧ (o.drop (longAt o s k).2).take (longAt o s k).1 = s.take (longAt o s k).1 := by
  induction k with
  | zero => simp [longAt]
  | succ k ih =>
    unfold longAt
    split
    · have h1 := comm_le (o.drop k) s
      have h2 := comm_take (o.drop k) s
      simp only [List.length_drop] at h1
      exact ⟨h1.2, by simp only []; omega, h2⟩
    · exact ih (by omega)

def insD (x : List UInt8) : List UInt8 := if x = [] then [] else putInt 0 ++ putStr x

/-- the operations from a rest on, with an insertion under way -/
def opsD (o : List UInt8) : Nat → List UInt8 → List UInt8 → List UInt8
  | 0, _, _ => []
  | f + 1, rest, fresh =>
    match rest with
    | [] => insD fresh
    | c :: t =>
      if 8 ≤ (longD o (c :: t)).1 then insD fresh ++ putInt (longD o (c :: t)).1 ++ putInt (longD o (c :: t)).2 ++ opsD o f ((c :: t).drop (longD o (c :: t)).1) []
      else opsD o f t (fresh ++ [c])

def diffD (o n : List UInt8) : List UInt8 :=
  if 8192 < o.length ∨ 8192 < n.length then [] else putInt (crcOf o) ++ putInt (crcOf n) ++ opsD o (n.length + 1) n []
end Go.Proofs.YtfdholhfdceedaaDoor
