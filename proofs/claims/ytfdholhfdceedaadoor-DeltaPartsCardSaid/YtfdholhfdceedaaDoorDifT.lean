/- Apply undoes Diff: plain. -/
import Derived.Test.YtfdholhfdceedaaDoorDifM
import Derived.Test.YtfdholhfdceedaaDoorDelB
namespace Go.Proofs.YtfdholhfdceedaaDoor
open Go.RowKit

theorem intAt_put {n : Int} (h1 : -4611686018427387903 ≤ n) (h2 : n ≤ 4611686018427387903) (pre r : List UInt8) : intAt (pre ++ (putInt n ++ r)) pre.length = some (n, pre.length + (putInt n).length) := by
  unfold intAt
  rw [List.drop_left, int_put h1 h2]
  rfl

theorem strAt_put {x : List UInt8} (hx : x.length ≤ 65536) (pre r : List UInt8) : strAt (pre ++ (putStr x ++ r)) pre.length = some (x, pre.length + (putStr x).length) := by
  unfold strAt putStr
  rw [List.append_assoc, intAt_put (by omega) (by omega)]
  simp only []
  have hd : (pre ++ (putInt (x.length : Int) ++ (x ++ r))).drop (pre.length + (putInt (x.length : Int)).length) = x ++ r := by
    rw [← List.append_assoc, List.drop_left' (by simp)]
  rw [if_pos (by simp; omega), hd]
  simp
  omega

theorem opAt_ins {o x : List UInt8} (hx : x.length ≤ 65536) (h0 : x ≠ []) (pre r : List UInt8) : opAt o (pre ++ (insD x ++ r)) pre.length = .ok (x, pre.length + (insD x).length) := by
  unfold opAt insD
  rw [if_neg h0, List.append_assoc, intAt_put (by decide) (by decide)]
  simp only []
  have := strAt_put hx (pre ++ putInt 0) r
  rw [List.append_assoc, List.length_append] at this
  rw [if_neg (by omega), if_pos trivial, this]
  simp only []
  rw [if_neg h0, List.length_append]
  simp
  omega

theorem opAt_copy {o : List UInt8} {b off : Nat} (ho : o.length ≤ 8192) (hb : 0 < b) (h : off + b ≤ o.length) (pre r : List UInt8) :
    opAt o (pre ++ (putInt (b : Int) ++ (putInt (off : Int) ++ r))) pre.length = .ok ((o.drop off).take b, pre.length + (putInt (b : Int)).length + (putInt (off : Int)).length) := by
  unfold opAt
  rw [intAt_put (by omega) (by omega)]
  simp only []
  have := intAt_put (n := (off : Int)) (by omega) (by omega) (pre ++ putInt (b : Int)) r
  rw [List.append_assoc, List.length_append] at this
  rw [if_neg (by omega), if_neg (by omega), this]
  simp only []
  rw [if_pos (by omega)]
  simp

theorem applyGo_step {g a k : Nat} {o d x out : List UInt8} (ha : a < d.length) (h : opAt o d a = .ok (x, k)) (hl : out.length + x.length ≤ 8192) : applyGo (g + 1) o d a out = applyGo g o d k (out ++ x) := by
  rw [applyGo, if_neg (by omega), h]
  simp only []
  rw [if_pos hl]

theorem insD_pos {x : List UInt8} (h : x ≠ []) : 0 < (insD x).length := by
  unfold insD
  rw [if_neg h, List.length_append]
  have := putInt_len (n := 0) (by decide) (by decide)
  omega

theorem applyGo_end {g a : Nat} {o d out : List UInt8} (ha : d.length ≤ a) : applyGo (g + 1) o d a out = .ok out := by
  rw [applyGo, if_pos ha]

/-- an insertion under way is read, whether it is empty or not -/
theorem applyGo_ins {g : Nat} {o fresh pre r out : List UInt8} (hf : fresh.length ≤ 8192) (hl : out.length + fresh.length ≤ 8192) (hg : (insD fresh).length + r.length < g) :
    ∃ g', r.length < g' ∧ applyGo g o (pre ++ (insD fresh ++ r)) pre.length out = applyGo g' o (pre ++ insD fresh ++ r) (pre ++ insD fresh).length (out ++ fresh) := by
  by_cases h0 : fresh = []
  · subst h0
    refine ⟨g, by simpa [insD] using hg, ?_⟩
    simp [insD]
  · have hp := insD_pos h0
    obtain ⟨g, rfl⟩ : ∃ k, g = k + 1 := ⟨g - 1, by omega⟩
    refine ⟨g, by omega, ?_⟩
    rw [applyGo_step (by simp; omega) (opAt_ins (by omega) h0 pre r) hl, List.append_assoc, List.length_append]

theorem apply_ops {o : List UInt8} (ho : o.length ≤ 8192) : ∀ (f : Nat) (rest fresh pre out : List UInt8) (g : Nat), rest.length < f → (opsD o f rest fresh).length < g → out.length + fresh.length + rest.length ≤ 8192 →
    applyGo g o (pre ++ opsD o f rest fresh) pre.length out = .ok (out ++ fresh ++ rest)
  | 0, _, _, _, _, _, h, _, _ => by omega
  | f + 1, [], fresh, pre, out, g, _, hg, hl => by
    rw [opsD] at hg ⊢
    simp only [List.length_nil, Nat.add_zero] at hl
    obtain ⟨g', hg', e⟩ := applyGo_ins (g := g) (o := o) (fresh := fresh) (pre := pre) (r := []) (out := out) (by omega) hl (by simpa using hg)
    rw [List.append_nil] at e
    rw [e]
    obtain ⟨g'', rfl⟩ : ∃ k, g' = k + 1 := ⟨g' - 1, by simp at hg'; omega⟩
    rw [applyGo_end (by simp), List.append_nil]
  | f + 1, c :: t, fresh, pre, out, g, h, hg, hl => by
    rw [opsD] at hg ⊢
    obtain ⟨b, off, hbo⟩ : ∃ b off, longD o (c :: t) = (b, off) := ⟨_, _, rfl⟩
    have hok := longAt_ok o (c :: t) o.length (Nat.le_refl _)
    have hbo' : longAt o (c :: t) o.length = (b, off) := hbo
    rw [hbo'] at hok
    rw [hbo] at hg ⊢
    simp only [] at hok hg ⊢
    simp only [List.length_cons] at hl h
    by_cases h8 : 8 ≤ b
    · rw [if_pos h8] at hg ⊢
      rw [List.append_assoc, List.append_assoc] at hg ⊢
      rw [List.length_append] at hg
      obtain ⟨g', hg', e⟩ := applyGo_ins (g := g) (o := o) (fresh := fresh) (pre := pre) (r := putInt (b : Int) ++ (putInt (off : Int) ++ opsD o f ((c :: t).drop b) [])) (out := out) (by omega) (by omega) hg
      rw [e]
      have lb := putInt_len (n := (b : Int)) (by omega) (by omega)
      obtain ⟨g'', rfl⟩ : ∃ k, g' = k + 1 := ⟨g' - 1, by omega⟩
      have hx : ((o.drop off).take b).length = b := by simp; omega
      have hb1 : b ≤ t.length + 1 := by simpa using hok.1
      rw [applyGo_step (by simp only [List.length_append]; omega) (opAt_copy ho (by omega) hok.2.1 (pre ++ insD fresh) _) (by rw [hx]; simp; omega)]
      have hd : pre ++ insD fresh ++ (putInt (b : Int) ++ (putInt (off : Int) ++ opsD o f ((c :: t).drop b) [])) = (pre ++ insD fresh ++ putInt (b : Int) ++ putInt (off : Int)) ++ opsD o f ((c :: t).drop b) [] := by simp only [List.append_assoc]
      have hn : (pre ++ insD fresh).length + (putInt (b : Int)).length + (putInt (off : Int)).length = (pre ++ insD fresh ++ putInt (b : Int) ++ putInt (off : Int)).length := by simp only [List.length_append]
      rw [hd, hn, apply_ops ho f _ [] _ _ g'' (by simp; omega) (by simp only [List.length_append] at hg'; omega) (by simp only [List.length_append, hx, List.length_drop, List.length_cons, List.length_nil]; omega)]
      rw [hok.2.2]
      have := List.take_append_drop b (c :: t)
      congr 1
      rw [List.append_nil, List.append_assoc, this]
    · rw [if_neg h8] at hg ⊢
      rw [apply_ops ho f t (fresh ++ [c]) pre out g (by omega) hg (by simp; omega)]
      simp

theorem apply_diff {o n : List UInt8} (ho : o.length ≤ 8192) (hn : n.length ≤ 8192) : applyD o (diffD o n) = .ok n := by
  have c1 := crcOf_le o
  have c2 := crcOf_le n
  unfold applyD diffD
  rw [if_neg (by omega), if_neg (by omega), List.append_assoc]
  have h1 := intAt_put (n := (crcOf o : Int)) (by omega) (by omega) [] (putInt (crcOf n : Int) ++ opsD o (n.length + 1) n [])
  simp only [List.nil_append, List.length_nil, Nat.zero_add] at h1
  rw [h1]
  simp only []
  rw [if_pos trivial]
  have h2 := intAt_put (n := (crcOf n : Int)) (by omega) (by omega) (putInt (crcOf o : Int)) (opsD o (n.length + 1) n [])
  rw [h2]
  simp only []
  have h3 : ∀ F, (opsD o (n.length + 1) n []).length < F → applyGo F o (putInt (crcOf o : Int) ++ (putInt (crcOf n : Int) ++ opsD o (n.length + 1) n [])) ((putInt (crcOf o : Int)).length + (putInt (crcOf n : Int)).length) [] = .ok n := by
    intro F hF
    have := apply_ops ho (n.length + 1) n [] (putInt (crcOf o : Int) ++ putInt (crcOf n : Int)) [] F (by omega) hF (by simp; omega)
    rw [List.append_assoc, List.length_append] at this
    exact this
  rw [h3 _ (by simp only [List.length_append]; omega)]
  simp
end Go.Proofs.YtfdholhfdceedaaDoor
