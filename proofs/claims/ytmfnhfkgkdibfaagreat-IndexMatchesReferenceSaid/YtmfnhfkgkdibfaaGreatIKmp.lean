/- Plain: the search of a phrase in a text by the borders of the phrase. -/
import Derived.Lib.Hide
namespace Go.Proofs.YtmfnhfkgkdibfaaGreat

abbrev Wd := List UInt8

/-- n is the length of the longest beginning of p at the end of t -/
structure IsL (p t : List Wd) (n : Nat) : Prop where
  le : n ≤ p.length
  suf : p.take n <:+ t
  max : ∀ m, m ≤ p.length → p.take m <:+ t → m ≤ n

theorem IsL.unique {p t : List Wd} {a b : Nat} (h : IsL p t a) (k : IsL p t b) : a = b :=
  Nat.le_antisymm (k.max a h.le h.suf) (h.max b k.le k.suf)
theorem IsL.nil (p : List Wd) : IsL p [] 0 := ⟨Nat.zero_le _, by simp, fun m hm h => by
  have := h.length_le
  rw [List.length_take, List.length_nil] at this; omega⟩
theorem IsL.len {p t : List Wd} {n : Nat} (h : IsL p t n) : n ≤ t.length := by
  have := h.suf.length_le
  rw [List.length_take] at this; have := h.le; omega

theorem suffix_of_shorter {a b t : List Wd} (ha : a <:+ t) (hb : b <:+ t) (h : a.length ≤ b.length) : a <:+ b := List.suffix_of_suffix_length_le ha hb h

/-- what falls back -/
structure Falls (p t : List Wd) (w : Wd) (n : Nat) : Prop where
  le : n ≤ p.length
  suf : p.take n <:+ t
  max : ∀ m, m < p.length → p.take m <:+ t → p[m]? = some w → m ≤ n

theorem Falls.start {p t : List Wd} {n : Nat} (h : IsL p t n) (w : Wd) : Falls p t w n := ⟨h.le, h.suf, fun m hm hs _ => h.max m (by omega) hs⟩

/-- n is no end: on to the border of the beginning of length n -/
theorem Falls.next {p t : List Wd} {w : Wd} {n b : Nat} (h : Falls p t w n) (hn : 0 < n) (hw : p[n]? ≠ some w) (hb : IsL p ((p.take n).drop 1) b) : Falls p t w b ∧ b < n := by
  have hl := hb.len
  have hbn : b < n := by
    rw [List.length_drop, List.length_take] at hl; omega
  refine ⟨⟨hb.le, (hb.suf.trans (List.drop_suffix _ _)).trans h.suf, fun m hm hs hmw => ?_⟩, hbn⟩
  have hmn := h.max m hm hs hmw
  have hne : m ≠ n := fun e => by subst e; exact hw hmw
  refine hb.max m (by omega) ?_
  have h1 : p.take m <:+ p.take n := suffix_of_shorter hs h.suf (by rw [List.length_take, List.length_take]; omega)
  refine suffix_of_shorter h1 (List.drop_suffix 1 _) ?_
  rw [List.length_take, List.length_drop, List.length_take]
  have := h.le
  omega

theorem take_succ_suffix {p t : List Wd} {m : Nat} {w : Wd} : (m < p.length ∧ p.take (m + 1) <:+ t ++ [w]) ↔ (p[m]? = some w ∧ p.take m <:+ t) := by
  constructor
  · rintro ⟨hm, hs⟩
    rw [List.take_succ_eq_append_getElem hm] at hs
    obtain ⟨u, hu⟩ := hs
    rw [← List.append_assoc] at hu
    have := List.append_inj' hu rfl
    refine ⟨?_, u, this.1⟩
    have h2 := this.2
    simp at h2
    rw [List.getElem?_eq_getElem hm, h2]
  · rintro ⟨hm, u, hu⟩
    obtain ⟨hlt, rfl⟩ := List.getElem?_eq_some_iff.1 hm
    refine ⟨hlt, u, ?_⟩
    rw [List.take_succ_eq_append_getElem hlt, ← List.append_assoc, hu]

theorem Falls.hit {p t : List Wd} {w : Wd} {n : Nat} (h : Falls p t w n) (hw : p[n]? = some w) : IsL p (t ++ [w]) (n + 1) := by
  obtain ⟨hlt, _⟩ := List.getElem?_eq_some_iff.1 hw
  refine ⟨hlt, (take_succ_suffix.2 ⟨hw, h.suf⟩).2, fun m hm hs => ?_⟩
  cases m with
  | zero => omega
  | succ m =>
    have := take_succ_suffix.1 ⟨by omega, hs⟩
    have := h.max m (by omega) this.2 this.1
    omega
theorem Falls.miss {p t : List Wd} {w : Wd} (h : Falls p t w 0) (hw : p[0]? ≠ some w) : IsL p (t ++ [w]) 0 := by
  refine ⟨Nat.zero_le _, by simp, fun m hm hs => ?_⟩
  cases m with
  | zero => omega
  | succ m =>
    have := take_succ_suffix.1 ⟨by omega, hs⟩
    have h0 := h.max m (by omega) this.2 this.1
    obtain rfl : m = 0 := by omega
    exact absurd this.1 hw

/-- the borders of a phrase -/
def Borders (p : List Wd) (l : List Nat) (k : Nat) : Prop := ∀ j, 1 ≤ j → j ≤ k → ∃ b, l[j - 1]? = some b ∧ IsL p ((p.take j).drop 1) b

theorem border_one (p : List Wd) : IsL p ((p.take 1).drop 1) 0 := by
  have : (p.take 1).drop 1 = [] := by cases p <;> simp
  rw [this]; exact IsL.nil p
theorem drop_one_take_succ {p : List Wd} {k : Nat} {w : Wd} (hk : 1 ≤ k) (hw : p[k]? = some w) : (p.take (k + 1)).drop 1 = (p.take k).drop 1 ++ [w] := by
  obtain ⟨hlt, rfl⟩ := List.getElem?_eq_some_iff.1 hw
  rw [List.take_succ_eq_append_getElem hlt, List.drop_append_of_le_length (by rw [List.length_take]; omega)]

/-- how often p stands in t, by the ends -/
def occE (t p : List Wd) (i : Nat) : Nat := (List.range i).countP fun j => p.isSuffixOf (t.take (j + 1))
/-- .. by the beginnings -/
def occS (t p : List Wd) (i : Nat) : Nat := (List.range i).countP fun k => p.isPrefixOf (t.drop k)
/-- how often p stands in t -/
def occ (t p : List Wd) : Nat := occS t p (t.length + 1 - p.length)

theorem occE_succ (t p : List Wd) (i : Nat) : occE t p (i + 1) = occE t p i + if p.isSuffixOf (t.take (i + 1)) then 1 else 0 := by
  unfold occE; rw [List.range_succ, List.countP_append]; simp [List.countP_cons]
theorem occS_succ (t p : List Wd) (i : Nat) : occS t p (i + 1) = occS t p i + if p.isPrefixOf (t.drop i) then 1 else 0 := by
  unfold occS; rw [List.range_succ, List.countP_append]; simp [List.countP_cons]

theorem IsL.full {p t : List Wd} {n : Nat} (h : IsL p t n) : n = p.length ↔ p <:+ t := by
  constructor
  · rintro rfl; simpa using h.suf
  · intro hs; exact Nat.le_antisymm h.le (h.max _ (Nat.le_refl _) (by simpa using hs))

theorem suffix_take_iff {p t : List Wd} {k : Nat} (hk : k + p.length ≤ t.length) : p <:+ t.take (k + p.length) ↔ p <+: t.drop k := by
  have hl : (t.take (k + p.length)).length = k + p.length := by rw [List.length_take]; omega
  have e : (t.take (k + p.length)).drop k = (t.drop k).take p.length := by rw [List.drop_take]; congr 1; omega
  rw [List.suffix_iff_eq_drop, hl, List.prefix_iff_eq_take]
  rw [show k + p.length - p.length = k by omega, e]

theorem occE_small {t p : List Wd} : ∀ i, i < p.length → occE t p i = 0 := by
  intro i hi
  unfold occE
  rw [List.countP_eq_zero]
  intro j hj
  have hj := List.mem_range.1 hj
  intro h
  have := (List.isSuffixOf_iff_suffix.1 h).length_le
  rw [List.length_take] at this
  omega

theorem occ_ends {t p : List Wd} (hp : p ≠ []) : occE t p t.length = occ t p := by
  have hpl : 0 < p.length := List.length_pos_iff.2 hp
  by_cases hlt : t.length < p.length
  · rw [occE_small _ hlt, occ, show t.length + 1 - p.length = 0 by omega]; rfl
  · have key : ∀ i, i + p.length ≤ t.length + 1 → occE t p (i + p.length - 1) = occS t p i := by
      intro i
      induction i with
      | zero => intro _; rw [Nat.zero_add, occE_small _ (by omega)]; rfl
      | succ i ih =>
        intro hi
        rw [show i + 1 + p.length - 1 = (i + p.length - 1) + 1 by omega, occE_succ, occS_succ, ih (by omega), show i + p.length - 1 + 1 = i + p.length by omega]
        have := suffix_take_iff (p := p) (t := t) (k := i) (by omega)
        congr 1
        by_cases h : p <+: t.drop i
        · rw [if_pos (List.isSuffixOf_iff_suffix.2 (this.2 h)), if_pos (List.isPrefixOf_iff_prefix.2 h)]
        · rw [if_neg (fun e => h (this.1 (List.isSuffixOf_iff_suffix.1 e))), if_neg (fun e => h (List.isPrefixOf_iff_prefix.1 e))]
    have := key (t.length + 1 - p.length) (by omega)
    rw [show t.length + 1 - p.length + p.length - 1 = t.length by omega] at this
    exact this

/-- a phrase of one word -/
theorem occ_one (t : List Wd) (w : Wd) : occ t [w] = t.count w := by
  unfold occ
  simp only [List.length_singleton, Nat.add_sub_cancel]
  induction t with
  | nil => rfl
  | cons x r ih =>
    unfold occS
    rw [List.length_cons, List.range_succ_eq_map, List.countP_cons, List.countP_map, List.count_cons, ← ih]
    unfold occS
    congr 1
    by_cases h : x = w
    · subst h; simp [List.isPrefixOf]
    · have h' : ¬ w = x := fun e => h e.symm
      simp [List.isPrefixOf, h, h']
end Go.Proofs.YtmfnhfkgkdibfaaGreat
