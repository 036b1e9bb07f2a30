/- Plain: parts of sorted lists; merging; the reference's list of terms. -/
import Derived.Test.YtmfnhfkgkdibfaaGreatIxM
namespace Go.Proofs.YtmfnhfkgkdibfaaGreat

/-- q holds at a beginning of l -/
def Down {β : Type} (q : β → Bool) (l : List β) : Prop := l.Pairwise fun a b => q b = true → q a = true
theorem down_take {β : Type} {q : β → Bool} : ∀ {l : List β}, Down q l → l.take (l.countP q) = l.filter q ∧ l.drop (l.countP q) = l.filter fun x => !q x
  | [], _ => by simp
  | x :: r, h => by
    have h' := List.pairwise_cons.1 h
    have ih := down_take h'.2
    by_cases hx : q x = true
    · rw [List.countP_cons_of_pos hx, List.filter_cons_of_pos hx, List.filter_cons_of_neg (by simp [hx]), List.take_succ_cons, List.drop_succ_cons, ih.1, ih.2]; exact ⟨rfl, rfl⟩
    · have hr : ∀ y ∈ r, ¬ q y = true := fun y hy e => hx (h'.1 y hy e)
      have h0 : r.countP q = 0 := List.countP_eq_zero.2 hr
      rw [List.countP_cons_of_neg hx, h0, List.filter_cons_of_neg hx, List.filter_cons_of_pos (by simpa using hx)]
      refine ⟨?_, ?_⟩
      · rw [List.take_zero]; exact (List.filter_eq_nil_iff.2 hr).symm
      · rw [List.drop_zero, List.filter_eq_self.2 (fun y hy => by simpa using hr y hy)]

theorem le_of_prefix : ∀ {p x : Wd}, p <+: x → p ≤ x
  | [], _, _ => List.nil_le _
  | a :: p, [], h => by simp at h
  | a :: p, b :: x, h => by
    rw [List.cons_prefix_cons] at h
    obtain ⟨rfl, h⟩ := h
    exact List.cons_le_cons_iff.2 (.inr ⟨rfl, le_of_prefix h⟩)
theorem prefix_between : ∀ {p x y : Wd}, p ≤ x → x ≤ y → p <+: y → p <+: x
  | [], _, _, _, _, _ => List.nil_prefix
  | a :: p, _, [], _, _, h => by simp at h
  | a :: p, [], c :: y, h, _, _ => by simp at h
  | a :: p, b :: x, c :: y, h1, h2, h3 => by
    rw [List.cons_prefix_cons] at h3
    obtain ⟨rfl, h3⟩ := h3
    rw [List.cons_le_cons_iff] at h1 h2
    rcases h1 with h1 | ⟨rfl, h1⟩
    · rcases h2 with h2 | ⟨rfl, h2⟩
      · exact absurd (UInt8.lt_trans h1 h2) (UInt8.lt_irrefl _)
      · exact absurd h1 (UInt8.lt_irrefl _)
    · rcases h2 with h2 | ⟨_, h2⟩
      · exact absurd h2 (UInt8.lt_irrefl _)
      · exact List.cons_prefix_cons.2 ⟨rfl, prefix_between h1 h2 h3⟩

theorem WAsc.le {l : List Wd} (h : WAsc l) : l.Pairwise fun a b => a ≤ b := h.imp fun h => List.le_of_lt h

/-- the words of an ascending list from a word on, and those of them with a beginning -/
theorem with_eq {v : List Wd} (h : WAsc v) (p : Wd) :
    (v.drop (v.countP fun x => !decide (p ≤ x))).take ((v.drop (v.countP fun x => !decide (p ≤ x))).countP p.isPrefixOf) = v.filter p.isPrefixOf := by
  have d1 : Down (fun x : Wd => !decide (p ≤ x)) v := h.imp fun {a b} hab hb => by
    simp only [Bool.not_eq_true', decide_eq_false_iff_not] at hb ⊢
    exact fun e => hb (List.le_trans e (List.le_of_lt hab))
  have e1 := (down_take d1).2
  rw [e1]
  have e2 : (v.filter fun x => !(!decide (p ≤ x))) = v.filter fun x => decide (p ≤ x) := by simp
  rw [e2]
  have d2 : Down (p.isPrefixOf) (v.filter fun x => decide (p ≤ x)) := by
    have hs := h.filter (fun x => decide (p ≤ x))
    refine (List.Pairwise.and_mem.1 hs).imp fun {a b} hab hb => ?_
    obtain ⟨ha, _, hlt⟩ := hab
    have hpa : p ≤ a := by simpa using (List.mem_filter.1 ha).2
    exact List.isPrefixOf_iff_prefix.2 (prefix_between hpa (List.le_of_lt hlt) (List.isPrefixOf_iff_prefix.1 hb))
  rw [(down_take d2).1, List.filter_filter]
  refine List.filter_congr fun x _ => ?_
  by_cases hx : p.isPrefixOf x = true
  · simp [hx, le_of_prefix (List.isPrefixOf_iff_prefix.1 hx)]
  · simp [hx]

/-- the merging of two lists -/
def mergeW : List Wd → List Wd → List Wd
  | [], b => b
  | x :: a, [] => x :: a
  | x :: a, y :: b => if x < y then x :: mergeW a (y :: b) else y :: mergeW (x :: a) b
termination_by a b => a.length + b.length
theorem mergeW_nil (a : List Wd) : mergeW a [] = a := by cases a <;> simp [mergeW]
theorem mem_mergeW {z : Wd} : ∀ {a b : List Wd}, z ∈ mergeW a b ↔ z ∈ a ∨ z ∈ b
  | [], b => by simp [mergeW]
  | x :: a, [] => by simp [mergeW]
  | x :: a, y :: b => by
    unfold mergeW
    split
    · rw [List.mem_cons, mem_mergeW (a := a) (b := y :: b), List.mem_cons, List.mem_cons]; simp only [or_assoc]
    · rw [List.mem_cons, mem_mergeW (a := x :: a) (b := b), List.mem_cons, List.mem_cons]
      constructor
      · rintro (h | h | h)
        · exact .inr (.inl h)
        · exact .inl h
        · exact .inr (.inr h)
      · rintro (h | h | h)
        · exact .inr (.inl h)
        · exact .inl h
        · exact .inr (.inr h)
termination_by a b => a.length + b.length
theorem mergeW_asc : ∀ {a b : List Wd}, WAsc a → WAsc b → (∀ x ∈ a, x ∉ b) → WAsc (mergeW a b)
  | [], b, _, hb, _ => by simpa [mergeW] using hb
  | x :: a, [], ha, _, _ => by simpa [mergeW] using ha
  | x :: a, y :: b, ha, hb, hd => by
    have ha' := List.pairwise_cons.1 ha
    have hb' := List.pairwise_cons.1 hb
    unfold mergeW
    split
    · rename_i hxy
      refine List.pairwise_cons.2 ⟨fun z hz => ?_, mergeW_asc ha'.2 hb fun u hu => hd u (List.mem_cons_of_mem _ hu)⟩
      rcases mem_mergeW.1 hz with h | h
      · exact ha'.1 z h
      · rcases List.mem_cons.1 h with e | e
        · subst e; exact hxy
        · exact List.lt_trans hxy (hb'.1 z e)
    · rename_i hxy
      have hne : x ≠ y := fun e => hd x (List.mem_cons_self ..) (by rw [e]; exact List.mem_cons_self ..)
      have hyx : y < x := by
        refine Decidable.byContradiction fun hn => hne ?_
        exact List.le_antisymm (List.not_lt.1 hn) (List.not_lt.1 hxy)
      refine List.pairwise_cons.2 ⟨fun z hz => ?_, mergeW_asc ha hb'.2 fun u hu hub => hd u hu (List.mem_cons_of_mem _ hub)⟩
      rcases mem_mergeW.1 hz with h | h
      · rcases List.mem_cons.1 h with e | e
        · subst e; exact hyx
        · exact List.lt_trans hyx (ha'.1 z e)
      · exact hb'.1 z h
termination_by a b => a.length + b.length

/-- the reference's add -/
def atT (l : List (Wd × Nat)) (t : Wd × Nat) : Nat := (l.takeWhile fun x => decide (TLt x t)).length
def addT (l : List (Wd × Nat)) (t : Wd × Nat) : List (Wd × Nat) := if l[atT l t]? = some t then l else l.take (atT l t) ++ t :: l.drop (atT l t)
theorem take_atT (l : List (Wd × Nat)) (t : Wd × Nat) : l.take (atT l t) = l.takeWhile (fun x => decide (TLt x t)) ∧ l.drop (atT l t) = l.dropWhile (fun x => decide (TLt x t)) := by
  have h := List.takeWhile_append_dropWhile (p := fun x : Wd × Nat => decide (TLt x t)) (l := l)
  unfold atT
  generalize hA : l.takeWhile (fun x => decide (TLt x t)) = A at *
  generalize hB : l.dropWhile (fun x => decide (TLt x t)) = B at *
  rw [← h, List.take_left, List.drop_left]
  exact ⟨rfl, rfl⟩
theorem mem_addT {l : List (Wd × Nat)} {t x : Wd × Nat} : x ∈ addT l t ↔ x = t ∨ x ∈ l := by
  unfold addT
  split
  · rename_i h
    constructor
    · exact .inr
    · rintro (e | e)
      · subst e; exact List.mem_of_getElem? h
      · exact e
  · rw [List.mem_append, List.mem_cons]
    have h := List.take_append_drop (atT l t) l
    constructor
    · rintro (e | e | e)
      · exact .inr (List.mem_of_mem_take e)
      · exact .inl e
      · exact .inr (List.mem_of_mem_drop e)
    · rintro (e | e)
      · exact .inr (.inl e)
      · rw [← h, List.mem_append] at e
        rcases e with e | e
        · exact .inl e
        · exact .inr (.inr e)
theorem tlt_of_takeWhile {t x : Wd × Nat} : ∀ {l : List (Wd × Nat)}, x ∈ l.takeWhile (fun x => decide (TLt x t)) → TLt x t
  | [], h => by simp at h
  | y :: r, h => by
    rw [List.takeWhile_cons] at h
    split at h
    · rename_i hy
      rcases List.mem_cons.1 h with e | e
      · subst e; exact of_decide_eq_true hy
      · exact tlt_of_takeWhile e
    · simp at h
theorem addT_asc {l : List (Wd × Nat)} (h : TAsc l) (t : Wd × Nat) : TAsc (addT l t) := by
  unfold addT
  split
  · exact h
  · rename_i hne
    have hs := List.takeWhile_append_dropWhile (p := fun x : Wd × Nat => decide (TLt x t)) (l := l)
    have hd0 : ∀ y, (l.dropWhile fun x => decide (TLt x t)).head? = some y → ¬ TLt y t := by
      intro y hy
      have := List.head?_dropWhile_not (fun x : Wd × Nat => decide (TLt x t)) l
      rw [hy] at this
      simpa using this
    have hh : (l.dropWhile fun x => decide (TLt x t)).head? ≠ some t := by
      rw [← (take_atT l t).2, List.head?_drop]; exact hne
    rw [(take_atT l t).1, (take_atT l t).2]
    generalize hA : l.takeWhile (fun x => decide (TLt x t)) = A at *
    generalize hB : l.dropWhile (fun x => decide (TLt x t)) = B at *
    have h' := h
    unfold TAsc at h' ⊢
    rw [← hs, List.pairwise_append] at h'
    rw [List.pairwise_append, List.pairwise_cons]
    have hAt : ∀ a ∈ A, TLt a t := fun a ha => tlt_of_takeWhile (by rw [hA]; exact ha)
    have htB : ∀ b ∈ B, TLt t b := by
      cases B with
      | nil => simp
      | cons y r =>
        have hy : TLt t y := by
          have h1 := hd0 y rfl
          refine Decidable.byContradiction fun hn => hh ?_
          rw [List.head?_cons, tlt_conn h1 hn]
        intro b hb
        rcases List.mem_cons.1 hb with e | e
        · subst e; exact hy
        · exact tlt_trans _ _ _ hy ((List.pairwise_cons.1 h'.2.1).1 b e)
    refine ⟨h'.1, ⟨htB, h'.2.1⟩, fun a ha b hb => ?_⟩
    rcases List.mem_cons.1 hb with e | e
    · subst e; exact hAt a ha
    · exact h'.2.2 a ha b e

/-- the reference's terms: over all words of all documents -/
def termsR (D : List Dc) (p : Wd) (ws : List Wd) : List (Wd × Nat) := ws.foldl (fun l x => if p.isPrefixOf x then addT l (x, dn D x) else l) []
theorem termsR_gen (D : List Dc) (p : Wd) : ∀ (ws : List Wd) (l : List (Wd × Nat)), TAsc l →
    TAsc (ws.foldl (fun l x => if p.isPrefixOf x then addT l (x, dn D x) else l) l) ∧ ∀ x, x ∈ ws.foldl (fun l x => if p.isPrefixOf x then addT l (x, dn D x) else l) l ↔ x ∈ l ∨ (x.1 ∈ ws ∧ p.isPrefixOf x.1 = true ∧ x.2 = dn D x.1)
  | [], l, h => ⟨h, fun x => by simp⟩
  | w :: ws, l, h => by
    rw [List.foldl_cons]
    by_cases hp : p.isPrefixOf w = true
    · rw [if_pos hp]
      obtain ⟨h1, h2⟩ := termsR_gen D p ws (addT l (w, dn D w)) (addT_asc h _)
      refine ⟨h1, fun x => ?_⟩
      rw [h2, mem_addT, List.mem_cons]
      constructor
      · rintro ((e | e) | e)
        · subst e; exact .inr ⟨.inl rfl, hp, rfl⟩
        · exact .inl e
        · exact .inr ⟨.inr e.1, e.2⟩
      · rintro (e | ⟨e | e, e2⟩)
        · exact .inl (.inr e)
        · refine .inl (.inl ?_)
          obtain ⟨a, b⟩ := x
          simp only at e e2
          rw [e, e2.2, e]
        · exact .inr ⟨e, e2⟩
    · rw [if_neg hp]
      obtain ⟨h1, h2⟩ := termsR_gen D p ws l h
      refine ⟨h1, fun x => ?_⟩
      rw [h2, List.mem_cons]
      constructor
      · rintro (e | e)
        · exact .inl e
        · exact .inr ⟨.inr e.1, e.2⟩
      · rintro (e | ⟨e | e, e2⟩)
        · exact .inl e
        · exact absurd (by rw [← e]; exact e2.1) hp
        · exact .inr ⟨e, e2⟩
theorem termsR_eq (D : List Dc) (p : Wd) : termsR D p (D.flatMap (·.2)) = termsD D p := by
  obtain ⟨h1, h2⟩ := termsR_gen D p (D.flatMap (·.2)) [] List.Pairwise.nil
  refine terms_unique h1 (termsD_asc D p) fun x => ?_
  rw [mem_termsD, mem_vocab]
  have := h2 x
  unfold termsR
  rw [this, List.mem_flatMap]
  simp
end Go.Proofs.YtmfnhfkgkdibfaaGreat
