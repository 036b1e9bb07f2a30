/- What the operations leave and what the remaining ones build is the same. -/
import Derived.Test.YtmfnhfkgkdibfaaGreatILef
namespace Go.Proofs.YtmfnhfkgkdibfaaGreat

theorem Asc.step {D : List Dc} (hA : Asc D) (o : Op3) : Asc (stepD D o) := by
  unfold stepD
  split
  · exact hA.rem _
  · split
    · exact hA.put _ _
    · exact hA
theorem Ids.step {D : List Dc} (hI : Ids D) (o : Op3) : Ids (stepD D o) := by
  unfold stepD
  split
  · exact hI.rem _
  · split
    · rename_i h; exact hI.put h.1 h.2 _
    · exact hI
/-- the words that the last operation of an ID leaves -/
def lw (l : List Op3) (i : Int) : Option (List Wd) := match l.reverse.find? (fun o => decide (o.2.1 = i)) with | some o => if o.1 = 0 then none else some (wordsOf o.2.2) | none => none
theorem run_facts (l : List Op3) : Asc (runD l) ∧ Ids (runD l) ∧ ∀ i, 1 ≤ i ∧ i ≤ 256 → wordsAt (runD l) i = lw l i := by
  have key : ∀ k, k ≤ l.length → Asc (runD (l.take k)) ∧ Ids (runD (l.take k)) ∧ ∀ i, 1 ≤ i ∧ i ≤ 256 → wordsAt (runD (l.take k)) i = lw (l.take k) i := by
    intro k
    induction k with
    | zero => exact fun _ => ⟨.nil, fun d hd => by simp [runD] at hd, fun i _ => rfl⟩
    | succ k ih =>
      intro hk
      obtain ⟨h1, h2, h3⟩ := ih (by omega)
      rw [runD_succ l k hk]
      refine ⟨h1.step _, h2.step _, fun i hi => ?_⟩
      rw [words_step h1 _ i hi, h3 i hi]
      unfold lw
      rw [List.take_succ_eq_append_getElem hk, List.reverse_append, List.reverse_singleton, List.singleton_append, List.find?_cons]
      by_cases h : l[k].2.1 = i
      · simp [h]
      · simp [h]
  have := key l.length (Nat.le_refl _)
  rw [List.take_length] at this
  exact this
theorem docs_ext {D E : List Dc} (hD : Asc D) (hE : Asc E) (iD : Ids D) (iE : Ids E) (h : ∀ i, 1 ≤ i ∧ i ≤ 256 → wordsAt D i = wordsAt E i) : D = E := by
  refine eq_of_asc (R := fun a b : Dc => a.1 < b.1) (fun x => by omega) (fun x y z => by omega) hD hE fun x => ?_
  obtain ⟨i, ws⟩ := x
  constructor
  · intro hx
    have := (wordsAt_some hD).2 hx
    rw [h i (iD _ hx)] at this
    exact (wordsAt_some hE).1 this
  · intro hx
    have := (wordsAt_some hE).2 hx
    rw [← h i (iE _ hx)] at this
    exact (wordsAt_some hD).1 this
theorem find_unique {β : Type} {P : β → Bool} {o : β} : ∀ {l : List β}, o ∈ l → P o = true → (∀ x ∈ l, P x = true → x = o) → l.find? P = some o
  | [], h, _, _ => by cases h
  | x :: l, h, h2, h3 => by
    rw [List.find?_cons]
    cases hx : P x with
    | true => rw [h3 x (by simp) hx]
    | false =>
      rcases List.mem_cons.1 h with rfl | h
      · rw [h2] at hx; cases hx
      · exact find_unique h h2 fun y hy => h3 y (List.mem_cons_of_mem _ hy)
theorem mem_leftAt {l : List Op3} {id : Int} {x : Op3} : x ∈ leftAt l id ↔ l.reverse.find? (fun o => decide (o.2.1 = id)) = some x ∧ x.1 ≠ 0 := by
  unfold leftAt
  cases h : l.reverse.find? (fun o => decide (o.2.1 = id)) with
  | none => simp
  | some o =>
    simp only [Option.some.injEq]
    by_cases h0 : o.1 = 0
    · rw [if_pos h0]
      constructor
      · intro h; cases h
      · rintro ⟨rfl, h⟩; exact absurd h0 h
    · rw [if_neg h0, List.mem_singleton]
      constructor
      · rintro rfl; exact ⟨rfl, h0⟩
      · rintro ⟨rfl, _⟩; rfl
theorem mem_leftL {l : List Op3} {x : Op3} : x ∈ leftL l ↔ (1 ≤ x.2.1 ∧ x.2.1 ≤ 256) ∧ x ∈ leftAt l x.2.1 := by
  unfold leftL leftK
  rw [List.mem_flatMap]
  constructor
  · rintro ⟨j, hj, hx⟩
    have hj := List.mem_range.1 hj
    have hid : x.2.1 = 256 - (j : Int) := by
      have := (mem_leftAt.1 hx).1
      have := List.find?_some this
      simpa using this
    rw [hid]
    exact ⟨by omega, hx⟩
  · rintro ⟨⟨h1, h2⟩, hx⟩
    refine ⟨(256 - x.2.1).toNat, List.mem_range.2 (by omega), ?_⟩
    rw [show (256 : Int) - (((256 - x.2.1).toNat : Nat) : Int) = x.2.1 by omega]
    exact hx
theorem lw_left (l : List Op3) (i : Int) (hi : 1 ≤ i ∧ i ≤ 256) : lw (leftL l) i = lw l i := by
  unfold lw
  cases h : l.reverse.find? (fun o => decide (o.2.1 = i)) with
  | none =>
    have : (leftL l).reverse.find? (fun o => decide (o.2.1 = i)) = none := List.find?_eq_none.2 fun x hx => by
      intro he
      have he : x.2.1 = i := by simpa using he
      have := (mem_leftAt.1 (mem_leftL.1 (List.mem_reverse.1 hx)).2).1
      rw [he, h] at this; cases this
    rw [this]
  | some o =>
    have ho : o.2.1 = i := by have := List.find?_some h; simpa using this
    by_cases h0 : o.1 = 0
    · have : (leftL l).reverse.find? (fun o => decide (o.2.1 = i)) = none := List.find?_eq_none.2 fun x hx => by
        intro he
        have he : x.2.1 = i := by simpa using he
        have h2 := mem_leftAt.1 (mem_leftL.1 (List.mem_reverse.1 hx)).2
        rw [he, h] at h2
        obtain ⟨h3, h4⟩ := h2
        cases h3
        exact h4 h0
      rw [this]; simp [h0]
    · have : (leftL l).reverse.find? (fun o => decide (o.2.1 = i)) = some o := find_unique (List.mem_reverse.2 (mem_leftL.2 ⟨by rw [ho]; exact hi, mem_leftAt.2 ⟨by rw [ho]; exact h, h0⟩⟩)) (by simp [ho]) fun x hx he => by
        have he : x.2.1 = i := by simpa using he
        have h2 := mem_leftAt.1 (mem_leftL.1 (List.mem_reverse.1 hx)).2
        rw [he, h] at h2
        obtain ⟨h3, _⟩ := h2
        cases h3; rfl
      rw [this]
theorem run_left (l : List Op3) : runD (leftL l) = runD l := by
  obtain ⟨a1, a2, a3⟩ := run_facts (leftL l)
  obtain ⟨b1, b2, b3⟩ := run_facts l
  exact docs_ext a1 b1 a2 b2 fun i hi => by rw [a3 i hi, b3 i hi, lw_left l i hi]
theorem left_ok {l : List Op3} (h : ∀ o ∈ l, okOp o ∧ o.2.2.length ≤ 200) : ∀ o ∈ leftL l, okOp o ∧ o.2.2.length ≤ 200 := fun o ho => by
  have := (mem_leftAt.1 (mem_leftL.1 ho).2).1
  exact h o (List.mem_reverse.1 (List.mem_of_find?_eq_some this))
end Go.Proofs.YtmfnhfkgkdibfaaGreat
