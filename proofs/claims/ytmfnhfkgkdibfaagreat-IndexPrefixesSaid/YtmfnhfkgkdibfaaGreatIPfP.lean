/- Plain: the words with a beginning are few; their counts add up to those of the beginning. -/
import Derived.Test.YtmfnhfkgkdibfaaGreatICnP
namespace Go.Proofs.YtmfnhfkgkdibfaaGreat

def two (x : Wd) : Bool := decide (2 ≤ x.length)
theorem wordsGo_two : ∀ (l cur : List UInt8), 3 * (wordsGo cur l).countP two ≤ l.length + cur.length + 1
  | [], cur => by
    unfold wordsGo
    split
    · simp
    · rw [List.countP_singleton]
      unfold two
      split
      · rename_i h; simp at h; simp; omega
      · simp
  | c :: r, cur => by
    unfold wordsGo
    split
    · have := wordsGo_two r (if cur.length < 30 then cur ++ [low c] else cur)
      have h2 : (if cur.length < 30 then cur ++ [low c] else cur).length ≤ cur.length + 1 := by split <;> simp
      rw [List.length_cons]; omega
    · rw [List.countP_append, List.length_cons]
      have := wordsGo_two r []
      simp only [List.length_nil] at this
      have h2 : 3 * (if cur = [] then ([] : List Wd) else [cur]).countP two ≤ cur.length + 1 := by
        split
        · simp
        · rw [List.countP_singleton]
          unfold two
          split
          · rename_i h; simp at h; omega
          · omega
      omega
theorem words_two {s : List UInt8} (h : s.length ≤ 200) : (wordsOf s).countP two ≤ 67 := by
  have := wordsGo_two s []
  simp only [List.length_nil] at this
  unfold wordsOf
  omega

theorem nodup_sub_len {α : Type} [DecidableEq α] : ∀ {a b : List α}, a.Nodup → (∀ x ∈ a, x ∈ b) → a.length ≤ b.length
  | [], _, _, _ => Nat.zero_le _
  | x :: a, b, hn, h => by
    rw [List.nodup_cons] at hn
    have hx : x ∈ b := h x (by simp)
    have := nodup_sub_len (a := a) (b := b.erase x) hn.2 fun y hy => (List.mem_erase_of_ne (fun e => hn.1 (by rw [← e]; exact hy))).2 (h y (List.mem_cons_of_mem _ hy))
    rw [List.length_erase_of_mem hx] at this
    have : 0 < b.length := List.length_pos_of_mem hx
    simp only [List.length_cons]; omega

theorem step_len (D : List Dc) (o : Op3) : (stepD D o).length ≤ D.length + 1 := by
  have hr : ∀ id, (remD D id).length ≤ D.length := fun id => List.length_filter_le _ _
  unfold stepD
  split
  · have := hr o.2.1; omega
  · split
    · unfold putD insD
      rw [List.length_append, List.length_cons, List.length_take, List.length_drop]
      have := hr o.2.1
      simp only
      omega
    · omega
theorem run_len_gen : ∀ (l : List Op3) (D : List Dc), (l.foldl stepD D).length ≤ D.length + l.length
  | [], D => by simp
  | o :: l, D => by
    rw [List.foldl_cons, List.length_cons]
    have := run_len_gen l (stepD D o)
    have := step_len D o
    omega
theorem run_len (l : List Op3) : (runD l).length ≤ l.length := by have := run_len_gen l []; rw [List.length_nil, Nat.zero_add] at this; exact this
theorem run_docs_from {l : List Op3} {d : Dc} (hd : d ∈ runD l) : ∃ o ∈ l, d.2 = wordsOf o.2.2 := by
  obtain ⟨h1, h2, h3⟩ := run_facts l
  have := (wordsAt_some h1 (id := d.1) (l := d.2)).2 hd
  rw [h3 _ (h2 d hd)] at this
  unfold lw at this
  cases h : l.reverse.find? (fun o => decide (o.2.1 = d.1)) with
  | none => rw [h] at this; cases this
  | some o =>
    rw [h] at this
    simp only at this
    split at this
    · cases this
    · exact ⟨o, List.mem_reverse.1 (List.mem_of_find?_eq_some h), (Option.some.inj this).symm⟩
theorem flat_two : ∀ {D : List Dc}, (∀ d ∈ D, d.2.countP two ≤ 67) → (D.flatMap (·.2)).countP two ≤ 67 * D.length
  | [], _ => by simp
  | d :: D, h => by
    rw [List.flatMap_cons, List.countP_append, List.length_cons]
    have := flat_two (D := D) fun x hx => h x (List.mem_cons_of_mem _ hx)
    have := h d (by simp)
    omega
/-- few words of a beginning, where the documents come from few operations -/
theorem few_words {l : List Op3} (h12 : l.length ≤ 12) (h200 : ∀ o ∈ l, o.2.2.length ≤ 200) {p : Wd} (hp : p ≠ []) : (termsD (runD l) p).length ≤ 1000 := by
  unfold termsD
  rw [List.length_mergeSort, List.length_map]
  have hn : ((vocab (runD l)).filter p.isPrefixOf).Nodup := ((vocab_asc _).filter _).imp fun {a b} h e => by subst e; exact List.lt_irrefl _ h
  have hv : ∀ x ∈ (vocab (runD l)).filter p.isPrefixOf, x ∈ vocab (runD l) ∧ p.isPrefixOf x = true := fun x hx => List.mem_filter.1 hx
  generalize (vocab (runD l)).filter p.isPrefixOf = V at *
  have h1 : (V.filter two).length ≤ ((runD l).flatMap (·.2) |>.filter two).length := nodup_sub_len (hn.filter _) fun x hx => by
    obtain ⟨ha, hb⟩ := List.mem_filter.1 hx
    obtain ⟨d, hd, hxd⟩ := mem_vocab.1 (hv x ha).1
    exact List.mem_filter.2 ⟨List.mem_flatMap.2 ⟨d, hd, hxd⟩, hb⟩
  have h2 : (V.filter fun x => !two x).length ≤ [p].length := nodup_sub_len (hn.filter _) fun x hx => by
    obtain ⟨ha, hb⟩ := List.mem_filter.1 hx
    obtain ⟨r, hr⟩ := List.isPrefixOf_iff_prefix.1 (hv x ha).2
    have hl : x.length < 2 := by simpa [two] using hb
    rw [← hr, List.length_append] at hl
    have h0 : 0 < p.length := List.length_pos_iff.2 hp
    have : r = [] := List.length_eq_zero_iff.1 (by omega)
    rw [this, List.append_nil] at hr
    simp [hr]
  have h3 := flat_two (D := runD l) fun d hd => by
    obtain ⟨o, ho, e⟩ := run_docs_from hd
    rw [e]; exact words_two (h200 o ho)
  have h4 := run_len l
  have h5 : V.length = (V.filter two).length + (V.filter fun x => !two x).length := by
    clear h1 h2 h3 h4 hv hn
    induction V with
    | nil => rfl
    | cons x V ih => by_cases h : two x = true <;> simp [h] <;> omega
  rw [← List.countP_eq_length_filter (p := two) (l := (runD l).flatMap (·.2))] at h1
  simp only [List.length_cons, List.length_nil] at h2
  omega

/-- the counts at an ID -/
def sumHits (L : List (Int × Nat)) (id : Int) : Nat := ((L.filter fun y => decide (y.1 = id)).map (·.2)).sum
theorem sumHits_append (a b : List (Int × Nat)) (id : Int) : sumHits (a ++ b) id = sumHits a id + sumHits b id := by simp [sumHits]
theorem sumHits_cons_same (y : Int × Nat) (b : List (Int × Nat)) : sumHits (y :: b) y.1 = y.2 + sumHits b y.1 := by simp [sumHits]
theorem sumHits_cons_ne {y : Int × Nat} {b : List (Int × Nat)} {id : Int} (h : y.1 ≠ id) : sumHits (y :: b) id = sumHits b id := by simp [sumHits, h]
theorem sumHits_none {L : List (Int × Nat)} {id : Int} (h : ∀ y ∈ L, y.1 ≠ id) : sumHits L id = 0 := by
  unfold sumHits
  have : L.filter (fun y => decide (y.1 = id)) = [] := List.filter_eq_nil_iff.2 fun y hy => by simpa using h y hy
  rw [this]; rfl
theorem sumHits_some : ∀ {L : List (Int × Nat)}, HAsc L → ∀ {id : Int} {n : Nat}, (id, n) ∈ L → sumHits L id = n
  | [], _, _, _, h => by cases h
  | y :: L, hA, id, n, h => by
    have hA' := List.pairwise_cons.1 hA
    rcases List.mem_cons.1 h with e | e
    · subst e
      have h0 : sumHits L id = 0 := sumHits_none fun z hz => by have := hA'.1 z hz; simp only at this; omega
      have := sumHits_cons_same (id, n) L
      simp only at this
      rw [this, h0]; omega
    · rw [sumHits_cons_ne (by have := hA'.1 _ e; simp only at this; omega)]
      exact sumHits_some hA'.2 e
theorem sumHits_hitsF (c : Int → Nat) (id : Int) : sumHits (hitsF c) id = if 1 ≤ id ∧ id ≤ 256 then c id else 0 := by
  split
  · rename_i h
    rcases Nat.eq_zero_or_pos (c id) with h0 | h0
    · rw [h0]
      refine sumHits_none fun y hy e => ?_
      have := mem_hitsF.1 hy
      rw [e] at this
      omega
    · exact sumHits_some (hitsF_asc c) (mem_hitsF.2 ⟨h.1, h.2, h0, rfl⟩)
  · rename_i h
    refine sumHits_none fun y hy e => h ?_
    have := mem_hitsF.1 hy
    rw [e] at this
    exact ⟨this.1, this.2.1⟩
theorem sumHits_flat {α : Type} (f : α → List (Int × Nat)) (id : Int) : ∀ l : List α, sumHits (l.flatMap f) id = (l.map fun x => sumHits (f x) id).sum
  | [] => rfl
  | x :: l => by rw [List.flatMap_cons, sumHits_append, sumHits_flat f id l, List.map_cons, List.sum_cons]
theorem countP_or {α : Type} {p q : α → Bool} : ∀ {l : List α}, (∀ x ∈ l, p x = true → q x = true → False) → l.countP (fun x => p x || q x) = l.countP p + l.countP q
  | [], _ => rfl
  | x :: l, h => by
    have ih := countP_or (l := l) fun y hy => h y (List.mem_cons_of_mem _ hy)
    have hx := h x (by simp)
    simp only [List.countP_cons, ih]
    cases hp : p x <;> cases hq : q x <;> simp_all <;> omega
theorem sum_counts (l : List Wd) : ∀ V : List Wd, V.Nodup → (V.map fun x => l.count x).sum = l.countP fun y => decide (y ∈ V)
  | [], _ => by
    symm; simp
  | x :: V, hn => by
    rw [List.nodup_cons] at hn
    rw [List.map_cons, List.sum_cons, sum_counts l V hn.2]
    have h1 : l.count x = l.countP fun y => decide (y = x) := List.countP_congr fun y _ => by simp
    rw [h1, ← countP_or (l := l) (p := fun y => decide (y = x)) (q := fun y => decide (y ∈ V)) fun y _ h2 h3 => hn.1 (by
      have h2 : y = x := of_decide_eq_true h2
      have h3 : y ∈ V := of_decide_eq_true h3
      rw [← h2]; exact h3)]
    refine List.countP_congr fun y _ => ?_
    simp
theorem docs_sum (D : List Dc) (id : Int) : ∀ V : List Wd, (V.map fun x => cntD D x id).sum = docsF D (fun l => (V.map fun x => l.count x).sum) id
  | [] => by unfold docsF; cases wordsAt D id <;> rfl
  | x :: V => by
    rw [List.map_cons, List.sum_cons, docs_sum D id V]
    unfold cntD docsF
    cases wordsAt D id <;> simp

theorem sum_zeros : ∀ V : List Wd, (V.map fun _ => 0).sum = 0
  | [] => rfl
  | x :: V => by rw [List.map_cons, List.sum_cons, sum_zeros V]
/-- the hits of all words with a beginning -/
def allHits (D : List Dc) (s : List UInt8) : List (Int × Nat) := (termsQ D s 1000).flatMap fun t => docsQ D t.1
theorem pref_sums {l : List Op3} (h12 : l.length ≤ 12) (h200 : ∀ o ∈ l, o.2.2.length ≤ 200) (ho : ∀ d ∈ runD l, ∀ x ∈ d.2, okWord x) {s : List UInt8} (hs : s ≠ []) (id : Int) : sumHits (allHits (runD l) s) id = sumHits (prefQ (runD l) s) id := by
  unfold allHits
  rw [sumHits_flat]
  obtain ⟨hA, hI, -⟩ := run_facts l
  unfold termsQ prefQ prefW
  rw [if_neg hs]
  cases hw : wordOf s with
  | none => rfl
  | some p =>
    simp only
    have hp := (wordOf_len hw).1
    rw [show (1000 : Int).toNat = 1000 from rfl, List.take_of_length_le (few_words h12 h200 hp)]
    generalize hD : runD l = D at *
    have hV : ∃ V : List Wd, V.Nodup ∧ (∀ x, x ∈ V ↔ x ∈ vocab D ∧ p.isPrefixOf x = true) ∧ (termsD D p).map (·.1) = V := by
      have hperm : ((termsD D p).map (·.1)).Perm ((vocab D).filter p.isPrefixOf) := by
        unfold termsD
        refine ((List.mergeSort_perm _ _).map _).trans ?_
        rw [List.map_map]
        have : ((fun x : Wd × Nat => x.1) ∘ fun x => (x, dn D x)) = fun x => x := rfl
        rw [this, List.map_id']
      refine ⟨_, hperm.nodup_iff.2 ?_, fun x => ?_, rfl⟩
      · exact ((vocab_asc _).filter _).imp fun {a b} h e => by subst e; exact List.lt_irrefl _ h
      · rw [hperm.mem_iff, List.mem_filter]
    obtain ⟨V, hn, hm, hV⟩ := hV
    have e1 : ((termsD D p).map fun t => sumHits (docsQ D t.1) id) = V.map fun x => sumHits (docsQ D x) id := by rw [← hV, List.map_map]; rfl
    rw [e1]
    have e2 : (V.map fun x => sumHits (docsQ D x) id) = V.map fun x => if 1 ≤ id ∧ id ≤ 256 then cntD D x id else 0 := List.map_congr_left fun x hx => by
      rw [(docs_word ho ((hm x).1 hx).1).2, phraseD_one, sumHits_hitsF]
    rw [e2]
    unfold prefD
    rw [sumHits_hitsF]
    by_cases hid : 1 ≤ id ∧ id ≤ 256
    · simp only [if_pos hid]
      rw [docs_sum]
      unfold docsF
      cases hwd : wordsAt D id with
      | none => rfl
      | some ws =>
        simp only [Option.map_some, Option.getD_some]
        rw [sum_counts ws V hn]
        refine List.countP_congr fun y hy => ?_
        rw [decide_eq_true_iff, hm]
        exact ⟨fun h => h.2, fun h => ⟨mem_vocab.2 ⟨(id, ws), (wordsAt_some hA).1 hwd, hy⟩, h⟩⟩
    · simp only [if_neg hid]
      exact sum_zeros V
theorem prefQ_form (D : List Dc) (s : List UInt8) : ∃ c, prefQ D s = hitsF c ∧ ((∀ d ∈ D, d.2.length ≤ 1000) → Asc D → ∀ id, c id ≤ 1000) := by
  unfold prefQ
  cases hw : wordOf s with
  | none => exact ⟨fun _ => 0, hitsF_zero.symm, fun _ _ _ => by show 0 ≤ 1000; omega⟩
  | some p =>
    refine ⟨_, rfl, fun h hA id => ?_⟩
    unfold docsF
    cases hwd : wordsAt D id with
    | none => simp
    | some ws =>
      simp only [Option.map_some, Option.getD_some]
      have := h _ ((wordsAt_some hA).1 hwd)
      exact Nat.le_trans List.countP_le_length this
theorem docsQ_form (D : List Dc) (s : List UInt8) : ∃ c, docsQ D s = hitsF c := ⟨_, docsQ_cq D s⟩
theorem hits_range {c : Int → Nat} {y : Int × Nat} (h : y ∈ hitsF c) : 1 ≤ y.1 ∧ y.1 ≤ 256 ∧ 0 < y.2 := by
  have := mem_hitsF.1 h
  exact ⟨this.1, this.2.1, this.2.2.1⟩
theorem sumHits_le_of_prefix {a b : List (Int × Nat)} (h : a <+: b) (id : Int) : sumHits a id ≤ sumHits b id := by
  obtain ⟨c, rfl⟩ := h
  rw [sumHits_append]; omega
end Go.Proofs.YtmfnhfkgkdibfaaGreat
