/- Plain: documents, what the queries of an index answer. -/
import Derived.Test.YtmfnhfkgkdibfaaGreatIKmp
namespace Go.Proofs.YtmfnhfkgkdibfaaGreat

theorem eq_of_asc {β : Type} {R : β → β → Prop} (hirr : ∀ x, ¬ R x x) (htr : ∀ x y z, R x y → R y z → R x z) : ∀ {a b : List β}, a.Pairwise R → b.Pairwise R → (∀ x, x ∈ a ↔ x ∈ b) → a = b
  | [], [], _, _, _ => rfl
  | [], y :: b, _, _, h => absurd ((h y).2 (List.mem_cons_self ..)) (by simp)
  | x :: a, [], _, _, h => absurd ((h x).1 (List.mem_cons_self ..)) (by simp)
  | x :: a, y :: b, ha, hb, h => by
    rw [List.pairwise_cons] at ha hb
    have hxy : x = y := by
      rcases List.mem_cons.1 ((h x).1 (List.mem_cons_self ..)) with e | e
      · exact e
      · rcases List.mem_cons.1 ((h y).2 (List.mem_cons_self ..)) with e' | e'
        · exact e'.symm
        · exact absurd (htr _ _ _ (ha.1 y e') (hb.1 x e)) (hirr x)
    subst hxy
    rw [eq_of_asc hirr htr ha.2 hb.2 fun z => ⟨fun hz => ?_, fun hz => ?_⟩]
    · rcases List.mem_cons.1 ((h z).1 (List.mem_cons_of_mem _ hz)) with e | e
      · subst e; exact absurd (ha.1 z hz) (hirr z)
      · exact e
    · rcases List.mem_cons.1 ((h z).2 (List.mem_cons_of_mem _ hz)) with e | e
      · subst e; exact absurd (hb.1 z hz) (hirr z)
      · exact e

/-- a document: its ID, its words -/
abbrev Dc := Int × List Wd
def Asc (D : List Dc) : Prop := D.Pairwise fun a b => a.1 < b.1
def Ids (D : List Dc) : Prop := ∀ d ∈ D, 1 ≤ d.1 ∧ d.1 ≤ 256
def remD (D : List Dc) (id : Int) : List Dc := D.filter fun d => decide (d.1 ≠ id)
def atD (D : List Dc) (id : Int) : Nat := (D.takeWhile fun d => decide (d.1 < id)).length
def insD (x : Dc) (D : List Dc) : List Dc := D.take (atD D x.1) ++ x :: D.drop (atD D x.1)
def putD (D : List Dc) (id : Int) (l : List Wd) : List Dc := insD (id, l) (remD D id)
def wordsAt (D : List Dc) (id : Int) : Option (List Wd) := (D.find? fun d => decide (d.1 = id)).map (·.2)

theorem Asc.rem {D : List Dc} (h : Asc D) (id : Int) : Asc (remD D id) := List.Pairwise.filter _ h
theorem Ids.rem {D : List Dc} (h : Ids D) (id : Int) : Ids (remD D id) := fun d hd => h d (List.mem_filter.1 hd).1
theorem mem_rem {D : List Dc} {id : Int} {d : Dc} : d ∈ remD D id ↔ d ∈ D ∧ d.1 ≠ id := by simp [remD, List.mem_filter]
theorem insD_eq (x : Dc) (D : List Dc) : insD x D = D.takeWhile (fun d => decide (d.1 < x.1)) ++ x :: D.dropWhile (fun d => decide (d.1 < x.1)) := by
  have h := List.takeWhile_append_dropWhile (p := fun d : Dc => decide (d.1 < x.1)) (l := D)
  unfold insD atD
  generalize hA : D.takeWhile (fun d => decide (d.1 < x.1)) = A at *
  generalize hB : D.dropWhile (fun d => decide (d.1 < x.1)) = B at *
  rw [← h, List.take_left, List.drop_left]
theorem mem_ins {D : List Dc} {x d : Dc} : d ∈ insD x D ↔ d = x ∨ d ∈ D := by
  rw [insD_eq, List.mem_append, List.mem_cons]
  have h := List.takeWhile_append_dropWhile (p := fun d : Dc => decide (d.1 < x.1)) (l := D)
  constructor
  · rintro (h1 | h1 | h1)
    · exact .inr (by rw [← h]; exact List.mem_append_left _ h1)
    · exact .inl h1
    · exact .inr (by rw [← h]; exact List.mem_append_right _ h1)
  · rintro (h1 | h1)
    · exact .inr (.inl h1)
    · rw [← h, List.mem_append] at h1
      rcases h1 with h1 | h1
      · exact .inl h1
      · exact .inr (.inr h1)
theorem mem_put {D : List Dc} {id : Int} {l : List Wd} {d : Dc} : d ∈ putD D id l ↔ d = (id, l) ∨ (d ∈ D ∧ d.1 ≠ id) := by rw [putD, mem_ins, mem_rem]
theorem lt_of_takeWhile {D : List Dc} {id : Int} {d : Dc} (h : d ∈ D.takeWhile (fun d => decide (d.1 < id))) : d.1 < id := by
  induction D with
  | nil => simp at h
  | cons y r ih =>
    rw [List.takeWhile_cons] at h
    split at h
    · rename_i hy
      rcases List.mem_cons.1 h with e | e
      · subst e; simpa using hy
      · exact ih e
    · simp at h
theorem ge_of_dropWhile {D : List Dc} {id : Int} (hA : Asc D) {d : Dc} (h : d ∈ D.dropWhile (fun d => decide (d.1 < id))) : id ≤ d.1 := by
  induction D with
  | nil => simp at h
  | cons y r ih =>
    have hA' := List.pairwise_cons.1 hA
    rw [List.dropWhile_cons] at h
    split at h
    · exact ih hA'.2 h
    · rename_i hy
      have hy' : ¬ y.1 < id := by simpa using hy
      rcases List.mem_cons.1 h with e | e
      · subst e; omega
      · have := hA'.1 d e; omega
theorem Asc.ins {D : List Dc} (h : Asc D) {x : Dc} (hx : ∀ d ∈ D, d.1 ≠ x.1) : Asc (insD x D) := by
  have hs := List.takeWhile_append_dropWhile (p := fun d : Dc => decide (d.1 < x.1)) (l := D)
  rw [insD_eq]
  unfold Asc
  have h' := h
  unfold Asc at h'
  rw [← hs, List.pairwise_append] at h'
  rw [List.pairwise_append, List.pairwise_cons]
  refine ⟨h'.1, ⟨fun d hd => ?_, h'.2.1⟩, fun a ha b hb => ?_⟩
  · have h1 := ge_of_dropWhile h hd
    have h2 := hx d ((List.dropWhile_sublist _).subset hd)
    omega
  · have h1 := lt_of_takeWhile ha
    rcases List.mem_cons.1 hb with e | e
    · subst e; exact h1
    · exact h'.2.2 a ha b e
theorem Asc.put {D : List Dc} (h : Asc D) (id : Int) (l : List Wd) : Asc (putD D id l) := (h.rem id).ins fun _ hd => (mem_rem.1 hd).2
theorem Ids.put {D : List Dc} (h : Ids D) {id : Int} (h1 : 1 ≤ id) (h2 : id ≤ 256) (l : List Wd) : Ids (putD D id l) := fun d hd => by
  rcases mem_put.1 hd with e | e
  · subst e; exact ⟨h1, h2⟩
  · exact h d e.1

theorem wordsAt_some {D : List Dc} (hA : Asc D) {id : Int} {l : List Wd} : wordsAt D id = some l ↔ (id, l) ∈ D := by
  induction D with
  | nil => simp [wordsAt]
  | cons y r ih =>
    have hA' := List.pairwise_cons.1 hA
    unfold wordsAt
    rw [List.find?_cons]
    by_cases hy : y.1 = id
    · simp only [hy, decide_true, Option.map_some, Option.some.injEq, List.mem_cons]
      constructor
      · intro e; left; rw [← hy, ← e]
      · rintro (e | e)
        · rw [← e]
        · have := hA'.1 _ e; simp only at this; omega
    · simp only [hy, decide_false, List.mem_cons]
      have := ih hA'.2
      unfold wordsAt at this
      rw [this]
      constructor
      · exact .inr
      · rintro (e | e)
        · exact absurd (by rw [← e]) hy
        · exact e
theorem wordsAt_put {D : List Dc} (hA : Asc D) (id j : Int) (l : List Wd) : wordsAt (putD D id l) j = if j = id then some l else wordsAt D j := by
  apply Option.ext
  intro m
  rw [wordsAt_some (hA.put id l), mem_put]
  by_cases hj : j = id
  · subst hj
    simp
    exact ⟨fun e => e.symm, fun e => e.symm⟩
  · rw [if_neg hj, wordsAt_some hA]
    simp [hj]
theorem wordsAt_rem {D : List Dc} (hA : Asc D) (id j : Int) : wordsAt (remD D id) j = if j = id then none else wordsAt D j := by
  apply Option.ext
  intro m
  rw [wordsAt_some (hA.rem id), mem_rem]
  by_cases hj : j = id
  · subst hj; simp
  · rw [if_neg hj, wordsAt_some hA]
    simp [hj]

/-- the hits of a count -/
def hitsF (c : Int → Nat) : List (Int × Nat) := (List.range 256).filterMap fun (i : Nat) => if 0 < c ((i : Int) + 1) then some ((i : Int) + 1, c ((i : Int) + 1)) else none
def HAsc (l : List (Int × Nat)) : Prop := l.Pairwise fun a b => a.1 < b.1

theorem mem_hitsF {c : Int → Nat} {x : Int × Nat} : x ∈ hitsF c ↔ 1 ≤ x.1 ∧ x.1 ≤ 256 ∧ 0 < x.2 ∧ x.2 = c x.1 := by
  unfold hitsF
  rw [List.mem_filterMap]
  constructor
  · rintro ⟨i, hi, h⟩
    have hi := List.mem_range.1 hi
    split at h
    · rename_i hc
      cases h
      exact ⟨by simp only; omega, by simp only; omega, hc, rfl⟩
    · cases h
  · obtain ⟨k, n⟩ := x
    rintro ⟨h1, h2, h3, h4⟩
    simp only at h1 h2 h3 h4
    refine ⟨(k - 1).toNat, List.mem_range.2 (by omega), ?_⟩
    rw [show (((k - 1).toNat : Nat) : Int) + 1 = k by omega, if_pos (by omega), h4]
theorem hitsF_asc (c : Int → Nat) : HAsc (hitsF c) := by
  unfold HAsc hitsF
  rw [List.pairwise_filterMap]
  refine List.Pairwise.imp ?_ List.pairwise_lt_range
  intro a b hab x hx y hy
  split at hx <;> cases hx
  split at hy <;> cases hy
  show (a : Int) + 1 < (b : Int) + 1
  omega
theorem hits_unique {a b : List (Int × Nat)} (ha : HAsc a) (hb : HAsc b) (h : ∀ x, x ∈ a ↔ x ∈ b) : a = b :=
  eq_of_asc (R := fun (a b : Int × Nat) => a.1 < b.1) (fun _ => Int.lt_irrefl _) (fun _ _ _ => Int.lt_trans) ha hb h

/-- what documents yield -/
def docsF (D : List Dc) (f : List Wd → Nat) (id : Int) : Nat := ((wordsAt D id).map f).getD 0
theorem hits_docs {D : List Dc} (hA : Asc D) (hI : Ids D) (f : List Wd → Nat) : (D.filterMap fun d => if 0 < f d.2 then some (d.1, f d.2) else none) = hitsF (docsF D f) := by
  refine hits_unique ?_ (hitsF_asc _) fun x => ?_
  · unfold HAsc
    rw [List.pairwise_filterMap]
    refine List.Pairwise.imp ?_ hA
    intro a b hab x hx y hy
    split at hx <;> cases hx
    split at hy <;> cases hy
    exact hab
  · rw [List.mem_filterMap, mem_hitsF]
    obtain ⟨k, n⟩ := x
    constructor
    · rintro ⟨d, hd, h⟩
      split at h
      · rename_i hc
        cases h
        have := (wordsAt_some hA (id := d.1) (l := d.2)).2 hd
        exact ⟨(hI d hd).1, (hI d hd).2, hc, by simp [docsF, this]⟩
      · cases h
    · rintro ⟨h1, h2, h3, h4⟩
      simp only [docsF] at h1 h2 h3 h4
      cases hw : wordsAt D k with
      | none => rw [hw] at h4; simp at h4; omega
      | some l =>
        rw [hw] at h4
        simp only [Option.map_some, Option.getD_some] at h4
        exact ⟨(k, l), (wordsAt_some hA).1 hw, by simp only; rw [if_pos (by omega), h4]⟩

def phraseD (D : List Dc) (ws : List Wd) : List (Int × Nat) := hitsF (docsF D fun l => occ l ws)
def prefD (D : List Dc) (p : Wd) : List (Int × Nat) := hitsF (docsF D fun l => l.countP p.isPrefixOf)

theorem nodup_dups : ∀ (n : Nat) (l : List Wd), l.length ≤ n → l.eraseDups.Nodup
  | 0, l, h => by
    obtain rfl : l = [] := List.length_eq_zero_iff.1 (by omega)
    simp
  | n + 1, [], _ => by simp
  | n + 1, a :: l, h => by
    rw [List.eraseDups_cons, List.nodup_cons]
    refine ⟨fun hm => ?_, nodup_dups n _ (Nat.le_trans (List.length_filter_le _ _) (by simpa using h))⟩
    rw [List.mem_eraseDups, List.mem_filter] at hm
    simpa using hm.2

/-- the different words of all documents, ascending -/
def vocab (D : List Dc) : List Wd := ((D.flatMap (·.2)).eraseDups).mergeSort fun x y => decide (x ≤ y)
theorem mem_vocab {D : List Dc} {x : Wd} : x ∈ vocab D ↔ ∃ d ∈ D, x ∈ d.2 := by
  unfold vocab
  rw [List.mem_mergeSort, List.mem_eraseDups, List.mem_flatMap]
def WAsc (l : List Wd) : Prop := l.Pairwise fun a b => a < b
theorem wlt_trans (x y z : Wd) (h : x < y) (k : y < z) : x < z := List.lt_trans h k
theorem words_unique {a b : List Wd} (ha : WAsc a) (hb : WAsc b) (h : ∀ x, x ∈ a ↔ x ∈ b) : a = b :=
  eq_of_asc (R := fun (a b : Wd) => a < b) (fun _ => List.lt_irrefl _) wlt_trans ha hb h
theorem vocab_asc (D : List Dc) : WAsc (vocab D) := by
  unfold WAsc vocab
  have h1 : (((D.flatMap (·.2)).eraseDups).mergeSort fun x y => decide (x ≤ y)).Pairwise (fun x y : Wd => decide (x ≤ y) = true) :=
    List.pairwise_mergeSort (fun a b c h k => by simp only [decide_eq_true_eq] at *; exact List.le_trans h k) (fun a b => by simp only [Bool.or_eq_true, decide_eq_true_eq]; exact List.le_total a b) _
  have h2 : (((D.flatMap (·.2)).eraseDups).mergeSort fun x y => decide (x ≤ y)).Nodup := (List.mergeSort_perm _ _).nodup_iff.2 (nodup_dups _ _ (Nat.le_refl _))
  refine (h1.and h2).imp fun {a b} h => ?_
  have hle : a ≤ b := of_decide_eq_true h.1
  refine Decidable.byContradiction fun hn => h.2 ?_
  exact List.le_antisymm hle (List.not_lt.1 hn)
theorem vocab_eq {D : List Dc} {l : List Wd} (ha : WAsc l) (h : ∀ x, x ∈ l ↔ ∃ d ∈ D, x ∈ d.2) : l = vocab D :=
  words_unique ha (vocab_asc D) fun x => by rw [h, mem_vocab]

/-- in how many documents a word is -/
def dn (D : List Dc) (x : Wd) : Nat := D.countP fun d => decide (x ∈ d.2)
theorem docs_len {D : List Dc} (hA : Asc D) (hI : Ids D) (x : Wd) : (phraseD D [x]).length = dn D x := by
  unfold phraseD
  rw [← hits_docs hA hI, List.length_filterMap_eq_countP]
  unfold dn
  refine List.countP_congr fun d _ => ?_
  rw [occ_one]
  by_cases h : x ∈ d.2
  · simp [h, List.count_pos_iff]
  · simp [h, List.count_pos_iff]

/-- the order of terms -/
def TLt (a b : Wd × Nat) : Prop := b.2 < a.2 ∨ (a.2 = b.2 ∧ a.1 < b.1)
theorem tlt_irrefl (x : Wd × Nat) : ¬ TLt x x := by
  rintro (h | h)
  · omega
  · exact List.lt_irrefl _ h.2
theorem tlt_trans (x y z : Wd × Nat) (h : TLt x y) (k : TLt y z) : TLt x z := by
  rcases h with h | h <;> rcases k with k | k
  · exact .inl (by omega)
  · exact .inl (by omega)
  · exact .inl (by omega)
  · exact .inr ⟨by omega, List.lt_trans h.2 k.2⟩
def TAsc (l : List (Wd × Nat)) : Prop := l.Pairwise TLt
theorem terms_unique {a b : List (Wd × Nat)} (ha : TAsc a) (hb : TAsc b) (h : ∀ x, x ∈ a ↔ x ∈ b) : a = b := eq_of_asc tlt_irrefl tlt_trans ha hb h
instance (a b : Wd × Nat) : Decidable (TLt a b) := by unfold TLt; infer_instance
/-- the words with a beginning, each with the number of its documents, in that order -/
def termsD (D : List Dc) (p : Wd) : List (Wd × Nat) := (((vocab D).filter p.isPrefixOf).map fun x => (x, dn D x)).mergeSort fun x y => decide (¬ TLt y x)
theorem tle_total (a b : Wd × Nat) : ¬ TLt b a ∨ ¬ TLt a b := by
  by_cases h : TLt b a
  · exact .inr fun k => tlt_irrefl _ (tlt_trans _ _ _ h k)
  · exact .inl h
theorem tlt_conn {a b : Wd × Nat} (h : ¬ TLt a b) (k : ¬ TLt b a) : a = b := by
  have h1 : a.2 = b.2 := by
    by_cases e : a.2 = b.2
    · exact e
    · exfalso
      rcases Nat.lt_or_gt_of_ne e with e | e
      · exact k (.inl e)
      · exact h (.inl e)
  have h2 : a.1 = b.1 := by
    refine List.le_antisymm ?_ ?_
    · exact List.not_lt.1 fun e => k (.inr ⟨h1.symm, e⟩)
    · exact List.not_lt.1 fun e => h (.inr ⟨h1, e⟩)
  exact Prod.ext h2 h1
theorem tle_trans (a b c : Wd × Nat) (h : ¬ TLt b a) (k : ¬ TLt c b) : ¬ TLt c a := by
  intro hc
  by_cases e : TLt b c
  · exact h (tlt_trans _ _ _ e hc)
  · have := tlt_conn k e
    subst this
    exact h hc
theorem termsD_asc (D : List Dc) (p : Wd) : TAsc (termsD D p) := by
  unfold TAsc termsD
  generalize hl : ((vocab D).filter p.isPrefixOf).map (fun x => (x, dn D x)) = l
  have hnd : l.Nodup := by
    rw [← hl]
    unfold List.Nodup
    rw [List.pairwise_map]
    refine ((vocab_asc D).filter _).imp fun {a b} h e => ?_
    have := congrArg Prod.fst e
    simp only at this
    subst this
    exact List.lt_irrefl _ h
  have h1 : (l.mergeSort fun x y => decide (¬ TLt y x)).Pairwise (fun x y => decide (¬ TLt y x) = true) :=
    List.pairwise_mergeSort (fun a b c h k => by simp only [decide_eq_true_eq] at *; exact tle_trans _ _ _ h k) (fun a b => by simp only [Bool.or_eq_true, decide_eq_true_eq]; exact tle_total a b) _
  have h2 : (l.mergeSort fun x y => decide (¬ TLt y x)).Nodup := (List.mergeSort_perm _ _).nodup_iff.2 hnd
  refine (h1.and h2).imp fun {a b} h => ?_
  have hle : ¬ TLt b a := of_decide_eq_true h.1
  exact Decidable.byContradiction fun hn => h.2 (tlt_conn hn hle)
theorem mem_termsD {D : List Dc} {p : Wd} {x : Wd × Nat} : x ∈ termsD D p ↔ x.1 ∈ vocab D ∧ p.isPrefixOf x.1 = true ∧ x.2 = dn D x.1 := by
  unfold termsD
  rw [List.mem_mergeSort, List.mem_map]
  constructor
  · rintro ⟨y, hy, rfl⟩
    have := List.mem_filter.1 hy
    exact ⟨this.1, this.2, rfl⟩
  · rintro ⟨h1, h2, h3⟩
    exact ⟨x.1, List.mem_filter.2 ⟨h1, h2⟩, by rw [← h3]⟩
end Go.Proofs.YtmfnhfkgkdibfaaGreat
