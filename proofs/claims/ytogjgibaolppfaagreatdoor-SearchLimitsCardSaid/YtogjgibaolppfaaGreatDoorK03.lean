/- Facts and contracts for the laws of the sender, part 3. Conditions: those that each theorem names. -/
import Derived.Test.YtogjgibaolppfaaGreatDoorK01
import Derived.Test.YtogjgibaolppfaaGreatDoorK02
/- Plain: documents, what the queries of an index answer. -/
namespace Go.Proofs.YtogjgibaolppfaaGreatDoor

theorem eq_of_asc {β : Type} {R : β → β → Prop} (hirr : ∀ x, ¬ R x x) (htr : ∀ x y z, R x y → R y z → R x z) : ∀ {a b : List β}, a.Pairwise R → b.Pairwise R → (∀ x, x ∈ a ↔ x ∈ b) → a = b
  | [], [], _, _, _ => rfl
  | [], y :: b, _, _, h => absurd ((h y).2 (List.mem_cons_self ..)) (by simp)
  | x :: a, [], _, _, h => absurd ((h x).1 (List.mem_cons_self ..)) (by simp)
  | x :: a, y :: b, ha, hb, h => by
    rw [List.pairwise_cons] at ha hb
    have hxy : x = y := by
      rcases List.mem_cons.1 ((h x).1 (List.mem_cons_self ..)) with e | e
      · exact e
      · rcases List.mem_cons.1 ((h y).2 (List.mem_cons_self ..)) with e' | e'
        · exact e'.symm
        · exact absurd (htr _ _ _ (ha.1 y e') (hb.1 x e)) (hirr x)
    subst hxy
    rw [eq_of_asc hirr htr ha.2 hb.2 fun z => ⟨fun hz => ?_, fun hz => ?_⟩]
    · rcases List.mem_cons.1 ((h z).1 (List.mem_cons_of_mem _ hz)) with e | e
      · subst e; exact absurd (ha.1 z hz) (hirr z)
      · exact e
    · rcases List.mem_cons.1 ((h z).2 (List.mem_cons_of_mem _ hz)) with e | e
      · subst e; exact absurd (hb.1 z hz) (hirr z)
      · exact e

/-- a document: its ID, its words -/
abbrev Dc := Int × List Wd
def Asc (D : List Dc) : Prop := D.Pairwise fun a b => a.1 < b.1
def Ids (D : List Dc) : Prop := ∀ d ∈ D, 1 ≤ d.1 ∧ d.1 ≤ 256
def remD (D : List Dc) (id : Int) : List Dc := D.filter fun d => decide (d.1 ≠ id)
def atD (D : List Dc) (id : Int) : Nat := (D.takeWhile fun d => decide (d.1 < id)).length
def insD (x : Dc) (D : List Dc) : List Dc := D.take (atD D x.1) ++ x :: D.drop (atD D x.1)
def putD (D : List Dc) (id : Int) (l : List Wd) : List Dc := insD (id, l) (remD D id)
def wordsAt (D : List Dc) (id : Int) : Option (List Wd) := (D.find? fun d => decide (d.1 = id)).map (·.2)

theorem Asc.rem {D : List Dc} (h : Asc D) (id : Int) : Asc (remD D id) := List.Pairwise.filter _ h
theorem Ids.rem {D : List Dc} (h : Ids D) (id : Int) : Ids (remD D id) := fun d hd => h d (List.mem_filter.1 hd).1
theorem mem_rem {D : List Dc} {id : Int} {d : Dc} : d ∈ remD D id ↔ d ∈ D ∧ d.1 ≠ id := by simp [remD, List.mem_filter]
theorem insD_eq (x : Dc) (D : List Dc) : insD x D = D.takeWhile (fun d => decide (d.1 < x.1)) ++ x :: D.dropWhile (fun d => decide (d.1 < x.1)) := by
  have h := List.takeWhile_append_dropWhile (p := fun d : Dc => decide (d.1 < x.1)) (l := D)
  unfold insD atD
  generalize hA : D.takeWhile (fun d => decide (d.1 < x.1)) = A at *
  generalize hB : D.dropWhile (fun d => decide (d.1 < x.1)) = B at *
  rw [← h, List.take_left, List.drop_left]
theorem mem_ins {D : List Dc} {x d : Dc} : d ∈ insD x D ↔ d = x ∨ d ∈ D := by
  rw [insD_eq, List.mem_append, List.mem_cons]
  have h := List.takeWhile_append_dropWhile (p := fun d : Dc => decide (d.1 < x.1)) (l := D)
  constructor
  · rintro (h1 | h1 | h1)
    · exact .inr (by rw [← h]; exact List.mem_append_left _ h1)
    · exact .inl h1
    · exact .inr (by rw [← h]; exact List.mem_append_right _ h1)
  · rintro (h1 | h1)
    · exact .inr (.inl h1)
    · rw [← h, List.mem_append] at h1
      rcases h1 with h1 | h1
      · exact .inl h1
      · exact .inr (.inr h1)
theorem mem_put {D : List Dc} {id : Int} {l : List Wd} {d : Dc} : d ∈ putD D id l ↔ d = (id, l) ∨ (d ∈ D ∧ d.1 ≠ id) := by rw [putD, mem_ins, mem_rem]
theorem lt_of_takeWhile {D : List Dc} {id : Int} {d : Dc} (h : d ∈ D.takeWhile (fun d => decide (d.1 < id))) : d.1 < id := by
  induction D with
  | nil => simp at h
  | cons y r ih =>
    rw [List.takeWhile_cons] at h
    split at h
    · rename_i hy
      rcases List.mem_cons.1 h with e | e
      · subst e; simpa using hy
      · exact ih e
    · simp at h
theorem ge_of_dropWhile {D : List Dc} {id : Int} (hA : Asc D) {d : Dc} (h : d ∈ D.dropWhile (fun d => decide (d.1 < id))) : id ≤ d.1 := by
  induction D with
  | nil => simp at h
  | cons y r ih =>
    have hA' := List.pairwise_cons.1 hA
    rw [List.dropWhile_cons] at h
    split at h
    · exact ih hA'.2 h
    · rename_i hy
      have hy' : ¬ y.1 < id := by simpa using hy
      rcases List.mem_cons.1 h with e | e
      · subst e; omega
      · have := hA'.1 d e; omega
theorem Asc.ins {D : List Dc} (h : Asc D) {x : Dc} (hx : ∀ d ∈ D, d.1 ≠ x.1) : Asc (insD x D) := by
  have hs := List.takeWhile_append_dropWhile (p := fun d : Dc => decide (d.1 < x.1)) (l := D)
  rw [insD_eq]
  unfold Asc
  have h' := h
  unfold Asc at h'
  rw [← hs, List.pairwise_append] at h'
  rw [List.pairwise_append, List.pairwise_cons]
  refine ⟨h'.1, ⟨fun d hd => ?_, h'.2.1⟩, fun a ha b hb => ?_⟩
  · have h1 := ge_of_dropWhile h hd
    have h2 := hx d ((List.dropWhile_sublist _).subset hd)
    omega
  · have h1 := lt_of_takeWhile ha
    rcases List.mem_cons.1 hb with e | e
    · subst e; exact h1
    · exact h'.2.2 a ha b e
theorem Asc.put {D : List Dc} (h : Asc D) (id : Int) (l : List Wd) : Asc (putD D id l) := (h.rem id).ins fun _ hd => (mem_rem.1 hd).2
theorem Ids.put {D : List Dc} (h : Ids D) {id : Int} (h1 : 1 ≤ id) (h2 : id ≤ 256) (l : List Wd) : Ids (putD D id l) := fun d hd => by
  rcases mem_put.1 hd with e | e
  · subst e; exact ⟨h1, h2⟩
  · exact h d e.1

theorem wordsAt_some {D : List Dc} (hA : Asc D) {id : Int} {l : List Wd} : wordsAt D id = some l ↔ (id, l) ∈ D := by
  induction D with
  | nil => simp [wordsAt]
  | cons y r ih =>
    have hA' := List.pairwise_cons.1 hA
    unfold wordsAt
    rw [List.find?_cons]
    by_cases hy : y.1 = id
    · simp only [hy, decide_true, Option.map_some, Option.some.injEq, List.mem_cons]
      constructor
      · intro e; left; rw [← hy, ← e]
      · rintro (e | e)
        · rw [← e]
        · have := hA'.1 _ e; simp only at this; omega
    · simp only [hy, decide_false, List.mem_cons]
      have := ih hA'.2
      unfold wordsAt at this
      rw [this]
      constructor
      · exact .inr
      · rintro (e | e)
        · exact absurd (by rw [← e]) hy
        · exact e
theorem wordsAt_put {D : List Dc} (hA : Asc D) (id j : Int) (l : List Wd) : wordsAt (putD D id l) j = if j = id then some l else wordsAt D j := by
  apply Option.ext
  intro m
  rw [wordsAt_some (hA.put id l), mem_put]
  by_cases hj : j = id
  · subst hj
    simp
    exact ⟨fun e => e.symm, fun e => e.symm⟩
  · rw [if_neg hj, wordsAt_some hA]
    simp [hj]
theorem wordsAt_rem {D : List Dc} (hA : Asc D) (id j : Int) : wordsAt (remD D id) j = if j = id then none else wordsAt D j := by
  apply Option.ext
  intro m
  rw [wordsAt_some (hA.rem id), mem_rem]
  by_cases hj : j = id
  · subst hj; simp
  · rw [if_neg hj, wordsAt_some hA]
    simp [hj]

/-- the hits of a count -/
def hitsF (c : Int → Nat) : List (Int × Nat) := (List.range 256).filterMap fun (i : Nat) => if 0 < c ((i : Int) + 1) then some ((i : Int) + 1, c ((i : Int) + 1)) else none
def HAsc (l : List (Int × Nat)) : Prop := l.Pairwise fun a b => a.1 < b.1

theorem mem_hitsF {c : Int → Nat} {x : Int × Nat} : x ∈ hitsF c ↔ 1 ≤ x.1 ∧ x.1 ≤ 256 ∧ 0 < x.2 ∧ x.2 = c x.1 := by
  unfold hitsF
  rw [List.mem_filterMap]
  constructor
  · rintro ⟨i, hi, h⟩
    have hi := List.mem_range.1 hi
    split at h
    · rename_i hc
      cases h
      exact ⟨by simp only; omega, by simp only; omega, hc, rfl⟩
    · cases h
  · obtain ⟨k, n⟩ := x
    rintro ⟨h1, h2, h3, h4⟩
    simp only at h1 h2 h3 h4
    refine ⟨(k - 1).toNat, List.mem_range.2 (by omega), ?_⟩
    rw [show (((k - 1).toNat : Nat) : Int) + 1 = k by omega, if_pos (by omega), h4]
theorem hitsF_asc (c : Int → Nat) : HAsc (hitsF c) := by
  unfold HAsc hitsF
  rw [List.pairwise_filterMap]
  refine List.Pairwise.imp ?_ List.pairwise_lt_range
  intro a b hab x hx y hy
  split at hx <;> cases hx
  split at hy <;> cases hy
  show (a : Int) + 1 < (b : Int) + 1
  omega
theorem hits_unique {a b : List (Int × Nat)} (ha : HAsc a) (hb : HAsc b) (h : ∀ x, x ∈ a ↔ x ∈ b) : a = b :=
  eq_of_asc (R := fun (a b : Int × Nat) => a.1 < b.1) (fun _ => Int.lt_irrefl _) (fun _ _ _ => Int.lt_trans) ha hb h

/-- what documents yield -/
def docsF (D : List Dc) (f : List Wd → Nat) (id : Int) : Nat := ((wordsAt D id).map f).getD 0
theorem hits_docs {D : List Dc} (hA : Asc D) (hI : Ids D) (f : List Wd → Nat) : (D.filterMap fun d => if 0 < f d.2 then some (d.1, f d.2) else none) = hitsF (docsF D f) := by
  refine hits_unique ?_ (hitsF_asc _) fun x => ?_
  · unfold HAsc
    rw [List.pairwise_filterMap]
    refine List.Pairwise.imp ?_ hA
    intro a b hab x hx y hy
    split at hx <;> cases hx
    split at hy <;> cases hy
    exact hab
  · rw [List.mem_filterMap, mem_hitsF]
    obtain ⟨k, n⟩ := x
    constructor
    · rintro ⟨d, hd, h⟩
      split at h
      · rename_i hc
        cases h
        have := (wordsAt_some hA (id := d.1) (l := d.2)).2 hd
        exact ⟨(hI d hd).1, (hI d hd).2, hc, by simp [docsF, this]⟩
      · cases h
    · rintro ⟨h1, h2, h3, h4⟩
      simp only [docsF] at h1 h2 h3 h4
      cases hw : wordsAt D k with
      | none => rw [hw] at h4; simp at h4; omega
      | some l =>
        rw [hw] at h4
        simp only [Option.map_some, Option.getD_some] at h4
        exact ⟨(k, l), (wordsAt_some hA).1 hw, by simp only; rw [if_pos (by omega), h4]⟩

def phraseD (D : List Dc) (ws : List Wd) : List (Int × Nat) := hitsF (docsF D fun l => occ l ws)
def prefD (D : List Dc) (p : Wd) : List (Int × Nat) := hitsF (docsF D fun l => l.countP p.isPrefixOf)

theorem nodup_dups : ∀ (n : Nat) (l : List Wd), l.length ≤ n → l.eraseDups.Nodup
  | 0, l, h => by
    obtain rfl : l = [] := List.length_eq_zero_iff.1 (by omega)
    simp
  | n + 1, [], _ => by simp
  | n + 1, a :: l, h => by
    rw [List.eraseDups_cons, List.nodup_cons]
    refine ⟨fun hm => ?_, nodup_dups n _ (Nat.le_trans (List.length_filter_le _ _) (by simpa using h))⟩
    rw [List.mem_eraseDups, List.mem_filter] at hm
    simpa using hm.2

/-- the different words of all documents, ascending -/
def vocab (D : List Dc) : List Wd := ((D.flatMap (·.2)).eraseDups).mergeSort fun x y => decide (x ≤ y)
theorem mem_vocab {D : List Dc} {x : Wd} : x ∈ vocab D ↔ ∃ d ∈ D, x ∈ d.2 := by
  unfold vocab
  rw [List.mem_mergeSort, List.mem_eraseDups, List.mem_flatMap]
def WAsc (l : List Wd) : Prop := l.Pairwise fun a b => a < b
theorem wlt_trans (x y z : Wd) (h : x < y) (k : y < z) : x < z := List.lt_trans h k
theorem words_unique {a b : List Wd} (ha : WAsc a) (hb : WAsc b) (h : ∀ x, x ∈ a ↔ x ∈ b) : a = b :=
  eq_of_asc (R := fun (a b : Wd) => a < b) (fun _ => List.lt_irrefl _) wlt_trans ha hb h
theorem vocab_asc (D : List Dc) : WAsc (vocab D) := by
  unfold WAsc vocab
  have h1 : (((D.flatMap (·.2)).eraseDups).mergeSort fun x y => decide (x ≤ y)).Pairwise (fun x y : Wd => decide (x ≤ y) = true) :=
    List.pairwise_mergeSort (fun a b c h k => by simp only [decide_eq_true_eq] at *; exact List.le_trans h k) (fun a b => by simp only [Bool.or_eq_true, decide_eq_true_eq]; exact List.le_total a b) _
  have h2 : (((D.flatMap (·.2)).eraseDups).mergeSort fun x y => decide (x ≤ y)).Nodup := (List.mergeSort_perm _ _).nodup_iff.2 (nodup_dups _ _ (Nat.le_refl _))
  refine (h1.and h2).imp fun {a b} h => ?_
  have hle : a ≤ b := of_decide_eq_true h.1
  refine Decidable.byContradiction fun hn => h.2 ?_
  exact List.le_antisymm hle (List.not_lt.1 hn)
theorem vocab_eq {D : List Dc} {l : List Wd} (ha : WAsc l) (h : ∀ x, x ∈ l ↔ ∃ d ∈ D, x ∈ d.2) : l = vocab D :=
  words_unique ha (vocab_asc D) fun x => by rw [h, mem_vocab]

/-- in how many documents a word is -/
def dn (D : List Dc) (x : Wd) : Nat := D.countP fun d => decide (x ∈ d.2)
theorem docs_len {D : List Dc} (hA : Asc D) (hI : Ids D) (x : Wd) : (phraseD D [x]).length = dn D x := by
  unfold phraseD
  rw [← hits_docs hA hI, List.length_filterMap_eq_countP]
  unfold dn
  refine List.countP_congr fun d _ => ?_
  rw [occ_one]
  by_cases h : x ∈ d.2
  · simp [h, List.count_pos_iff]
  · simp [h, List.count_pos_iff]

/-- the order of terms -/
def TLt (a b : Wd × Nat) : Prop := b.2 < a.2 ∨ (a.2 = b.2 ∧ a.1 < b.1)
theorem tlt_irrefl (x : Wd × Nat) : ¬ TLt x x := by
  rintro (h | h)
  · omega
  · exact List.lt_irrefl _ h.2
theorem tlt_trans (x y z : Wd × Nat) (h : TLt x y) (k : TLt y z) : TLt x z := by
  rcases h with h | h <;> rcases k with k | k
  · exact .inl (by omega)
  · exact .inl (by omega)
  · exact .inl (by omega)
  · exact .inr ⟨by omega, List.lt_trans h.2 k.2⟩
def TAsc (l : List (Wd × Nat)) : Prop := l.Pairwise TLt
theorem terms_unique {a b : List (Wd × Nat)} (ha : TAsc a) (hb : TAsc b) (h : ∀ x, x ∈ a ↔ x ∈ b) : a = b := eq_of_asc tlt_irrefl tlt_trans ha hb h
instance (a b : Wd × Nat) : Decidable (TLt a b) := by unfold TLt; infer_instance
/-- the words with a beginning, each with the number of its documents, in that order -/
def termsD (D : List Dc) (p : Wd) : List (Wd × Nat) := (((vocab D).filter p.isPrefixOf).map fun x => (x, dn D x)).mergeSort fun x y => decide (¬ TLt y x)
theorem tle_total (a b : Wd × Nat) : ¬ TLt b a ∨ ¬ TLt a b := by
  by_cases h : TLt b a
  · exact .inr fun k => tlt_irrefl _ (tlt_trans _ _ _ h k)
  · exact .inl h
theorem tlt_conn {a b : Wd × Nat} (h : ¬ TLt a b) (k : ¬ TLt b a) : a = b := by
  have h1 : a.2 = b.2 := by
    by_cases e : a.2 = b.2
    · exact e
    · exfalso
      rcases Nat.lt_or_gt_of_ne e with e | e
      · exact k (.inl e)
      · exact h (.inl e)
  have h2 : a.1 = b.1 := by
    refine List.le_antisymm ?_ ?_
    · exact List.not_lt.1 fun e => k (.inr ⟨h1.symm, e⟩)
    · exact List.not_lt.1 fun e => h (.inr ⟨h1, e⟩)
  exact Prod.ext h2 h1
theorem tle_trans (a b c : Wd × Nat) (h : ¬ TLt b a) (k : ¬ TLt c b) : ¬ TLt c a := by
  intro hc
  by_cases e : TLt b c
  · exact h (tlt_trans _ _ _ e hc)
  · have := tlt_conn k e
    subst this
    exact h hc
theorem termsD_asc (D : List Dc) (p : Wd) : TAsc (termsD D p) := by
  unfold TAsc termsD
  generalize hl : ((vocab D).filter p.isPrefixOf).map (fun x => (x, dn D x)) = l
  have hnd : l.Nodup := by
    rw [← hl]
    unfold List.Nodup
    rw [List.pairwise_map]
    refine ((vocab_asc D).filter _).imp fun {a b} h e => ?_
    have := congrArg Prod.fst e
    simp only at this
    subst this
    exact List.lt_irrefl _ h
  have h1 : (l.mergeSort fun x y => decide (¬ TLt y x)).Pairwise (fun x y => decide (¬ TLt y x) = true) :=
    List.pairwise_mergeSort (fun a b c h k => by simp only [decide_eq_true_eq] at *; exact tle_trans _ _ _ h k) (fun a b => by simp only [Bool.or_eq_true, decide_eq_true_eq]; exact tle_total a b) _
  have h2 : (l.mergeSort fun x y => decide (¬ TLt y x)).Nodup := (List.mergeSort_perm _ _).nodup_iff.2 hnd
  refine (h1.and h2).imp fun {a b} h => ?_
  have hle : ¬ TLt b a := of_decide_eq_true h.1
  exact Decidable.byContradiction fun hn => h.2 (tlt_conn hn hle)
theorem mem_termsD {D : List Dc} {p : Wd} {x : Wd × Nat} : x ∈ termsD D p ↔ x.1 ∈ vocab D ∧ p.isPrefixOf x.1 = true ∧ x.2 = dn D x.1 := by
  unfold termsD
  rw [List.mem_mergeSort, List.mem_map]
  constructor
  · rintro ⟨y, hy, rfl⟩
    have := List.mem_filter.1 hy
    exact ⟨this.1, this.2, rfl⟩
  · rintro ⟨h1, h2, h3⟩
    exact ⟨x.1, List.mem_filter.2 ⟨h1, h2⟩, by rw [← h3]⟩
end Go.Proofs.YtogjgibaolppfaaGreatDoor
/- Plain: what a query finds. -/
namespace Go.Proofs.YtogjgibaolppfaaGreatDoor

/-- how often a part occurs in the words of a document -/
def cL (p : Prt) (l : List Wd) : Nat := if p.kind = 2 then occ l p.words else if p.kind = 3 then l.countP (p.words.headD []).isPrefixOf else l.count (p.words.headD [])
def okL (ps : List Prt) (l : List Wd) : Bool := ps.all fun p => decide (0 < cL p l) != p.neg
def sumL (ps : List Prt) (l : List Wd) : Nat := (ps.map fun p => if p.neg = true then 0 else cL p l).sum
def cD (D : List Dc) (p : Prt) (id : Int) : Nat := docsF D (cL p) id
def foundD (D : List Dc) (ps : List Prt) : List (Int × Nat) := (D.filter fun d => okL ps d.2).map fun d => (d.1, sumL ps d.2)
/-- the order of Run -/
def HLt (a b : Int × Nat) : Prop := b.2 < a.2 ∨ (a.2 = b.2 ∧ a.1 < b.1)
instance (a b : Int × Nat) : Decidable (HLt a b) := by unfold HLt; infer_instance
theorem hlt_irrefl (x : Int × Nat) : ¬ HLt x x := by unfold HLt; omega
theorem hlt_trans (x y z : Int × Nat) (h : HLt x y) (k : HLt y z) : HLt x z := by unfold HLt at *; omega
def RAsc (l : List (Int × Nat)) : Prop := l.Pairwise HLt
theorem res_unique {a b : List (Int × Nat)} (ha : RAsc a) (hb : RAsc b) (h : ∀ x, x ∈ a ↔ x ∈ b) : a = b := eq_of_asc hlt_irrefl hlt_trans ha hb h
def resD (D : List Dc) (ps : List Prt) : List (Int × Nat) := (foundD D ps).mergeSort fun x y => decide (¬ HLt y x)
theorem res_perm (D : List Dc) (ps : List Prt) : (resD D ps).Perm (foundD D ps) := List.mergeSort_perm _ _
theorem hlt_conn {a b : Int × Nat} (h : ¬ HLt a b) (k : ¬ HLt b a) : a = b := by
  obtain ⟨a1, a2⟩ := a; obtain ⟨b1, b2⟩ := b
  unfold HLt at *
  simp only at *
  have h1 : a2 = b2 := by omega
  have h2 : a1 = b1 := by omega
  rw [h1, h2]
theorem hle_trans (a b c : Int × Nat) (h : ¬ HLt b a) (k : ¬ HLt c b) : ¬ HLt c a := by unfold HLt at *; omega
theorem hle_total (a b : Int × Nat) : ¬ HLt b a ∨ ¬ HLt a b := by unfold HLt; omega
theorem mem_found {D : List Dc} {ps : List Prt} {x : Int × Nat} : x ∈ foundD D ps ↔ ∃ d ∈ D, okL ps d.2 = true ∧ x = (d.1, sumL ps d.2) := by
  unfold foundD
  rw [List.mem_map]
  constructor
  · rintro ⟨d, hd, rfl⟩; have := List.mem_filter.1 hd; exact ⟨d, this.1, this.2, rfl⟩
  · rintro ⟨d, hd, ho, rfl⟩; exact ⟨d, List.mem_filter.2 ⟨hd, ho⟩, rfl⟩
theorem found_asc {D : List Dc} (hA : Asc D) (ps : List Prt) : (foundD D ps).Pairwise fun a b => a.1 < b.1 := by
  unfold foundD
  rw [List.pairwise_map]
  exact List.Pairwise.filter _ hA
theorem found_nodup {D : List Dc} (hA : Asc D) (ps : List Prt) : (foundD D ps).Nodup := (found_asc hA ps).imp fun h e => by rw [e] at h; omega
/-- whatever is sorted and holds what is found -/
theorem res_of {D : List Dc} (hA : Asc D) {ps : List Prt} {l : List (Int × Nat)} (hp : l.Perm (foundD D ps)) (hs : l.Pairwise fun a b => ¬ HLt b a) : RAsc l := by
  have hn : l.Nodup := hp.nodup_iff.2 (found_nodup hA ps)
  refine List.Pairwise.imp₂ (R := fun a b => ¬ HLt b a) (S := fun a b => a ≠ b) (fun a b h1 h2 => ?_) hs hn
  exact Classical.byContradiction fun h => h2 (hlt_conn h h1)
theorem resD_asc {D : List Dc} (hA : Asc D) (ps : List Prt) : RAsc (resD D ps) := by
  refine res_of hA (res_perm D ps) ?_
  have h := List.pairwise_mergeSort (le := fun x y => decide (¬ HLt y x)) (fun a b c h k => by
    simp only [decide_eq_true_eq] at *; exact hle_trans a b c h k) (fun a b => by
    rcases hle_total a b with h | h <;> simp [h]) (foundD D ps)
  exact h.imp fun h => by simpa using h
theorem mem_res {D : List Dc} {ps : List Prt} {x : Int × Nat} : x ∈ resD D ps ↔ ∃ d ∈ D, okL ps d.2 = true ∧ x = (d.1, sumL ps d.2) := by
  rw [(res_perm D ps).mem_iff, mem_found]
theorem res_eq {D : List Dc} (hA : Asc D) {ps : List Prt} {l : List (Int × Nat)} (hp : l.Perm (foundD D ps)) (hs : l.Pairwise fun a b => ¬ HLt b a) : l = resD D ps :=
  res_unique (res_of hA hp hs) (resD_asc hA ps) fun x => by rw [hp.mem_iff, (res_perm D ps).mem_iff]
theorem res_len (D : List Dc) (ps : List Prt) : (resD D ps).length = (D.filter fun d => okL ps d.2).length := by
  rw [(res_perm D ps).length_eq]; unfold foundD; rw [List.length_map]

/-! the reference's insertion -/
def insH (l : List (Int × Nat)) (h : Int × Nat) : List (Int × Nat) := l.takeWhile (fun x => decide (h.2 ≤ x.2)) ++ h :: l.dropWhile (fun x => decide (h.2 ≤ x.2))
theorem mem_insH {l : List (Int × Nat)} {h x : Int × Nat} : x ∈ insH l h ↔ x = h ∨ x ∈ l := by
  unfold insH
  have := List.takeWhile_append_dropWhile (p := fun x : Int × Nat => decide (h.2 ≤ x.2)) (l := l)
  rw [List.mem_append, List.mem_cons]
  conv => rhs; rhs; rw [← this, List.mem_append]
  constructor
  · rintro (h | h | h)
    · exact .inr (.inl h)
    · exact .inl h
    · exact .inr (.inr h)
  · rintro (h | h | h)
    · exact .inr (.inl h)
    · exact .inl h
    · exact .inr (.inr h)
theorem insH_asc {h : Int × Nat} : ∀ {l : List (Int × Nat)}, RAsc l → (∀ x ∈ l, x.1 < h.1) → RAsc (insH l h)
  | [], _, _ => by simp [insH, RAsc]
  | y :: l, ha, hlt => by
    unfold insH
    have ha' := List.pairwise_cons.1 ha
    by_cases hy : h.2 ≤ y.2
    · rw [List.takeWhile_cons_of_pos (by simpa using hy), List.dropWhile_cons_of_pos (by simpa using hy), List.cons_append]
      refine List.pairwise_cons.2 ⟨fun z hz => ?_, insH_asc ha'.2 fun x hx => hlt x (by simp [hx])⟩
      rcases (mem_insH (l := l) (h := h)).1 hz with rfl | hz
      · have := hlt y (by simp)
        unfold HLt; omega
      · exact ha'.1 z hz
    · rw [List.takeWhile_cons_of_neg (by simpa using hy), List.dropWhile_cons_of_neg (by simpa using hy), List.nil_append]
      refine List.pairwise_cons.2 ⟨fun z hz => ?_, ha⟩
      rcases List.mem_cons.1 hz with rfl | hz
      · unfold HLt; omega
      · have := ha'.1 z hz
        unfold HLt at *; omega
def insAll (l : List (Int × Nat)) : List (Int × Nat) := l.foldl insH []
theorem insAll_gen : ∀ (l acc : List (Int × Nat)), RAsc acc → (∀ x ∈ acc, ∀ y ∈ l, x.1 < y.1) → (l.Pairwise fun a b => a.1 < b.1) → RAsc (l.foldl insH acc) ∧ ∀ x, x ∈ l.foldl insH acc ↔ x ∈ acc ∨ x ∈ l
  | [], acc, h, _, _ => ⟨h, by simp⟩
  | y :: l, acc, h, hlt, hp => by
    have hp' := List.pairwise_cons.1 hp
    obtain ⟨h1, h2⟩ := insAll_gen l (insH acc y) (insH_asc h fun x hx => hlt x hx y (by simp)) (fun x hx z hz => by
      rcases mem_insH.1 hx with rfl | hx
      · exact hp'.1 z hz
      · exact hlt x hx z (by simp [hz])) hp'.2
    refine ⟨h1, fun x => ?_⟩
    rw [List.foldl_cons, h2, mem_insH, List.mem_cons]
    constructor
    · rintro ((h | h) | h)
      · exact .inr (.inl h)
      · exact .inl h
      · exact .inr (.inr h)
    · rintro (h | h | h)
      · exact .inl (.inr h)
      · exact .inl (.inl h)
      · exact .inr h
theorem insAll_res {D : List Dc} (hA : Asc D) (ps : List Prt) : insAll (foundD D ps) = resD D ps := by
  obtain ⟨h1, h2⟩ := insAll_gen (foundD D ps) [] List.Pairwise.nil (fun x hx => by cases hx) (found_asc hA ps)
  exact res_unique h1 (resD_asc hA ps) fun x => by rw [insAll, h2, (res_perm D ps).mem_iff]; simp

/-! parts one by one: the program's way -/
theorem okL_append (a b : List Prt) (l : List Wd) : okL (a ++ b) l = (okL a l && okL b l) := by simp [okL, List.all_append]
theorem okL_one (p : Prt) (l : List Wd) : okL [p] l = (decide (0 < cL p l) != p.neg) := by simp [okL]
theorem sumL_append (a b : List Prt) (l : List Wd) : sumL (a ++ b) l = sumL a l + sumL b l := by simp [sumL]
theorem sumL_one (p : Prt) (l : List Wd) : sumL [p] l = if p.neg = true then 0 else cL p l := by simp [sumL]
def idsD (D : List Dc) (ps : List Prt) : List Int := (D.filter fun d => okL ps d.2).map (·.1)
theorem docsF_at {D : List Dc} (hA : Asc D) {d : Dc} (hd : d ∈ D) (f : List Wd → Nat) : docsF D f d.1 = f d.2 := by
  unfold docsF; rw [(wordsAt_some hA).2 hd]; rfl
theorem idsD_snoc {D : List Dc} (hA : Asc D) (ps : List Prt) (p : Prt) : (idsD D ps).filter (fun id => !((decide (0 < cD D p id)) == p.neg)) = idsD D (ps ++ [p]) := by
  unfold idsD
  rw [List.filter_map, List.filter_filter]
  congr 1
  refine List.filter_congr fun d hd => ?_
  have e : cD D p d.1 = cL p d.2 := docsF_at hA hd _
  have e2 : ((fun id => !((decide (0 < cD D p id)) == p.neg)) ∘ fun x : Dc => x.1) d = (decide (0 < cL p d.2) != p.neg) := by
    simp only [Function.comp, e]; rfl
  rw [e2, okL_append, okL_one, Bool.and_comm]
theorem idsD_nil (D : List Dc) : idsD D [] = D.map (·.1) := by
  unfold idsD
  rw [List.filter_eq_self.2 fun d _ => by simp [okL]]
def sumD (D : List Dc) (ps : List Prt) (id : Int) : Nat := docsF D (sumL ps) id
theorem sumD_snoc {D : List Dc} (ps : List Prt) (p : Prt) (id : Int) : sumD D (ps ++ [p]) id = sumD D ps id + if p.neg = true then 0 else cD D p id := by
  unfold sumD cD docsF
  cases wordsAt D id with
  | none => simp
  | some l => simp only [Option.map_some, Option.getD_some]; rw [sumL_append, sumL_one]
theorem found_ids {D : List Dc} (hA : Asc D) (ps : List Prt) : (idsD D ps).map (fun id => (id, sumD D ps id)) = foundD D ps := by
  unfold idsD foundD
  rw [List.map_map]
  refine List.map_congr_left fun d hd => ?_
  simp only [Function.comp, sumD]
  rw [docsF_at hA (List.mem_filter.1 hd).1]

end Go.Proofs.YtogjgibaolppfaaGreatDoor
/- Plain: what the laws of layer 18 draw: words, texts, parts. -/
namespace Go.Proofs.YtogjgibaolppfaaGreatDoor

def vocL : List Wd := [[116, 104, 101], [99, 105, 116, 121], [114, 97, 105, 110], [99, 111, 117, 110, 99, 105, 108], [114, 97, 105, 110, 121], [99, 105, 116], [50, 110, 100]]
def markL : List (List UInt8) := [[32], [46, 32], [44, 32], [45]]
theorem voc_len : vocL.length = 7 := rfl
theorem mark_len : markL.length = 4 := rfl
def vocF (n : Nat) : Wd := vocL.getD (n % 7) []
theorem voc_mem (n : Nat) : vocF n ∈ vocL := by
  unfold vocF
  rw [List.getD_eq_getElem?_getD, List.getElem?_eq_getElem (by rw [voc_len]; omega)]
  exact List.getElem_mem _
theorem voc_ok : ∀ w ∈ vocL, okWord w ∧ 3 ≤ w.length ∧ w.length ≤ 7 := by
  have h : ∀ w ∈ vocL, (w.all (fun c => isPart c && low c == c)) = true ∧ 3 ≤ w.length ∧ w.length ≤ 7 := by decide +kernel
  intro w hw
  obtain ⟨h1, h2, h3⟩ := h w hw
  refine ⟨⟨fun e => by rw [e] at h2; simp at h2, by omega, fun c hc => ?_⟩, h2, h3⟩
  have := List.all_eq_true.1 h1 c hc
  simp only [Bool.and_eq_true, beq_iff_eq] at this
  exact this
def markF (n : Nat) : List UInt8 := markL.getD (n % 4) []
theorem mark_le (n : Nat) : (markF n).length ≤ 2 := by
  have h : ∀ m ∈ markL, m.length ≤ 2 := by decide
  unfold markF
  rw [List.getD_eq_getElem?_getD, List.getElem?_eq_getElem (by rw [mark_len]; omega)]
  exact h _ (List.getElem_mem _)
/-- any int to an index below n -/
def pickI (c : Int) (n : Int) : Int := (if c < 0 then -(c + 1) else c) % n
theorem pick_range {c n : Int} (hn : 0 < n) : 0 ≤ pickI c n ∧ pickI c n < n := ⟨Int.emod_nonneg _ (by omega), Int.emod_lt_of_pos _ hn⟩
def pickN (c : Int) (n : Nat) : Nat := (pickI c n).toNat
theorem pickN_eq {c : Int} {n : Nat} (hn : 0 < n) : ((pickN c n : Nat) : Int) = pickI c n := by
  have := (pick_range (c := c) (n := (n : Int)) (by omega)).1
  unfold pickN; omega
theorem pickN_lt {c : Int} {n : Nat} (hn : 0 < n) : pickN c n < n := by
  have h := pick_range (c := c) (n := (n : Int)) (by omega)
  have := pickN_eq (c := c) hn
  omega
def textGo : Nat → Nat → List UInt8 → List UInt8
  | 0, _, s => s
  | k + 1, m, s => textGo k (m / 7) (s ++ vocF (m / 7) ++ markF (m / 7))
def textF (n : Int) : List UInt8 := textGo (pickN n 1099511627776 % 10) (pickN n 1099511627776) []
theorem textGo_len : ∀ (k m : Nat) (s : List UInt8), (textGo k m s).length ≤ s.length + 9 * k
  | 0, _, s => by simp [textGo]
  | k + 1, m, s => by
    have h := textGo_len k (m / 7) (s ++ vocF (m / 7) ++ markF (m / 7))
    have h1 := (voc_ok _ (voc_mem (m / 7))).2.2
    have h2 := mark_le (m / 7)
    rw [textGo]
    simp only [List.length_append] at h
    omega
theorem text_len (n : Int) : (textF n).length ≤ 81 := by
  have := textGo_len (pickN n 1099511627776 % 10) (pickN n 1099511627776) []
  unfold textF
  simp only [List.length_nil] at this
  omega
/-- a part that the laws draw -/
structure VocP (p : Prt) : Prop where
  kind : p.kind = 1 ∨ p.kind = 2 ∨ p.kind = 3
  pos : 1 ≤ p.words.length
  few : p.words.length ≤ 3
  one : p.kind ≠ 2 → p.words.length = 1
  voc : ∀ w ∈ p.words, w ∈ vocL
theorem VocP.ok {p : Prt} (h : VocP p) : okPrt p := ⟨h.kind, h.pos, by have := h.few; omega, h.one, fun w hw => (voc_ok w (h.voc w hw)).1⟩
theorem VocP.len {p : Prt} (h : VocP p) : (form1 p).length ≤ 27 := by
  have h1 := join_len 7 (ws := p.words) fun w hw => (voc_ok w (h.voc w hw)).2.2
  have h2 := h.few
  have h3 : (Lib.join p.words [32]).length ≤ 24 := by omega
  unfold form1
  rw [List.length_append]
  split <;> split <;> (try split) <;> simp <;> omega
theorem VocP.not {p : Prt} (h : VocP p) (b : Bool) : VocP { p with neg := b } := ⟨h.kind, h.pos, h.few, h.one, h.voc⟩
theorem form_len {l : List Prt} (h : ∀ p ∈ l, VocP p) (hl : l.length ≤ 8) : (formL l).length ≤ 224 := by
  have h1 := join_len 27 (ws := l.map form1) fun w hw => by
    obtain ⟨p, hp, rfl⟩ := List.mem_map.1 hw
    exact (h p hp).len
  unfold formL
  rw [List.length_map] at h1
  omega
theorem parse_voc {l : List Prt} (h : ∀ p ∈ l, VocP p) (h1 : 1 ≤ l.length) (h8 : l.length ≤ 8) : parseP (formL l) = some l :=
  parse_form (fun p hp => (h p hp).ok) h1 h8 (by have := form_len h h8; omega)

end Go.Proofs.YtogjgibaolppfaaGreatDoor
