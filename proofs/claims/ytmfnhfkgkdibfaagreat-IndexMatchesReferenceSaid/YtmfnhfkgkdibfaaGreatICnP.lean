/- Plain: the counts of a query in the remaining documents. -/
import Derived.Test.YtmfnhfkgkdibfaaGreatILfP
import Derived.Test.YtmfnhfkgkdibfaaGreatIL6
namespace Go.Proofs.YtmfnhfkgkdibfaaGreat

theorem docs_word {D : List Dc} (ho : ∀ d ∈ D, ∀ x ∈ d.2, okWord x) {x : Wd} (hx : x ∈ vocab D) : okWord x ∧ docsQ D x = phraseD D [x] := by
  obtain ⟨d, hd, hxd⟩ := mem_vocab.1 hx
  have h := ho d hd x hxd
  exact ⟨h, by unfold docsQ; rw [wordOf_word h]⟩
theorem term_docs {D : List Dc} (hA : Asc D) (hI : Ids D) (ho : ∀ d ∈ D, ∀ x ∈ d.2, okWord x) {s : List UInt8} {n : Int} {x : Wd} {m : Nat} (h : (x, m) ∈ termsQ D s n) : (docsQ D x).length = m ∧ 0 < m ∧ x.length ≤ 30 := by
  have h1 : (x, m) ∈ termsAll D s := by rw [termsQ_eq] at h; exact List.mem_of_mem_take h
  have h2 : x ∈ vocab D ∧ m = dn D x := by
    unfold termsAll at h1
    cases hp : prefW s with
    | none => rw [hp] at h1; cases h1
    | some p => rw [hp] at h1; have := mem_termsD.1 h1; exact ⟨this.1, this.2.2⟩
  obtain ⟨h3, h4⟩ := docs_word ho h2.1
  refine ⟨by rw [h4, docs_len hA hI, h2.2], ?_, h3.2.1⟩
  rw [h2.2]
  obtain ⟨d, hd, hxd⟩ := mem_vocab.1 h2.1
  exact List.countP_pos_iff.2 ⟨d, hd, by simpa using hxd⟩
theorem phraseQ_one (D : List Dc) (s : List UInt8) : phraseQ D [s] = docsQ D s := by
  unfold phraseQ docsQ
  rw [if_neg (by simp)]
  simp only [wordsQ]
  cases wordOf s with
  | none => rfl
  | some x => rfl
/-- how often a query's word is in such words -/
def cq (s : List UInt8) (ws : List Wd) : Nat := match wordOf s with | none => 0 | some x => ws.count x
theorem cq_nil (s : List UInt8) : cq s [] = 0 := by unfold cq; cases wordOf s <;> rfl
theorem docsQ_cq (D : List Dc) (s : List UInt8) : docsQ D s = hitsF (docsF D (cq s)) := by
  unfold docsQ
  cases h : wordOf s with
  | none =>
    have : docsF D (cq s) = fun _ => 0 := by
      funext i
      unfold docsF
      have : cq s = fun _ => 0 := by funext ws; unfold cq; rw [h]
      rw [this]
      cases wordsAt D i <;> rfl
    rw [this, hitsF_zero]
  | some x =>
    show phraseD D [x] = _
    rw [show phraseD D [x] = hitsF (cntD D x) from phraseD_one D x]
    have : cq s = fun ws => ws.count x := by funext ws; unfold cq; rw [h]
    rw [this]; rfl
theorem left_words {l : List Op3} {o : Op3} (ho : o ∈ leftL l) : wordsAt (runD l) o.2.1 = some (wordsOf o.2.2) ∧ 1 ≤ o.2.1 ∧ o.2.1 ≤ 256 := by
  obtain ⟨h1, h2⟩ := mem_leftL.1 ho
  obtain ⟨h3, h4⟩ := mem_leftAt.1 h2
  refine ⟨?_, h1⟩
  rw [(run_facts l).2.2 _ h1]
  unfold lw
  rw [h3]
  simp [h4]
/-- the number at an ID, among such hits -/
def FoundAt (h : List (Int × Nat)) (id : Int) (f : Nat) : Prop := (f = 0 ∧ ∀ y ∈ h, y.1 ≠ id) ∨ (id, f) ∈ h
theorem FoundAt.same {h : List (Int × Nat)} {id : Int} {f : Nat} (H : FoundAt h id f) {y : Int × Nat} (hy : y.1 ≠ id) : FoundAt (h ++ [y]) id f := by
  rcases H with ⟨h1, h2⟩ | h1
  · exact .inl ⟨h1, fun z hz => by
      rcases List.mem_append.1 hz with hz | hz
      · exact h2 z hz
      · rw [List.mem_singleton.1 hz]; exact hy⟩
  · exact .inr (List.mem_append_left _ h1)
theorem FoundAt.new {h : List (Int × Nat)} {id : Int} {y : Int × Nat} (hy : y.1 = id) : FoundAt (h ++ [y]) id y.2 := .inr (List.mem_append_right _ (by rw [← hy]; simp))
theorem FoundAt.last {l : List Op3} {s : List UInt8} {o : Op3} (ho : o ∈ leftL l) {f : Nat} (H : FoundAt (docsQ (runD l) s) o.2.1 f) : f = cq s (wordsOf o.2.2) := by
  obtain ⟨h1, h2⟩ := left_words ho
  have hc : docsF (runD l) (cq s) o.2.1 = cq s (wordsOf o.2.2) := by unfold docsF; rw [h1]; rfl
  rw [docsQ_cq] at H
  rcases H with ⟨rfl, h3⟩ | h3
  · rcases Nat.eq_zero_or_pos (cq s (wordsOf o.2.2)) with h | h
    · exact h.symm
    · exact absurd rfl (h3 (o.2.1, cq s (wordsOf o.2.2)) (mem_hitsF.2 ⟨h2.1, h2.2, h, hc.symm⟩))
  · exact (mem_hitsF.1 h3).2.2.2.trans hc
theorem cq_succ {s : List UInt8} {x : Wd} (hx : wordsOf s = [x]) (ws : List Wd) (k : Nat) (h : k < ws.length) : cq s (ws.take (k + 1)) = cq s (ws.take k) + if ws[k] = x then 1 else 0 := by
  have : wordOf s = some x := wordOf_some.2 hx
  unfold cq
  rw [this]
  simp only
  rw [List.take_succ_eq_append_getElem h, List.count_append, List.count_singleton]
  congr 1
  by_cases e : ws[k] = x <;> simp [e]
theorem cq_other {s : List UInt8} (hx : (wordsOf s).length ≠ 1) (ws : List Wd) : cq s ws = 0 := by
  unfold cq; rw [wordOf_none hx]
end Go.Proofs.YtmfnhfkgkdibfaaGreat
