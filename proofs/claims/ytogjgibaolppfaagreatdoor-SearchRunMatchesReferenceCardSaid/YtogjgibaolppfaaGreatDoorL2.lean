/- The walk of one law of the sender. Conditions: those that each theorem names. -/
import Derived.Test.YtogjgibaolppfaaGreatDoorK18
import Derived.Test.YtogjgibaolppfaaGreatDoorK23
import Derived.Test.YtogjgibaolppfaaGreatDoorK11
import Derived.Test.YtogjgibaolppfaaGreatDoorK14
import Derived.Test.YtogjgibaolppfaaGreatDoorK29
import Derived.Test.YtogjgibaolppfaaGreatDoorK30
import Derived.Test.YtogjgibaolppfaaGreatDoorK26
import Derived.Laws.AppendOwn
import Derived.Laws.MakeOwn
import Derived.OwnWalk
import Derived.IntWalk
import Derived.Deep.QuietTactic
import Derived.BigQuiet
import Derived.RegionTactic
import Derived.Deep.RegionLaw
import Derived.Deep.AppendLies
/- left: the operations that put what remains. -/
namespace Go.Proofs.YtogjgibaolppfaaGreatDoor
open Go.RowKit Go.Sort Go.Proofs Go.Maps

def leftAt (l : List Op3) (id : Int) : List Op3 := match l.reverse.find? (fun o => decide (o.2.1 = id)) with | some o => if o.1 = 0 then [] else [o] | none => []
def leftK (l : List Op3) (k : Nat) : List Op3 := (List.range k).flatMap fun (j : Nat) => leftAt l (256 - (j : Int))
def leftL (l : List Op3) : List Op3 := leftK l 256
theorem leftK_succ (l : List Op3) (k : Nat) : leftK l (k + 1) = leftK l k ++ leftAt l (256 - (k : Int)) := by unfold leftK; rw [List.range_succ, List.flatMap_append]; simp
theorem leftAt_len (l : List Op3) (id : Int) : (leftAt l id).length ≤ 1 := by
  unfold leftAt
  split
  · split <;> simp
  · simp
theorem leftK_len (l : List Op3) : ∀ k, (leftK l k).length ≤ k
  | 0 => by simp [leftK]
  | k + 1 => by
    rw [leftK_succ, List.length_append]
    have := leftK_len l k
    have := leftAt_len l (256 - (k : Int))
    omega
theorem leftAt_none {l : List Op3} {id : Int} (h : ∀ o ∈ l, o.2.1 ≠ id) : leftAt l id = [] := by
  unfold leftAt
  have : l.reverse.find? (fun o => decide (o.2.1 = id)) = none := List.find?_eq_none.2 fun o ho => by simpa using h o (List.mem_reverse.1 ho)
  rw [this]
theorem leftAt_at {l : List Op3} {id : Int} {m : Nat} (hm : m < l.length) (h : ∀ o ∈ l.drop (m + 1), o.2.1 ≠ id) (ho : l[m].2.1 = id) : leftAt l id = if l[m].1 = 0 then [] else [l[m]] := by
  unfold leftAt
  have hs : l = l.take m ++ l[m] :: l.drop (m + 1) := by rw [← List.drop_eq_getElem_cons hm, List.take_append_drop]
  have : l.reverse.find? (fun o => decide (o.2.1 = id)) = some l[m] := by
    conv => lhs; rw [hs]
    rw [List.reverse_append, List.reverse_cons, List.append_assoc, List.find?_append]
    have hn : (l.drop (m + 1)).reverse.find? (fun o => decide (o.2.1 = id)) = none := List.find?_eq_none.2 fun o ho => by simpa using h o (List.mem_reverse.1 ho)
    rw [hn]
    simp [ho]
  rw [this]

/-- what the operations leave, and what the remaining ones build, is the same -/
theorem words_step {D : List Dc} (hA : Asc D) (o : Op3) (i : Int) (hi : 1 ≤ i ∧ i ≤ 256) : wordsAt (stepD D o) i = if o.2.1 = i then (if o.1 = 0 then none else some (wordsOf o.2.2)) else wordsAt D i := by
  unfold stepD
  split
  · rw [wordsAt_rem hA]
    by_cases h : i = o.2.1
    · simp [h]
    · have h' : ¬ o.2.1 = i := fun e => h e.symm
      simp [h, h']
  · split
    · rw [wordsAt_put hA]
      by_cases h : i = o.2.1
      · simp [h]
      · have h' : ¬ o.2.1 = i := fun e => h e.symm
        simp [h, h']
    · rename_i h1 h2
      have : ¬ o.2.1 = i := fun e => h2 (by omega)
      rw [if_neg this]
end Go.Proofs.YtogjgibaolppfaaGreatDoor
/- What the operations leave and what the remaining ones build is the same. -/
namespace Go.Proofs.YtogjgibaolppfaaGreatDoor

theorem Asc.step {D : List Dc} (hA : Asc D) (o : Op3) : Asc (stepD D o) := by
  unfold stepD
  split
  · exact hA.rem _
  · split
    · exact hA.put _ _
    · exact hA
theorem Ids.step {D : List Dc} (hI : Ids D) (o : Op3) : Ids (stepD D o) := by
  unfold stepD
  split
  · exact hI.rem _
  · split
    · rename_i h; exact hI.put h.1 h.2 _
    · exact hI
/-- the words that the last operation of an ID leaves -/
def lw (l : List Op3) (i : Int) : Option (List Wd) := match l.reverse.find? (fun o => decide (o.2.1 = i)) with | some o => if o.1 = 0 then none else some (wordsOf o.2.2) | none => none
theorem run_facts (l : List Op3) : Asc (runD l) ∧ Ids (runD l) ∧ ∀ i, 1 ≤ i ∧ i ≤ 256 → wordsAt (runD l) i = lw l i := by
  have key : ∀ k, k ≤ l.length → Asc (runD (l.take k)) ∧ Ids (runD (l.take k)) ∧ ∀ i, 1 ≤ i ∧ i ≤ 256 → wordsAt (runD (l.take k)) i = lw (l.take k) i := by
    intro k
    induction k with
    | zero => exact fun _ => ⟨.nil, fun d hd => by simp [runD] at hd, fun i _ => rfl⟩
    | succ k ih =>
      intro hk
      obtain ⟨h1, h2, h3⟩ := ih (by omega)
      rw [runD_succ l k hk]
      refine ⟨h1.step _, h2.step _, fun i hi => ?_⟩
      rw [words_step h1 _ i hi, h3 i hi]
      unfold lw
      rw [List.take_succ_eq_append_getElem hk, List.reverse_append, List.reverse_singleton, List.singleton_append, List.find?_cons]
      by_cases h : l[k].2.1 = i
      · simp [h]
      · simp [h]
  have := key l.length (Nat.le_refl _)
  rw [List.take_length] at this
  exact this
theorem docs_ext {D E : List Dc} (hD : Asc D) (hE : Asc E) (iD : Ids D) (iE : Ids E) (h : ∀ i, 1 ≤ i ∧ i ≤ 256 → wordsAt D i = wordsAt E i) : D = E := by
  refine eq_of_asc (R := fun a b : Dc => a.1 < b.1) (fun x => by omega) (fun x y z => by omega) hD hE fun x => ?_
  obtain ⟨i, ws⟩ := x
  constructor
  · intro hx
    have := (wordsAt_some hD).2 hx
    rw [h i (iD _ hx)] at this
    exact (wordsAt_some hE).1 this
  · intro hx
    have := (wordsAt_some hE).2 hx
    rw [← h i (iE _ hx)] at this
    exact (wordsAt_some hD).1 this
theorem find_unique {β : Type} {P : β → Bool} {o : β} : ∀ {l : List β}, o ∈ l → P o = true → (∀ x ∈ l, P x = true → x = o) → l.find? P = some o
  | [], h, _, _ => by cases h
  | x :: l, h, h2, h3 => by
    rw [List.find?_cons]
    cases hx : P x with
    | true => rw [h3 x (by simp) hx]
    | false =>
      rcases List.mem_cons.1 h with rfl | h
      · rw [h2] at hx; cases hx
      · exact find_unique h h2 fun y hy => h3 y (List.mem_cons_of_mem _ hy)
theorem mem_leftAt {l : List Op3} {id : Int} {x : Op3} : x ∈ leftAt l id ↔ l.reverse.find? (fun o => decide (o.2.1 = id)) = some x ∧ x.1 ≠ 0 := by
  unfold leftAt
  cases h : l.reverse.find? (fun o => decide (o.2.1 = id)) with
  | none => simp
  | some o =>
    simp only [Option.some.injEq]
    by_cases h0 : o.1 = 0
    · rw [if_pos h0]
      constructor
      · intro h; cases h
      · rintro ⟨rfl, h⟩; exact absurd h0 h
    · rw [if_neg h0, List.mem_singleton]
      constructor
      · rintro rfl; exact ⟨rfl, h0⟩
      · rintro ⟨rfl, _⟩; rfl
theorem mem_leftL {l : List Op3} {x : Op3} : x ∈ leftL l ↔ (1 ≤ x.2.1 ∧ x.2.1 ≤ 256) ∧ x ∈ leftAt l x.2.1 := by
  unfold leftL leftK
  rw [List.mem_flatMap]
  constructor
  · rintro ⟨j, hj, hx⟩
    have hj := List.mem_range.1 hj
    have hid : x.2.1 = 256 - (j : Int) := by
      have := (mem_leftAt.1 hx).1
      have := List.find?_some this
      simpa using this
    rw [hid]
    exact ⟨by omega, hx⟩
  · rintro ⟨⟨h1, h2⟩, hx⟩
    refine ⟨(256 - x.2.1).toNat, List.mem_range.2 (by omega), ?_⟩
    rw [show (256 : Int) - (((256 - x.2.1).toNat : Nat) : Int) = x.2.1 by omega]
    exact hx
theorem lw_left (l : List Op3) (i : Int) (hi : 1 ≤ i ∧ i ≤ 256) : lw (leftL l) i = lw l i := by
  unfold lw
  cases h : l.reverse.find? (fun o => decide (o.2.1 = i)) with
  | none =>
    have : (leftL l).reverse.find? (fun o => decide (o.2.1 = i)) = none := List.find?_eq_none.2 fun x hx => by
      intro he
      have he : x.2.1 = i := by simpa using he
      have := (mem_leftAt.1 (mem_leftL.1 (List.mem_reverse.1 hx)).2).1
      rw [he, h] at this; cases this
    rw [this]
  | some o =>
    have ho : o.2.1 = i := by have := List.find?_some h; simpa using this
    by_cases h0 : o.1 = 0
    · have : (leftL l).reverse.find? (fun o => decide (o.2.1 = i)) = none := List.find?_eq_none.2 fun x hx => by
        intro he
        have he : x.2.1 = i := by simpa using he
        have h2 := mem_leftAt.1 (mem_leftL.1 (List.mem_reverse.1 hx)).2
        rw [he, h] at h2
        obtain ⟨h3, h4⟩ := h2
        cases h3
        exact h4 h0
      rw [this]; simp [h0]
    · have : (leftL l).reverse.find? (fun o => decide (o.2.1 = i)) = some o := find_unique (List.mem_reverse.2 (mem_leftL.2 ⟨by rw [ho]; exact hi, mem_leftAt.2 ⟨by rw [ho]; exact h, h0⟩⟩)) (by simp [ho]) fun x hx he => by
        have he : x.2.1 = i := by simpa using he
        have h2 := mem_leftAt.1 (mem_leftL.1 (List.mem_reverse.1 hx)).2
        rw [he, h] at h2
        obtain ⟨h3, _⟩ := h2
        cases h3; rfl
      rw [this]
theorem run_left (l : List Op3) : runD (leftL l) = runD l := by
  obtain ⟨a1, a2, a3⟩ := run_facts (leftL l)
  obtain ⟨b1, b2, b3⟩ := run_facts l
  exact docs_ext a1 b1 a2 b2 fun i hi => by rw [a3 i hi, b3 i hi, lw_left l i hi]
theorem left_ok {l : List Op3} (h : ∀ o ∈ l, okOp o ∧ o.2.2.length ≤ 200) : ∀ o ∈ leftL l, okOp o ∧ o.2.2.length ≤ 200 := fun o ho => by
  have := (mem_leftAt.1 (mem_leftL.1 ho).2).1
  exact h o (List.mem_reverse.1 (List.mem_of_find?_eq_some this))
end Go.Proofs.YtogjgibaolppfaaGreatDoor
/- IndexTermOrder. -/
namespace Go.Proofs.YtogjgibaolppfaaGreatDoor
open Go.RowKit Go.Sort Go.Proofs Go.Maps

theorem few_len (ops : List Op3) : (fewL ops).length ≤ 12 := by unfold fewL; rw [List.length_map, List.length_take]; omega
theorem few_ok {ops : List Op3} (h : ∀ o ∈ ops, okOp o) : ∀ o ∈ fewL ops, okOp o ∧ o.2.2.length ≤ 200 := fun o ho => by
  unfold fewL at ho
  obtain ⟨x, hx, rfl⟩ := List.mem_map.1 ho
  exact ⟨h x (List.mem_of_mem_take hx), by unfold cutOp; rw [List.length_take]; omega⟩
theorem step_small {D : List Dc} {o : Op3} {n : Nat} (h : D.length ≤ n ∧ ∀ d ∈ D, d.2.length ≤ 400) (ho : o.2.2.length ≤ 200) : (stepD D o).length ≤ n + 1 ∧ ∀ d ∈ stepD D o, d.2.length ≤ 400 := by
  unfold stepD
  have hr : ∀ id, (remD D id).length ≤ D.length := fun id => List.length_filter_le _ _
  split
  · exact ⟨by have := hr o.2.1; omega, fun d hd => h.2 d (mem_rem.1 hd).1⟩
  · split
    · refine ⟨?_, fun d hd => ?_⟩
      · unfold putD
        rw [insD_eq, List.length_append, List.length_cons]
        have h1 := congrArg List.length (List.takeWhile_append_dropWhile (p := fun d : Dc => decide (d.1 < (o.2.1, wordsOf o.2.2).1)) (l := remD D o.2.1))
        rw [List.length_append] at h1
        have := hr o.2.1
        omega
      · rcases mem_put.1 hd with rfl | ⟨hd, _⟩
        · have := words_count_le o.2.2; show (wordsOf o.2.2).length ≤ 400; omega
        · exact h.2 d hd
    · exact ⟨by omega, h.2⟩
theorem run_small (l : List Op3) (hl : ∀ o ∈ l, o.2.2.length ≤ 200) : (runD l).length ≤ l.length ∧ ∀ d ∈ runD l, d.2.length ≤ 400 := by
  have key : ∀ k, k ≤ l.length → (runD (l.take k)).length ≤ k ∧ ∀ d ∈ runD (l.take k), d.2.length ≤ 400 := by
    intro k
    induction k with
    | zero => exact fun _ => ⟨by simp [runD], fun d hd => by simp [runD] at hd⟩
    | succ k ih =>
      intro hk
      rw [runD_succ l k hk]
      exact step_small (ih (by omega)) (hl _ (List.getElem_mem hk))
  have := key l.length (Nat.le_refl _)
  rw [List.take_length] at this
  exact this
theorem run_vocab (l : List Op3) (hn : l.length ≤ 12) (hl : ∀ o ∈ l, o.2.2.length ≤ 200) : (vocab (runD l)).length ≤ 4800 := by
  obtain ⟨h1, h2⟩ := run_small l hl
  have h3 := sub_len ((runD l).flatMap (·.2)) (vocab (runD l)) (vocab_nodup _) fun x hx => by
    obtain ⟨d, hd, hxd⟩ := mem_vocab.1 hx
    exact List.mem_flatMap.2 ⟨d, hd, hxd⟩
  have h4 : ∀ D : List Dc, (∀ d ∈ D, d.2.length ≤ 400) → (D.flatMap (·.2)).length ≤ 400 * D.length := fun D => by
    induction D with
    | nil => simp
    | cons d D ih =>
      intro h
      have h1 := ih fun x hx => h x (List.mem_cons_of_mem _ hx)
      have h2 := h d (by simp)
      rw [List.flatMap_cons, List.length_append, List.length_cons]
      omega
  have := h4 _ h2
  omega
/-- all terms -/
def termsAll (D : List Dc) (s : List UInt8) : List (Wd × Nat) := match prefW s with | none => [] | some x => termsD D x
theorem termsQ_eq (D : List Dc) (s : List UInt8) (n : Int) : termsQ D s n = (termsAll D s).take n.toNat := by
  unfold termsQ termsAll
  cases prefW s with
  | none => simp
  | some x => rfl
theorem termsAll_asc (D : List Dc) (s : List UInt8) : TAsc (termsAll D s) := by
  unfold termsAll
  cases prefW s with
  | none => exact .nil
  | some x => exact termsD_asc D x
theorem termsAll_len (D : List Dc) (s : List UInt8) : (termsAll D s).length ≤ (vocab D).length := by
  unfold termsAll
  cases prefW s with
  | none => simp
  | some x =>
    show (termsD D x).length ≤ _
    unfold termsD
    rw [List.length_mergeSort, List.length_map]
    exact List.length_filter_le _ _

end Go.Proofs.YtogjgibaolppfaaGreatDoor
/- Plain: the counts of a query in the remaining documents. -/
namespace Go.Proofs.YtogjgibaolppfaaGreatDoor

theorem docs_word {D : List Dc} (ho : ∀ d ∈ D, ∀ x ∈ d.2, okWord x) {x : Wd} (hx : x ∈ vocab D) : okWord x ∧ docsQ D x = phraseD D [x] := by
  obtain ⟨d, hd, hxd⟩ := mem_vocab.1 hx
  have h := ho d hd x hxd
  exact ⟨h, by unfold docsQ; rw [wordOf_word h]⟩
theorem term_docs {D : List Dc} (hA : Asc D) (hI : Ids D) (ho : ∀ d ∈ D, ∀ x ∈ d.2, okWord x) {s : List UInt8} {n : Int} {x : Wd} {m : Nat} (h : (x, m) ∈ termsQ D s n) : (docsQ D x).length = m ∧ 0 < m ∧ x.length ≤ 30 := by
  have h1 : (x, m) ∈ termsAll D s := by rw [termsQ_eq] at h; exact List.mem_of_mem_take h
  have h2 : x ∈ vocab D ∧ m = dn D x := by
    unfold termsAll at h1
    cases hp : prefW s with
    | none => rw [hp] at h1; cases h1
    | some p => rw [hp] at h1; have := mem_termsD.1 h1; exact ⟨this.1, this.2.2⟩
  obtain ⟨h3, h4⟩ := docs_word ho h2.1
  refine ⟨by rw [h4, docs_len hA hI, h2.2], ?_, h3.2.1⟩
  rw [h2.2]
  obtain ⟨d, hd, hxd⟩ := mem_vocab.1 h2.1
  exact List.countP_pos_iff.2 ⟨d, hd, by simpa using hxd⟩
theorem phraseQ_one (D : List Dc) (s : List UInt8) : phraseQ D [s] = docsQ D s := by
  unfold phraseQ docsQ
  rw [if_neg (by simp)]
  simp only [wordsQ]
  cases wordOf s with
  | none => rfl
  | some x => rfl
/-- how often a query's word is in such words -/
def cq (s : List UInt8) (ws : List Wd) : Nat := match wordOf s with | none => 0 | some x => ws.count x
theorem cq_nil (s : List UInt8) : cq s [] = 0 := by unfold cq; cases wordOf s <;> rfl
theorem docsQ_cq (D : List Dc) (s : List UInt8) : docsQ D s = hitsF (docsF D (cq s)) := by
  unfold docsQ
  cases h : wordOf s with
  | none =>
    have : docsF D (cq s) = fun _ => 0 := by
      funext i
      unfold docsF
      have : cq s = fun _ => 0 := by funext ws; unfold cq; rw [h]
      rw [this]
      cases wordsAt D i <;> rfl
    rw [this, hitsF_zero]
  | some x =>
    show phraseD D [x] = _
    rw [show phraseD D [x] = hitsF (cntD D x) from phraseD_one D x]
    have : cq s = fun ws => ws.count x := by funext ws; unfold cq; rw [h]
    rw [this]; rfl
theorem left_words {l : List Op3} {o : Op3} (ho : o ∈ leftL l) : wordsAt (runD l) o.2.1 = some (wordsOf o.2.2) ∧ 1 ≤ o.2.1 ∧ o.2.1 ≤ 256 := by
  obtain ⟨h1, h2⟩ := mem_leftL.1 ho
  obtain ⟨h3, h4⟩ := mem_leftAt.1 h2
  refine ⟨?_, h1⟩
  rw [(run_facts l).2.2 _ h1]
  unfold lw
  rw [h3]
  simp [h4]
/-- the number at an ID, among such hits -/
def FoundAt (h : List (Int × Nat)) (id : Int) (f : Nat) : Prop := (f = 0 ∧ ∀ y ∈ h, y.1 ≠ id) ∨ (id, f) ∈ h
theorem FoundAt.same {h : List (Int × Nat)} {id : Int} {f : Nat} (H : FoundAt h id f) {y : Int × Nat} (hy : y.1 ≠ id) : FoundAt (h ++ [y]) id f := by
  rcases H with ⟨h1, h2⟩ | h1
  · exact .inl ⟨h1, fun z hz => by
      rcases List.mem_append.1 hz with hz | hz
      · exact h2 z hz
      · rw [List.mem_singleton.1 hz]; exact hy⟩
  · exact .inr (List.mem_append_left _ h1)
theorem FoundAt.new {h : List (Int × Nat)} {id : Int} {y : Int × Nat} (hy : y.1 = id) : FoundAt (h ++ [y]) id y.2 := .inr (List.mem_append_right _ (by rw [← hy]; simp))
theorem FoundAt.last {l : List Op3} {s : List UInt8} {o : Op3} (ho : o ∈ leftL l) {f : Nat} (H : FoundAt (docsQ (runD l) s) o.2.1 f) : f = cq s (wordsOf o.2.2) := by
  obtain ⟨h1, h2⟩ := left_words ho
  have hc : docsF (runD l) (cq s) o.2.1 = cq s (wordsOf o.2.2) := by unfold docsF; rw [h1]; rfl
  rw [docsQ_cq] at H
  rcases H with ⟨rfl, h3⟩ | h3
  · rcases Nat.eq_zero_or_pos (cq s (wordsOf o.2.2)) with h | h
    · exact h.symm
    · exact absurd rfl (h3 (o.2.1, cq s (wordsOf o.2.2)) (mem_hitsF.2 ⟨h2.1, h2.2, h, hc.symm⟩))
  · exact (mem_hitsF.1 h3).2.2.2.trans hc
theorem cq_succ {s : List UInt8} {x : Wd} (hx : wordsOf s = [x]) (ws : List Wd) (k : Nat) (h : k < ws.length) : cq s (ws.take (k + 1)) = cq s (ws.take k) + if ws[k] = x then 1 else 0 := by
  have : wordOf s = some x := wordOf_some.2 hx
  unfold cq
  rw [this]
  simp only
  rw [List.take_succ_eq_append_getElem h, List.count_append, List.count_singleton]
  congr 1
  by_cases e : ws[k] = x <;> simp [e]
theorem cq_other {s : List UInt8} (hx : (wordsOf s).length ≠ 1) (ws : List Wd) : cq s ws = 0 := by
  unfold cq; rw [wordOf_none hx]
end Go.Proofs.YtogjgibaolppfaaGreatDoor
/- The reference's begins, Find, Phrase, Prefix, All. The reference's Phrase and Find. -/
namespace Go.Proofs.YtogjgibaolppfaaGreatDoor
open Go.RowKit Go.Sort Go.Proofs Go.Maps

set_option maxHeartbeats 400000 in
theorem begins_any (s p : List UInt8) (w : World) :
    Calls Tryz.prog 92 #[.string ⟨s.toArray⟩, .string ⟨p.toArray⟩] w fun e w' => e = .returned (.bool (p.isPrefixOf s)) ∧ w = w' := by
  by_cases h : p.length ≤ s.length
  · have h1 : (p.length : Int) ≤ (s.length : Int) := by omega
    go_enter Tryz.func92, Tryz.ntmps92
    go_wp2
    go_ret
    refine ⟨bool1 ?_, rfl⟩
    have e : (⟨s.toArray⟩ : ByteArray).extract 0 p.length = ⟨(s.take p.length).toArray⟩ := by
      apply ByteArray.ext; apply Array.toList_inj.1
      rw [Lib.extract_data]
      show (s.drop 0).take _ = s.take p.length
      rw [List.drop_zero, Nat.sub_zero]
    rw [e, toList_mk, Bool.eq_iff_iff, beq_iff_eq, List.isPrefixOf_iff_prefix, List.prefix_iff_eq_take, eq_comm]
  · have h1 : ¬ (p.length : Int) ≤ (s.length : Int) := by omega
    have h2 : p.isPrefixOf s = false := by
      rw [Bool.eq_false_iff]; intro e; exact h (List.isPrefixOf_iff_prefix.1 e).length_le
    have H2 := Lib.hid h2
    clear h2 h
    go_enter Tryz.func92, Tryz.ntmps92
    go_wp2
    go_ret
    exact ⟨bool1 H2.out.symm, rfl⟩

set_option maxRecDepth 100000 in
set_option maxHeartbeats 4000000 in
theorem refAll_any {T : Nat → Prop} {y : Nat} {D : List Dc} (w : World) (h : RefAt T w y D) :
    Calls Tryz.prog 85 #[.pointer (some ⟨y, 0, none⟩)] w fun e w' => ∃ v, e = .returned v ∧ IntsR w.heap.size w' v (D.map (·.1)) ∧ Below w.heap.size w w' := by
  obtain ⟨i0, hi, hz0, hz1, hz2⟩ := info_parts infoInt
  have hlen := h.len
  obtain ⟨v, P, hD, hy, hv, hP⟩ := h.parts
  have hpl : P.length ≤ 256 := by rw [hD, List.length_map] at hlen; exact hlen
  obtain ⟨a, c, rfl, hle, hcm, hc⟩ := hv
  have cy : w.cell? ⟨y, 0, none⟩ = some (.slice a P.length c) := by rw [Lib.cell_of_heap hy]; rfl
  have HC := Lib.hid hc
  have hyl := h.ylt
  have HD := Lib.hid hD
  clear h hD hy hc hP hlen
  go_enter Tryz.func85, Tryz.ntmps85
  go_wp2
  go_loopw [3, 4] (fun u i wr => ∃ k : Nat, i = .int .i64 k ∧ k ≤ P.length ∧ Hid (IntsR w.heap.size wr u ((P.take k).map fun p => p.1.1)) ∧ Hid (Below w.heap.size w wr)) (fun _ i _ => P.length - (intOf i).toNat)
  case atStart => exact ⟨0, rfl, by omega, Lib.hid ⟨rfl, .inl ⟨rfl, rfl⟩⟩, Lib.hid (Below.refl _ _)⟩
  case round =>
    obtain ⟨k, rfl, hk, HO, HB⟩ := hrel
    have hbs := HB.out.size
    have cyr : wr.cell? ⟨y, 0, none⟩ = some (.slice a P.length c) := cell_same (HB.out.block y hyl) cy
    by_cases hkl : k < P.length
    · have hki : (k : Int) < (P.length : Int) := by omega
      obtain ⟨b, off, rfl, hT, k1, k2⟩ := HC.out k hkl
      have hbl := World.block_lt_of_cell? w _ k1
      have c1 : wr.cell? ⟨b, off + k * 2, none⟩ = some (.int .i64 P[k].1.1) := cell_same (HB.out.block b hbl) k1
      have HT := Lib.hid (List.take_succ_eq_append_getElem hkl)
      obtain ⟨⟨⟨i1, ws⟩, u0⟩, hx⟩ : ∃ z, P[k] = z := ⟨_, rfl⟩
      rw [hx] at c1 HT
      simp only at c1
      clear k1 k2 hx
      have HSU : Hid ((P.take k).map (fun p => p.1.1) ++ [i1] = (P.take (k + 1)).map fun p => p.1.1) := Lib.hid (by rw [HT.out, List.map_append]; rfl)
      have hml2 : ((P.take k).map fun p => p.1.1).length ≤ 256 := by rw [List.length_map, List.length_take]; omega
      obtain ⟨M, hM⟩ : ∃ M, ((P.take k).map fun p => p.1.1) = M := ⟨_, rfl⟩
      rw [hM] at HO HSU hml2
      have hrow : wr.ownsRow w.heap.size 3 1 u3 M.length (M.map (Value.int .i64)) := HO.out
      clear hM HO
      go_wp2_with (at_builtin; refine wpList_append_own _ rfl _ _ 22 rfl w.heap.size 3 i0 _ 1 8 Tryz.underlying22 hi hz0 hz1 hz2 rfl (by decide) _ _ _ rfl (hrow.alloc _) ⟨wr.heap.size, 0, none⟩ 1 1 [.int .i64 i1] rfl rfl (World.news_of_block (cs := #[.int .i64 i1]) (t := 3) (fr := (0, 0)) (heap_alloc_new wr _)) (by simp [Value.oneCell']) ?c3 ?c4 ?c5 ?_)
      case c3 => unfold maxLen; omega
      case c4 => omega
      case c5 => first | omega | (simp; omega)
      intro v' w2 ho2 hg2 _
      have HO2 : Hid (IntsR w.heap.size w2 v' ((P.take (k + 1)).map fun p => p.1.1)) := Lib.hid (by
        rw [← HSU.out]
        unfold IntsR
        simpa using ho2)
      have HB2 : Hid (Below w.heap.size w w2) := Lib.hid ((HB.out.alloc hbs _).grown hg2 (by simp; omega) (fun j e => (hrow.lt j e).1))
      clear ho2 hg2
      go_wp2
      go_roundw
      case rel => exact ⟨k + 1, by go_num, by omega, HO2, HB2⟩
      case measure => simp [intOf]; omega
    · have HO9 : Hid (IntsR w.heap.size wr u3 (D.map (·.1))) := Lib.hid (by
        rw [List.take_of_length_le (by omega)] at HO
        rw [HD.out, List.map_map]; exact HO.out)
      clear HO
      go_wp2
      go_ret
      exact ⟨_, rfl, HO9.out, HB.out⟩

/-- the hits of a count of words -/
def hitP (f : List Wd → Nat) (P : List Pd) : List (Int × Nat) := P.filterMap fun p => if 0 < f p.1.2 then some (p.1.1, f p.1.2) else none
theorem hitP_all {D : List Dc} {P : List Pd} (hA : Asc D) (hI : Ids D) (h : D = P.map (·.1)) (f : List Wd → Nat) : hitP f P = hitsF (docsF D f) := by
  rw [← hits_docs hA hI, h, List.filterMap_map]; rfl
theorem hitP_len (f : List Wd → Nat) (P : List Pd) : (hitP f P).length ≤ P.length := List.length_filterMap_le _ _
theorem hitP_yes {f : List Wd → Nat} {P : List Pd} {p : Pd} (h : 0 < f p.1.2) : hitP f (P ++ [p]) = hitP f P ++ [(p.1.1, f p.1.2)] := by unfold hitP; rw [List.filterMap_append]; simp [h]
theorem hitP_no {f : List Wd → Nat} {P : List Pd} {p : Pd} (h : ¬ 0 < f p.1.2) : hitP f (P ++ [p]) = hitP f P := by unfold hitP; rw [List.filterMap_append]; simp [h]

set_option maxRecDepth 100000 in
set_option maxHeartbeats 8000000 in
theorem refPrefix_any {T : Nat → Prop} {y : Nat} {D : List Dc} (w : World) (h : RefAt T w y D) (hA : Asc D) (hI : Ids D) (ho : ∀ d ∈ D, ∀ x ∈ d.2, okWord x) (s : List UInt8) (hs : s.length ≤ 1000000) :
    Calls Tryz.prog 129 #[.pointer (some ⟨y, 0, none⟩), .string ⟨s.toArray⟩] w fun e w' => ∃ v, e = .returned v ∧ HitsR w.heap.size w' v (prefQ D s) ∧ Below w.heap.size w w' := by
  obtain ⟨i0, hi, hz0, hz1, hz2⟩ := info_parts infoHit
  have HW := Lib.hid (refWord_any s (by omega) w)
  have hlen := h.len
  obtain ⟨v, P, hD, hy, hv, hP⟩ := h.parts
  have hpl : P.length ≤ 256 := by rw [hD, List.length_map] at hlen; exact hlen
  obtain ⟨a, c, rfl, hle, hcm, hc⟩ := hv
  have cy : w.cell? ⟨y, 0, none⟩ = some (.slice a P.length c) := by rw [Lib.cell_of_heap hy]; rfl
  have HC := Lib.hid hc
  have HPs := Lib.hid hP
  have hyl := h.ylt
  have HALL := Lib.hid (fun f => hitP_all hA hI hD f)
  have HOK : Hid (∀ p ∈ P, ∀ x ∈ p.1.2, okWord x) := Lib.hid (fun p hp x hx => ho p.1 (by rw [hD]; exact List.mem_map_of_mem hp) x hx)
  unfold prefQ
  obtain ⟨R, hR⟩ : ∃ R, wordOf s = R := ⟨_, rfl⟩
  rw [hR] at HW
  rw [hR]
  cases R with
  | none =>
    clear h hD hy hc hP hlen hR
    go_enter Tryz.func129, Tryz.ntmps129
    go_wp2_with fail
    refine HW.out.mono ?_
    rintro e w1 ⟨rfl, hb1⟩
    have HB1 := Lib.hid hb1
    clear hb1
    simp only [Option.getD_none]
    go_wp2
    go_ret
    exact ⟨_, rfl, ⟨rfl, .inl ⟨rfl, rfl⟩⟩, HB1.out⟩
  | some p =>
    have hpw := wordOf_len hR
    have hne : p ≠ [] := hpw.1
    have hp30 := hpw.2
    clear h hD hy hc hP hlen hR hpw
    have g0 : p.isEmpty = false := by simpa using hne
    have hrd : prefD D p = hitP (fun l => l.countP p.isPrefixOf) P := (HALL.out _).symm
    simp only [hrd]
    clear hrd
    simp only [Option.getD_some] at HW
    go_enter Tryz.func129, Tryz.ntmps129
    go_wp2_with fail
    refine HW.out.mono ?_
    rintro e w1 ⟨rfl, hb1⟩
    have HB1 := Lib.hid hb1
    clear hb1 HW
    go_wp2
    go_loopw [6, 7] (fun u i wr => ∃ k : Nat, i = .int .i64 k ∧ k ≤ P.length ∧ Hid (HitsR w.heap.size wr u (hitP (fun l => l.countP p.isPrefixOf) (P.take k))) ∧ Hid (Below w.heap.size w wr)) (fun _ i _ => P.length - (intOf i).toNat)
    case atStart => exact ⟨0, rfl, by omega, Lib.hid ⟨rfl, .inl ⟨rfl, rfl⟩⟩, HB1⟩
    case round =>
      obtain ⟨k, rfl, hk, HO, HB⟩ := hrel
      have hbs := HB.out.size
      have cyr : wr.cell? ⟨y, 0, none⟩ = some (.slice a P.length c) := cell_same (HB.out.block y hyl) cy
      by_cases hkl : k < P.length
      · have hki : (k : Int) < (P.length : Int) := by omega
        obtain ⟨b, off, rfl, hT, k1, k2⟩ := HC.out k hkl
        have hbl := World.block_lt_of_cell? w _ k1
        have c1 : wr.cell? ⟨b, off + k * 2, none⟩ = some (.int .i64 P[k].1.1) := cell_same (HB.out.block b hbl) k1
        have c2 : wr.cell? ⟨b, off + k * 2 + 1, none⟩ = some P[k].2 := cell_same (HB.out.block b hbl) k2
        have HT := Lib.hid (List.take_succ_eq_append_getElem hkl)
        have hst := HPs.out P[k] (List.getElem_mem hkl)
        have hok := HOK.out P[k] (List.getElem_mem hkl)
        obtain ⟨⟨⟨i1, ws⟩, u0⟩, hx⟩ : ∃ z, P[k] = z := ⟨_, rfl⟩
        rw [hx] at c1 c2 HT hst hok
        simp only at c1 c2 hst hok
        obtain ⟨au, cu, rfl, hu1, hu2, hu3⟩ := hst
        have HU := Lib.hid hu3; have HOKw := Lib.hid hok
        clear k1 k2 hx hu3 hok
        go_wp2
        go_loop [8, 9] (fun n j => ∃ m : Nat, j = .int .i64 m ∧ m ≤ ws.length ∧ n = .int .i64 ((ws.take m).countP p.isPrefixOf)) (fun _ j => ws.length - (intOf j).toNat)
        case atStart => exact ⟨0, rfl, by omega, rfl⟩
        case round =>
          obtain ⟨m, rfl, hm, rfl⟩ := hrel
          have hcl : (ws.take m).countP p.isPrefixOf ≤ 1000 := by have := List.countP_le_length (p := p.isPrefixOf) (l := ws.take m); rw [List.length_take] at this; omega
          by_cases hml : m < ws.length
          · have hmi : (m : Int) < (ws.length : Int) := by omega
            obtain ⟨bw, ow, rfl, hTw, kw⟩ := HU.out m hml
            have cw : wr.cell? ⟨bw, ow + m, none⟩ = some (encW ws[m]) := cell_same (HB.out.block bw (World.block_lt_of_cell? w _ kw)) kw
            have hx30 := (HOKw.out ws[m] (List.getElem_mem hml)).2.1
            have HS : Hid ((ws.take (m + 1)).countP p.isPrefixOf = (ws.take m).countP p.isPrefixOf + if p.isPrefixOf ws[m] then 1 else 0) := Lib.hid (by rw [List.take_succ_eq_append_getElem hml, List.countP_append, List.countP_singleton])
            obtain ⟨x, hx⟩ : ∃ x, ws[m] = x := ⟨_, rfl⟩
            rw [hx] at cw hx30 HS
            unfold encW at cw
            obtain ⟨n, hn⟩ : ∃ n, (ws.take m).countP p.isPrefixOf = n := ⟨_, rfl⟩
            rw [hn] at hcl HS ⊢
            clear kw hx hn
            go_wp2_with fail
            refine (begins_any x p wr).mono ?_
            rintro e w2 ⟨rfl, rfl⟩
            cases hpre : p.isPrefixOf x with
            | true =>
              rw [hpre] at HS
              have HS2 : Hid ((ws.take (m + 1)).countP p.isPrefixOf = n + 1) := Lib.hid (by rw [HS.out]; rfl)
              clear hpre HS
              go_wp2
              go_round
              case rel => exact ⟨m + 1, by go_num, by omega, by rw [HS2.out]; go_num⟩
              case measure => simp [intOf]; omega
            | false =>
              rw [hpre] at HS
              have HS2 : Hid ((ws.take (m + 1)).countP p.isPrefixOf = n) := Lib.hid (by rw [HS.out]; rfl)
              clear hpre HS
              go_wp2
              go_round
              case rel => exact ⟨m + 1, by go_num, by omega, by rw [HS2.out]⟩
              case measure => simp [intOf]; omega
          · have HE : Hid ((ws.take m).countP p.isPrefixOf = ws.countP p.isPrefixOf) := Lib.hid (by rw [List.take_of_length_le (by omega)])
            have hml2 : (hitP (fun l => l.countP p.isPrefixOf) (P.take k)).length ≤ 256 := by
              have := hitP_len (fun l => l.countP p.isPrefixOf) (P.take k)
              rw [List.length_take] at this
              omega
            obtain ⟨n, hn⟩ : ∃ n, (ws.take m).countP p.isPrefixOf = n := ⟨_, rfl⟩
            rw [hn] at hcl HE ⊢
            clear hn
            by_cases hpos : 0 < n
            · have HSU : Hid (hitP (fun l => l.countP p.isPrefixOf) (P.take k) ++ [(i1, n)] = hitP (fun l => l.countP p.isPrefixOf) (P.take (k + 1))) := Lib.hid (by
                rw [HT.out, hitP_yes (by simp only; rw [← HE.out]; exact hpos)]; simp only; rw [HE.out])
              obtain ⟨M, hM⟩ : ∃ M, hitP (fun l => l.countP p.isPrefixOf) (P.take k) = M := ⟨_, rfl⟩
              rw [hM] at HO HSU hml2
              have hrow : wr.ownsRow w.heap.size 64 2 u6 M.length (M.flatMap hitC) := HO.out
              have hpi : (0 : Int) < (n : Int) := by omega
              clear hM HO
              go_wp2_with (at_builtin; refine wpList_append_own _ rfl _ _ 39 rfl w.heap.size 64 i0 _ 2 16 Tryz.underlying39 hi hz0 hz1 hz2 rfl (by decide) _ _ _ rfl (hrow.alloc _) ⟨wr.heap.size, 0, none⟩ 1 1 (hitC (i1, n)) rfl rfl (World.news_of_block (cs := (hitC (i1, n)).toArray) (t := 64) (fr := (0, 0)) (heap_alloc_new _ _)) (by simp [Value.oneCell', hitC]) ?c3 ?c4 ?c5 ?_)
              case c3 => unfold maxLen; omega
              case c4 => omega
              case c5 => first | omega | (simp; omega)
              intro v' w2 ho2 hg2 _
              have HO2 : Hid (HitsR w.heap.size w2 v' (hitP (fun l => l.countP p.isPrefixOf) (P.take (k + 1)))) := Lib.hid (by
                rw [← HSU.out]
                unfold HitsR
                simpa [List.flatMap_append] using ho2)
              have HB2 : Hid (Below w.heap.size w w2) := Lib.hid ((HB.out.alloc hbs _).grown hg2 (by simp; omega) (fun j e => (hrow.lt j e).1))
              clear ho2 hg2
              go_wp2
              go_roundw
              case rel => exact ⟨k + 1, by go_num, by omega, HO2, HB2⟩
              case measure => simp [intOf]; omega
            · have HO2 : Hid (HitsR w.heap.size wr u6 (hitP (fun l => l.countP p.isPrefixOf) (P.take (k + 1)))) := Lib.hid (by
                rw [HT.out, hitP_no (by simp only; rw [← HE.out]; exact hpos)]; exact HO.out)
              have hpi : ¬ (0 : Int) < (n : Int) := by omega
              clear HO
              go_wp2
              go_roundw
              case rel => exact ⟨k + 1, by go_num, by omega, HO2, HB⟩
              case measure => simp [intOf]; omega
      · have HO9 : Hid (HitsR w.heap.size wr u6 (hitP (fun l => l.countP p.isPrefixOf) P)) := Lib.hid (by
          rw [List.take_of_length_le (by omega)] at HO; exact HO.out)
        clear HO
        go_wp2
        go_ret
        exact ⟨_, rfl, HO9.out, HB.out⟩

theorem take_eq_succ {a b : List Wd} {j : Nat} (ha : j < a.length) (hb : j < b.length) : a.take (j + 1) = b.take (j + 1) ↔ a.take j = b.take j ∧ a[j] = b[j] := by
  rw [List.take_succ_eq_append_getElem ha, List.take_succ_eq_append_getElem hb]
  constructor
  · intro h
    have := List.append_inj h (by rw [List.length_take, List.length_take]; omega)
    exact ⟨this.1, by simpa using this.2⟩
  · rintro ⟨h1, h2⟩
    rw [h1, h2]
theorem same_step {ws pre : List Wd} {m j : Nat} (h1 : m + j < ws.length) (h2 : j < pre.length) : (ws.drop m).take (j + 1) = pre.take (j + 1) ↔ (ws.drop m).take j = pre.take j ∧ ws[m + j] = pre[j] := by
  rw [take_eq_succ (by rw [List.length_drop]; omega) h2, List.getElem_drop]
theorem same_end {ws pre : List Wd} {m : Nat} : (ws.drop m).take pre.length = pre.take pre.length ↔ pre.isPrefixOf (ws.drop m) = true := by
  rw [List.isPrefixOf_iff_prefix, List.prefix_iff_eq_take, List.take_length, eq_comm]
theorem HitsR.stay {base : Nat} {w w' : World} {v : Value} {l : List (Int × Nat)} (h : HitsR base w v l) (hb : Below w.heap.size w w') : HitsR base w' v l := row_stay h fun j hj => hb.block j (h.lt j hj).2

set_option maxRecDepth 100000 in
set_option maxHeartbeats 16000000 in
theorem refPhrase_any {T : Nat → Prop} {y : Nat} {D : List Dc} (w : World) (h : RefAt T w y D) (hA : Asc D) (hI : Ids D) (vq : Value) (l : List (List UInt8)) (hq : StrsAt w vq l) (hl : l.length ≤ 1000) (hs : ∀ s ∈ l, s.length ≤ 1000000) :
    Calls Tryz.prog 128 #[.pointer (some ⟨y, 0, none⟩), vq] w fun e w' => ∃ v, e = .returned v ∧ HitsR w.heap.size w' v (phraseQ D l) ∧ Below w.heap.size w w' := by
  obtain ⟨j0, hj, hy0, hy1, hy2⟩ := info_parts infoHit
  obtain ⟨i0, hi, hz0, hz1, hz2⟩ := info_parts infoStr'
  have hlen := h.len
  obtain ⟨v, P, hD, hy, hv, hP⟩ := h.parts
  have hpl : P.length ≤ 256 := by rw [hD, List.length_map] at hlen; exact hlen
  obtain ⟨a, c, rfl, hle, hcm, hc⟩ := hv
  have cy : w.cell? ⟨y, 0, none⟩ = some (.slice a P.length c) := by rw [Lib.cell_of_heap hy]; rfl
  have HC := Lib.hid hc
  have HPs := Lib.hid hP
  have hyl := h.ylt
  have HALL := Lib.hid (fun f => hitP_all hA hI hD f)
  have hcw := fun (s : List UInt8) (hs : s.length ≤ 1000000) W => refWord_any s (by omega) W
  have HS := Lib.hid hs
  obtain ⟨aq, cq, rfl, hqle, -, hqc⟩ := hq
  have HQ := Lib.hid hqc
  obtain ⟨R, HR⟩ : ∃ R, Hid (phraseQ D l = R) := ⟨_, Lib.hid rfl⟩
  rw [HR.out]
  have HWd := Lib.hid hcw
  clear h hs hD hy hc hP hlen hqc hcw
  go_enter Tryz.func128, Tryz.ntmps128
  go_wp2
  go_loopw [5, 6] (fun u i wr => ∃ (k : Nat) (pre : List Wd), i = .int .i64 k ∧ k ≤ l.length ∧ Hid (pre.length = k) ∧ Hid (wordsQ l = (wordsQ (l.drop k)).map (pre ++ ·)) ∧ Hid (∀ x ∈ pre, x.length ≤ 30) ∧ Hid (OwnsStrs wr w.heap.size u pre) ∧ Hid (Below w.heap.size w wr)) (fun _ i _ => l.length - (intOf i).toNat)
  case atStart => exact ⟨0, [], rfl, by omega, Lib.hid rfl, Lib.hid (by simp), Lib.hid (by simp), Lib.hid ⟨rfl, .inl ⟨rfl, rfl⟩⟩, Lib.hid (Below.refl _ _)⟩
  case round =>
    obtain ⟨k, pre, rfl, hk, HPL, HWQ, HPO, HO, HB⟩ := hrel
    by_cases hkl : k < l.length
    · have hki : (k : Int) < (l.length : Int) := by omega
      obtain ⟨b0, off0, rfl, ck0⟩ := HQ.out k hkl
      have ck : wr.cell? ⟨b0, off0 + k, none⟩ = some (.string ⟨(l[k]).toArray⟩) := (HB.out.cell (p := ⟨b0, off0 + k, none⟩) (World.block_lt_of_cell? w _ ck0)).trans ck0
      have hsl := HS.out l[k] (List.getElem_mem hkl)
      have HW := Lib.hid (HWd.out l[k] hsl)
      have hne : l ≠ [] := by intro e; subst e; simp at hkl
      cases hw : wordOf l[k] with
      | none =>
        have HN9 := Lib.hid (wordsQ_none HWQ.out hkl hw)
        have HR9 : Hid (R = []) := Lib.hid (by rw [← HR.out, phraseQ, if_neg hne, HN9.out])
        have hcw1 := HW.out
        rw [hw] at hcw1
        clear HW hw hne
        obtain ⟨s, hse⟩ : ∃ s, l[k] = s := ⟨_, rfl⟩
        rw [hse] at ck hcw1
        clear hse ck0 hsl
        simp only [Option.getD_none] at hcw1
        go_wp2_with (go_at_call 91; refine (hcw1 _).mono ?_; rintro e w1 ⟨rfl, hb1⟩)
        go_ret
        refine ⟨_, rfl, ?_, bthen HB.out hb1⟩
        rw [HR9.out]
        exact ⟨rfl, .inl ⟨rfl, rfl⟩⟩
      | some x =>
        have HN9 := Lib.hid (wordsQ_step HWQ.out hkl hw)
        have hxl := wordOf_len hw
        have hxe : x.isEmpty = false := by simpa using hxl.1
        have hxn : x ≠ [] := hxl.1
        have hx30 : x.length ≤ 30 := hxl.2
        have hcw1 := HW.out
        rw [hw] at hcw1
        clear HW hw hne hxl
        obtain ⟨s, hse⟩ : ∃ s, l[k] = s := ⟨_, rfl⟩
        rw [hse] at ck hcw1
        clear hse ck0 hsl
        simp only [Option.getD_some] at hcw1
        go_wp2_with fail
        refine (hcw1 _).mono ?_
        rintro e w1 ⟨rfl, hb1⟩
        have HB1 := Lib.hid (bthen HB.out hb1)
        have HO1 : w1.ownsRow w.heap.size 9 1 u5 pre.length (pre.map encW) := row_stay HO.out fun j hj => hb1.block j (World.ownsRow.lt HO.out j hj).2
        have hbs := HB1.out.size
        have hplb : pre.length ≤ 1000 := by have := HPL.out; omega
        clear hb1 HO hcw1
        go_wp2_with (at_builtin; refine wpList_append_own _ rfl _ _ 28 rfl w.heap.size 9 i0 _ 1 16 Tryz.underlying28 hi hz0 hz1 hz2 rfl (by decide) _ _ _ rfl (HO1.alloc _) ⟨w1.heap.size, 0, none⟩ 1 1 [.string ⟨x.toArray⟩] rfl rfl (World.news_of_block (cs := #[.string ⟨x.toArray⟩]) (t := 9) (fr := (0, 0)) (heap_alloc_new w1 _)) (by simp [Value.oneCell']) ?c3 ?c4 ?c5 ?_)
        case c3 => unfold maxLen; omega
        case c4 => omega
        case c5 => simp; omega
        intro v' w2 ho2 hg2 _
        have HO2 : Hid (OwnsStrs w2 w.heap.size v' (pre ++ [x])) := Lib.hid (by unfold OwnsStrs; simpa [encW] using ho2)
        have HB2 : Hid (Below w.heap.size w w2) := Lib.hid ((HB1.out.alloc hbs _).grown hg2 (by simp; omega) (fun j e => (HO1.lt j e).1))
        have HPO2 : Hid (∀ z ∈ pre ++ [x], z.length ≤ 30) := Lib.hid (fun z hz => by
          rcases List.mem_append.1 hz with h | h
          · exact HPO.out z h
          · simp at h; subst h; exact hx30)
        have HPL2 : Hid ((pre ++ [x]).length = k + 1) := Lib.hid (by have := HPL.out; simp; omega)
        clear ho2 hg2
        go_wp2
        go_roundw
        case rel => exact ⟨k + 1, pre ++ [x], by go_num, by omega, HPL2, HN9, HPO2, HO2, HB2⟩
        case measure => simp [intOf]; omega
    · obtain rfl : k = l.length := by omega
      have HWS := Lib.hid (wordsQ_end HWQ.out)
      have hst := strsAt_of_owns HO.out (by have := HPL.out; omega)
      obtain ⟨a5, c5, rfl, hle5, hm5, hc5⟩ := hst
      have hplen : pre.length ≤ 1000 := by rw [HPL.out]; exact hl
      by_cases hln : l = []
      · have hp0 : pre.length = 0 := by rw [HPL.out, hln]; rfl
        have HR9 : Hid (R = []) := Lib.hid (by rw [← HR.out, phraseQ, if_pos hln])
        have g0 : ((pre.length : Int) == 0) = true := by simp [List.length_eq_zero_iff.1 hp0]
        clear hp0 hln HWQ HWS HPL
        go_wp2
        go_ret
        refine ⟨_, rfl, ?_, HB.out⟩
        rw [HR9.out]
        exact ⟨rfl, .inl ⟨rfl, rfl⟩⟩
      · have hp0 : 0 < pre.length := by rw [HPL.out]; exact List.length_pos_iff.2 hln
        have HRW : Hid (R = hitP (fun ws => occ ws pre) P) := Lib.hid (by rw [← HR.out, phraseQ, if_neg hln, HWS.out, HALL.out]; rfl)
        have g0 : ((pre.length : Int) == 0) = false := by rw [beq_eq_false_iff_ne]; omega
        have HC5 := Lib.hid hc5
        have HB5 := HB
        obtain ⟨w5, rfl⟩ : ∃ w5 : World, w5 = wr := ⟨_, rfl⟩
        clear hln HWQ HWS HPL HO HB hc5
        go_wp2
        go_loopw [8, 9] (fun u i wr => ∃ k : Nat, i = .int .i64 k ∧ k ≤ P.length ∧ Hid (HitsR w5.heap.size wr u (hitP (fun ws => occ ws pre) (P.take k))) ∧ Hid (Below w5.heap.size w5 wr)) (fun _ i _ => P.length - (intOf i).toNat)
        case atStart => exact ⟨0, rfl, by omega, Lib.hid ⟨rfl, .inl ⟨rfl, rfl⟩⟩, Lib.hid (Below.refl _ _)⟩
        case round =>
          obtain ⟨k, rfl, hk, HO, HBB⟩ := hrel
          have HB := Lib.hid (HB5.out.trans (HBB.out.mono HB5.out.size))
          have hbb := HBB.out.size
          have hbs := HB.out.size
          have cyr : wr.cell? ⟨y, 0, none⟩ = some (.slice a P.length c) := cell_same (HB.out.block y hyl) cy
          by_cases hkl : k < P.length
          · have hki : (k : Int) < (P.length : Int) := by omega
            obtain ⟨b, off, rfl, hT, k1, k2⟩ := HC.out k hkl
            have hbl := World.block_lt_of_cell? w _ k1
            have c1 : w.cell? ⟨b, off + k * 2, none⟩ = some (.int .i64 P[k].1.1) := k1
            have c2 : wr.cell? ⟨b, off + k * 2 + 1, none⟩ = some P[k].2 := cell_same (HB.out.block b hbl) k2
            have HT := Lib.hid (List.take_succ_eq_append_getElem hkl)
            have hst := HPs.out P[k] (List.getElem_mem hkl)
            obtain ⟨⟨⟨i1, ws⟩, u0⟩, hx⟩ : ∃ z, P[k] = z := ⟨_, rfl⟩
            rw [hx] at c1 c2 HT hst
            simp only at c1 c2 hst
            obtain ⟨au, cu, rfl, hu1, hu2, hu3⟩ := hst
            have HU := Lib.hid hu3
            have HC1 := Lib.hid c1
            clear k1 k2 hx hu3 c1
            obtain ⟨wo, rfl⟩ : ∃ wo : World, wo = wr := ⟨_, rfl⟩
            go_wp2
            go_loopw [10, 12] (fun n j wi => ∃ m : Nat, j = .int .i64 m ∧ m ≤ ws.length + 1 - pre.length ∧ n = .int .i64 (occS ws pre m) ∧ Hid (Below wo.heap.size wo wi)) (fun _ j _ => ws.length + 1 - (intOf j).toNat)
            case atStart => exact ⟨0, rfl, by omega, rfl, Lib.hid (Below.refl _ _)⟩
            case round =>
              obtain ⟨m, rfl, hm, rfl, HBm⟩ := hrel
              have hnl : occS ws pre m ≤ 1001 := by
                unfold occS
                refine Nat.le_trans List.countP_le_length ?_
                rw [List.length_range]; omega
              by_cases hml : m + pre.length ≤ ws.length
              · have hmi : (m : Int) + (pre.length : Int) ≤ (ws.length : Int) := by omega
                have HOCC := Lib.hid (occS_succ ws pre m)
                obtain ⟨n, hn⟩ : ∃ n, occS ws pre m = n := ⟨_, rfl⟩
                rw [hn] at HOCC hnl ⊢
                clear hn
                go_wp2
                go_loopw [13, 14] (fun sm j wi => ∃ (q : Nat) (B : Bool), j = .int .i64 q ∧ q ≤ pre.length ∧ sm = .bool B ∧ Hid (B = decide ((ws.drop m).take q = pre.take q)) ∧ Hid (Below wo.heap.size wo wi)) (fun _ j _ => pre.length - (intOf j).toNat)
                case atStart => exact ⟨0, true, rfl, by omega, rfl, Lib.hid (by simp), HBm⟩
                case round =>
                  obtain ⟨q, B, rfl, hq, rfl, HSM, HBq⟩ := hrel
                  by_cases hql : q < pre.length
                  · have hqi : (q : Int) < (pre.length : Int) := by omega
                    have hmq : m + q < ws.length := by omega
                    have hmqi : (m : Int) + (q : Int) < (ws.length : Int) := by omega
                    obtain ⟨bw, ow, rfl, hTw, kw⟩ := HU.out (m + q) hmq
                    have cw : wr.cell? ⟨bw, ow + (m + q), none⟩ = some (encW ws[m + q]) := cell_same ((HB.out.trans (HBq.out.mono hbs)).block bw (World.block_lt_of_cell? w _ kw)) kw
                    obtain ⟨bp, op, rfl, kp⟩ := HC5.out q hql
                    have cp : wr.cell? ⟨bp, op + q, none⟩ = some (encW pre[q]) := cell_same ((HBB.out.trans (HBq.out.mono HBB.out.size)).block bp (World.block_lt_of_cell? w5 _ kp)) kp
                    have HST := Lib.hid (same_step (ws := ws) (pre := pre) hmq hql)
                    obtain ⟨x, hx⟩ : ∃ x, ws[m + q] = x := ⟨_, rfl⟩
                    obtain ⟨z, hz⟩ : ∃ z, pre[q] = z := ⟨_, rfl⟩
                    rw [hx] at cw HST
                    rw [hz] at cp HST
                    unfold encW at cw cp
                    clear kw kp hx hz
                    cases B with
                    | false =>
                      have HSM2 : Hid (false = decide ((ws.drop m).take (q + 1) = pre.take (q + 1))) := Lib.hid (by
                        symm; rw [decide_eq_false_iff_not, HST.out]
                        rintro ⟨h1, _⟩
                        have := HSM.out
                        rw [decide_eq_true h1] at this; cases this)
                      clear HSM HST
                      go_wp2_with fail
                      go_quiet (fail)
                      go_wp2
                      go_roundw
                      case rel => exact ⟨q + 1, false, by go_num, by omega, rfl, HSM2, Lib.hid (HBq.out.drewN _)⟩
                      case measure => simp [intOf]; omega
                    | true =>
                      have hs1 : (ws.drop m).take q = pre.take q := of_decide_eq_true HSM.out.symm
                      by_cases hxz : x = z
                      · have HSM2 : Hid (true = decide ((ws.drop m).take (q + 1) = pre.take (q + 1))) := Lib.hid (by
                          symm; rw [decide_eq_true_iff, HST.out]; exact ⟨hs1, hxz⟩)
                        have g1 : (x == z) = true := by simpa using hxz
                        clear HSM HST hs1 hxz
                        go_wp2_with fail
                        have hw1 : IntKind.i64.wrap ((m : Int) + (q : Int)) = (m : Int) + (q : Int) := IntWalk.i64_in _ (by omega)
                        have hw2 : (0 : Int) ≤ (m : Int) + (q : Int) := by omega
                        have hw3 : ((m : Int) + (q : Int)).toNat = m + q := by omega
                        go_quiet (fail)
                        clear hw1 hw2 hw3
                        go_wp2
                        go_roundw
                        case rel => exact ⟨q + 1, true, by go_num, by omega, rfl, HSM2, Lib.hid (HBq.out.drewN _)⟩
                        case measure => simp [intOf]; omega
                      · have HSM2 : Hid (false = decide ((ws.drop m).take (q + 1) = pre.take (q + 1))) := Lib.hid (by
                          symm; rw [decide_eq_false_iff_not, HST.out]; exact fun h => hxz h.2)
                        have g1 : (x == z) = false := by simpa using hxz
                        clear HSM HST hs1 hxz
                        go_wp2_with fail
                        have hw1 : IntKind.i64.wrap ((m : Int) + (q : Int)) = (m : Int) + (q : Int) := IntWalk.i64_in _ (by omega)
                        have hw2 : (0 : Int) ≤ (m : Int) + (q : Int) := by omega
                        have hw3 : ((m : Int) + (q : Int)).toNat = m + q := by omega
                        go_quiet (fail)
                        clear hw1 hw2 hw3
                        go_wp2
                        go_roundw
                        case rel => exact ⟨q + 1, false, by go_num, by omega, rfl, HSM2, Lib.hid (HBq.out.drewN _)⟩
                        case measure => simp [intOf]; omega
                  · obtain rfl : q = pre.length := by omega
                    cases B with
                    | false =>
                      have HN : Hid (n = occS ws pre (m + 1)) := Lib.hid (by
                        have h1 : ¬ pre.isPrefixOf (ws.drop m) = true := fun h => by
                          have := HSM.out
                          rw [decide_eq_true (same_end.2 h)] at this; cases this
                        rw [HOCC.out, if_neg h1]; rfl)
                      clear HSM HOCC
                      go_wp2
                      go_roundw
                      case rel => exact ⟨m + 1, by go_num, by omega, by rw [← HN.out], HBq⟩
                      case measure => simp [intOf]; omega
                    | true =>
                      have HN : Hid (n + 1 = occS ws pre (m + 1)) := Lib.hid (by
                        have h1 : pre.isPrefixOf (ws.drop m) = true := same_end.1 (of_decide_eq_true HSM.out.symm)
                        rw [HOCC.out, if_pos h1])
                      clear HSM HOCC
                      go_wp2
                      go_roundw
                      case rel => exact ⟨m + 1, by go_num, by omega, by rw [← HN.out]; go_num, HBq⟩
                      case measure => simp [intOf]; omega
              · have HE : Hid (occS ws pre m = occ ws pre) := Lib.hid (by unfold occ; congr 1; omega)
                have hmi : ¬ ((m : Int) + (pre.length : Int) ≤ (ws.length : Int)) := by omega
                have hml2 : (hitP (fun ws => occ ws pre) (P.take k)).length ≤ 256 := by
                  have := hitP_len (fun ws => occ ws pre) (P.take k)
                  rw [List.length_take] at this
                  omega
                obtain ⟨n, hn⟩ : ∃ n, occS ws pre m = n := ⟨_, rfl⟩
                rw [hn] at hnl HE ⊢
                have HBr := Lib.hid (HB.out.trans (HBm.out.mono hbs))
                have HBBr := Lib.hid (HBB.out.trans (HBm.out.mono HBB.out.size))
                have hbr := HBr.out.size
                have hbbr := HBBr.out.size
                have c1 : wr.cell? ⟨b, off + k * 2, none⟩ = some (.int .i64 i1) := cell_same (HBr.out.block b hbl) HC1.out
                have cyr2 : wr.cell? ⟨y, 0, none⟩ = some (.slice (some ⟨b, off, none⟩) P.length c) := cell_same (HBr.out.block y hyl) cy
                have HOr := Lib.hid (HO.out.stay HBm.out)
                clear hn hml HO HBm
                by_cases hpos : 0 < n
                · have HSU : Hid (hitP (fun ws => occ ws pre) (P.take k) ++ [(i1, n)] = hitP (fun ws => occ ws pre) (P.take (k + 1))) := Lib.hid (by
                    rw [HT.out, hitP_yes (by simp only; rw [← HE.out]; exact hpos)]; simp only; rw [HE.out])
                  obtain ⟨M, hM⟩ : ∃ M, hitP (fun ws => occ ws pre) (P.take k) = M := ⟨_, rfl⟩
                  rw [hM] at HOr HSU hml2
                  have hrow : wr.ownsRow w5.heap.size 64 2 u8 M.length (M.flatMap hitC) := HOr.out
                  have hpi : (0 : Int) < (n : Int) := by omega
                  clear hM HOr
                  go_wp2_with (at_builtin; refine wpList_append_own _ rfl _ _ 39 rfl w5.heap.size 64 j0 _ 2 16 Tryz.underlying39 hj hy0 hy1 hy2 rfl (by decide) _ _ _ rfl (hrow.alloc _) ⟨wr.heap.size, 0, none⟩ 1 1 (hitC (i1, n)) rfl rfl (World.news_of_block (cs := (hitC (i1, n)).toArray) (t := 64) (fr := (0, 0)) (heap_alloc_new _ _)) (by simp [Value.oneCell', hitC]) ?d3 ?d4 ?d5 ?_)
                  case d3 => unfold maxLen; omega
                  case d4 => omega
                  case d5 => first | omega | (simp; omega)
                  intro v' w2 ho2 hg2 _
                  have HO2 : Hid (HitsR w5.heap.size w2 v' (hitP (fun ws => occ ws pre) (P.take (k + 1)))) := Lib.hid (by
                    rw [← HSU.out]
                    unfold HitsR
                    simpa [List.flatMap_append] using ho2)
                  have HBB2 : Hid (Below w5.heap.size w5 w2) := Lib.hid ((HBBr.out.alloc hbbr _).grown hg2 (by simp; omega) (fun j e => (hrow.lt j e).1))
                  clear ho2 hg2
                  go_wp2
                  go_roundw
                  case rel => exact ⟨k + 1, by go_num, by omega, HO2, HBB2⟩
                  case measure => simp [intOf]; omega
                · have HO2 : Hid (HitsR w5.heap.size wr u8 (hitP (fun ws => occ ws pre) (P.take (k + 1)))) := Lib.hid (by
                    rw [HT.out, hitP_no (by simp only; rw [← HE.out]; exact hpos)]; exact HOr.out)
                  have hpi : ¬ (0 : Int) < (n : Int) := by omega
                  clear HOr
                  go_wp2
                  go_roundw
                  case rel => exact ⟨k + 1, by go_num, by omega, HO2, HBBr⟩
                  case measure => simp [intOf]; omega
          · have HO9 : Hid (HitsR w.heap.size wr u8 R) := Lib.hid (by
              have := HO.out
              rw [List.take_of_length_le (by omega)] at this
              rw [HRW.out]; exact row_mono this HB5.out.size)
            clear HO
            go_wp2
            go_ret
            exact ⟨_, rfl, HO9.out, HB.out⟩

set_option maxRecDepth 100000 in
theorem refFind_any {T : Nat → Prop} {y : Nat} {D : List Dc} (w : World) (h : RefAt T w y D) (hA : Asc D) (hI : Ids D) (s : List UInt8) (hs : s.length ≤ 1000000) :
    Calls Tryz.prog 94 #[.pointer (some ⟨y, 0, none⟩), .string ⟨s.toArray⟩] w fun e w' => ∃ v, e = .returned v ∧ HitsR w.heap.size w' v (docsQ D s) ∧ Below w.heap.size w w' := by
  have hb1 : Below w.heap.size w (w.alloc (.cells #[.string ⟨s.toArray⟩] 9)) := (Below.refl _ w).alloc (Nat.le_refl _) _
  have hst := strsAt_new w [s] (by simp)
  have hph := refPhrase_any _ (h.below hb1) hA hI _ [s] hst (by simp) (fun x hx => by rw [List.mem_singleton.1 hx]; exact hs)
  rw [phraseQ_one] at hph
  have HPH := Lib.hid hph; have HB1 := Lib.hid hb1
  clear h hb1 hst hph
  go_enter Tryz.func94, Tryz.ntmps94
  go_wp2_with fail
  refine HPH.out.mono ?_
  rintro e w2 ⟨v, rfl, hr, hb2⟩
  have HR := Lib.hid (row_mono hr HB1.out.size); have HB2 := Lib.hid (bthen HB1.out hb2)
  clear hr hb2 HPH
  go_wp2
  go_ret
  exact ⟨_, rfl, HR.out, HB2.out⟩
end Go.Proofs.YtogjgibaolppfaaGreatDoor
/- The reference's count and Hits. -/
namespace Go.Proofs.YtogjgibaolppfaaGreatDoor
open Go.RowKit Go.Sort Go.Proofs Go.Maps Go.Lib

/-- the count of a document in a list of hits -/
def cntH : List (Int × Nat) → Int → Nat
  | [], _ => 0
  | y :: l, id => if y.1 = id then y.2 else cntH l id
theorem cntH_none : ∀ {l : List (Int × Nat)} {id : Int}, (∀ y ∈ l, y.1 ≠ id) → cntH l id = 0
  | [], _, _ => rfl
  | y :: l, id, h => by
    rw [cntH, if_neg (h y (by simp)), cntH_none fun z hz => h z (by simp [hz])]
theorem cntH_some : ∀ {l : List (Int × Nat)} {id : Int} {n : Nat}, (∃ y ∈ l, y.1 = id) → (∀ y ∈ l, y.1 = id → y.2 = n) → cntH l id = n
  | [], _, _, ⟨_, h, _⟩, _ => by cases h
  | y :: l, id, n, hx, hn => by
    by_cases e : y.1 = id
    · rw [cntH, if_pos e]; exact hn y (by simp) e
    · rw [cntH, if_neg e]
      refine cntH_some ?_ fun z hz => hn z (by simp [hz])
      obtain ⟨z, hz, he⟩ := hx
      rcases List.mem_cons.1 hz with rfl | hz
      · exact absurd he e
      · exact ⟨z, hz, he⟩
theorem cntH_at : ∀ {l : List (Int × Nat)} {id : Int} {k : Nat} (hk : k < l.length), (∀ j (h : j < l.length), j < k → l[j].1 ≠ id) → l[k].1 = id → cntH l id = l[k].2
  | [], _, _, h, _, _ => by simp at h
  | y :: l, id, 0, _, _, he => by rw [cntH, if_pos (by simpa using he)]; rfl
  | y :: l, id, k + 1, hk, hne, he => by
    rw [cntH, if_neg (show ¬ y.1 = id from hne 0 (by simp) (by omega))]
    exact cntH_at (l := l) (k := k) (by simpa using hk) (fun j h hj => hne (j + 1) (by simpa using h) (by omega)) he
theorem cntH_hits {D : List Dc} {p : Prt} {id : Int} (h1 : 1 ≤ id) (h2 : id ≤ 256) : cntH (hitsP D p) id = cD D p id := by
  unfold hitsP
  by_cases h : 0 < cD D p id
  · exact cntH_some ⟨(id, cD D p id), mem_hitsF.2 ⟨h1, h2, h, rfl⟩, rfl⟩ fun y hy e => by have := (mem_hitsF.1 hy).2.2.2; rw [this, e]
  · rw [cntH_none fun y hy e => by
      have h3 := (mem_hitsF.1 hy).2.2
      rw [e] at h3
      omega]
    omega
set_option maxRecDepth 100000 in
set_option maxHeartbeats 2000000 in
theorem refCount_any (v : Value) (l : List (Int × Nat)) (x : Int) (w : World) (h : HitsAt w v l) :
    Calls Tryz.prog 86 #[v, .int .i64 x] w fun e w' => e = .returned (.int .i64 (cntH l x : Int)) ∧ w = w' := by
  obtain ⟨A, cap, rfl, hl, hc, hce⟩ := h
  have HC := Lib.hid hce
  have HN : Hid (∀ k, k ≤ l.length → (∀ j (h : j < l.length), j < k → l[j].1 ≠ x) → (k = l.length → cntH l x = 0) ∧ ∀ hk : k < l.length, l[k].1 = x → cntH l x = l[k].2) := Lib.hid (fun k hk hne => ⟨fun e => cntH_none (fun y hy => by
      obtain ⟨j, hj, he⟩ := List.getElem_of_mem hy
      rw [← he]
      exact hne j hj (by omega)), fun hk he => cntH_at hk hne he⟩)
  obtain ⟨R, hR⟩ : ∃ R, cntH l x = R := ⟨_, rfl⟩
  rw [hR] at HN ⊢
  clear hce hR
  go_enter Tryz.func86, Tryz.ntmps86
  go_wp2
  go_loop [5] (fun i => ∃ k : Nat, i = .int .i64 k ∧ k ≤ l.length ∧ Hid (∀ j (h : j < l.length), j < k → l[j].1 ≠ x)) (fun i => l.length - (intOf i).toNat)
  case atStart => exact ⟨0, rfl, by omega, Lib.hid (fun j _ h => by omega)⟩
  case round =>
    obtain ⟨k, rfl, hk, HJ⟩ := hrel
    by_cases hlt : k < l.length
    · have k1 : (k : Int) < (l.length : Int) := by omega
      obtain ⟨g, o, rfl, c0, c1⟩ := HC.out k hlt
      have hy := (HN.out k hk HJ.out).2 hlt
      have HJ2 : Hid (l[k].1 ≠ x → ∀ j (h : j < l.length), j < k + 1 → l[j].1 ≠ x) := Lib.hid (fun hne j h hj => by
        by_cases e : j = k
        · subst e; exact hne
        · exact HJ.out j h (by omega))
      rw [← Nat.add_assoc] at c1
      obtain ⟨⟨y, n⟩, hy0⟩ : ∃ y, l[k] = y := ⟨_, rfl⟩
      rw [hy0] at c0 c1 hy HJ2
      simp only at c0 c1 hy HJ2
      by_cases he : y = x
      · have HR := Lib.hid (hy he)
        subst he
        clear hy hy0 HJ2 HJ HN
        go_wp2
        go_ret
        exact ⟨by first | (rw [HR.out]; done) | (rw [HR.out]; rfl), rfl⟩
      · have g1 : (y == x) = false := by simpa using he
        have HJ3 := Lib.hid (HJ2.out he)
        clear hy hy0 HJ2 HJ HN he
        go_wp2
        go_round
        case rel => exact ⟨k + 1, by go_num, by omega, HJ3⟩
        case measure => simp [intOf]; omega
    · obtain rfl : k = l.length := by omega
      have HR := Lib.hid ((HN.out l.length hk HJ.out).1 rfl)
      clear HN HJ
      go_wp2
      go_ret
      exact ⟨by rw [HR.out]; rfl, rfl⟩
set_option maxRecDepth 100000 in
set_option maxHeartbeats 4000000 in
theorem refHits_any {T : Nat → Prop} {y : Nat} {D : List Dc} (w : World) (h : RefAt T w y D) (hA : Asc D) (hI : Ids D) (ho : ∀ d ∈ D, ∀ x ∈ d.2, okWord x) (p : Prt) (hp : okPrt p) (a : Option Addr) (n c : Nat) (hw : WordsO w (.slice a n c) p.words) :
    Calls Tryz.prog 87 #[.pointer (some ⟨y, 0, none⟩), .agg #[.int .i64 (p.kind : Int), .slice a n c, .bool p.neg]] w fun e w' => ∃ v, e = .returned v ∧ HitsR w.heap.size w' v (hitsP D p) ∧ Below w.heap.size w w' := by
  obtain ⟨w0, hw0⟩ : ∃ w0, w.alloc (.cells #[.int .i64 (p.kind : Int), .slice a n c, .bool p.neg] 53) = w0 := ⟨_, rfl⟩
  have hb0 : Below w.heap.size w w0 := by rw [← hw0]; exact (Below.refl _ w).alloc (Nat.le_refl _) _
  have c0 : w0.cell? ⟨w.heap.size, 0, none⟩ = some (.int .i64 (p.kind : Int)) := by rw [← hw0, World.cell?_alloc_new]; rfl
  have c1 : w0.cell? ⟨w.heap.size, 1, none⟩ = some (.slice a n c) := by rw [← hw0, World.cell?_alloc_new]; rfl
  have h0 := h.below hb0
  have hw1 := hw.below hb0
  have hstr := hw1.at (by have := hp.few; omega)
  have hx30 : ∀ s ∈ p.words, s.length ≤ 1000000 := fun s hs => by have := (hp.ok s hs).2.1; omega
  have HB0 := Lib.hid hb0
  go_enter Tryz.func87, Tryz.ntmps87
  go_upto_region 1 with fail
  rcases hp.kind with hk | hk | hk
  · obtain ⟨x, hx⟩ : ∃ x, p.words = [x] := by
      have := hp.one (by omega)
      match hl : p.words, this with
      | [x], _ => exact ⟨x, rfl⟩
    have hq := refFind_any w0 h0 hA hI x (hx30 x (by rw [hx]; simp))
    rw [hits_docs1 D hp hk hx] at hq
    have HQ := Lib.hid hq
    obtain ⟨b, off, hab, cw⟩ : ∃ b off, a = some ⟨b, off, none⟩ ∧ w0.cell? ⟨b, off, none⟩ = some (.string ⟨x.toArray⟩) := by
      obtain ⟨a', c', e, -, -, hc⟩ := hstr
      injection e with e1 _ _
      obtain ⟨b, off, k1, k2⟩ := hc 0 (by rw [hx]; simp)
      refine ⟨b, off, by rw [e1]; exact k1, ?_⟩
      simpa [hx, encW] using k2
    have hn1 : n = 1 := by
      obtain ⟨a', c', e, -⟩ := hstr
      injection e with _ e2 _
      rw [e2, hx]; rfl
    subst hab
    subst hn1
    rw [hk] at c0
    clear hq hstr hw1 h0 hw hw0 hb0
    go_wp2_with (first
      | (go_at_call 94; (with_reducible (refine HQ.out.mono ?_)); rintro e w1 ⟨v, rfl, hh, hb⟩)
      | fail)
    go_ret
    exact ⟨v, rfl, row_mono hh HB0.out.size, bthen HB0.out hb⟩
  · have hq := refPhrase_any w0 h0 hA hI _ p.words hstr (by have := hp.few; omega) hx30
    rw [hits_phr D hp hk] at hq
    have HQ := Lib.hid hq
    rw [hk] at c0
    clear hq hstr hw1 h0 hw hw0 hb0
    go_wp2_with (first
      | (go_at_call 128; (with_reducible (refine HQ.out.mono ?_)); rintro e w1 ⟨v, rfl, hh, hb⟩)
      | fail)
    go_ret
    exact ⟨v, rfl, row_mono hh HB0.out.size, bthen HB0.out hb⟩
  · obtain ⟨x, hx⟩ : ∃ x, p.words = [x] := by
      have := hp.one (by omega)
      match hl : p.words, this with
      | [x], _ => exact ⟨x, rfl⟩
    have hq := refPrefix_any w0 h0 hA hI ho x (hx30 x (by rw [hx]; simp))
    rw [hits_pref D hp hk hx] at hq
    have HQ := Lib.hid hq
    obtain ⟨b, off, hab, cw⟩ : ∃ b off, a = some ⟨b, off, none⟩ ∧ w0.cell? ⟨b, off, none⟩ = some (.string ⟨x.toArray⟩) := by
      obtain ⟨a', c', e, -, -, hc⟩ := hstr
      injection e with e1 _ _
      obtain ⟨b, off, k1, k2⟩ := hc 0 (by rw [hx]; simp)
      refine ⟨b, off, by rw [e1]; exact k1, ?_⟩
      simpa [hx, encW] using k2
    have hn1 : n = 1 := by
      obtain ⟨a', c', e, -⟩ := hstr
      injection e with _ e2 _
      rw [e2, hx]; rfl
    subst hab
    subst hn1
    rw [hk] at c0
    clear hq hstr hw1 h0 hw hw0 hb0
    go_wp2_with (first
      | (go_at_call 129; (with_reducible (refine HQ.out.mono ?_)); rintro e w1 ⟨v, rfl, hh, hb⟩)
      | fail)
    go_ret
    exact ⟨v, rfl, row_mono hh HB0.out.size, bthen HB0.out hb⟩
end Go.Proofs.YtogjgibaolppfaaGreatDoor
/- The reference's Found: plain facts, and rows of hits. -/
namespace Go.Proofs.YtogjgibaolppfaaGreatDoor
open Go.RowKit Go.Sort Go.Proofs Go.Maps Go.Lib

theorem found_snoc (D : List Dc) (d : Dc) (ps : List Prt) : foundD (D ++ [d]) ps = foundD D ps ++ if okL ps d.2 = true then [(d.1, sumL ps d.2)] else [] := by
  unfold foundD
  rw [List.filter_append, List.map_append]
  by_cases h : okL ps d.2 = true <;> simp [h]
theorem insAll_snoc (l : List (Int × Nat)) (h : Int × Nat) : insAll (l ++ [h]) = insH (insAll l) h := by
  unfold insAll
  rw [List.foldl_append]
  rfl
theorem insH_len (l : List (Int × Nat)) (h : Int × Nat) : (insH l h).length = l.length + 1 := by
  unfold insH
  have := congrArg List.length (List.takeWhile_append_dropWhile (p := fun x : Int × Nat => decide (h.2 ≤ x.2)) (l := l))
  rw [List.length_append] at this
  rw [List.length_append, List.length_cons]
  omega
theorem insAll_len : ∀ (l : List (Int × Nat)), (insAll l).length = l.length := by
  intro l
  have h : ∀ (l acc : List (Int × Nat)), (l.foldl insH acc).length = acc.length + l.length := by
    intro l
    induction l with
    | nil => intro acc; simp
    | cons x l ih => intro acc; rw [List.foldl_cons, ih, insH_len, List.length_cons]; omega
  have := h l []
  unfold insAll
  simpa using this
/-- where the insertion is: the first place whose count is less -/
theorem insH_at {l : List (Int × Nat)} {h : Int × Nat} {at_ : Nat} (hl : at_ ≤ l.length) (h1 : ∀ j (hj : j < l.length), j < at_ → h.2 ≤ l[j].2) (h2 : ∀ (hj : at_ < l.length), ¬ h.2 ≤ l[at_].2) : insH l h = l.take at_ ++ h :: l.drop at_ := by
  unfold insH
  have ht : l.takeWhile (fun x => decide (h.2 ≤ x.2)) = l.take at_ ∧ l.dropWhile (fun x => decide (h.2 ≤ x.2)) = l.drop at_ := by
    induction l generalizing at_ with
    | nil => simp
    | cons x l ih =>
      cases at_ with
      | zero =>
        have := h2 (by simp)
        have hx : ¬ h.2 ≤ x.2 := this
        simp [hx]
      | succ k =>
        have hx : h.2 ≤ x.2 := h1 0 (by simp) (by omega)
        have := ih (at_ := k) (by simpa using hl) (fun j hj hjk => h1 (j + 1) (by simpa using hj) (by omega)) (fun hj => h2 (by simpa using hj))
        simp [hx, this.1, this.2]
  rw [ht.1, ht.2]
theorem cL_at {D : List Dc} (hA : Asc D) {d : Dc} (hd : d ∈ D) (p : Prt) : cD D p d.1 = cL p d.2 := docsF_at hA hd (cL p)
theorem okL_snoc (ps : List Prt) (p : Prt) (x : List Wd) : okL (ps ++ [p]) x = (okL ps x && (decide (0 < cL p x) != p.neg)) := by rw [okL_append, okL_one]
theorem sumL_snoc (ps : List Prt) (p : Prt) (x : List Wd) : sumL (ps ++ [p]) x = sumL ps x + if p.neg = true then 0 else cL p x := by rw [sumL_append, sumL_one]
/-! rows of hits -/
theorem hitC_take : ∀ (P : List (Int × Nat)) (k : Nat), (P.take k).flatMap hitC = (P.flatMap hitC).take (k * 2)
  | P, 0 => by simp
  | [], k + 1 => by simp
  | x :: P, k + 1 => by
    rw [List.take_succ_cons, List.flatMap_cons, hitC_take P k, List.flatMap_cons]
    show _ = (hitC x ++ _).take ((k + 1) * 2)
    rw [show (k + 1) * 2 = (hitC x).length + k * 2 by simp [hitC]; omega, List.take_append, List.take_of_length_le (l := hitC x) (by omega), Nat.add_sub_cancel_left]
theorem hitC_drop : ∀ (P : List (Int × Nat)) (k : Nat), (P.drop k).flatMap hitC = (P.flatMap hitC).drop (k * 2)
  | P, 0 => by simp
  | [], k + 1 => by simp
  | x :: P, k + 1 => by
    rw [List.drop_succ_cons, hitC_drop P k, List.flatMap_cons]
    show _ = (hitC x ++ _).drop ((k + 1) * 2)
    rw [show (k + 1) * 2 = (hitC x).length + k * 2 by simp [hitC]; omega, List.drop_append]
    simp
theorem hitC_lens (l : List (Int × Nat)) : (l.flatMap hitC).length = l.length * 2 := by
  induction l with
  | nil => rfl
  | cons x l ih => rw [List.flatMap_cons, List.length_append, ih]; simp [hitC]; omega
theorem hits_one (l : List (Int × Nat)) : ∀ u ∈ l.flatMap hitC, u.oneCell' = true := by
  intro u hu
  obtain ⟨x, -, hu⟩ := List.mem_flatMap.1 hu
  simp only [hitC, List.mem_cons, List.not_mem_nil, or_false] at hu
  rcases hu with rfl | rfl <;> rfl
theorem hits_cut {base : Nat} {W : World} {a : Option Addr} {c : Nat} {l : List (Int × Nat)} (h : HitsR base W (.slice a l.length c) l) {k : Nat} (hk : k ≤ l.length) : HitsR base W (.slice a k c) (l.take k) := by
  have := row_cut h hk
  unfold HitsR
  rw [hitC_take, List.length_take, Nat.min_eq_left hk]
  exact this
def mkH (n : Nat) : Array Value := madeCells (Value.agg #[.int .i64 0, .int .i64 0]).cells (n * 2)
theorem make_hits (W : World) {n : Nat} (hn : n ≤ 1000) : (Instr.makeSlice 39 (.int .i64 0) (.int .i64 (n : Int))).run Tryz.prog W = .ok (.slice (some ⟨W.heap.size, 0, none⟩) 0 n) (W.alloc (.cells (mkH n) 64)) := by
  obtain ⟨i0, hi, hz0, hz1, hz2⟩ := info_parts infoHit
  have := run_make W 39 64 i0 _ Tryz.underlying39 hi hz0 .i64 .i64 0 (n : Int) (by omega) (by omega) (by rw [hz2]; omega) (by omega)
  rw [hz1] at this
  exact this
theorem hits_made (W : World) {n : Nat} (hn : n ≤ 1000) : HitsR W.heap.size (W.alloc (.cells (mkH n) 64)) (.slice (some ⟨W.heap.size, 0, none⟩) 0 n) [] := by
  obtain ⟨i0, hi, hz0, hz1, hz2⟩ := info_parts infoHit
  obtain ⟨w', h1, h2, -⟩ := run_make_own W W.heap.size 39 64 i0 _ 2 Tryz.underlying39 hi hz0 hz1 .i64 .i64 n (by rw [hz2]; omega) (by unfold maxLen; omega) (Nat.le_refl _)
  rw [make_hits W hn] at h1
  injection h1 with _ h3
  rw [h3]
  exact h2
theorem hits_news {base : Nat} {W : World} {g n c : Nat} {P : List (Int × Nat)} (h : HitsR base W (.slice (some ⟨g, 0, none⟩) n c) P) (k : Nat) : ∀ j u, ((P.drop k).flatMap hitC)[j]? = some u → W.cell? ((⟨g, k * 2, none⟩ : Addr).add j) = some u := by
  intro j u hu
  rw [hitC_drop, List.getElem?_drop] at hu
  have := World.ownsRow.cells h (g := g) rfl _ _ hu
  have e : (⟨g, k * 2, none⟩ : Addr).add j = (⟨g, 0, none⟩ : Addr).add (k * 2 + j) := by
    unfold Addr.add
    by_cases hj : j = 0
    · by_cases hk : k * 2 = 0
      · simp [hj, hk]
      · simp [hj, hk]
    · by_cases hk : k * 2 = 0
      · simp [hj, hk]
      · simp [hj]
  rw [e]
  exact this
theorem hits_app {base : Nat} (X : World) {P Q : List (Int × Nat)} {v : Value} (hP : HitsR base X v P) {ad : Addr} {c M N : Nat} (hM : Q.length = M) (hN : P.length + Q.length = N) (hnews : ∀ j u, (Q.flatMap hitC)[j]? = some u → X.cell? (ad.add j) = some u) (hbase : base ≤ X.heap.size) (hlen : P.length + Q.length ≤ 1000) :
    ∃ a' c' w', (Builtin.append_ #[39, 39] 39 #[v, .slice (some ad) M c]).run Tryz.prog X = .ok (.slice a' N c') w' ∧ HitsR base w' (.slice a' N c') (P ++ Q) ∧ Below base X w' ∧ (∀ k, k < X.heap.size → some k ≠ v.ownBlock → w'.heap[k]? = X.heap[k]?) ∧ (v ≠ .slice none 0 0 → ∃ g, a' = some ⟨g, 0, none⟩ ∧ base ≤ g) := by
  subst hM
  subst hN
  obtain ⟨i0, hi, hz0, hz1, hz2⟩ := info_parts infoHit
  obtain ⟨v', w', hr, h1, h2, h5⟩ := run_append_own (P := Tryz.prog) X base 39 39 64 i0 _ 2 16 Tryz.underlying39 hi hz0 hz1 hz2 rfl (by decide) v P.length (P.flatMap hitC) hP ad Q.length c (Q.flatMap hitC) (hitC_lens Q) hnews (hits_one Q) (by unfold maxLen; omega) (by omega) hbase
  obtain ⟨a', c', hv⟩ := row_form h1
  subst hv
  refine ⟨a', c', w', hr, ?_, (Below.refl base X).grown h2 hbase (fun j e => (World.ownsRow.lt hP j e).1), fun k hk hn => h2.block k hk hn, fun hv => ?_⟩
  case refine_2 =>
    rcases h1.2 with ⟨e0, -⟩ | ⟨g, cap, cur, e0, hb, -⟩
    · exact absurd (h5.1 e0).1 hv
    · injection e0 with q1 _ _
      exact ⟨g, q1, hb⟩
  unfold HitsR
  rw [List.length_append, List.flatMap_append]
  exact h1
theorem step_hits {ops : Array Oper} {o : Oper} {a : Act} {K : Act → World → Prop} {Qx : Exit → Act → World → Prop} {E : Prop} (X : World) (hgd : o.guard = none) (s x : Operand)
    (ho : o.op = .call { callee := .builtin .append, args := #[s, x], argTypes := #[39, 39] }) (hty : o.type = 39)
    {base : Nat} (P Q : List (Int × Nat)) (M N : Nat) (hM : Q.length = M) (hN : P.length + Q.length = N) {v : Value} (hs : a.eval s = v) (hP : HitsR base X v P) {ad : Addr} {c : Nat} (hx : a.eval x = .slice (some ad) M c) (hnews : ∀ j u, (Q.flatMap hitC)[j]? = some u → X.cell? (ad.add j) = some u) (hbase : base ≤ X.heap.size) (hlen : P.length + Q.length ≤ 1000)
    (h : ∀ a' c' w', HitsR base w' (.slice a' N c') (P ++ Q) → Below base X w' → (∀ k, k < X.heap.size → some k ≠ v.ownBlock → w'.heap[k]? = X.heap[k]?) → (v ≠ .slice none 0 0 → ∃ g, a' = some ⟨g, 0, none⟩ ∧ base ≤ g) → K (a.put o.dst (.slice a' N c')) w') :
    if Region.wanted o (yielded ops a.tmps) = true then Oper.wp Tryz.prog o a X K Qx else E := by
  have hw' : Region.wanted o (yielded ops a.tmps) = true := by simp [Region.wanted, hgd]
  rw [if_pos hw']
  obtain ⟨a', c', w', hr, h2, h3, h4, h5⟩ := hits_app X hP hM hN hnews hbase hlen (c := c)
  unfold Oper.wp execOp
  simp only [ho, hty, resolve, invoke, builtin, Sem.run_bind, Sem.run_pure, Result.andThen_ok, List.map_toArray, List.map_cons, List.map_nil, hs, hx, hr]
  exact h a' c' w' h2 h3 h4 h5
end Go.Proofs.YtogjgibaolppfaaGreatDoor
/- The reference's Found, walked. -/
namespace Go.Proofs.YtogjgibaolppfaaGreatDoor
open Go.RowKit Go.Sort Go.Proofs Go.Maps Go.Lib

/-- the block of the hit that is being reckoned -/
structure HB2 (b : Nat) (w wx : World) (id : Int) (n : Nat) : Prop where
  blk : wx.heap[b]? = some (.cells #[.int .i64 id, .int .i64 (n : Int)] 64 (0, 0))
  eq : w.heap.size = b
  bel : Below w.heap.size w wx
theorem HB2.size {b : Nat} {w wx : World} {id : Int} {n : Nat} (h : HB2 b w wx id n) : b < wx.heap.size := (Array.getElem?_eq_some_iff.1 h.blk).1
theorem HB2.below {b : Nat} {w wx wy : World} {id : Int} {n : Nat} (h : HB2 b w wx id n) (hb : Below wx.heap.size wx wy) : HB2 b w wy id n :=
  ⟨(hb.block _ h.size).trans h.blk, h.eq, h.bel.trans (hb.mono h.bel.size)⟩
theorem HB2.cells {b : Nat} {w wx : World} {id : Int} {n : Nat} (h : HB2 b w wx id n) : wx.cell? ⟨b, 0, none⟩ = some (.int .i64 id) ∧ wx.cell? ⟨b, 1, none⟩ = some (.int .i64 (n : Int)) ∧ wx.frozen? ⟨b, 1, none⟩ = false :=
  ⟨by rw [Lib.cell_of_heap h.blk]; rfl, by rw [Lib.cell_of_heap h.blk]; rfl, Lib.frozen_of_heap h.blk 1⟩
theorem HB2.set {b : Nat} {w wx : World} {id : Int} {n : Nat} (h : HB2 b w wx id n) (m : Nat) : HB2 b w (wx.setCell ⟨b, 1, none⟩ (.int .i64 (m : Int))) id m :=
  ⟨by simp [World.setCell, Array.getElem?_modify, h.blk], h.eq, h.bel.setCell (by rw [h.eq]; exact Nat.le_refl _) _⟩
set_option maxRecDepth 100000 in
set_option maxHeartbeats 8000000 in
theorem refFound_any {T : Nat → Prop} {y : Nat} {D : List Dc} (w : World) (h : RefAt T w y D) (hA : Asc D) (hI : Ids D) (ho : ∀ d ∈ D, ∀ x ∈ d.2, okWord x) (v : Value) (l : List Prt) (hl : PartsAt w v l) (hok : ∀ p ∈ l, okPrt p) (h8 : l.length ≤ 8) :
    Calls Tryz.prog 51 #[.pointer (some ⟨y, 0, none⟩), v] w fun e w' => ∃ u, e = .returned u ∧ HitsR w.heap.size w' u (resD D l) ∧ Below w.heap.size w w' := by
  rw [← insAll_res hA l]
  have HAL := Lib.hid (refAll_any w h)
  have HR := Lib.hid h
  have HPL := Lib.hid hl
  have hlen := h.len
  have hsm := h.small
  obtain ⟨al, cl, hve, -⟩ := hl.at
  subst hve
  go_enter Tryz.func51, Tryz.ntmps51
  go_wp2_with (first
    | (go_at_call 85; (with_reducible (refine HAL.out.mono ?_)); rintro e w1 ⟨va, rfl, hva, hb⟩; have HVA := Lib.hid hva; have HB1 := Lib.hid hb; obtain ⟨aa, ca, hvv⟩ := row_form hva; subst hvv; clear hva hb)
    | fail)
  simp only [List.length_map] at *
  have hs1 := HB1.out.size
  have HAT : Hid (∀ i (hi : i < D.length), ∃ g, aa = some ⟨g, 0, none⟩ ∧ w1.cell? ⟨g, i, none⟩ = some (.int .i64 D[i].1)) := Lib.hid (fun i hi => by
    rcases HVA.out.2 with ⟨e0, h0⟩ | ⟨g, cap, cur, e0, -⟩
    · simp at h0; rw [h0] at hi; simp at hi
    · injection e0 with e1 _ _
      refine ⟨g, e1, ?_⟩
      have hva2 := HVA.out
      have hc := World.ownsRow.cells hva2 (g := g) (by rw [e1]; rfl) i (.int .i64 D[i].1) (by simp [List.getElem?_eq_getElem hi])
      have ha : (⟨g, 0, none⟩ : Addr).add i = ⟨g, i, none⟩ := by unfold Addr.add; by_cases h0 : i = 0 <;> simp [h0]
      rw [ha] at hc
      exact hc)
  have HSM := Lib.hid hsm
  have HOK := Lib.hid hok
  have HA := Lib.hid hA
  have HI := Lib.hid hI
  have HOW := Lib.hid ho
  clear HAL h hl hok hA hI ho hsm
  go_loopw [5, 7] (fun v5 v7 wr => ∃ i : Nat, v7 = .int .i64 i ∧ i ≤ D.length ∧ Hid (HitsR w1.heap.size wr v5 (insAll (foundD (D.take i) l))) ∧ Hid (Below w1.heap.size w1 wr)) (fun _ v7 _ => D.length - (intOf v7).toNat)
  case atStart => exact ⟨0, rfl, Nat.zero_le _, Lib.hid (World.ownsRow_nil _ _ _ _), Lib.hid (Below.refl _ _)⟩
  case round =>
    obtain ⟨wo, hwo⟩ : ∃ wo, wo = wr := ⟨_, rfl⟩
    subst hwo
    obtain ⟨i, rfl, hi, HO, HB⟩ := hrel
    have hOl : (insAll (foundD (D.take i) l)).length ≤ 256 := by
      rw [insAll_len]
      unfold foundD
      rw [List.length_map]
      have h1 := List.length_filter_le (fun d : Dc => okL l d.2) (D.take i)
      rw [List.length_take] at h1
      omega
    obtain ⟨ao, co, hvo⟩ := row_form HO.out
    subst hvo
    by_cases hil : i < D.length
    · have hii : (i : Int) < (D.length : Int) := by omega
      have HFS := Lib.hid (found_snoc (D.take i) D[i] l)
      rw [← List.take_succ_eq_append_getElem hil] at HFS
      obtain ⟨g, hag, ck0⟩ := HAT.out i hil
      have ck := (HB.out.cell (World.block_lt_of_cell? w1 _ ck0)).trans ck0
      have hdm : D[i] ∈ D := List.getElem_mem hil
      have hx1000 := HSM.out D[i] hdm
      have hid := HI.out D[i] hdm
      have HCL : Hid (∀ p, cD D p D[i].1 = cL p D[i].2) := Lib.hid (fun p => cL_at HA.out hdm p)
      obtain ⟨⟨id, xw⟩, hd⟩ : ∃ d, D[i] = d := ⟨_, rfl⟩
      rw [hd] at HFS ck hx1000 hid HCL
      simp only at HFS ck hx1000 hid HCL
      obtain ⟨O, hO⟩ : ∃ O, insAll (foundD (D.take i) l) = O := ⟨_, rfl⟩
      have HINS : Hid (insAll (foundD (D.take (i + 1)) l) = if okL l xw = true then insH O (id, sumL l xw) else O) := Lib.hid (by
        rw [HFS.out]
        by_cases hc : okL l xw = true
        · rw [if_pos hc, if_pos hc, insAll_snoc, hO]
        · rw [if_neg hc, if_neg hc, List.append_nil, hO])
      rw [hO] at HO hOl ⊢
      subst hag
      have hbs := HB.out.size
      clear ck0 hd hO HFS hdm
      go_upto_region 8 with fail
      obtain ⟨w2, hw2⟩ : ∃ w2, wo.alloc (.cells #[.int .i64 id, .int .i64 0] 64) = w2 := ⟨_, rfl⟩
      have HH2 : Hid (HB2 wo.heap.size wo w2 id (sumL (l.take 0) xw)) := Lib.hid ⟨by rw [← hw2]; exact heap_alloc_new wo _, rfl, by rw [← hw2]; exact (Below.refl _ wo).alloc (Nat.le_refl _) _⟩
      rw [hw2]
      obtain ⟨bh, hbh⟩ : ∃ bh, wo.heap.size = bh := ⟨_, rfl⟩
      have HBH := Lib.hid hbh
      rw [hbh] at HH2 ⊢
      clear hw2 hbh
      have HSL : Hid (∀ k, sumL (l.take k) xw ≤ 8000) := Lib.hid (fun k => by
        have h1 := sumL_le (ps := l.take k) (fun p hp => HOK.out p (List.mem_of_mem_take hp)) xw
        have h2 : (l.take k).length ≤ 8 := by rw [List.length_take]; omega
        have h3 := Nat.mul_le_mul h2 hx1000
        omega)
      go_wp2_with fail
      go_loopw [9, 10, 11] (fun v9 v10 v11 wi => ∃ k : Nat, v10 = .int .i64 k ∧ k ≤ l.length ∧ v9 = .bool (okL (l.take k) xw) ∧ Hid (HB2 bh wo wi id (sumL (l.take k) xw))) (fun _ v10 _ _ => l.length - (intOf v10).toNat)
      case atStart => exact ⟨0, rfl, Nat.zero_le _, by simp [okL], HH2⟩
      case round =>
        clear HH2
        obtain ⟨k, rfl, hk, rfl, HH⟩ := hrel
        by_cases hkl : k < l.length
        · have hki : (k : Int) < (l.length : Int) := by omega
          have hW : Below w.heap.size w wr := bthen HB1.out (bthen HB.out HH.out.bel)
          obtain ⟨a', c', e', -, -, hcc⟩ := (HPL.out.below hW).at
          injection e' with e1 _ e3
          subst e1; subst e3
          obtain ⟨bq, oq, uq, rfl, c0, c1, c2, hwq⟩ := hcc k hkl
          obtain ⟨aq, cq, huq⟩ := hwq.form
          subst huq
          have hpok := HOK.out l[k] (List.getElem_mem hkl)
          have HT1 : Hid (l.take (k + 1) = l.take k ++ [l[k]]) := Lib.hid (List.take_succ_eq_append_getElem hkl)
          obtain ⟨p, hp⟩ : ∃ p, l[k] = p := ⟨_, rfl⟩
          rw [hp] at c0 c1 c2 hwq hpok HT1
          have hnk := cL_le hpok xw
          have HCN : Hid (cntH (hitsP D p) id = cL p xw) := Lib.hid ((cntH_hits hid.1 hid.2).trans (HCL.out p))
          have HS9 : Hid (okL (l.take (k + 1)) xw = (okL (l.take k) xw && (decide (0 < cL p xw) != p.neg))) := Lib.hid (by rw [HT1.out, okL_snoc])
          have HSS : Hid (sumL (l.take (k + 1)) xw = sumL (l.take k) xw + if p.neg = true then 0 else cL p xw) := Lib.hid (by rw [HT1.out, sumL_snoc])
          have hs8 := HSL.out (k + 1)
          have hs7 := HSL.out k
          obtain ⟨nk, hn⟩ : ∃ n, cL p xw = n := ⟨_, rfl⟩
          obtain ⟨okb, hob⟩ : ∃ b, okL (l.take k) xw = b := ⟨_, rfl⟩
          obtain ⟨sm, hsm⟩ : ∃ s, sumL (l.take k) xw = s := ⟨_, rfl⟩
          rw [hn] at HCN HS9 HSS hnk
          rw [hob] at HS9 ⊢
          rw [hsm] at HSS HH hs7
          have HHT : Hid (∀ W, Below wr.heap.size wr W → Calls Tryz.prog 87 #[.pointer (some ⟨y, 0, none⟩), .agg #[.int .i64 (p.kind : Int), .slice aq p.words.length cq, .bool p.neg]] W fun e w' => ∃ v, e = .returned v ∧ HitsR W.heap.size w' v (hitsP D p) ∧ Below W.heap.size W w') := Lib.hid (fun W hX => refHits_any W ((HR.out.below hW).below hX) HA.out HI.out HOW.out p hpok aq _ cq (hwq.below hX))
          obtain ⟨e0, e1, f1⟩ := HH.out.cells
          have hbhs := HH.out.size
          clear hcc hp hwq hpok hn hob hsm
          go_upto_region 11 with fail
          go_cut [11] (fun v wx => v = .int .i64 (nk : Int) ∧ Below wr.heap.size wr wx)
          case first =>
            go_region_law (first
              | (go_simp; go_at_call 87; (with_reducible (refine (HHT.out _ ((Below.refl _ _).drew)).mono ?_)); rintro e wH ⟨vh, rfl, hh, hbH⟩; have hbw : Below wr.heap.size wr wH := bthen ((Below.refl _ wr).drew) hbH; have e0H := (hbw.cell (p := ⟨bh, 0, none⟩) hbhs).trans e0)
              | (go_simp; go_at_call 86; (with_reducible (refine (refCount_any _ _ id wH (HitsR.at hh)).mono ?_)); rintro e wx ⟨rfl, rfl⟩)
              | fail)
            all_goals
              go_wp2_with fail
              go_meet
              exact ⟨by rw [HCN.out], by first | exact hbw | exact hbw.drew⟩
          case rest =>
            obtain ⟨rfl, hbx⟩ := hcut
            have HH3 := Lib.hid (HH.out.below hbx)
            have c2x := (hbx.cell (World.block_lt_of_cell? wr _ c2)).trans c2
            obtain ⟨e0', e1', f1'⟩ := HH3.out.cells
            clear e0 e1 f1 c0 c1 c2 HH HHT HCN hbx hbhs
            obtain ⟨ng, hng⟩ : ∃ b, p.neg = b := ⟨_, rfl⟩
            rw [hng] at HS9 HSS c2x
            clear hng
            rcases Nat.eq_zero_or_pos nk with hz | hz
            · skip
              have gz : ((nk : Int) == 0) = true := by rw [beq_iff_eq]; omega
              have gp : decide ((0 : Int) < (nk : Int)) = false := decide_eq_false (by omega)
              have gp' : decide (0 < nk) = false := decide_eq_false (by omega)
              clear hz
              cases ng
              · have HSET : Hid (HB2 bh wo (wc.setCell ⟨bh, 1, none⟩ (.int .i64 ((sm : Int) + (nk : Int)))) id (sumL (l.take (k + 1)) xw)) := Lib.hid (by
                  have h9 := HH3.out.set (sm + nk)
                  rw [show ((sm + nk : Nat) : Int) = (sm : Int) + (nk : Int) by omega] at h9
                  rw [HSS.out]
                  exact h9)
                cases okb
                · go_wp2_with fail
                  go_roundw
                  case rel => exact ⟨k + 1, by go_num, by omega, by rw [HS9.out]; simp [gp'], HSET⟩
                  case measure => simp [intOf]; omega
                · go_wp2_with fail
                  go_roundw
                  case rel => exact ⟨k + 1, by go_num, by omega, by rw [HS9.out]; simp [gp'], HSET⟩
                  case measure => simp [intOf]; omega
              · have HSET : Hid (HB2 bh wo wc id (sumL (l.take (k + 1)) xw)) := Lib.hid (by rw [HSS.out]; exact HH3.out)
                cases okb
                · go_wp2_with fail
                  go_roundw
                  case rel => exact ⟨k + 1, by go_num, by omega, by rw [HS9.out]; simp [gp'], HSET⟩
                  case measure => simp [intOf]; omega
                · go_wp2_with fail
                  go_roundw
                  case rel => exact ⟨k + 1, by go_num, by omega, by rw [HS9.out]; simp [gp'], HSET⟩
                  case measure => simp [intOf]; omega
            · skip
              have gz : ((nk : Int) == 0) = false := by rw [beq_eq_false_iff_ne]; omega
              have gp : decide ((0 : Int) < (nk : Int)) = true := decide_eq_true (by omega)
              have gp' : decide (0 < nk) = true := decide_eq_true (by omega)
              clear hz
              cases ng
              · have HSET : Hid (HB2 bh wo (wc.setCell ⟨bh, 1, none⟩ (.int .i64 ((sm : Int) + (nk : Int)))) id (sumL (l.take (k + 1)) xw)) := Lib.hid (by
                  have h9 := HH3.out.set (sm + nk)
                  rw [show ((sm + nk : Nat) : Int) = (sm : Int) + (nk : Int) by omega] at h9
                  rw [HSS.out]
                  exact h9)
                cases okb
                · go_wp2_with fail
                  go_roundw
                  case rel => exact ⟨k + 1, by go_num, by omega, by rw [HS9.out]; simp [gp'], HSET⟩
                  case measure => simp [intOf]; omega
                · go_wp2_with fail
                  go_roundw
                  case rel => exact ⟨k + 1, by go_num, by omega, by rw [HS9.out]; simp [gp'], HSET⟩
                  case measure => simp [intOf]; omega
              · have HSET : Hid (HB2 bh wo wc id (sumL (l.take (k + 1)) xw)) := Lib.hid (by rw [HSS.out]; exact HH3.out)
                cases okb
                · go_wp2_with fail
                  go_roundw
                  case rel => exact ⟨k + 1, by go_num, by omega, by rw [HS9.out]; simp [gp'], HSET⟩
                  case measure => simp [intOf]; omega
                · go_wp2_with fail
                  go_roundw
                  case rel => exact ⟨k + 1, by go_num, by omega, by rw [HS9.out]; simp [gp'], HSET⟩
                  case measure => simp [intOf]; omega
        · obtain rfl : k = l.length := by omega
          rw [List.take_length] at HH
          simp only [List.take_length]
          have hs8 := HSL.out l.length
          rw [List.take_length] at hs8
          obtain ⟨c, hc⟩ : ∃ c, sumL l xw = c := ⟨_, rfl⟩
          rw [hc] at HH hs8 HINS
          clear hc
          cases hok : okL l xw
          · rw [hok] at HINS
            have HON : Hid (HitsR w1.heap.size wr (.slice ao O.length co) (insAll (foundD (D.take (i + 1)) l))) := Lib.hid (by rw [HINS.out]; exact row_stay HO.out fun j hj => HH.out.bel.block j (World.ownsRow.lt HO.out j hj).2)
            have HBN := Lib.hid (bthen HB.out HH.out.bel)
            clear HINS
            go_wp2_with fail
            go_roundw
            case rel => exact ⟨i + 1, by go_num, by omega, HON, HBN⟩
            case measure => simp [intOf]; omega
          · rw [hok] at HINS
            clear hok
            obtain ⟨w5, hw5⟩ : ∃ w5, w5 = wr := ⟨_, rfl⟩
            subst hw5
            have HO5 : Hid (HitsR w1.heap.size w5 (.slice ao O.length co) O) := Lib.hid (row_stay HO.out fun j hj => HH.out.bel.block j (World.ownsRow.lt HO.out j hj).2)
            have HB5 := Lib.hid (bthen HB.out HH.out.bel)
            obtain ⟨e0, e1, -⟩ := HH.out.cells
            have hbhs := HH.out.size
            have HAT5 : Hid (∀ k (hk : k < O.length), ∃ b off, ao = some ⟨b, off, none⟩ ∧ w5.cell? ⟨b, off + k * 2 + 1, none⟩ = some (.int .i64 (O[k].2 : Int))) := Lib.hid (fun k hk => by
              obtain ⟨a', c', e', -, -, hcc⟩ := HitsR.at HO5.out
              injection e' with e1 _ _
              obtain ⟨b, off, k1, -, k3⟩ := hcc k hk
              exact ⟨b, off, by rw [e1]; exact k1, by rw [Nat.add_assoc]; exact k3⟩)
            have HOC : Hid (O.length ≤ co ∧ co ≤ 9223372036854775807) := Lib.hid (by
              obtain ⟨a', c', e', h1, h2, -⟩ := HitsR.at HO5.out
              injection e' with _ _ e3
              rw [e3]; exact ⟨h1, h2⟩)
            clear HO
            go_wp2_with fail
            go_loopw [12] (fun v12 wq => ∃ a : Nat, v12 = .int .i64 a ∧ a ≤ O.length ∧ Hid (∀ j (hj : j < O.length), j < a → c ≤ O[j].2) ∧ ∃ m, wq = w5.drewN m) (fun v12 _ => O.length - (intOf v12).toNat)
            case atStart => exact ⟨0, rfl, Nat.zero_le _, Lib.hid (fun j _ h => by omega), 0, rfl⟩
            case round =>
              obtain ⟨a, rfl, ha, HJ, m0, rfl⟩ := hrel
              have ha0 : (0 : Int) ≤ (a : Int) := by omega
              by_cases hgo : ∃ (h : a < O.length), c ≤ O[a].2
              · obtain ⟨hal, hge⟩ := hgo
                have hai : (a : Int) < (O.length : Int) := by omega
                have HJ2 : Hid (∀ j (hj : j < O.length), j < a + 1 → c ≤ O[j].2) := Lib.hid (fun j hj hja => by
                  by_cases e : j = a
                  · subst e; exact hge
                  · exact HJ.out j hj (by omega))
                obtain ⟨b, off, rfl, k1⟩ := HAT5.out a hal
                obtain ⟨n2, hn2⟩ : ∃ n, O[a].2 = n := ⟨_, rfl⟩
                rw [hn2] at k1 hge
                have g1 : decide ((c : Int) ≤ (n2 : Int)) = true := decide_eq_true (by omega)
                have g1' : decide (c ≤ n2) = true := decide_eq_true hge
                clear hn2 HJ
                go_wp2_with fail
                go_quiet (fail)
                go_wp2_with fail
                go_roundw
                case rel => exact ⟨a + 1, by go_num, by omega, HJ2, _, rfl⟩
                case measure => simp [intOf]; omega
              · have HEX : Hid (insH O (id, c) = O.take a ++ (id, c) :: O.drop a) := Lib.hid (insH_at ha HJ.out fun h9 h8 => hgo ⟨h9, h8⟩)
                go_upto_region 18 with fail
                go_cut [77] (fun v wx => v = .bool false ∧ ∃ m, wx = w5.drewN m)
                case first =>
                  by_cases hal : a < O.length
                  · have hng : ¬ c ≤ O[a].2 := fun h => hgo ⟨hal, h⟩
                    have hai : (a : Int) < (O.length : Int) := by omega
                    obtain ⟨b, off, rfl, k1⟩ := HAT5.out a hal
                    obtain ⟨n2, hn2⟩ : ∃ n, O[a].2 = n := ⟨_, rfl⟩
                    rw [hn2] at k1 hng
                    have g1 : decide ((c : Int) ≤ (n2 : Int)) = false := decide_eq_false (by omega)
                    have g1' : decide (c ≤ n2) = false := decide_eq_false hng
                    clear hn2 hgo hng
                    go_quiet (fail)
                    go_wp2_with fail
                    go_meet
                    first
                      | exact ⟨rfl, _, rfl⟩
                      | exact ⟨rfl, _, World.drewN_drewN⟩
                      | exact ⟨rfl, _, World.drewN_drewN _ _ _⟩
                  · have g1 : decide ((a : Int) < (O.length : Int)) = false := decide_eq_false (by omega)
                    have g1' : decide (a < O.length) = false := decide_eq_false hal
                    clear hgo
                    go_quiet (fail)
                    go_wp2_with fail
                    go_meet
                    first
                      | exact ⟨rfl, _, rfl⟩
                      | exact ⟨rfl, _, World.drewN_drewN⟩
                      | exact ⟨rfl, _, World.drewN_drewN _ _ _⟩
                case rest =>
                  obtain ⟨rfl, m1, rfl⟩ := hcut
                  go_upto_region 20 with fail
                  obtain ⟨w6, hw6⟩ : ∃ w6, w5.drewN m1 = w6 := ⟨_, rfl⟩
                  have hb56 : Below w5.heap.size w5 w6 := by rw [← hw6]; exact (Below.refl _ w5).drewN _
                  have HO6 : Hid (HitsR w1.heap.size w6 (.slice ao O.length co) O) := Lib.hid (row_stay HO5.out fun j hj => hb56.block j (World.ownsRow.lt HO5.out j hj).2)
                  have HH6 := Lib.hid (HH.out.below hb56)
                  have HB6 := Lib.hid (bthen HB5.out hb56)
                  rw [hw6]
                  clear hw6 hb56 e0 e1 hbhs HH HO5 HB5 HAT5 HJ hgo
                  have hmk := fun W => make_hits W (n := O.length) (by omega)
                  have HZ : Hid (Below w6.heap.size w6 (w6.alloc (.cells (mkH O.length) 64)).drew) := Lib.hid (((Below.refl _ w6).alloc (Nat.le_refl _) _).drew)
                  have HM : Hid (HitsR w6.heap.size (w6.alloc (.cells (mkH O.length) 64)).drew (.slice (some ⟨w6.heap.size, 0, none⟩) 0 O.length) []) := Lib.hid (row_stay (hits_made w6 (by omega)) fun j hj => rfl)
                  have hak : (a : Int) ≤ (O.length : Int) := by omega
                  have hac : (a : Int) ≤ (co : Int) := by have := HOC.out.1; omega
                  go_cut [13] (fun v wx => ∃ gr cr, v = .slice (some ⟨gr, 0, none⟩) (O.length - a) cr ∧ HitsR w6.heap.size wx (.slice (some ⟨gr, 0, none⟩) (O.length - a) cr) (O.drop a) ∧ Below w6.heap.size w6 wx ∧ w6.heap.size ≤ gr)
                  case first =>
                    rcases HO6.out.2 with ⟨e0, h0⟩ | ⟨go, cap, cur, e0, -⟩
                    · injection e0 with q1 q2 q3
                      subst q1
                      subst q3
                      have hO0 : O = [] := List.eq_nil_of_length_eq_zero q2
                      have HOe := Lib.hid hO0
                      subst hO0
                      obtain rfl : a = 0 := by simpa using ha
                      have hmk0 : ∀ W : World, (Instr.makeSlice 39 (.int .i64 0) (.int .i64 0)).run Tryz.prog W = .ok (.slice (some ⟨W.heap.size, 0, none⟩) 0 0) (W.alloc (.cells (mkH 0) 64)) := fun W => make_hits W (n := 0) (by omega)
                      go_region_law (fail)
                      all_goals
                        go_wp2_with fail
                        go_meet
                        exact ⟨_, _, rfl, HM.out, HZ.out, Nat.le_refl _⟩
                    · injection e0 with q1 q2 q3
                      subst q1
                      subst q3
                      clear q2
                      rcases Nat.eq_or_lt_of_le ha with haO | haL
                      · subst haO
                        have HDR : Hid (O.drop O.length = []) := Lib.hid List.drop_length
                        by_cases hcc : co = O.length
                        · subst hcc
                          go_region_law (first
                            | (refine step_hits _ rfl (.tmp 82) (.tmp 85) rfl rfl (base := w6.heap.size) [] [] 0 0 rfl rfl rfl HM.out rfl (fun j u hu => by simp at hu) HZ.out.size (by simp) ?_; intro a1 c1 wB hPB hbB hkB hsB)
                            | fail)
                          all_goals
                            obtain ⟨gr, hgr, hle⟩ := hsB (fun e => by have e : Value.slice (some ⟨w6.heap.size, 0, none⟩) 0 O.length = .slice none 0 0 := e; cases e)
                            subst hgr
                            go_wp2_with fail
                            go_meet
                            exact ⟨gr, c1, by rw [Nat.sub_self], by rw [Nat.sub_self, HDR.out]; exact hPB, HZ.out.trans hbB, hle⟩
                        · go_region_law (first
                            | (refine step_hits _ rfl (.tmp 82) (.tmp 85) rfl rfl (base := w6.heap.size) [] [] 0 0 rfl rfl rfl HM.out rfl (fun j u hu => by simp at hu) HZ.out.size (by simp) ?_; intro a1 c1 wB hPB hbB hkB hsB)
                            | fail)
                          all_goals
                            obtain ⟨gr, hgr, hle⟩ := hsB (fun e => by have e : Value.slice (some ⟨w6.heap.size, 0, none⟩) 0 O.length = .slice none 0 0 := e; cases e)
                            subst hgr
                            go_wp2_with fail
                            go_meet
                            exact ⟨gr, c1, by rw [Nat.sub_self], by rw [Nat.sub_self, HDR.out]; exact hPB, HZ.out.trans hbB, hle⟩
                      · have hca : ¬ co = a := by have := HOC.out.1; omega
                        go_region_law (first
                          | (refine step_hits _ rfl (.tmp 82) (.tmp 85) rfl rfl (base := w6.heap.size) [] (O.drop a) (O.length - a) (O.length - a) (by simp) (by simp) rfl HM.out rfl (hits_news (row_stay HO6.out fun j hj => HZ.out.block j (World.ownsRow.lt HO6.out j hj).2) a) HZ.out.size (by simp; omega) ?_; intro a1 c1 wB hPB hbB hkB hsB)
                          | fail)
                        all_goals
                          obtain ⟨gr, hgr, hle⟩ := hsB (fun e => by have e : Value.slice (some ⟨w6.heap.size, 0, none⟩) 0 O.length = .slice none 0 0 := e; cases e)
                          subst hgr
                          go_wp2_with fail
                          go_meet
                          exact ⟨gr, c1, rfl, hPB, HZ.out.trans hbB, hle⟩
                  case rest =>
                    obtain ⟨gr, cr, rfl, hRS, hbR, hgr⟩ := hcut
                    obtain ⟨w7, hw7⟩ : ∃ w7, w7 = wc := ⟨_, rfl⟩
                    subst hw7
                    have HO7 : Hid (HitsR w1.heap.size w7 (.slice ao O.length co) O) := Lib.hid (row_stay HO6.out fun j hj => hbR.block j (World.ownsRow.lt HO6.out j hj).2)
                    have HAO : Hid (∀ j, (Value.slice ao a co).ownBlock = some j → j < w6.heap.size) := Lib.hid (fun j hj => (World.ownsRow.lt HO6.out j (by cases ao with | none => simp [Value.ownBlock] at hj | some ad => exact hj)).2)
                    have HH7 := Lib.hid (HH6.out.below hbR)
                    have HB7 := Lib.hid (bthen HB6.out hbR)
                    obtain ⟨e0, e1, -⟩ := HH7.out.cells
                    have HX7 : Hid (Below w7.heap.size w7 (w7.alloc (.cells #[.int .i64 id, .int .i64 (c : Int)] 64)).drew) := Lib.hid (((Below.refl _ w7).alloc (Nat.le_refl _) _).drew)
                    have HBX := Lib.hid (bthen HB7.out HX7.out)
                    have HCT : Hid (HitsR w1.heap.size (w7.alloc (.cells #[.int .i64 id, .int .i64 (c : Int)] 64)).drew (.slice ao a co) (O.take a)) := Lib.hid (hits_cut (row_stay HO7.out fun j hj => HX7.out.block j (World.ownsRow.lt HO7.out j hj).2) ha)
                    have HNB : Hid ((w7.alloc (.cells #[.int .i64 id, .int .i64 (c : Int)] 64)).drew.heap[w7.heap.size]? = some (.cells #[.int .i64 id, .int .i64 (c : Int)] 64 (0, 0))) := Lib.hid (heap_alloc_new w7 _)
                    have HRS := Lib.hid hRS
                    have hgs : gr < w7.heap.size := (World.ownsRow.lt hRS gr rfl).2
                    have hup := run_upto_h (a := ao) (n := O.length) (c := co) (k := a) (by have := HOC.out.1; omega)
                    have hx7 := HX7.out.size
                    clear hRS hbR HO6 HH6 HB6 HZ HM hmk HO7 HH7
                    go_wp2_with fail
                    go_region_law (first
                      | (refine step_hits _ rfl (.tmp 89) (.tmp 91) rfl rfl (base := w1.heap.size) (O.take a) [(id, c)] 1 (a + 1) rfl (by simp; omega) rfl HCT.out rfl (World.news_of_block (cs := #[.int .i64 id, .int .i64 (c : Int)]) (t := 64) (fr := (0, 0)) HNB.out) HBX.out.size (by simp; omega) ?_; intro a2 c2 wC hPC hbC hkC _; have hRC : HitsR w6.heap.size wC (.slice (some ⟨gr, 0, none⟩) (O.length - a) cr) (O.drop a) := (row_stay HRS.out fun j hj => ((hkC j (by have := (World.ownsRow.lt HRS.out j hj).2; omega) (fun e => absurd (HAO.out j e.symm) (by have := (World.ownsRow.lt HRS.out j hj).1; omega))).trans (HX7.out.block j (World.ownsRow.lt HRS.out j hj).2))))
                      | (refine step_hits _ rfl (.tmp 92) (.tmp 93) rfl rfl (base := w1.heap.size) (O.take a ++ [(id, c)]) (O.drop a) (O.length - a) (O.length + 1) (by simp) (by simp; omega) rfl hPC rfl (fun j u hu => World.ownsRow.cells hRC (g := gr) rfl j u hu) (HBX.out.trans hbC).size (by simp; omega) ?_; intro a3 c3 wE hPE hbE _ _)
                      | fail)
                    all_goals
                      have HFE : Hid (HitsR w1.heap.size wE (.slice a3 (O.length + 1) c3) (insAll (foundD (D.take (i + 1)) l))) := Lib.hid (by
                        have h9 := HINS.out
                        simp only [if_true] at h9
                        rw [h9, HEX.out]
                        simpa using hPE)
                      have HBE := Lib.hid ((HBX.out.trans hbC).trans hbE)
                      clear hPE hbE hPC hbC hkC hRC HINS HEX
                      go_wp2_with fail
                      go_roundw
                      case rel => exact ⟨i + 1, by go_num, by omega, HFE, HBE⟩
                      case measure => simp [intOf]; omega
    · obtain rfl : i = D.length := by omega
      have hF := HO.out
      rw [List.take_length] at hF
      have HF := Lib.hid hF
      have hle : (insAll (foundD (D.take D.length) l)).length = (insAll (foundD D l)).length := by rw [List.take_length]
      rw [hle]
      clear hF HO hle hOl
      go_wp2_with fail
      go_ret
      exact ⟨_, rfl, row_mono HF.out hs1, bthen HB1.out HB.out⟩
end Go.Proofs.YtogjgibaolppfaaGreatDoor
/- The reference's Run. -/
namespace Go.Proofs.YtogjgibaolppfaaGreatDoor
open Go.RowKit Go.Sort Go.Proofs Go.Maps Go.Lib

theorem run_upto_h0 {a : Option Addr} {n c k : Nat} (hk : k ≤ c) (W : World) : (Instr.slice 39 (.slice a n c) none (some (.int .i64 k)) none).run Tryz.prog W = .ok (.slice a k c) W := run_upto_h hk W
set_option maxRecDepth 100000 in
set_option maxHeartbeats 4000000 in
theorem refRun_any {T : Nat → Prop} {y : Nat} {D : List Dc} (w : World) (h : RefAt T w y D) (hA : Asc D) (hI : Ids D) (ho : ∀ d ∈ D, ∀ x ∈ d.2, okWord x) (q : List UInt8) (hq : q.length ≤ 1000) (n : Int) (hn : -9223372036854775808 ≤ n ∧ n ≤ 9223372036854775807) :
    Calls Tryz.prog 21 #[.pointer (some ⟨y, 0, none⟩), .string ⟨q.toArray⟩, .int .i64 n] w (RunPost (parseP q) D n w) := by
  have HPA : Hid (Calls Tryz.prog 17 #[.string ⟨q.toArray⟩] w fun e w' => Below w.heap.size w w' ∧ ∃ a k c E, e = .returned (.tuple #[.slice a k c, .int .i64 E]) ∧ Parsed (parseP q) w' a k c E) := Lib.hid (by rw [parse_eq]; exact refParse_law q hq w)
  have HR := Lib.hid h
  have hres := res_le hA hI
  cases hR : parseP q with
  | none =>
    rw [hR] at HPA
    clear hR h hA hI ho
    go_enter Tryz.func21, Tryz.ntmps21
    go_wp2_with (first
      | (go_at_call 17; (with_reducible (refine HPA.out.mono ?_)); rintro e w1 ⟨hb, a, k, c, E, rfl, h1⟩; obtain ⟨rfl, rfl, rfl, rfl⟩ := h1)
      | fail)
    exact bodyPost_ret (v := .tuple #[.slice none 0 0, .int .i64 0, .int .i64 180]) (by simp [results, Tryz.results21, go_sem]) rfl ⟨hb, rfl⟩
  | some l =>
    rw [hR] at HPA
    have hok := parse_ok hR
    have hr256 := hres l
    have HFD : Hid (∀ (W : World) (v : Value), Below w.heap.size w W → PartsAt W v l → Calls Tryz.prog 51 #[.pointer (some ⟨y, 0, none⟩), v] W fun e w' => ∃ u, e = .returned u ∧ HitsR W.heap.size w' u (resD D l) ∧ Below W.heap.size W w') := Lib.hid (fun W v hW hl => refFound_any W (HR.out.below hW) hA hI ho v l hl hok.1 hok.2.2)
    show Calls _ _ _ _ (fun e w' => Below w.heap.size w w' ∧ ∃ v, e = .returned (.tuple #[v, .int .i64 ((resD D l).length : Int), .int .i64 0]) ∧ HitsR 0 w' v ((resD D l).take n.toNat))
    obtain ⟨R, hRR⟩ : ∃ R, resD D l = R := ⟨_, rfl⟩
    rw [hRR] at HFD hr256 ⊢
    obtain ⟨TT, hTT⟩ : ∃ T, R.take n.toNat = T := ⟨_, rfl⟩
    have HTT := Lib.hid hTT
    rw [hTT]
    clear hR h hA hI ho hres hRR hok hTT
    go_enter Tryz.func21, Tryz.ntmps21
    go_upto_region 5 with (first
      | (go_at_call 17; (with_reducible (refine HPA.out.mono ?_)); rintro e w1 ⟨hb, a, k, c, E, rfl, h1⟩; obtain ⟨rfl, rfl, hpa⟩ := h1; have HF1 := Lib.hid (HFD.out w1 _ hb hpa); have HB1 := Lib.hid hb; clear hb hpa)
      | (go_at_call 51; (with_reducible (refine HF1.out.mono ?_)); rintro e w2 ⟨u, rfl, hh, hb⟩; have HB2 := Lib.hid (bthen HB1.out hb); have HH2 := Lib.hid hh; clear hb)
      | fail)
    obtain ⟨au, cu, huv⟩ := row_form hh
    subst huv
    have hcu : R.length ≤ cu := by
      obtain ⟨a', c', e', h1, -⟩ := HitsR.at HH2.out
      injection e' with _ _ e3
      omega
    clear hh
    by_cases h1 : n < 1
    · have g1 : decide (n < 1) = true := decide_eq_true h1
      have ht : R.take n.toNat = [] := by rw [show n.toNat = 0 by omega]; rfl
      have hTn : TT = [] := HTT.out.symm.trans ht
      subst hTn
      clear ht h1
      go_wp2_with fail
      exact bodyPost_ret (v := .tuple #[.slice none 0 0, .int .i64 (R.length : Int), .int .i64 0]) (by simp [results, Tryz.results21, go_sem]) rfl ⟨HB2.out, _, rfl, World.ownsRow_nil _ _ _ _⟩
    · have g1 : decide (n < 1) = false := decide_eq_false h1
      obtain ⟨m, hm⟩ : ∃ m : Nat, n = m := ⟨n.toNat, by omega⟩
      subst hm
      have hmin : min ((m : Nat) : Int) (R.length : Int) = ((min m R.length : Nat) : Int) := by omega
      have ht : R.take ((m : Nat) : Int).toNat = R.take (min m R.length) := by
        rw [Int.toNat_natCast]
        by_cases h9 : m ≤ R.length
        · rw [Nat.min_eq_left h9]
        · rw [Nat.min_eq_right (by omega), List.take_length, List.take_of_length_le (by omega)]
      obtain ⟨M, hM⟩ : ∃ M, min m R.length = M := ⟨_, rfl⟩
      have hMl : M ≤ R.length := by omega
      rw [hM] at hmin ht
      have HTM : Hid (TT = R.take M) := Lib.hid (HTT.out.symm.trans ht)
      have hup := run_upto_h (a := au) (n := R.length) (c := cu) (k := M) (by omega)
      have hM0 : (0 : Int) ≤ (M : Int) := by omega
      have hM1 : (M : Int) ≤ (cu : Int) := by omega
      clear ht hM h1
      go_wp2_with fail
      exact bodyPost_ret (v := .tuple #[.slice au M cu, .int .i64 (R.length : Int), .int .i64 0]) (by simp [results, Tryz.results21, go_sem]) rfl ⟨HB2.out, _, rfl, by rw [HTM.out]; exact row_mono (hits_cut HH2.out hMl) (Nat.zero_le _)⟩
end Go.Proofs.YtogjgibaolppfaaGreatDoor
/- The reference's add and Terms. The reference's Terms. -/
namespace Go.Proofs.YtogjgibaolppfaaGreatDoor
open Go.RowKit Go.Sort Go.Proofs Go.Maps

theorem terms_cells {w : World} {ad : Addr} {n c : Nat} {l : List (Wd × Nat)} (h : TermsAt w (.slice (some ad) n c) l) (hne : l ≠ []) : ∃ b off, ad = ⟨b, off, none⟩ ∧ ∀ j u, (l.flatMap termC)[j]? = some u → w.cell? ⟨b, off + j, none⟩ = some u := by
  obtain ⟨a, c', e, -, -, hc⟩ := h
  injection e with e1 _ _
  subst e1
  obtain ⟨b, off, e, -⟩ := hc 0 (List.length_pos_iff.2 hne)
  injection e with e
  refine ⟨b, off, e, fun j u hu => ?_⟩
  rw [flatMap_at termC 2 (by decide) (fun _ => rfl)] at hu
  cases hp : l[j / 2]? with
  | none => rw [hp] at hu; cases hu
  | some p =>
    rw [hp] at hu
    obtain ⟨hj, hpe⟩ := List.getElem?_eq_some_iff.1 hp
    obtain ⟨b', off', e', h1, h2⟩ := hc (j / 2) hj
    injection e' with e'
    rw [e] at e'
    injection e' with e1 e2
    subst e1; subst e2
    rw [hpe] at h1 h2
    have hu : (termC p)[j % 2]? = some u := hu
    rcases Nat.mod_two_eq_zero_or_one j with hm | hm
    · rw [hm] at hu
      cases hu
      rw [show off + j = off + j / 2 * 2 by omega]; exact h1
    · rw [hm] at hu
      cases hu
      rw [show off + j = off + (j / 2 * 2 + 1) by omega]; exact h2
theorem terms_src_upto {w : World} {a : Option Addr} {n c : Nat} {l : List (Wd × Nat)} (h : TermsAt w (.slice a n c) l) {k : Nat} (hk : k ≤ l.length) : Src w 2 a k ((l.take k).flatMap termC) := by
  refine ⟨by rw [termC_len, List.length_take, Nat.min_eq_left hk], fun e => ?_, fun ad e j u hu => ?_⟩
  · obtain ⟨a', c', e', -, -, hc⟩ := h
    rcases Nat.eq_zero_or_pos k with h0 | h0
    · exact h0
    · obtain ⟨b, off, e2, -⟩ := hc 0 (by omega)
      injection e' with e1 _ _
      rw [← e1, e] at e2; cases e2
  · subst e
    by_cases hne : l = []
    · subst hne; simp at hu
    · obtain ⟨b, off, rfl, hc⟩ := terms_cells h hne
      rw [add_plain]
      refine hc j u ?_
      rw [← List.take_append_drop k l, List.flatMap_append]
      exact List.getElem?_append_left (List.getElem?_eq_some_iff.1 hu).1 |>.trans hu
theorem terms_src_from {w : World} {a : Option Addr} {n c : Nat} {l : List (Wd × Nat)} (h : TermsAt w (.slice a n c) l) {k : Nat} (hk : k ≤ l.length) : ∃ a', sliced a k n c 2 = .slice a' (n - k) (c - k) ∧ Src w 2 a' (n - k) ((l.drop k).flatMap termC) := by
  have hh := h
  obtain ⟨a0, c0, e0, hle, -, hc⟩ := hh
  injection e0 with e1 e2 e3
  subst e1; subst e2; subst e3
  refine ⟨_, rfl, by rw [termC_len, List.length_drop], fun e => ?_, fun ad e j u hu => ?_⟩
  · rcases Nat.lt_or_ge k l.length with h0 | h0
    · obtain ⟨b, off, e2, -⟩ := hc 0 (by omega)
      subst e2
      split at e <;> cases e
    · omega
  · rcases Nat.lt_or_ge k l.length with h0 | h0
    · rw [if_neg (by omega)] at e
      obtain ⟨b0, off0, e2, -⟩ := hc 0 (by omega)
      subst e2
      obtain ⟨b, off, e3, hcc⟩ := terms_cells h (fun e => by subst e; simp at h0)
      injection e3 with e3 e4
      subst e3; subst e4
      simp only [Option.map_some, Option.some.injEq] at e
      subst e
      rw [add_plain, add_plain, Nat.add_assoc]
      refine hcc _ u ?_
      rw [← List.take_append_drop k l, List.flatMap_append, List.getElem?_append_right (by rw [termC_len, List.length_take]; omega), termC_len, List.length_take, Nat.min_eq_left hk]
      rw [show k * 2 + j - k * 2 = j by omega]
      exact hu
    · rw [List.drop_of_length_le h0] at hu; simp at hu
theorem run_from_t {a : Option Addr} {n c k : Nat} {V : Value} (hk : k ≤ n) (h : sliced a k n c 2 = V) (W : World) : (Instr.slice 89 (.slice a n c) (some (.int .i64 k)) none none).run Tryz.prog W = .ok V W := by
  have ht : Tryz.prog.underlying 89 = some (.slice (Tryz.prog.elem 89)) := by kernel_rfl
  have he : Tryz.prog.elem 89 = 92 := by kernel_rfl
  rw [run_slice_l W 89 a n c ht .i64 k (by omega) (by omega), he]
  have : (Go.sizeOf 92).run Tryz.prog W = .ok 2 W := Tryz.sizeOf92 W
  rw [this]
  simp only [Result.andThen]
  rw [← h]
  rfl
/-- where the terms before a term end -/
theorem atT_of {l : List (Wd × Nat)} {t : Wd × Nat} {k : Nat} (hk : k ≤ l.length) (hlt : ∀ j (h : j < l.length), j < k → TLt l[j] t) (hend : ∀ h : k < l.length, ¬ TLt l[k] t) : k = atT l t := by
  have key : ∀ (l : List (Wd × Nat)) (k : Nat), k ≤ l.length → (∀ j (h : j < l.length), j < k → TLt l[j] t) → (∀ h : k < l.length, ¬ TLt l[k] t) → k = (l.takeWhile fun x => decide (TLt x t)).length := by
    intro l
    induction l with
    | nil => intro k hk _ _; simp at hk; simp [hk]
    | cons x l ih =>
      intro k hk h1 h2
      rw [List.takeWhile_cons]
      cases k with
      | zero =>
        have := h2 (by simp)
        simp only [List.getElem_cons_zero] at this
        simp [this]
      | succ k =>
        have hx := h1 0 (by simp) (by omega)
        simp only [List.getElem_cons_zero] at hx
        simp only [hx, decide_true, if_true, List.length_cons]
        rw [← ih k (by simpa using hk) (fun j hj hjk => by
          have := h1 (j + 1) (by simp; omega) (by omega)
          simpa using this) (fun h => by
          have := h2 (by simp; omega)
          simpa using this)]
  exact key l k hk hlt hend
theorem addT_len (l : List (Wd × Nat)) (t : Wd × Nat) : (addT l t).length ≤ l.length + 1 := by
  unfold addT
  split
  · omega
  · rw [List.length_append, List.length_cons, List.length_take, List.length_drop]; omega

set_option maxRecDepth 100000 in
set_option maxHeartbeats 8000000 in
theorem refAdd_any (w : World) (vl : Value) (l : List (Wd × Nat)) (hl : TermsAt w vl l) (hlen : l.length ≤ 1000000) (t : Wd × Nat) :
    Calls Tryz.prog 93 #[vl, .agg #[.string ⟨t.1.toArray⟩, .int .i64 t.2]] w fun e w' => ∃ v, e = .returned v ∧ TermsAt w' v (addT l t) ∧ Below w.heap.size w w' := by
  obtain ⟨i0, hi, hz0, hz1, hz2⟩ := info_parts infoTerm
  obtain ⟨ts, tm⟩ := t
  simp only
  have HT := Lib.hid hl
  have HADD : Hid (∀ k, k ≤ l.length → k = atT l (ts, tm) → l[k]? ≠ some (ts, tm) → addT l (ts, tm) = (l.take k ++ [(ts, tm)]) ++ l.drop k) := Lib.hid (fun k _ hk hne => by
    unfold addT
    rw [← hk, if_neg hne]; simp)
  have HSAM : Hid (∀ k, k = atT l (ts, tm) → l[k]? = some (ts, tm) → addT l (ts, tm) = l) := Lib.hid (fun k hk he => by
    unfold addT
    rw [← hk, if_pos he])
  obtain ⟨a, c, rfl, hle, hcm, hc⟩ := hl
  have HC := Lib.hid hc
  obtain ⟨R, hR⟩ : ∃ R, addT l (ts, tm) = R := ⟨_, rfl⟩
  rw [hR] at HADD HSAM
  rw [hR]
  have hat := fun k hk h1 h2 => atT_of (l := l) (t := (ts, tm)) (k := k) hk h1 h2
  have HAT := Lib.hid hat
  obtain ⟨ti, hti⟩ : ∃ i : Int, ((tm : Nat) : Int) = i := ⟨_, rfl⟩
  have HTI := Lib.hid hti
  obtain ⟨w1, hw1⟩ : ∃ w1, w.alloc (.cells #[.string ⟨ts.toArray⟩, .int .i64 ti] 92) = w1 := ⟨_, rfl⟩
  have hb1 : Below w.heap.size w w1 := by rw [← hw1]; exact (Below.refl _ w).alloc (Nat.le_refl _) _
  have hblk : w1.heap[w.heap.size]? = some (.cells #[.string ⟨ts.toArray⟩, .int .i64 ti] 92 (0, 0)) := by rw [← hw1]; exact heap_alloc_new _ _
  have hsz : w.heap.size < w1.heap.size := by rw [← hw1]; simp
  have t1 : w1.cell? ⟨w.heap.size, 0, none⟩ = some (.string ⟨ts.toArray⟩) := by rw [Lib.cell_of_heap hblk]; rfl
  have t2 : w1.cell? ⟨w.heap.size, 1, none⟩ = some (.int .i64 ti) := by rw [Lib.cell_of_heap hblk]; rfl
  have HB1 := Lib.hid hb1
  rw [hti]
  clear hc hR hat hti hblk hb1
  go_enter Tryz.func93, Tryz.ntmps93
  go_wp2
  go_loopw [5] (fun i wr => ∃ k : Nat, i = .int .i64 k ∧ k ≤ l.length ∧ Hid (∀ j (h : j < l.length), j < k → TLt l[j] (ts, tm)) ∧ Hid (Below w1.heap.size w1 wr)) (fun i _ => l.length - (intOf i).toNat)
  case atStart => exact ⟨0, rfl, by omega, Lib.hid (fun j _ hj => by omega), Lib.hid (Below.refl _ _)⟩
  case round =>
    obtain ⟨k, rfl, hk, HLT, HB⟩ := hrel
    have hbs := HB.out.size
    have s1 : wr.cell? ⟨w.heap.size, 0, none⟩ = some (.string ⟨ts.toArray⟩) := (HB.out.cell (World.block_lt_of_cell? w1 _ t1)).trans t1
    have s2 : wr.cell? ⟨w.heap.size, 1, none⟩ = some (.int .i64 ti) := (HB.out.cell (World.block_lt_of_cell? w1 _ t2)).trans t2
    have HTr := Lib.hid ((HT.out.below HB1.out).below HB.out)
    by_cases hgo : ∃ h : k < l.length, TLt (l[k]'h) (ts, tm)
    · obtain ⟨hkl, hlt⟩ := hgo
      have hki : (k : Int) < (l.length : Int) := by omega
      have g0 : decide ((k : Int) < (l.length : Int)) = true := by rw [decide_eq_true_iff]; omega
      have HLT2 : Hid (∀ j (h : j < l.length), j < k + 1 → TLt l[j] (ts, tm)) := Lib.hid (fun j hj hjk => by
        by_cases e : j = k
        · subst e; exact hlt
        · exact HLT.out j hj (by omega))
      obtain ⟨_, _, e1, _, _, hcc⟩ := HTr.out
      injection e1 with e1 e2 e3
      subst e1
      clear e2 e3
      obtain ⟨b, off, rfl, k1, k2⟩ := hcc k hkl
      obtain ⟨⟨xs, xm⟩, hx⟩ : ∃ z, l[k] = z := ⟨_, rfl⟩
      rw [hx] at k1 k2 hlt
      simp only at k1 k2
      rw [← Nat.add_assoc] at k2
      obtain ⟨xi, hxi⟩ : ∃ i : Int, ((xm : Nat) : Int) = i := ⟨_, rfl⟩
      rw [hxi] at k2
      have hor : (ti < xi) ∨ (xi = ti ∧ xs < ts) := by
        have h0 := HTI.out
        rcases hlt with h | ⟨h1, h2⟩
        · left; simp only at h; omega
        · right; simp only at h1; exact ⟨by omega, h2⟩
      clear hx hxi hlt HLT hcc
      rcases hor with h | ⟨h1, h2⟩
      · have g1 : decide (ti < xi) = true := by rw [decide_eq_true_iff]; exact h
        clear h
        go_wp2_with fail
        go_quiet (fail)
        go_wp2
        go_roundw
        case rel => exact ⟨k + 1, by go_num, by omega, HLT2, Lib.hid (HB.out.drewN _)⟩
        case measure => simp [intOf]; omega
      · have g1 : decide (ti < xi) = false := by rw [decide_eq_false_iff_not]; omega
        have g2 : (xi == ti) = true := by simpa using h1
        have g3 : Op.bytesLess xs ts = true := by rw [bytesLess_eq]; simpa using h2
        clear h1 h2
        go_wp2_with fail
        go_quiet (fail)
        go_wp2
        go_roundw
        case rel => exact ⟨k + 1, by go_num, by omega, HLT2, Lib.hid (HB.out.drewN _)⟩
        case measure => simp [intOf]; omega
    · have hat := HAT.out k hk HLT.out (fun h hlt => hgo ⟨h, hlt⟩)
      have HA := Lib.hid hat
      have HBw := Lib.hid (bthen HB1.out HB.out)
      by_cases heq : l[k]? = some (ts, tm)
      · have HR := Lib.hid (HSAM.out k hat heq)
        obtain ⟨hkl, hx⟩ := List.getElem?_eq_some_iff.1 heq
        have hki : (k : Int) < (l.length : Int) := by omega
        have g0 : decide ((k : Int) < (l.length : Int)) = true := by rw [decide_eq_true_iff]; omega
        obtain ⟨_, _, e1, _, _, hcc⟩ := HTr.out
        injection e1 with e1 e2 e3
        subst e1
        clear e2 e3
        obtain ⟨b, off, rfl, k1, k2⟩ := hcc k hkl
        rw [hx] at k1 k2
        simp only at k1 k2
        rw [← Nat.add_assoc, HTI.out] at k2
        have g3 : Op.bytesLess ts ts = false := by rw [bytesLess_eq]; simp [List.lt_irrefl]
        clear hx heq hat hgo HLT hcc
        go_wp2_with fail
        go_quiet (fail)
        go_wp2_with fail
        go_quiet (fail)
        go_wp2
        go_ret
        exact ⟨_, rfl, by rw [HR.out]; exact (HTr.out.below ((Below.refl _ wr).drewN _)).below ((Below.refl _ _).drewN _), (HBw.out.drewN _).drewN _⟩
      · have HR := Lib.hid (HADD.out k hk hat heq)
        have hcase : (∃ (b off : Nat) (xs : Wd) (xi : Int), a = some ⟨b, off, none⟩ ∧ wr.cell? ⟨b, off + k * 2, none⟩ = some (.string ⟨xs.toArray⟩) ∧ wr.cell? ⟨b, off + k * 2 + 1, none⟩ = some (.int .i64 xi) ∧ (k : Int) < (l.length : Int) ∧ decide ((k : Int) < (l.length : Int)) = true ∧ decide (ti < xi) = false ∧ (xi == ti) = false)
            ∨ (∃ (b off : Nat) (xs : Wd), a = some ⟨b, off, none⟩ ∧ wr.cell? ⟨b, off + k * 2, none⟩ = some (.string ⟨xs.toArray⟩) ∧ wr.cell? ⟨b, off + k * 2 + 1, none⟩ = some (.int .i64 ti) ∧ (k : Int) < (l.length : Int) ∧ decide ((k : Int) < (l.length : Int)) = true ∧ Op.bytesLess xs ts = false ∧ (xs == ts) = false)
            ∨ (decide ((k : Int) < (l.length : Int)) = false ∧ decide (k < l.length) = false ∧ ¬ (k : Int) < (l.length : Int)) := by
          by_cases hkl : k < l.length
          · obtain ⟨_, _, e1, _, _, hcc⟩ := HTr.out
            injection e1 with e1 e2 e3
            subst e1
            obtain ⟨b, off, ha, k1, k2⟩ := hcc k hkl
            have hnt : ¬ TLt l[k] (ts, tm) := fun h => hgo ⟨hkl, h⟩
            have hne : l[k] ≠ (ts, tm) := fun e => heq (by rw [List.getElem?_eq_getElem hkl, e])
            obtain ⟨⟨xs, xm⟩, hx⟩ : ∃ z, l[k] = z := ⟨_, rfl⟩
            rw [hx] at k1 k2 hnt hne
            simp only at k1 k2
            rw [← Nat.add_assoc] at k2
            have h0 := HTI.out
            rcases Nat.lt_trichotomy xm tm with h | h | h
            · exact .inl ⟨b, off, xs, _, ha, k1, k2, by omega, by rw [decide_eq_true_iff]; omega, by rw [decide_eq_false_iff_not]; omega, by rw [beq_eq_false_iff_ne]; omega⟩
            · subst h
              rw [h0] at k2
              refine .inr (.inl ⟨b, off, xs, ha, k1, k2, by omega, by rw [decide_eq_true_iff]; omega, ?_, ?_⟩)
              · rw [bytesLess_eq]
                rw [decide_eq_false_iff_not]
                exact fun h => hnt (.inr ⟨rfl, h⟩)
              · rw [beq_eq_false_iff_ne]
                exact fun e => hne (by rw [e])
            · exact absurd (.inl h) hnt
          · exact .inr (.inr ⟨by rw [decide_eq_false_iff_not]; omega, by rw [decide_eq_false_iff_not]; omega, by omega⟩)
        have HS1 : Hid (∀ W, Below w.heap.size w W → Src W 2 a k ((l.take k).flatMap termC)) := Lib.hid (fun W hb => terms_src_upto (HT.out.below hb) hk)
        obtain ⟨a', hsl', -⟩ := terms_src_from HT.out hk
        have HS2 : Hid (∀ W, Below w.heap.size w W → Src W 2 a' (l.length - k) ((l.drop k).flatMap termC)) := Lib.hid (fun W hb => by
          obtain ⟨a2, h1, h2⟩ := terms_src_from (HT.out.below hb) hk
          rw [hsl'] at h1
          injection h1 with h1 _ _
          subst h1; exact h2)
        have hone : ∀ l : List (Wd × Nat), ∀ u ∈ l.flatMap termC, u.oneCell' = true := fun l u hu => by
          obtain ⟨p, hp, hup⟩ := List.mem_flatMap.1 hu
          simp only [termC, List.mem_cons, List.not_mem_nil, or_false] at hup
          rcases hup with rfl | rfl <;> rfl
        have HO1 := Lib.hid (hone (l.take k))
        have HO2 := Lib.hid (hone (l.drop k))
        have hru := fun W => run_upto_t (a := a) (n := l.length) (c := c) (k := k) (by omega) W
        have hrf := fun W => run_from_t (a := a) (n := l.length) (c := c) (k := k) hk hsl' W
        have hlen1 : Hid ((l.take k).length = k) := Lib.hid (by rw [List.length_take]; omega)
        obtain ⟨m, hm⟩ : ∃ m, l.length - k = m := ⟨_, rfl⟩
        rw [hm] at hrf HS2
        have hm256 : m ≤ 1000000 := by omega
        have HM := Lib.hid hm
        clear hm hgo hat heq HLT hsl' hone
        rcases hcase with ⟨b, off, xs, xi, rfl, k1, k2, hki, g0, g1, g2⟩ | ⟨b, off, xs, rfl, k1, k2, hki, g0, g3, g4⟩ | ⟨g0, g1, g2⟩
        all_goals
          go_wp2_with fail
          go_quiet (fail)
          go_wp2_with fail
          go_quiet (fail)
          have HBd : Hid (∀ n, Below w.heap.size w (wr.drewN n)) := Lib.hid (fun n => HBw.out.drewN n)
          have hw0 : w.heap.size ≤ wr.heap.size := HBw.out.size
          go_wp2_with (at_builtin; refine wpList_append_src _ rfl _ _ 89 rfl w.heap.size 92 i0 _ 2 24 Tryz.underlying89 hi hz0 hz1 hz2 rfl (by decide) (.slice none 0 0) 0 [] rfl (World.ownsRow_nil _ _ _ _) _ k _ _ rfl (HS1.out _ (HBd.out _)) HO1.out (by unfold maxLen; omega) (by omega) hw0 ?_)
          intro v2 w2 ho2 hg2
          have hb2 : Below wr.heap.size wr w2 := ((Below.refl _ wr).drewN _).grown hg2 (Nat.le_refl _) (fun j e => by cases e)
          have HB2 := Lib.hid (HBw.out.trans (hb2.mono hw0))
          have p1 : w2.cell? ⟨w.heap.size, 0, none⟩ = some (.string ⟨ts.toArray⟩) := (hb2.cell (World.block_lt_of_cell? wr _ s1)).trans s1
          have p2 : w2.cell? ⟨w.heap.size, 1, none⟩ = some (.int .i64 ti) := (hb2.cell (World.block_lt_of_cell? wr _ s2)).trans s2
          obtain ⟨a2, c2, rfl⟩ := row_form ho2
          have HO2r := Lib.hid ho2
          clear ho2 hg2 hb2
          go_wp2_with (at_builtin; refine wpList_append_own _ rfl _ _ 89 rfl w.heap.size 92 i0 _ 2 24 Tryz.underlying89 hi hz0 hz1 hz2 rfl (by decide) _ _ _ rfl (HO2r.out.alloc _) ⟨w2.heap.size, 0, none⟩ 1 1 [.string ⟨ts.toArray⟩, .int .i64 ti] rfl rfl (World.news_of_block (cs := #[.string ⟨ts.toArray⟩, .int .i64 ti]) (t := 92) (fr := (0, 0)) (heap_alloc_new w2 _)) (by simp [Value.oneCell']) (by unfold maxLen; omega) (by omega) (by have := HB2.out.size; first | omega | (simp; omega)) ?_)
          intro v4 w4 ho4 hg4 _
          have HB4 := Lib.hid ((HB2.out.alloc HB2.out.size _).grown hg4 (by have := HB2.out.size; simp; omega) (fun j e => (HO2r.out.lt j e).1))
          clear hg4
          obtain ⟨a4, c4, rfl⟩ := row_form ho4
          have HO4 := Lib.hid ho4
          have hw4 := HB4.out.size
          clear ho4
          go_wp2_with (at_builtin; refine wpList_append_src _ rfl _ _ 89 rfl w.heap.size 92 i0 _ 2 24 Tryz.underlying89 hi hz0 hz1 hz2 rfl (by decide) _ (k + 1) _ rfl HO4.out _ m _ _ rfl (HS2.out _ HB4.out) HO2.out (by unfold maxLen; omega) (by omega) hw4 ?_)
          intro v6 w6 ho6 hg6
          have HB6 := Lib.hid (HB4.out.grown hg6 hw4 (fun j e => (HO4.out.lt j e).1))
          have HO6 := Lib.hid ho6
          clear ho6 hg6
          go_wp2
          go_ret
          refine ⟨_, rfl, ?_, HB6.out⟩
          rw [HR.out]
          refine TermsR.at (base := w.heap.size) ?_
          have e1 : ((l.take k ++ [(ts, tm)]) ++ l.drop k).length = k + 1 + m := by have := HM.out; have := hlen1.out; rw [List.length_append, List.length_append, List.length_drop]; simp only [List.length_singleton]; omega
          unfold TermsR
          rw [e1, List.flatMap_append, List.flatMap_append]
          have := HO6.out
          rw [← HTI.out] at this
          simpa [termC] using this


theorem termsR_snoc (D : List Dc) (p : Wd) (ws : List Wd) (x : Wd) : termsR D p (ws ++ [x]) = if p.isPrefixOf x then addT (termsR D p ws) (x, dn D x) else termsR D p ws := by
  unfold termsR; rw [List.foldl_append]; rfl
theorem termsR_len (D : List Dc) (p : Wd) (ws : List Wd) : (termsR D p ws).length ≤ ws.length := by
  have key : ∀ k, k ≤ ws.length → (termsR D p (ws.take k)).length ≤ k := by
    intro k
    induction k with
    | zero => intro _; simp [termsR]
    | succ k ih =>
      intro hk
      rw [List.take_succ_eq_append_getElem (by omega), termsR_snoc]
      have := ih (by omega)
      split
      · exact Nat.le_trans (addT_len _ _) (by omega)
      · omega
  have := key ws.length (Nat.le_refl _)
  rwa [List.take_length] at this
theorem flatP_len : ∀ {P : List Pd}, (∀ p ∈ P, p.1.2.length ≤ 1000) → (P.flatMap fun p => p.1.2).length ≤ P.length * 1000
  | [], _ => by simp
  | p :: P, h => by
    rw [List.flatMap_cons, List.length_append, List.length_cons]
    have := flatP_len (P := P) fun q hq => h q (List.mem_cons_of_mem _ hq)
    have := h p (by simp)
    omega
theorem docsQ_dn {D : List Dc} (hA : Asc D) (hI : Ids D) {x : Wd} (hx : okWord x) : (docsQ D x).length = dn D x := by
  unfold docsQ; rw [wordOf_word hx]; exact docs_len hA hI x

set_option maxRecDepth 100000 in
set_option maxHeartbeats 16000000 in
theorem refTerms_any {T : Nat → Prop} {y : Nat} {D : List Dc} (w : World) (h : RefAt T w y D) (hA : Asc D) (hI : Ids D) (ho : ∀ d ∈ D, ∀ x ∈ d.2, okWord x) (s : List UInt8) (hs : s.length ≤ 1000000) (n : Int) (hn0 : -9223372036854775808 ≤ n) (hn1 : n ≤ 9223372036854775807) :
    Calls Tryz.prog 54 #[.pointer (some ⟨y, 0, none⟩), .string ⟨s.toArray⟩, .int .i64 n] w fun e w' => ∃ v, e = .returned v ∧ TermsAt w' v (termsQ D s n) ∧ Below w.heap.size w w' := by
  have HW := Lib.hid (refWord_any s (by omega) w)
  have HH := Lib.hid h
  have hsmall := h.small
  have hlen := h.len
  obtain ⟨v, P, hD, hy, hv, hP⟩ := h.parts
  have hpl : P.length ≤ 256 := by rw [hD, List.length_map] at hlen; exact hlen
  obtain ⟨a, c, rfl, hle, hcm, hc⟩ := hv
  have cy : w.cell? ⟨y, 0, none⟩ = some (.slice a P.length c) := by rw [Lib.cell_of_heap hy]; rfl
  have HC := Lib.hid hc
  have HPs := Lib.hid hP
  have hyl := h.ylt
  have HOK : Hid (∀ p ∈ P, ∀ x ∈ p.1.2, okWord x) := Lib.hid (fun p hp x hx => ho p.1 (by rw [hD]; exact List.mem_map_of_mem hp) x hx)
  have HSM : Hid (∀ p ∈ P, p.1.2.length ≤ 1000) := Lib.hid (fun p hp => hsmall p.1 (by rw [hD]; exact List.mem_map_of_mem hp))
  have HDN := Lib.hid (fun x hx => docsQ_dn hA hI (x := x) hx)
  have HFIND := Lib.hid (fun W (hb : Below w.heap.size w W) (x : Wd) (hx : x.length ≤ 1000000) => refFind_any W (h.below hb) hA hI x hx)
  have HALL : Hid (∀ p, termsR D p (P.flatMap fun p => p.1.2) = termsD D p) := Lib.hid (fun p => by
    rw [← termsR_eq, hD, List.flatMap_map])
  clear h hy hc hP hlen hsmall ho hD hA hI
  by_cases hbad : s ≠ [] ∧ wordOf s = none
  · obtain ⟨hs0, hw⟩ := hbad
    have hR : Hid (termsQ D s n = []) := Lib.hid (by unfold termsQ prefW; rw [if_neg hs0, hw])
    have HW1 := HW.out
    rw [hw] at HW1
    simp only [Option.getD_none] at HW1
    have g1 : (!s.isEmpty) = true := by simpa using hs0
    have g2 : s.isEmpty = false := by simpa using hs0
    clear HW hw
    go_enter Tryz.func54, Tryz.ntmps54
    go_wp2_with fail
    refine HW1.mono ?_
    rintro e w1 ⟨rfl, hb1⟩
    have HB1 := Lib.hid hb1
    clear hb1 HW1
    go_wp2
    go_ret
    exact ⟨_, rfl, by rw [hR.out]; exact ⟨_, _, rfl, by simp, by simp, fun k h => by simp at h⟩, HB1.out⟩
  · obtain ⟨p, hp, hpw, hor⟩ : ∃ p, (wordOf s).getD [] = p ∧ prefW s = some p ∧ (p ≠ [] ∨ (s = [] ∧ p = [])) := by
      unfold prefW
      by_cases hs0 : s = []
      · subst hs0; exact ⟨[], rfl, rfl, .inr ⟨rfl, rfl⟩⟩
      · rw [if_neg hs0]
        cases hw : wordOf s with
        | none => exact absurd ⟨hs0, hw⟩ hbad
        | some x => exact ⟨x, rfl, rfl, .inl (wordOf_len hw).1⟩
    have hp30 : p.length ≤ 30 := by
      rw [← hp]
      cases hw : wordOf s with
      | none => simp
      | some x => exact (wordOf_len hw).2
    have HR : Hid (termsQ D s n = (termsD D p).take n.toNat) := Lib.hid (by unfold termsQ; rw [hpw])
    have HW1 := HW.out
    rw [hp] at HW1
    have HWW := Lib.hid HW1
    clear HW hp hpw hbad HW1
    have hor2 : (p.isEmpty = false) ∨ (s = [] ∧ p.isEmpty = true) := by
      rcases hor with h | ⟨h1, h2⟩
      · exact .inl (by simpa using h)
      · exact .inr ⟨h1, by simpa using h2⟩
    have hrow0 := fun (x : Wd) (l : List Wd) => termsR_snoc D p l x
    have HSN := Lib.hid hrow0
    clear hrow0 hor
    rcases hor2 with hpe | ⟨rfl, hpe⟩
    all_goals
      go_enter Tryz.func54, Tryz.ntmps54
      go_wp2_with fail
      refine HWW.out.mono ?_
      rintro e w1 ⟨rfl, hb1⟩
      have HB1 := Lib.hid hb1
      clear hb1 HWW
      go_wp2
      go_loopw [8, 9] (fun u i wr => ∃ k : Nat, i = .int .i64 k ∧ k ≤ P.length ∧ Hid (TermsAt wr u (termsR D p ((P.take k).flatMap fun p => p.1.2))) ∧ Hid (Below w.heap.size w wr)) (fun _ i _ => P.length - (intOf i).toNat)
      case atStart => exact ⟨0, rfl, by omega, Lib.hid ⟨_, _, rfl, by simp [termsR], by simp, fun k h => by simp [termsR] at h⟩, HB1⟩
      case round =>
        obtain ⟨k, rfl, hk, HO, HB⟩ := hrel
        have cyr : wr.cell? ⟨y, 0, none⟩ = some (.slice a P.length c) := cell_same (HB.out.block y hyl) cy
        by_cases hkl : k < P.length
        · have hki : (k : Int) < (P.length : Int) := by omega
          obtain ⟨b, off, rfl, hT, k1, k2⟩ := HC.out k hkl
          have hbl := World.block_lt_of_cell? w _ k1
          have c2w : w.cell? ⟨b, off + k * 2 + 1, none⟩ = some P[k].2 := k2
          have HT : Hid ((P.take (k + 1)).flatMap (fun p => p.1.2) = (P.take k).flatMap (fun p => p.1.2) ++ P[k].1.2) := Lib.hid (by rw [List.take_succ_eq_append_getElem hkl, List.flatMap_append]; simp)
          have hst := HPs.out P[k] (List.getElem_mem hkl)
          have hok := HOK.out P[k] (List.getElem_mem hkl)
          have hfl : ((P.take k).flatMap fun p => p.1.2).length ≤ 256000 := by
            have := flatP_len (P := P.take k) fun q hq => HSM.out q (List.mem_of_mem_take hq)
            rw [List.length_take] at this
            omega
          obtain ⟨⟨⟨i1, ws⟩, u0⟩, hx⟩ : ∃ z, P[k] = z := ⟨_, rfl⟩
          rw [hx] at c2w HT hst hok
          simp only at c2w hst hok HT
          obtain ⟨au, cu, rfl, hu1, hu2, hu3⟩ := hst
          have HU := Lib.hid hu3; have HOKw := Lib.hid hok
          have HC2 := Lib.hid c2w
          obtain ⟨Wk, hWk⟩ : ∃ l, (P.take k).flatMap (fun p => p.1.2) = l := ⟨_, rfl⟩
          rw [hWk] at HO HT hfl
          clear k1 k2 hx hu3 hok c2w hWk
          go_wp2
          go_loopw [8, 10] (fun u i wi => ∃ m : Nat, i = .int .i64 m ∧ m ≤ ws.length ∧ Hid (TermsAt wi u (termsR D p (Wk ++ ws.take m))) ∧ Hid (Below w.heap.size w wi)) (fun _ i _ => ws.length - (intOf i).toNat)
          case atStart => exact ⟨0, rfl, by omega, Lib.hid (by rw [List.take_zero, List.append_nil]; exact HO.out), HB⟩
          case round =>
            obtain ⟨m, rfl, hm, HM, HBm⟩ := hrel
            have cym : wr.cell? ⟨y, 0, none⟩ = some (.slice (some ⟨b, off, none⟩) P.length c) := cell_same (HBm.out.block y hyl) cy
            have c2 : wr.cell? ⟨b, off + k * 2 + 1, none⟩ = some (.slice au ws.length cu) := cell_same (HBm.out.block b hbl) HC2.out
            by_cases hml : m < ws.length
            · have hmi : (m : Int) < (ws.length : Int) := by omega
              obtain ⟨bw, ow, rfl, hTw, kw⟩ := HU.out m hml
              have cw : wr.cell? ⟨bw, ow + m, none⟩ = some (encW ws[m]) := cell_same (HBm.out.block bw (World.block_lt_of_cell? w _ kw)) kw
              have hxo := HOKw.out ws[m] (List.getElem_mem hml)
              have HS : Hid (termsR D p (Wk ++ ws.take (m + 1)) = if p.isPrefixOf ws[m] then addT (termsR D p (Wk ++ ws.take m)) (ws[m], dn D ws[m]) else termsR D p (Wk ++ ws.take m)) := Lib.hid (by rw [List.take_succ_eq_append_getElem hml, ← List.append_assoc, HSN.out])
              have hll : (termsR D p (Wk ++ ws.take m)).length ≤ 300000 := by
                have := termsR_len D p (Wk ++ ws.take m)
                rw [List.length_append, List.length_take] at this
                omega
              obtain ⟨x, hx⟩ : ∃ x, ws[m] = x := ⟨_, rfl⟩
              rw [hx] at cw hxo HS
              unfold encW at cw
              have hx30 := hxo.2.1
              have HDx := Lib.hid (HDN.out x hxo)
              obtain ⟨Q, hQ⟩ : ∃ l, termsR D p (Wk ++ ws.take m) = l := ⟨_, rfl⟩
              rw [hQ] at HM HS hll
              have HFx := Lib.hid (fun W hb => HFIND.out W hb x (by omega))
              clear kw hx hxo hQ
              obtain ⟨B, hB⟩ : ∃ B, p.isPrefixOf x = B := ⟨_, rfl⟩
              have hbg := begins_any x p wr
              rw [hB] at hbg HS
              have HBG := Lib.hid hbg
              clear hbg hB
              go_wp2_with fail
              refine HBG.out.mono ?_
              rintro e w2 ⟨rfl, rfl⟩
              cases B with
              | true =>
                have HS2 : Hid (termsR D p (Wk ++ ws.take (m + 1)) = addT Q (x, dn D x)) := Lib.hid (by rw [HS.out]; rfl)
                clear HS
                go_wp2_with fail
                refine (HFx.out _ HBm.out).mono ?_
                rintro e w3 ⟨vf, rfl, hrf, hb3⟩
                have HB3 := Lib.hid (HBm.out.trans (hb3.mono HBm.out.size))
                have HM3 := Lib.hid (HM.out.below hb3)
                obtain ⟨af, cf, rfl⟩ := row_form hrf
                rw [HDx.out] at *
                have HADD := Lib.hid (refAdd_any w3 _ Q HM3.out (by omega) (x, dn D x))
                obtain ⟨dd, hdd⟩ : ∃ d, dn D x = d := ⟨_, rfl⟩
                rw [hdd] at HADD HS2 ⊢
                clear hrf hb3 hdd HFx
                go_wp2_with fail
                refine HADD.out.mono ?_
                rintro e w4 ⟨v4, rfl, ht4, hb4⟩
                have HM4 : Hid (TermsAt w4 v4 (termsR D p (Wk ++ ws.take (m + 1)))) := Lib.hid (by rw [HS2.out]; exact ht4)
                have HB4 := Lib.hid (HB3.out.trans (hb4.mono HB3.out.size))
                clear ht4 hb4 HADD HM HM3
                go_wp2
                go_roundw
                case rel => exact ⟨m + 1, by go_num, by omega, HM4, HB4⟩
                case measure => simp [intOf]; omega
              | false =>
                have HM4 : Hid (TermsAt wr u8 (termsR D p (Wk ++ ws.take (m + 1)))) := Lib.hid (by rw [HS.out]; exact HM.out)
                clear HS HM HFx
                go_wp2
                go_roundw
                case rel => exact ⟨m + 1, by go_num, by omega, HM4, HBm⟩
                case measure => simp [intOf]; omega
            · have HM4 : Hid (TermsAt wr u8 (termsR D p ((P.take (k + 1)).flatMap fun p => p.1.2))) := Lib.hid (by
                have := HM.out
                rw [List.take_of_length_le (by omega)] at this
                rw [HT.out]; exact this)
              clear HM
              go_wp2
              go_roundw
              case rel => exact ⟨k + 1, by go_num, by omega, HM4, HBm⟩
              case measure => simp [intOf]; omega
        · have HO9 : Hid (TermsAt wr u8 (termsD D p)) := Lib.hid (by
            have := HO.out
            rw [List.take_of_length_le (by omega), HALL.out] at this
            exact this)
          clear HO
          obtain ⟨L, hL⟩ : ∃ L, termsD D p = L := ⟨_, rfl⟩
          rw [hL] at HO9 HR
          obtain ⟨aL, cL, rfl, hl1, hl2, hl3⟩ := HO9.out
          obtain ⟨M, hM⟩ : ∃ M, (L.take n.toNat).length = M := ⟨_, rfl⟩
          have hM2 : M = min n.toNat L.length := by rw [← hM, List.length_take]
          have hmx : max 0 (min n (L.length : Int)) = (M : Int) := by omega
          have HL3 := Lib.hid hl3
          have HMM := Lib.hid hM
          have hrun := fun W => run_upto_t (a := aL) (n := L.length) (c := cL) (k := M) (by omega) W
          have hMl : M ≤ L.length := by omega
          clear hl3 hM2 hM hL
          go_wp2
          go_ret
          refine ⟨_, rfl, ?_, HB.out⟩
          rw [HR.out]
          refine ⟨aL, cL, by rw [HMM.out]; rfl, by rw [HMM.out]; omega, hl2, fun j hj => ?_⟩
          have hj2 : j < L.length := by rw [HMM.out] at hj; omega
          obtain ⟨b, off, e, k1, k2⟩ := HL3.out j hj2
          exact ⟨b, off, e, by rw [List.getElem_take]; exact k1, by rw [List.getElem_take]; exact k2⟩
end Go.Proofs.YtogjgibaolppfaaGreatDoor
/- The reference's Suggest. -/
namespace Go.Proofs.YtogjgibaolppfaaGreatDoor
open Go.RowKit Go.Sort Go.Proofs Go.Maps Go.Lib

theorem extract_take' (q : List UInt8) (k : Nat) : (⟨q.toArray⟩ : ByteArray).extract 0 k = ⟨(q.take k).toArray⟩ := by
  apply ByteArray.ext
  simp [ByteArray.data_extract]
theorem strs_app {base : Nat} (X : World) {v : Value} {L : List (List UInt8)} (h : StrsR base X v L) (x : List UInt8) (b : Nat) (hx : X.cell? ⟨b, 0, none⟩ = some (.string ⟨x.toArray⟩)) (hbase : base ≤ X.heap.size) (hlen : L.length ≤ 1000000) :
    ∃ a' c' w', (Builtin.append_ #[28, 28] 28 #[v, .slice (some ⟨b, 0, none⟩) 1 1]).run Tryz.prog X = .ok (.slice a' (L.length + 1) c') w' ∧ StrsR base w' (.slice a' (L.length + 1) c') (L ++ [x]) ∧ Below base X w' := by
  obtain ⟨i0, hi, hz0, hz1, hz2⟩ := info_parts infoStrP
  obtain ⟨v', w', hr, h1, h2, -⟩ := run_append_own (P := Tryz.prog) X base 28 28 9 i0 _ 1 16 Tryz.underlying28 hi hz0 hz1 hz2 rfl (by decide) v L.length (L.map encW) h ⟨b, 0, none⟩ 1 1 [.string ⟨x.toArray⟩] rfl (fun j u hu => by
    have hj : j = 0 := by
      have := (List.getElem?_eq_some_iff.1 hu).1
      simpa using this
    subst hj
    simp at hu
    rw [← hu]
    exact hx) (fun u hu => by rw [List.mem_singleton.1 hu]; rfl) (by unfold maxLen; omega) (by omega) hbase
  obtain ⟨a', c', hv⟩ := row_form h1
  subst hv
  refine ⟨a', c', w', hr, ?_, (Below.refl base X).grown h2 hbase (fun j e => (World.ownsRow.lt h j e).1)⟩
  unfold StrsR
  rw [List.length_append, List.map_append]
  exact h1
theorem step_strs {ops : Array Oper} {o : Oper} {a : Act} {K : Act → World → Prop} {Qx : Exit → Act → World → Prop} {E : Prop} (X : World) (hgd : o.guard = none) (s x : Operand)
    (ho : o.op = .call { callee := .builtin .append, args := #[s, x], argTypes := #[28, 28] }) (hty : o.type = 28)
    {base : Nat} {v : Value} {L : List (List UInt8)} (y : List UInt8) (b : Nat) (hs : a.eval s = v) (h : StrsR base X v L) (hx : a.eval x = .slice (some ⟨b, 0, none⟩) 1 1) (hc : X.cell? ⟨b, 0, none⟩ = some (.string ⟨y.toArray⟩)) (hbase : base ≤ X.heap.size) (hlen : L.length ≤ 1000000)
    (hK : ∀ a' c' w', StrsR base w' (.slice a' (L.length + 1) c') (L ++ [y]) → Below base X w' → K (a.put o.dst (.slice a' (L.length + 1) c')) w') :
    if Region.wanted o (yielded ops a.tmps) = true then Oper.wp Tryz.prog o a X K Qx else E := by
  have hw' : Region.wanted o (yielded ops a.tmps) = true := by simp [Region.wanted, hgd]
  rw [if_pos hw']
  obtain ⟨a', c', w', hr, h2, h3⟩ := strs_app X h y b hc hbase hlen
  unfold Oper.wp execOp
  simp only [ho, hty, resolve, invoke, builtin, Sem.run_bind, Sem.run_pure, Result.andThen_ok, List.map_toArray, List.map_cons, List.map_nil, hs, hx, hr]
  exact hK a' c' w' h2 h3
set_option maxRecDepth 100000 in
set_option maxHeartbeats 4000000 in
theorem refSug_any {T : Nat → Prop} {y : Nat} {D : List Dc} (w : World) (h : RefAt T w y D) (hA : Asc D) (hI : Ids D) (ho : ∀ d ∈ D, ∀ x ∈ d.2, okWord x) (hvl : (vocab D).length ≤ 900000) (q : List UInt8) (hq : q.length ≤ 100000) (n : Int) (hn : -9223372036854775808 ≤ n ∧ n ≤ 9223372036854775807) :
    Calls Tryz.prog 26 #[.pointer (some ⟨y, 0, none⟩), .string ⟨q.toArray⟩, .int .i64 n] w fun e w' => ∃ v, e = .returned v ∧ StrsR w.heap.size w' v (sugD D q n) ∧ Below w.heap.size w w' := by
  have HST := Lib.hid (refStem_any q (by omega) w)
  have hsl := stem_le q
  have hht := head_take q
  have hhs := head_stem q
  have hhl : (headF q).length + (stemF q).length = q.length := by rw [← List.length_append, hhs]
  have hx1 := extract_take' q (q.length - (stemF q).length)
  rw [hht.1] at hx1
  have HT := Lib.hid (refTerms_any w h hA hI ho (stemF q) (by omega) n hn.1 hn.2)
  have hle := termsQ_le D (stemF q) n
  have HOKW : Hid (∀ t ∈ termsQ D (stemF q) n, t.1.length ≤ 30) := Lib.hid (fun t ht => by
    obtain ⟨y', _, h2, _⟩ := termsQ_mem ht
    obtain ⟨d, hd, hx⟩ := mem_vocab.1 h2
    exact (ho d hd _ hx).2.1)
  by_cases hc : stemF q = [] ∨ 30 < (stemF q).length
  · rw [sug_none hc]
    have HC := Lib.hid hc
    obtain ⟨st, hst⟩ : ∃ s, stemF q = s := ⟨_, rfl⟩
    rw [hst] at HST hc
    clear hst HT hle HOKW hsl hht hhs hhl hx1 h hA hI ho
    go_enter Tryz.func26, Tryz.ntmps26
    by_cases h0 : st = []
    · subst h0
      go_wp2_with (first
        | (go_at_call 36; (with_reducible (refine HST.out.mono ?_)); rintro e wx ⟨rfl, rfl⟩)
        | fail)
      go_ret
      exact ⟨_, rfl, World.ownsRow_nil _ _ _ _, Below.refl _ _⟩
    · have h30 : 30 < st.length := hc.resolve_left h0
      have g1 : decide ((30 : Int) < (st.length : Int)) = true := decide_eq_true (by omega)
      have g1' : decide (30 < st.length) = true := decide_eq_true h30
      go_wp2_with (first
        | (go_at_call 36; (with_reducible (refine HST.out.mono ?_)); rintro e wx ⟨rfl, rfl⟩)
        | fail)
      go_ret
      exact ⟨_, rfl, World.ownsRow_nil _ _ _ _, Below.refl _ _⟩
  · rw [sug_some hc]
    have hne : (stemF q).isEmpty = false := by
      cases hs : stemF q with
      | nil => exact absurd (.inl hs) hc
      | cons a l => rfl
    have h30 : (stemF q).length ≤ 30 := by
      rcases Nat.lt_or_ge 30 (stemF q).length with h9 | h9
      · exact absurd (.inr h9) hc
      · exact h9
    obtain ⟨Ts, hTs⟩ : ∃ l, termsQ D (stemF q) n = l := ⟨_, rfl⟩
    obtain ⟨st, hst⟩ : ∃ s, stemF q = s := ⟨_, rfl⟩
    obtain ⟨hd, hhd⟩ : ∃ s, headF q = s := ⟨_, rfl⟩
    rw [hTs] at HT hle HOKW ⊢
    rw [hst] at HST HT hne h30 hhl hx1
    rw [hhd] at hhl hx1 ⊢
    rw [show q.length - st.length = hd.length by omega] at hx1
    have hsub : (q.length : Int) - (st.length : Int) = (hd.length : Int) := by omega
    have hh0 : (0 : Int) ≤ (hd.length : Int) := by omega
    have hwr : IntKind.i64.wrap (hd.length : Int) = (hd.length : Int) := IntWalk.i64_in _ (by omega)
    have hh1 : (hd.length : Int) ≤ (q.length : Int) := by omega
    have g1 : decide ((30 : Int) < (st.length : Int)) = false := decide_eq_false (by omega)
    have g1' : decide (30 < st.length) = false := decide_eq_false (by omega)
    have hTl : Ts.length ≤ 900000 := by omega
    have hhl2 : hd.length ≤ 100000 := by omega
    clear hst hhd hTs hsl hht hhs hhl hc h hA hI ho hvl hle hn
    go_enter Tryz.func26, Tryz.ntmps26
    go_wp2_with (first
      | (go_at_call 36; (with_reducible (refine HST.out.mono ?_)); rintro e wx ⟨rfl, rfl⟩)
      | (go_at_call 54; (with_reducible (refine HT.out.mono ?_)); rintro e w2 ⟨vt, rfl, ht, hb⟩; have HTA := Lib.hid ht; have HB2 := Lib.hid hb; obtain ⟨at', ct, hvt, -⟩ := ht; subst hvt; clear hb)
      | fail)
    have hs2 := HB2.out.size
    clear HST HT g1 g1' hne h30
    go_loopw [8, 10] (fun v8 v10 wr => ∃ j : Nat, v10 = .int .i64 j ∧ j ≤ Ts.length ∧ Hid (StrsR w2.heap.size wr v8 ((Ts.take j).map fun t => hd ++ t.1)) ∧ Hid (Below w2.heap.size w2 wr)) (fun _ v10 _ => Ts.length - (intOf v10).toNat)
    case atStart => exact ⟨0, rfl, Nat.zero_le _, Lib.hid (World.ownsRow_nil _ _ _ _), Lib.hid (Below.refl _ _)⟩
    case round =>
      obtain ⟨j, rfl, hj, HR, HB⟩ := hrel
      obtain ⟨ar, cr, hvr⟩ := row_form HR.out
      subst hvr
      by_cases hjl : j < Ts.length
      · have hji : (j : Int) < (Ts.length : Int) := by omega
        have hj0 : (0 : Int) ≤ (j : Int) := by omega
        obtain ⟨a1, c1, e1, -, -, hcc⟩ := HTA.out
        injection e1 with e11 _ e13
        subst e11; subst e13
        obtain ⟨b, off, rfl, d0, -⟩ := hcc j hjl
        have d0r := (HB.out.cell (World.block_lt_of_cell? w2 _ d0)).trans d0
        have htl := HOKW.out Ts[j] (List.getElem_mem hjl)
        have HS : Hid ((Ts.take (j + 1)).map (fun t => hd ++ t.1) = (Ts.take j).map (fun t => hd ++ t.1) ++ [hd ++ Ts[j].1]) := Lib.hid (by rw [List.take_succ_eq_append_getElem hjl, List.map_append]; rfl)
        have hMl : ((Ts.take j).map fun t => hd ++ t.1).length = j := by rw [List.length_map, List.length_take]; omega
        obtain ⟨x, hx⟩ : ∃ x, Ts[j].1 = x := ⟨_, rfl⟩
        rw [hx] at d0r htl HS
        obtain ⟨M, hM⟩ : ∃ M, (Ts.take j).map (fun t => hd ++ t.1) = M := ⟨_, rfl⟩
        rw [hM] at HR HS hMl ⊢
        have hMl2 : M.length ≤ 900000 := by omega
        have qc := run_cat hd x (by omega)
        obtain ⟨z, hz⟩ : ∃ z, hd ++ x = z := ⟨_, rfl⟩
        rw [hz] at qc HS
        have hbs := HB.out.size
        have HX : Hid (Below w2.heap.size w2 (wr.alloc (.cells #[.string ⟨z.toArray⟩] 9)).drew) := Lib.hid ((HB.out.alloc hbs _).drew)
        have HRX : Hid (StrsR w2.heap.size (wr.alloc (.cells #[.string ⟨z.toArray⟩] 9)).drew (.slice ar M.length cr) M) := Lib.hid (row_stay HR.out fun i hi => (heap_alloc_old wr _ (World.ownsRow.lt HR.out i hi).2))
        have HCX : Hid ((wr.alloc (.cells #[.string ⟨z.toArray⟩] 9)).drew.cell? ⟨wr.heap.size, 0, none⟩ = some (.string ⟨z.toArray⟩)) := Lib.hid (by simp)
        clear hcc d0 hx hM hMl hz
        go_upto_region 9 with fail
        go_region_law (first
          | (refine step_strs _ rfl (.tmp 30) (.tmp 44) rfl rfl (base := w2.heap.size) z wr.heap.size rfl HRX.out rfl HCX.out HX.out.size (by omega) ?_; intro a' c' wn hS hb)
          | fail)
        all_goals
          have HSN := Lib.hid hS
          have HBN := Lib.hid (HX.out.trans hb)
          clear hS hb
          go_wp2_with fail
          go_roundw
          case rel => exact ⟨j + 1, by go_num, by omega, Lib.hid (by rw [HS.out]; exact HSN.out), HBN⟩
          case measure => simp [intOf]; omega
      · obtain rfl : j = Ts.length := by omega
        have HF2 : Hid (StrsR w2.heap.size wr (.slice ar Ts.length cr) (Ts.map fun t => hd ++ t.1)) := Lib.hid (by
          have h9 := HR.out
          simp only [List.take_length, List.length_map] at h9
          exact h9)
        have hlen : ((Ts.take Ts.length).map fun t => hd ++ t.1).length = Ts.length := by rw [List.take_length, List.length_map]
        rw [hlen]
        clear hlen HR
        go_wp2_with fail
        go_ret
        exact ⟨_, rfl, row_mono HF2.out hs2, bthen HB2.out HB.out⟩
end Go.Proofs.YtogjgibaolppfaaGreatDoor
/- A fresh slice of parts, and appends of parts at a step of a region. -/
namespace Go.Proofs.YtogjgibaolppfaaGreatDoor
open Go.RowKit Go.Sort Go.Proofs Go.Maps

def mkC : Array Value := madeCells (Value.agg #[.int .i64 0, .slice none 0 0, .bool false]).cells 24
theorem mkC_size : mkC.size = 8 * 3 := by kernel_rfl
theorem make_parts (W : World) : (Instr.makeSlice 26 (.int .i64 0) (.int .i64 8)).run Tryz.prog W = .ok (.slice (some ⟨W.heap.size, 0, none⟩) 0 8) (W.alloc (.cells mkC 53)) := by
  obtain ⟨i0, hi, hz0, hz1, hz2⟩ := info_parts infoPart
  have := run_make W 26 53 i0 _ Tryz.underlying26 hi hz0 .i64 .i64 0 8 (by omega) (by omega) (by rw [hz2]; decide) (by omega)
  rw [hz1] at this
  exact this
theorem parts_made {base : Nat} (X : World) (hb : base ≤ X.heap.size) : PartsR base (X.alloc (.cells mkC 53)) (.slice (some ⟨X.heap.size, 0, none⟩) 0 8) [] :=
  ⟨World.ownsRow_made X mkC 8 hb (by unfold maxLen; omega) mkC_size, fun x hx => by cases hx⟩
theorem parts_app {base : Nat} (X : World) {P Q : List Pv} {v : Value} (hP : PartsR base X v P) {ad : Addr} {c : Nat} (hnews : ∀ j u, (Q.flatMap prtC)[j]? = some u → X.cell? (ad.add j) = some u) (hw : ∀ y ∈ Q, WordsO X y.2 y.1.words) (hbase : base ≤ X.heap.size) (hlen : P.length + Q.length ≤ 1000) :
    ∃ a' c' w', (Builtin.append_ #[26, 26] 26 #[v, .slice (some ad) Q.length c]).run Tryz.prog X = .ok (.slice a' (P.length + Q.length) c') w' ∧ PartsR base w' (.slice a' (P.length + Q.length) c') (P ++ Q) ∧ Below base X w' := by
  obtain ⟨i0, hi, hz0, hz1, hz2⟩ := info_parts infoPart
  obtain ⟨v', w', hr, h1, h2, -⟩ := run_append_own (P := Tryz.prog) X base 26 26 53 i0 _ 3 40 Tryz.underlying26 hi hz0 hz1 hz2 rfl (by decide) v P.length (P.flatMap prtC) hP.1 ad Q.length c (Q.flatMap prtC) (prtC_len Q) hnews (parts_one hw) (by unfold maxLen; omega) (by omega) hbase
  obtain ⟨a', c', hv⟩ := row_form h1
  subst hv
  have hPR := hP.cat hw h1 h2
  exact ⟨a', c', w', hr, by rw [← List.length_append] at hPR ⊢; exact hPR, (Below.refl base X).grown h2 hbase (fun j e => (hP.1.lt j e).1)⟩
theorem op_parts {o : Oper} {a : Act} {K : Act → World → Prop} {Qx : Exit → Act → World → Prop} (X : World) (s x : Operand)
    (ho : o.op = .call { callee := .builtin .append, args := #[s, x], argTypes := #[26, 26] }) (hty : o.type = 26)
    {base : Nat} (P Q : List Pv) (M N : Nat) (hM : Q.length = M) (hN : P.length + Q.length = N) {v : Value} (hs : a.eval s = v) (hP : PartsR base X v P) {ad : Addr} {c : Nat} (hx : a.eval x = .slice (some ad) M c) (hnews : ∀ j u, (Q.flatMap prtC)[j]? = some u → X.cell? (ad.add j) = some u) (hw : ∀ y ∈ Q, WordsO X y.2 y.1.words) (hbase : base ≤ X.heap.size) (hlen : P.length + Q.length ≤ 1000)
    (h : ∀ a' c' w', PartsR base w' (.slice a' N c') (P ++ Q) → Below base X w' → K (a.put o.dst (.slice a' N c')) w') : o.wp Tryz.prog a X K Qx := by
  subst hM
  subst hN
  obtain ⟨a', c', w', hr, h2, h3⟩ := parts_app X hP hnews hw hbase hlen (c := c)
  unfold Oper.wp execOp
  simp only [ho, hty, resolve, invoke, builtin, Sem.run_bind, Sem.run_pure, Result.andThen_ok, List.map_toArray, List.map_cons, List.map_nil, hs, hx, hr]
  exact h a' c' w' h2 h3
theorem step_parts {ops : Array Oper} {o : Oper} {a : Act} {K : Act → World → Prop} {Qx : Exit → Act → World → Prop} {E : Prop} (X : World) (hgd : o.guard = none) (s x : Operand)
    (ho : o.op = .call { callee := .builtin .append, args := #[s, x], argTypes := #[26, 26] }) (hty : o.type = 26)
    {base : Nat} (P Q : List Pv) (M N : Nat) (hM : Q.length = M) (hN : P.length + Q.length = N) {v : Value} (hs : a.eval s = v) (hP : PartsR base X v P) {ad : Addr} {c : Nat} (hx : a.eval x = .slice (some ad) M c) (hnews : ∀ j u, (Q.flatMap prtC)[j]? = some u → X.cell? (ad.add j) = some u) (hw : ∀ y ∈ Q, WordsO X y.2 y.1.words) (hbase : base ≤ X.heap.size) (hlen : P.length + Q.length ≤ 1000)
    (h : ∀ a' c' w', PartsR base w' (.slice a' N c') (P ++ Q) → Below base X w' → K (a.put o.dst (.slice a' N c')) w') :
    if Region.wanted o (yielded ops a.tmps) = true then Oper.wp Tryz.prog o a X K Qx else E := by
  have hw' : Region.wanted o (yielded ops a.tmps) = true := by simp [Region.wanted, hgd]
  rw [if_pos hw']
  exact op_parts X s x ho hty P Q M N hM hN hs hP hx hnews hw hbase hlen h
end Go.Proofs.YtogjgibaolppfaaGreatDoor
/- The law SearchRunMatchesReference, walked. -/
namespace Go.Proofs.YtogjgibaolppfaaGreatDoor
open Go.RowKit Go.Sort Go.Proofs Go.Maps Go.Lib

def hitsX (R : Option (List Prt)) (D : List Dc) (n : Int) : List (Int × Nat) := match R with | none => [] | some ps => (resD D ps).take n.toNat
def lenX (R : Option (List Prt)) (D : List Dc) : Int := match R with | none => 0 | some ps => ((resD D ps).length : Int)
def errX (R : Option (List Prt)) : Int := match R with | none => 180 | some _ => 0
theorem RunPost.of {R : Option (List Prt)} {D : List Dc} {n : Int} {w w' : World} {e : Ending} (h : RunPost R D n w e w') : Below w.heap.size w w' ∧ ∃ a c, e = .returned (.tuple #[.slice a (hitsX R D n).length c, .int .i64 (lenX R D), .int .i64 (errX R)]) ∧ HitsAt w' (.slice a (hitsX R D n).length c) (hitsX R D n) := by
  obtain ⟨hb, h⟩ := h
  refine ⟨hb, ?_⟩
  cases R with
  | none => exact ⟨none, 0, h, none, 0, rfl, Nat.le_refl _, by omega, fun k hk => by simp [hitsX] at hk⟩
  | some ps =>
    obtain ⟨v, he, hh⟩ := h
    obtain ⟨a, c, hv⟩ := row_form hh
    subst hv
    exact ⟨a, c, he, HitsR.at hh⟩
/-- a reference index that is only read -/
def RX (W : World) (y : Nat) (D : List Dc) : Prop := ∃ T : Nat → Prop, RefAt T W y D
theorem RX.below {W W' : World} {y : Nat} {D : List Dc} (h : RX W y D) (hb : Below W.heap.size W W') : RX W' y D := by
  obtain ⟨T, h⟩ := h
  exact ⟨T, h.below hb⟩
theorem St.rx {B : Nat} {w0 : World} {p y : Nat} {D E : List Dc} {N : Nat} {W : World} (h : St B w0 p y D E N W) : RX W y E := by
  obtain ⟨S, T, h1, h2⟩ := h
  exact ⟨T, h1.ref⟩
theorem IX.oks' {W : World} {p : Nat} {D : List Dc} (h : IX W p D) : ∀ d ∈ D, ∀ x ∈ d.2, okWord x := by
  obtain ⟨S, Q, N, h1, h2⟩ := h
  exact h1.oks
theorem RX.voc {W : World} {y : Nat} {D : List Dc} (h : RX W y D) (hA : Asc D) (hI : Ids D) : (vocab D).length ≤ 256000 := by
  obtain ⟨T, h⟩ := h
  exact vocab_len hA hI h.small
theorem sugD_le (D : List Dc) (q : List UInt8) (n : Int) : (sugD D q n).length ≤ (vocab D).length := by
  by_cases h : stemF q = [] ∨ 30 < (stemF q).length
  · rw [sug_none h]; exact Nat.zero_le _
  · rw [sug_some h, List.length_map]; exact termsQ_le _ _ _
set_option maxRecDepth 100000 in
set_option maxHeartbeats 8000000 in
theorem lawRun_any (v : Value) (ds : List Int) (u : Value) (xs : List Int) (n0 n1 : Int) (hn0 : I64 n0) (hn1 : I64 n1) (w : World) (hv : IntsL w v ds) (hu : IntsL w u xs) (hE : Env w) :
    Calls Tryz.prog 4 #[v, u, .agg #[.int .i64 n0, .int .i64 n1]] w fun e w' => e = .returned (.bool true) ∧ Below w.heap.size w w' := by
  have HE := Lib.hid hE
  have HV := Lib.hid hv
  have HU := Lib.hid hu
  obtain ⟨av, cv, hve, -⟩ := hv
  subst hve
  obtain ⟨au, cu, hue, -⟩ := hu
  subst hue
  clear hE
  go_enter Tryz.func4, Tryz.ntmps4
  obtain ⟨w0, hw0⟩ : ∃ w0, w.alloc (.cells #[.int .i64 n0, .int .i64 n1] 34) = w0 := ⟨_, rfl⟩
  go_upto_region 1 with fail
  have HB0 : Hid (Below w.heap.size w w0) := Lib.hid (by rw [← hw0]; exact (Below.refl _ w).alloc (Nat.le_refl _) _)
  have HC0 : Hid (w0.cell? ⟨w.heap.size, 0, none⟩ = some (.int .i64 n0) ∧ w0.cell? ⟨w.heap.size, 1, none⟩ = some (.int .i64 n1)) := Lib.hid (by rw [← hw0, World.cell?_alloc_new, World.cell?_alloc_new]; exact ⟨rfl, rfl⟩)
  have HBL : Hid (w.heap.size < w0.heap.size) := Lib.hid (by rw [← hw0]; simp)
  have HS := Lib.hid (sane_any w0 (HE.out.below HB0.out))
  clear hw0
  obtain ⟨bx, hbx⟩ : ∃ bx, w.heap.size = bx := ⟨_, rfl⟩
  have HBX := Lib.hid hbx
  rw [hbx] at HC0 HBL ⊢
  clear hbx
  go_upto_region 4 with (first
    | (go_at_call 12; (with_reducible (refine HS.out.mono ?_)); rintro e w1 ⟨rfl, hb⟩; have HB1 := Lib.hid hb; clear hb; have HMA := Lib.hid (made_any _ ds w1 ((HV.out.below HB0.out).below HB1.out)))
    | (go_at_call 19; (with_reducible (refine HMA.out.mono ?_)); rintro e w2 ⟨p, y, rfl, hst⟩; have HI2 := Lib.hid (hst.ix (by omega)); have HX2 := Lib.hid hst.rx; have HB2 := Lib.hid (bthen HB1.out hst.base); clear hst)
    | fail)
  have hasc := HI2.out.asc
  have hids := HI2.out.ids
  have hoks := HI2.out.oks'
  have hvoc := HX2.out.voc hasc hids
  obtain ⟨D, hD⟩ : ∃ D, mD ds (min ds.length 12) = D := ⟨_, rfl⟩
  rw [hD] at hasc hids hoks hvoc HI2 HX2
  have HCW : Hid (∀ W, Below w2.heap.size w2 W → W.cell? ⟨bx, 0, none⟩ = some (.int .i64 n0) ∧ W.cell? ⟨bx, 1, none⟩ = some (.int .i64 n1)) := Lib.hid (fun W hW => by
    have hb := bthen HB2.out hW
    exact ⟨(hb.cell HBL.out).trans HC0.out.1, (hb.cell HBL.out).trans HC0.out.2⟩)
  have HPS := Lib.hid (parts_law _ xs w2.drew (((HU.out.below HB0.out).below HB2.out).below (Below.refl _ _).drew))
  have HSO : Hid (∀ (W : World) (g c : Nat) (P : List Pv) (base : Nat), PartsR base W (.slice (some ⟨g, 0, none⟩) P.length c) P → LP (P.map (·.1)) → Calls Tryz.prog 14 #[.slice (some ⟨g, 0, none⟩) P.length c, .int .i64 n1] W fun e w' => ∃ t : List UInt8, Deco (formL (P.map (·.1))) t ∧ e = .returned (.string ⟨t.toArray⟩) ∧ Below W.heap.size W w') := Lib.hid (fun W g c P base hP hL => source_any _ _ n1 hn1 W hP.at hL.ok hL.eight)
  obtain ⟨e0, e1⟩ := HCW.out w2 (Below.refl _ _)
  have e1d : w2.drew.cell? ⟨bx, 1, none⟩ = some (.int .i64 n1) := e1
  clear hD HMA HS HB1
  go_cut [9] (fun v wx => ∃ t : List UInt8, v = .string ⟨t.toArray⟩ ∧ t.length ≤ 448 ∧ Below w2.heap.size w2 wx)
  case first =>
    go_region_law (first
      | (go_simp; go_at_call 14; (with_reducible (refine (HSO.out _ _ _ _ _ hP hL).mono ?_)); rintro e w4 ⟨t, ht, rfl, hb4⟩)
      | (go_simp; go_at_call 15; (with_reducible (refine HPS.out.mono ?_)); rintro e w3 ⟨g, c, P, rfl, hP, hL, hb3⟩; have hb23 : Below w2.heap.size w2 w3 := bthen ((Below.refl _ w2).drew) hb3; have e1w := (HCW.out w3 hb23).2)
      | fail)
    all_goals
      go_wp2_with fail
      go_meet
      exact ⟨t, rfl, by have h1 := ht.len; have h2 := hL.len; omega, bthen hb23 hb4⟩
  case rest =>
    obtain ⟨q, rfl, hql, hb⟩ := hcut
    obtain ⟨w4, hw4⟩ : ∃ w4, w4 = wc := ⟨_, rfl⟩
    subst hw4
    have HB4 := Lib.hid (bthen HB2.out hb)
    have HI4 := Lib.hid (HI2.out.below hb)
    have HX4 := Lib.hid (HX2.out.below hb)
    have HB24 := Lib.hid hb
    have HE4 := Lib.hid (HE.out.below (HB0.out.trans (HB4.out.mono HB0.out.size)))
    obtain ⟨f0, f1⟩ := HCW.out w4 hb
    have HRA : Hid (Calls Tryz.prog 20 #[.pointer (some ⟨p, 0, none⟩), .string ⟨q.toArray⟩, .int .i64 n0] w4 fun e w' => Below w4.heap.size w4 w' ∧ ∃ a c, e = .returned (.tuple #[.slice a (hitsX (parseP q) D n0).length c, .int .i64 (lenX (parseP q) D), .int .i64 (errX (parseP q))]) ∧ HitsAt w' (.slice a (hitsX (parseP q) D n0).length c) (hitsX (parseP q) D n0)) := Lib.hid (by
      obtain ⟨S, Q, N, k1, k2⟩ := HI4.out
      exact (run_any w4 k1 k2 HE4.out q (by omega) n0 hn0).mono fun _ _ h => h.of)
    have HRB : Hid (∀ W, Below w4.heap.size w4 W → Calls Tryz.prog 21 #[.pointer (some ⟨y, 0, none⟩), .string ⟨q.toArray⟩, .int .i64 n0] W fun e w' => Below W.heap.size W w' ∧ ∃ a c, e = .returned (.tuple #[.slice a (hitsX (parseP q) D n0).length c, .int .i64 (lenX (parseP q) D), .int .i64 (errX (parseP q))]) ∧ HitsAt w' (.slice a (hitsX (parseP q) D n0).length c) (hitsX (parseP q) D n0)) := Lib.hid (fun W hW => by
      obtain ⟨T, k1⟩ := HX4.out.below hW
      exact (refRun_any W k1 hasc hids hoks q (by omega) n0 hn0).mono fun _ _ h => h.of)
    obtain ⟨X, hX⟩ : ∃ X, hitsX (parseP q) D n0 = X := ⟨_, rfl⟩
    obtain ⟨L, hL⟩ : ∃ L, lenX (parseP q) D = L := ⟨_, rfl⟩
    obtain ⟨E, hEE⟩ : ∃ E, errX (parseP q) = E := ⟨_, rfl⟩
    rw [hX, hL, hEE] at HRA HRB
    clear hb hX hL hEE e0 e1 e1d HPS HSO
    go_upto_region 6 with (first
      | (go_at_call 20; (with_reducible (refine HRA.out.mono ?_)); rintro e w5 ⟨hb, aa, ca, rfl, hh⟩; have HB5 := Lib.hid hb; have HA5 := Lib.hid hh; clear hb hh)
      | fail)
    obtain ⟨f0', f1'⟩ := HCW.out w5 (bthen HB24.out HB5.out)
    have HRB5 := Lib.hid (HRB.out w5 HB5.out)
    go_upto_region 9 with (first
      | (go_at_call 21; (with_reducible (refine HRB5.out.mono ?_)); rintro e w6 ⟨hb, ab, cb, rfl, hh⟩; have HB6 := Lib.hid (bthen HB5.out hb); have HA6 := Lib.hid (HA5.out.below hb); have HD6 := Lib.hid hh; clear hb hh)
      | (go_at_call 22; (with_reducible (refine (sameHits_true _ _ X w6 HA6.out HD6.out).mono ?_)); rintro e w7 ⟨rfl, hb⟩; have HB7 := Lib.hid (bthen HB6.out hb); clear hb)
      | fail)
    have hb27 : Below w2.heap.size w2 w7 := bthen HB24.out HB7.out
    have HB27 := Lib.hid hb27
    have h1d : w7.drew.cell? ⟨bx, 1, none⟩ = some (.int .i64 n1) := (HCW.out w7 hb27).2
    have HW7 := Lib.hid (bthen HB2.out hb27)
    have HOD := Lib.hid (odd_any _ xs w7.drew (((HU.out.below HB0.out).below HW7.out).below (Below.refl _ _).drew))
    have HVO : Hid (∀ W, Calls Tryz.prog 23 #[.int .i64 n1] W fun e w' => e = .returned (.string ⟨(vocF (pickN n1 7)).toArray⟩) ∧ Below W.heap.size W w') := Lib.hid (fun W => voc_any n1 hn1 W)
    have hv3 := (voc_ok _ (voc_mem (pickN n1 7))).2
    obtain ⟨vw, hvw⟩ : ∃ x, vocF (pickN n1 7) = x := ⟨_, rfl⟩
    rw [hvw] at HVO hv3
    have hx1 := extract_take' vw 1
    obtain ⟨z1, hz1⟩ : ∃ z, q ++ [32] = z := ⟨_, rfl⟩
    obtain ⟨z2, hz2⟩ : ∃ z, vw.take 1 = z := ⟨_, rfl⟩
    obtain ⟨z3, hz3⟩ : ∃ z, z1 ++ z2 = z := ⟨_, rfl⟩
    have hl1 : z1.length = q.length + 1 := by rw [← hz1, List.length_append]; rfl
    have hl2 : z2.length ≤ 1 := by rw [← hz2, List.length_take]; omega
    have hl3 : z3.length ≤ 460 := by rw [← hz3, List.length_append]; omega
    have r1 := run_cat q [32] (by simp; omega)
    have r2 := run_cat z1 z2 (by omega)
    rw [hz1] at r1
    rw [hz2] at hx1
    rw [hz3] at r2
    have hv1 : (1 : Int) ≤ (vw.length : Int) := by omega
    clear hvw hz1 hz2 hz3 hl1 hb27 HA5 HA6 HD6 HRA HRB HRB5 f0 f1 f0' f1'
    go_cut [72, 73, 74] (fun va vb vc wx => ∃ (b : Nat) (qs : List (List UInt8)), va = .slice (some ⟨b, 0, none⟩) 3 3 ∧ vb = .int .i64 3 ∧ vc = .int .i64 0 ∧ qs.length = 3 ∧ (∀ q ∈ qs, q.length ≤ 1000) ∧ (∀ j (h : j < qs.length), wx.cell? ⟨b, j, none⟩ = some (.string ⟨qs[j].toArray⟩)) ∧ Below w7.heap.size w7 wx)
    case first =>
      go_region_law (first
        | (go_simp; go_at_call 23; (with_reducible (refine (HVO.out _).mono ?_)); rintro e w9 ⟨rfl, hb9⟩)
        | (go_simp; go_at_call 13; (with_reducible (refine HOD.out.mono ?_)); rintro e w8 ⟨t8, rfl, htl8, hb8⟩; have hb78 : Below w7.heap.size w7 w8 := bthen ((Below.refl _ w7).drew) hb8; have e18 := (HCW.out w8 (bthen HB27.out hb78)).2)
        | fail)
      all_goals
        go_wp2_with fail
        go_meet
        exact ⟨_, [q, t8, z3], rfl, rfl, rfl, rfl, fun q' hq => by
          simp only [List.mem_cons, List.not_mem_nil, or_false] at hq
          rcases hq with rfl | rfl | rfl <;> omega, fun j hj => by
          have hj' : j < 3 := hj
          rcases (show j = 0 ∨ j = 1 ∨ j = 2 by omega) with rfl | rfl | rfl <;> simp, (bthen hb78 hb9).alloc (bthen hb78 hb9).size _⟩
    case rest =>
      obtain ⟨bq, qs, rfl, rfl, rfl, hqs3, hqsl, hqc, hbq⟩ := hcut
      obtain ⟨w8, hw8⟩ : ∃ w8, w8 = wc := ⟨_, rfl⟩
      subst hw8
      have HQC := Lib.hid hqc
      have HQ3 := Lib.hid hqs3
      have HQL := Lib.hid hqsl
      have HB28 := Lib.hid (bthen HB27.out hbq)
      have HI8 := Lib.hid (HI2.out.below HB28.out)
      have HX8 := Lib.hid (HX2.out.below HB28.out)
      clear hqc hqs3 hqsl hbq HOD HVO h1d r1 r2 hx1
      go_wp2_with fail
      go_loopw [74] (fun v74 wr => ∃ j : Nat, v74 = .int .i64 j ∧ j ≤ 3 ∧ Hid (Below w8.heap.size w8 wr)) (fun v74 _ => 3 - (intOf v74).toNat)
      case atStart => exact ⟨0, rfl, Nat.zero_le _, Lib.hid (Below.refl _ _)⟩
      case round =>
        obtain ⟨j, rfl, hj, HB⟩ := hrel
        by_cases hj3 : j < 3
        · have hji : (j : Int) < 3 := by omega
          have hjl : j < qs.length := by rw [HQ3.out]; exact hj3
          have ck0 := HQC.out j hjl
          have ck := (HB.out.cell (World.block_lt_of_cell? w8 _ ck0)).trans ck0
          have hsl := HQL.out qs[j] (List.getElem_mem hjl)
          obtain ⟨s, hs⟩ : ∃ q, qs[j] = q := ⟨_, rfl⟩
          rw [hs] at ck hsl
          have hsug := sugD_le D s n0
          have HSG := Lib.hid ((HI8.out.below (bthen HB.out ((Below.refl _ wr).drew))).sug s (by omega) n0 hn0)
          have HSR : Hid (∀ W, Below wr.heap.size wr W → Calls Tryz.prog 26 #[.pointer (some ⟨y, 0, none⟩), .string ⟨s.toArray⟩, .int .i64 n0] W fun e w' => ∃ v, e = .returned v ∧ StrsR W.heap.size w' v (sugD D s n0) ∧ Below W.heap.size W w') := Lib.hid (fun W hW => by
            obtain ⟨T, k1⟩ := HX8.out.below (bthen HB.out hW)
            exact refSug_any W k1 hasc hids hoks (by omega) s (by omega) n0 hn0)
          obtain ⟨Ls, hL⟩ : ∃ l, sugD D s n0 = l := ⟨_, rfl⟩
          rw [hL] at HSG HSR hsug
          have hb2r : Below w2.heap.size w2 wr := bthen HB28.out HB.out
          have HB2R := Lib.hid hb2r
          have d0 : wr.drew.cell? ⟨bx, 0, none⟩ = some (.int .i64 n0) := (HCW.out wr hb2r).1
          clear ck0 hs hL hjl hb2r
          go_upto_region 12 with fail
          go_cut [89] (fun v wx => v = .bool false ∧ Below wr.heap.size wr wx)
          case first =>
            go_region_law (first
              | (go_simp; go_at_call 24; (with_reducible (refine (sameStr_true _ _ Ls wT hAt2 hBt hL7).mono ?_)); rintro e wU ⟨rfl, hbU⟩)
              | (go_simp; go_at_call 26; (with_reducible (refine (HSR.out _ hbrS).mono ?_)); rintro e wT ⟨vT, rfl, hB, hbT⟩; have hBt : StrsAt wT vT Ls := strsAt_of_owns hB (by omega); have hAt2 : StrsAt wT vS Ls := hAt.below hbT)
              | (go_simp; go_at_call 25; (with_reducible (refine HSG.out.mono ?_)); rintro e wS ⟨vS, rfl, hA, hbS⟩; have hbrS : Below wr.heap.size wr wS := bthen ((Below.refl _ wr).drew) hbS; have hAt : StrsAt wS vS Ls := strsAt_of_owns hA (by omega); have hL7 : Ls.length ≤ 9223372036854775807 := (by omega); have d0S := (HCW.out wS (bthen HB2R.out hbrS)).1)
              | fail)
            all_goals
              go_wp2_with fail
              go_meet
              exact ⟨rfl, bthen (bthen hbrS hbT) hbU⟩
          case rest =>
            obtain ⟨rfl, hbN⟩ := hcut
            have HBN := Lib.hid (bthen HB.out hbN)
            clear hbN HSG HSR d0 ck
            go_wp2_with fail
            go_roundw
            case rel => exact ⟨j + 1, by go_num, by omega, HBN⟩
            case measure => simp [intOf]; omega
        · obtain rfl : j = 3 := by omega
          have HBF := Lib.hid (HB0.out.trans ((bthen (bthen HB2.out HB28.out) HB.out).mono HB0.out.size))
          go_wp2_with fail
          go_ret
          exact ⟨rfl, HBF.out⟩
end Go.Proofs.YtogjgibaolppfaaGreatDoor
