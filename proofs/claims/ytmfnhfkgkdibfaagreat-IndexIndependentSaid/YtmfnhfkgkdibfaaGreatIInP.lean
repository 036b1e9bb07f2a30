/- Plain: one document alone. -/
import Derived.Test.YtmfnhfkgkdibfaaGreatICnP
import Derived.Test.YtmfnhfkgkdibfaaGreatIPre
namespace Go.Proofs.YtmfnhfkgkdibfaaGreat

theorem hitsF_len (c : Int → Nat) : (hitsF c).length ≤ 256 := by
  unfold hitsF
  have := List.length_filterMap_le (fun (i : Nat) => if 0 < c ((i : Int) + 1) then some ((i : Int) + 1, c ((i : Int) + 1)) else none) (List.range 256)
  rw [List.length_range] at this
  exact this
theorem docsQ_len (D : List Dc) (s : List UInt8) : (docsQ D s).length ≤ 256 := by rw [docsQ_cq]; exact hitsF_len _
theorem prefQ_len (D : List Dc) (s : List UInt8) : (prefQ D s).length ≤ 256 := by
  unfold prefQ
  split
  · simp
  · exact hitsF_len _
theorem phraseQ_len (D : List Dc) (q : List (List UInt8)) : (phraseQ D q).length ≤ 256 := by
  unfold phraseQ
  split
  · simp
  · split
    · simp
    · exact hitsF_len _
theorem run_single {l : List Op3} {o : Op3} (ho : o ∈ leftL l) (i : Int) (hi : 1 ≤ i ∧ i ≤ 256) : wordsAt (runD [o]) i = if i = o.2.1 then wordsAt (runD l) i else none := by
  obtain ⟨h1, h2⟩ := mem_leftL.1 ho
  obtain ⟨h3, h4⟩ := mem_leftAt.1 h2
  rw [(run_facts [o]).2.2 i hi]
  unfold lw
  by_cases h : i = o.2.1
  · subst h
    rw [(left_words ho).1, if_pos rfl]
    simp [h4]
  · have h' : ¬ o.2.1 = i := fun e => h e.symm
    simp [h, h']
theorem hits_single {l : List Op3} {o : Op3} (ho : o ∈ leftL l) (f : List Wd → Nat) : (hitsF (docsF (runD l) f)).filter (fun y => decide (y.1 = o.2.1)) = hitsF (docsF (runD [o]) f) := by
  refine hits_unique (List.Pairwise.filter _ (hitsF_asc _)) (hitsF_asc _) fun x => ?_
  rw [List.mem_filter, mem_hitsF, mem_hitsF, decide_eq_true_eq]
  constructor
  · rintro ⟨⟨h1, h2, h3, h4⟩, h5⟩
    refine ⟨h1, h2, h3, ?_⟩
    rw [h4]
    unfold docsF
    rw [run_single ho x.1 ⟨h1, h2⟩, if_pos h5]
  · rintro ⟨h1, h2, h3, h4⟩
    have h5 : x.1 = o.2.1 := by
      refine Decidable.byContradiction fun h => ?_
      unfold docsF at h4
      rw [run_single ho x.1 ⟨h1, h2⟩, if_neg h] at h4
      simp only [Option.map_none, Option.getD_none] at h4
      omega
    refine ⟨⟨h1, h2, h3, ?_⟩, h5⟩
    rw [h4]
    unfold docsF
    rw [run_single ho x.1 ⟨h1, h2⟩, if_pos h5]
theorem both_single {l : List Op3} {o : Op3} (ho : o ∈ leftL l) (s : List UInt8) : (docsQ (runD l) s ++ prefQ (runD l) s).filter (fun y => decide (y.1 = o.2.1)) = docsQ (runD [o]) s ++ prefQ (runD [o]) s := by
  rw [List.filter_append]
  congr 1
  · rw [docsQ_cq, docsQ_cq]; exact hits_single ho _
  · unfold prefQ
    cases wordOf s with
    | none => rfl
    | some x => exact hits_single ho _
theorem phrase_single {l : List Op3} {o : Op3} (ho : o ∈ leftL l) (q : List (List UInt8)) : (phraseQ (runD l) q).filter (fun y => decide (y.1 = o.2.1)) = phraseQ (runD [o]) q := by
  unfold phraseQ
  split
  · rfl
  · split
    · rfl
    · exact hits_single ho _
end Go.Proofs.YtmfnhfkgkdibfaaGreat
