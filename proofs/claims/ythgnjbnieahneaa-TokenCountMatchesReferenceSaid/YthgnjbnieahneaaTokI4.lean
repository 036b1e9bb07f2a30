import Derived.Test.YthgnjbnieahneaaTokH
import Derived.Test.YthgnjbnieahneaaTokN
namespace Go.Proofs.Ythgnjbnieahneaa
open Go.RowKit

theorem same_eq {xs ys : List (List UInt8)} (h : xs = ys) : sameB xs ys = true := by simp [sameB, h]
theorem norm_size {x : List UInt8} (h : x.length ≤ 600) : (normOf (wordsOf x)).length ≤ 1200 := by
  have h1 := words_lens x
  have h2 := normOf_len (wordsOf x)
  omega

set_option maxHeartbeats 400000 in
theorem law4_any (s : ByteArray) (hs : s.size ≤ 9223372036854775807) (w : World) :
    Calls Try.prog 6 #[.string s] w fun e w' => e = .returned (.bool true) ∧ Below w.heap.size w w' := by
  go_enter Try.func6, Try.ntmps6
  go_wp2_with fail
  refine (sane_any _).mono ?_
  rintro e w1 ⟨rfl, hb1⟩
  go_wp2_with fail
  refine (short_any s _ hs).mono ?_
  rintro e w2 ⟨rfl, rfl⟩
  have hc := cut600_len s.data.toList
  generalize cut600 s.data.toList = x at *
  have hx : (⟨x.toArray⟩ : ByteArray).size ≤ 274877906944 := by rw [mk_size]; omega
  go_wp2_with fail
  refine (Normal_any ⟨x.toArray⟩ hx _).mono ?_
  rw [mk_data]
  rintro e w2 ⟨rfl, hb2⟩
  have hn := norm_size hc
  have HA := Lib.hid (words_again x)
  generalize hy : normOf (wordsOf x) = y at *
  have HY := Lib.hid hy; clear hy
  have hyl : (⟨y.toArray⟩ : ByteArray).size ≤ 274877906944 := by rw [mk_size]; omega
  go_wp2_with fail
  refine (Words_any ⟨y.toArray⟩ hyl _).mono ?_
  intro e w3 hp3
  obtain ⟨v, rfl, hs3, hb3⟩ := hp3.strs hyl
  rw [mk_data, HA.out] at hs3
  clear hp3
  go_wp2_with fail
  refine (Words_any ⟨x.toArray⟩ hx _).mono ?_
  intro e w4 hp4
  obtain ⟨v4, rfl, hs4, hb4⟩ := hp4.strs hx
  rw [mk_data] at hs4
  clear hp4
  go_wp2_with fail
  refine (same_any v v4 _ _ _ (hs3.below hb4) hs4).mono ?_
  rw [same_refl]
  rintro e w5 ⟨rfl, hb5⟩
  go_wp2_with fail
  refine (Normal_any ⟨y.toArray⟩ hyl _).mono ?_
  rw [mk_data, HA.out, HY.out]
  rintro e w6 ⟨rfl, hb6⟩
  go_wp2
  go_ret
  exact ⟨rfl, below_then (below_then (below_then (below_then (below_then hb1 hb2) hb3) hb4) hb5) hb6⟩

set_option maxHeartbeats 400000 in
theorem law5_any (s t : ByteArray) (hs : s.size ≤ 9223372036854775807) (ht : t.size ≤ 9223372036854775807) (w : World) :
    Calls Try.prog 7 #[.string s, .string t] w fun e w' => e = .returned (.bool true) ∧ Below w.heap.size w w' := by
  go_enter Try.func7, Try.ntmps7
  go_wp2_with fail
  refine (sane_any _).mono ?_
  rintro e w1 ⟨rfl, hb1⟩
  go_wp2_with fail
  refine (short_any s _ hs).mono ?_
  rintro e w2 ⟨rfl, rfl⟩
  have hc := cut600_len s.data.toList
  generalize cut600 s.data.toList = x at *
  have hx : (⟨x.toArray⟩ : ByteArray).size ≤ 274877906944 := by rw [mk_size]; omega
  go_wp2_with fail
  refine (short_any t _ ht).mono ?_
  rintro e w2 ⟨rfl, rfl⟩
  have hc2 := cut600_len t.data.toList
  generalize cut600 t.data.toList = y at *
  have hy : (⟨y.toArray⟩ : ByteArray).size ≤ 274877906944 := by rw [mk_size]; omega
  go_wp2_with fail
  refine (Words_any ⟨x.toArray⟩ hx _).mono ?_
  intro e w3 hp3
  obtain ⟨v, rfl, hs3, hb3⟩ := hp3.strs hx
  rw [mk_data] at hs3
  clear hp3
  go_wp2_with fail
  refine (Words_any ⟨y.toArray⟩ hy _).mono ?_
  intro e w4 hp4
  obtain ⟨v4, rfl, hs4, hb4⟩ := hp4.strs hy
  rw [mk_data] at hs4
  clear hp4
  go_wp2_with fail
  refine (same_any v v4 _ _ _ (hs3.below hb4) hs4).mono ?_
  obtain ⟨r, hr⟩ : ∃ r, sameB (wordsOf x) (wordsOf y) = r := ⟨_, rfl⟩
  rw [hr]
  rintro e w5 ⟨rfl, hb5⟩
  have HR := Lib.hid hr; clear hr
  go_wp2_with fail
  refine (Normal_any ⟨x.toArray⟩ hx _).mono ?_
  rw [mk_data]
  rintro e w6 ⟨rfl, hb6⟩
  go_wp2_with fail
  refine (Normal_any ⟨y.toArray⟩ hy _).mono ?_
  rw [mk_data]
  rintro e w7 ⟨rfl, hb7⟩
  have hfin : (r == (normOf (wordsOf x) == normOf (wordsOf y))) = true := by
    rw [beq_iff_eq, ← HR.out, sameB, Bool.eq_iff_iff, decide_eq_true_iff, beq_iff_eq]
    exact norm_tells x y
  go_wp2
  all_goals go_ret
  all_goals exact ⟨rfl, below_then (below_then (below_then (below_then (below_then hb1 hb3) hb4) hb5) hb6) hb7⟩
end Go.Proofs.Ythgnjbnieahneaa
