import Derived.Test.YthgnjbnieahneaaTokG
namespace Go.Proofs.Ythgnjbnieahneaa
open Go.RowKit

def saneText : ByteArray := ⟨#[84, 104, 101, 32, 50, 110, 100, 44, 32, 116, 104, 101, 32, 84, 72, 73, 82, 68, 46]⟩
def saneWords : List (List UInt8) := [[116, 104, 101], [50, 110, 100], [116, 104, 101], [116, 104, 105, 114, 100]]
theorem sane_words : wordsOf saneText.data.toList = saneWords := by decide +kernel
theorem sane_norm : normOf (wordsOf (⟨#[32, 32, 65, 45, 98, 32]⟩ : ByteArray).data.toList) = [97, 32, 98] := by decide +kernel
theorem sane_same : sameB saneWords saneWords = true := by simp [sameB]
theorem sane_count : saneWords.count [116, 104, 101] = 2 := by decide +kernel

set_option maxHeartbeats 400000 in
theorem sane_any (w : World) : Calls Try.prog 11 #[] w fun e w' => e = .returned (.bool true) ∧ Below w.heap.size w w' := by
  go_enter Try.func11, Try.ntmps11
  go_wp2_with fail
  refine (Words_any saneText (by decide) _).mono ?_
  intro e w1 hp
  obtain ⟨v, rfl, hs, hb⟩ := hp.strs (by decide)
  rw [sane_words] at hs
  have hs1 := hs.below ((Below.refl _ w1).alloc (Nat.le_refl _) (.cells (saneWords.map encW).toArray 9))
  have hs2 := strsAt_new w1 saneWords (by decide)
  go_wp2_with fail
  refine (same_any v _ saneWords saneWords _ hs1 hs2).mono ?_
  rw [sane_same]
  rintro e w2 ⟨rfl, hb2⟩
  have hs3 := hs1.below hb2
  go_wp2_with fail
  refine (Count_any v saneWords [116, 104, 101] _ hs3).mono ?_
  rw [sane_count]
  rintro e w3 ⟨rfl, hb3⟩
  go_wp2_with fail
  refine (Normal_any ⟨#[32, 32, 65, 45, 98, 32]⟩ (by decide) _).mono ?_
  rw [sane_norm]
  rintro e w4 ⟨rfl, hb4⟩
  go_wp2
  go_ret
  exact ⟨rfl, below_then (below_then (below_then (below_alloc hb _) hb2) hb3) hb4⟩

theorem cut600_len (x : List UInt8) : (cut600 x).length ≤ 600 := by unfold cut600; simp; omega
theorem mk_size (x : List UInt8) : (⟨x.toArray⟩ : ByteArray).size = x.length := by simp [ByteArray.size]
theorem mk_data (x : List UInt8) : (⟨x.toArray⟩ : ByteArray).data.toList = x := by simp

theorem same_refl (xs : List (List UInt8)) : sameB xs xs = true := by simp [sameB]

set_option maxHeartbeats 400000 in
theorem law1_any (s : ByteArray) (hs : s.size ≤ 9223372036854775807) (w : World) :
    Calls Try.prog 3 #[.string s] w fun e w' => e = .returned (.bool true) ∧ Below w.heap.size w w' := by
  go_enter Try.func3, Try.ntmps3
  go_wp2_with fail
  refine (sane_any _).mono ?_
  rintro e w1 ⟨rfl, hb1⟩
  go_wp2_with fail
  refine (short_any s _ hs).mono ?_
  rintro e w2 ⟨rfl, rfl⟩
  have hc := cut600_len s.data.toList
  generalize cut600 s.data.toList = x at *
  have hx : (⟨x.toArray⟩ : ByteArray).size ≤ 274877906944 := by rw [mk_size]; omega
  go_wp2_with fail
  refine (Words_any ⟨x.toArray⟩ hx _).mono ?_
  intro e w2 hp
  obtain ⟨v, rfl, hs2, hb2⟩ := hp.strs hx
  rw [mk_data] at hs2
  go_wp2_with fail
  refine (refWords_any ⟨x.toArray⟩ (by omega) _).mono ?_
  intro e w3 hp3
  obtain ⟨v3, rfl, hs3, hb3⟩ := hp3.strs hx
  rw [mk_data] at hs3
  go_wp2_with fail
  refine (same_any v v3 _ _ _ (hs2.below hb3) hs3).mono ?_
  rw [same_refl]
  rintro e w4 ⟨rfl, hb4⟩
  go_wp2_with fail
  refine (Normal_any ⟨x.toArray⟩ hx _).mono ?_
  rw [mk_data]
  rintro e w5 ⟨rfl, hb5⟩
  go_wp2_with fail
  refine (refNormal_any ⟨x.toArray⟩ hx _).mono ?_
  rw [mk_data]
  rintro e w6 ⟨rfl, hb6⟩
  go_wp2
  go_ret
  exact ⟨rfl, below_then (below_then (below_then (below_then (below_then hb1 hb2) hb3) hb4) hb5) hb6⟩
end Go.Proofs.Ythgnjbnieahneaa
