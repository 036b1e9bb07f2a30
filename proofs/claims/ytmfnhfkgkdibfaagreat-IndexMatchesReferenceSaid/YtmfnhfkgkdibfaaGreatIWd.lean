/- The word for which an argument stands. -/
import Derived.Test.YtmfnhfkgkdibfaaGreatTokF
import Derived.Test.YtmfnhfkgkdibfaaGreatTokN
import Derived.Test.YtmfnhfkgkdibfaaGreatIxM
namespace Go.Proofs.YtmfnhfkgkdibfaaGreat
open Go.RowKit

theorem ret_int {k : IntKind} {a b : Int} (h : a = b) : Ending.returned (.int k a) = .returned (.int k b) := by rw [h]
theorem words_count_le (l : List UInt8) : (wordsOf l).length ≤ 2 * l.length := by have := words_lens l; omega
theorem Words_any (s : ByteArray) (hsz : s.size ≤ 274877906944) (w : World) : Calls Tryz.prog 35 #[.string s] w (WordsPost s w) :=
  callsIn_wide.1 (Words_in 3 (by omega) s (by omega) (by have := words_count_le s.data.toList; simp at this; omega) w)
theorem WordsPost.strs {s : ByteArray} {w w' : World} {e : Ending} (h : WordsPost s w e w') (hsz : s.size ≤ 274877906944) : ∃ v, e = .returned v ∧ StrsAt w' v (wordsOf s.data.toList) ∧ Below w.heap.size w w' := by
  obtain ⟨v, he, ho, hb⟩ := h
  exact ⟨v, he, strsAt_of_owns ho (by have := words_count_le s.data.toList; simp at this; omega), hb⟩

def wordOf (s : List UInt8) : Option Wd := match wordsOf s with | [x] => some x | _ => none
theorem wordOf_some {s x : List UInt8} : wordOf s = some x ↔ wordsOf s = [x] := by
  unfold wordOf
  constructor
  · intro h
    split at h
    · rename_i y hy; cases h; exact hy
    · cases h
  · intro h; rw [h]
theorem wordOf_none {s : List UInt8} (h : (wordsOf s).length ≠ 1) : wordOf s = none := by
  cases hw : wordOf s with
  | none => rfl
  | some x => rw [wordOf_some] at hw; rw [hw] at h; simp at h
theorem wordOf_len {s x : List UInt8} (h : wordOf s = some x) : x ≠ [] ∧ x.length ≤ 30 := by
  rw [wordOf_some] at h
  have := words_ok s x (by rw [h]; simp)
  exact ⟨this.1, this.2.1⟩
/-- a word stands for itself -/
theorem wordOf_word {x : List UInt8} (h : okWord x) : wordOf x = some x := by
  rw [wordOf_some]
  have h1 := wordsGo_word x [] [] h.2.2 (by simpa using h.2.1)
  rw [List.append_nil, List.nil_append] at h1
  unfold wordsOf
  rw [h1, wordsGo_over (fun c r' hr => by cases hr) h.1]
  rfl

set_option maxRecDepth 100000 in
theorem word_any (s : List UInt8) (hsz : s.length ≤ 274877906944) (w : World) :
    Calls Tryz.prog 45 #[.string ⟨s.toArray⟩] w fun e w' => e = .returned (.tuple #[.string ⟨((wordOf s).getD []).toArray⟩, .bool (wordOf s).isSome]) ∧ Below w.heap.size w w' := by
  have hs : (⟨s.toArray⟩ : ByteArray).size ≤ 274877906944 := by simpa [ByteArray.size] using hsz
  have HW := Lib.hid ((Words_any ⟨s.toArray⟩ hs w).mono fun e w' h => h.strs hs)
  have hn := fun h => wordOf_none (s := s) h
  obtain ⟨R, hR⟩ : ∃ R, wordOf s = R := ⟨_, rfl⟩
  rw [hR] at hn ⊢
  have HR := Lib.hid hR; have HN := Lib.hid hn
  clear hR hn
  go_enter Tryz.func45, Tryz.ntmps45
  go_wp2_with fail
  refine HW.out.mono ?_
  rintro e w1 ⟨v, rfl, ⟨a, c, rfl, hc, hl, hcell⟩, hb⟩
  have HB := Lib.hid hb
  clear hb HW
  by_cases h1 : (wordsOf s).length = 1
  · obtain ⟨x, hx⟩ := List.length_eq_one_iff.1 h1
    obtain ⟨b, off, rfl, ck⟩ := hcell 0 (by simp [hx])
    have hx0 : (wordsOf s)[0]'(by simp [hx]) = x := by simp [hx]
    have HX : Hid (R = some x) := Lib.hid (by rw [← HR.out, wordOf_some]; exact hx)
    rw [hx0, Nat.add_zero] at ck
    unfold encW at ck
    clear hx hx0
    rw [h1] at hc hl ⊢
    clear h1
    go_wp2
    go_ret2
    exact ⟨by rw [HX.out]; rfl, HB.out⟩
  · have hn1 : decide (((wordsOf s).length : Int) = 1) = false := by rw [decide_eq_false_iff_not]; omega
    have hn2 : ((((wordsOf s).length : Int)) != 1) = true := by simp only [bne_iff_ne, ne_eq]; omega
    have HX := Lib.hid (HN.out h1)
    go_wp2
    go_ret2
    exact ⟨by rw [HX.out]; rfl, HB.out⟩

set_option maxRecDepth 100000 in
theorem refWord_any (s : List UInt8) (hsz : s.length ≤ 274877906944) (w : World) :
    Calls Tryz.prog 49 #[.string ⟨s.toArray⟩] w fun e w' => e = .returned (.string ⟨((wordOf s).getD []).toArray⟩) ∧ Below w.heap.size w w' := by
  have hs : (⟨s.toArray⟩ : ByteArray).size ≤ 274877906944 := by simpa [ByteArray.size] using hsz
  have HW := Lib.hid ((refWords_any ⟨s.toArray⟩ (by omega) w).mono fun e w' h => h.strs hs)
  have hn := fun h => wordOf_none (s := s) h
  obtain ⟨R, hR⟩ : ∃ R, wordOf s = R := ⟨_, rfl⟩
  rw [hR] at hn ⊢
  have HR := Lib.hid hR; have HN := Lib.hid hn
  clear hR hn
  go_enter Tryz.func49, Tryz.ntmps49
  go_wp2_with fail
  refine HW.out.mono ?_
  rintro e w1 ⟨v, rfl, ⟨a, c, rfl, hc, hl, hcell⟩, hb⟩
  have HB := Lib.hid hb
  clear hb HW
  by_cases h1 : (wordsOf s).length = 1
  · obtain ⟨x, hx⟩ := List.length_eq_one_iff.1 h1
    obtain ⟨b, off, rfl, ck⟩ := hcell 0 (by simp [hx])
    have hx0 : (wordsOf s)[0]'(by simp [hx]) = x := by simp [hx]
    have HX : Hid (R = some x) := Lib.hid (by rw [← HR.out, wordOf_some]; exact hx)
    rw [hx0, Nat.add_zero] at ck
    unfold encW at ck
    clear hx hx0
    rw [h1] at hc hl ⊢
    clear h1
    go_wp2
    go_ret
    exact ⟨by rw [HX.out]; rfl, HB.out⟩
  · have hn1 : decide (((wordsOf s).length : Int) = 1) = false := by rw [decide_eq_false_iff_not]; omega
    have hn2 : ((((wordsOf s).length : Int)) != 1) = true := by simp only [bne_iff_ne, ne_eq]; omega
    have HX := Lib.hid (HN.out h1)
    go_wp2
    go_ret
    exact ⟨by rw [HX.out]; rfl, HB.out⟩
end Go.Proofs.YtmfnhfkgkdibfaaGreat
