import Derived.Test.YthgnjbnieahneaaTokS
import Derived.Lib.Strings
namespace Go.Proofs.Ythgnjbnieahneaa
open Go.RowKit

theorem ret_int {k : IntKind} {a b : Int} (h : a = b) : Ending.returned (.int k a) = .returned (.int k b) := by rw [h]

theorem count_yes {xs : List (List UInt8)} {t : List UInt8} {k : Nat} (h : k < xs.length) (he : xs[k] = t) : (xs.take (k + 1)).count t = (xs.take k).count t + 1 := by
  rw [List.take_succ_eq_append_getElem h, List.count_append, he]; simp
theorem count_no {xs : List (List UInt8)} {t : List UInt8} {k : Nat} (h : k < xs.length) (he : ¬ xs[k] = t) : (xs.take (k + 1)).count t = (xs.take k).count t := by
  rw [List.take_succ_eq_append_getElem h, List.count_append, List.count_singleton]; simp [he]

set_option maxHeartbeats 400000 in
theorem refCount_any (v1 : Value) (xs : List (List UInt8)) (t : List UInt8) (w : World) (h1 : StrsAt w v1 xs) :
    Calls Try.prog 19 #[v1, .string ⟨t.toArray⟩] w fun e w' => e = .returned (.int .i64 (xs.count t)) ∧ w = w' := by
  obtain ⟨a1, c1, rfl, hcp, hl1, hc1⟩ := h1
  have H1 := Lib.hid hc1; clear hc1 hcp
  go_enter Try.func19, Try.ntmps19
  go_wp2
  go_loop [5, 6] (fun c p => ∃ (k m : Nat), p = .int .i64 k ∧ k ≤ xs.length ∧ c = .int .i64 m ∧ m ≤ k ∧ Hid (m = (xs.take k).count t)) (fun _ p => xs.length - (intOf p).toNat)
  case atStart => exact ⟨0, 0, rfl, by omega, rfl, by omega, Lib.hid rfl⟩
  case round =>
    obtain ⟨k, m, rfl, hk, rfl, hm, hcnt⟩ := hrel
    by_cases hlt : k < xs.length
    · obtain ⟨b1, o1, rfl, hx⟩ := H1.out k hlt
      unfold encW at hx
      go_wp2
      · have hn : (xs[k] == t) = true := by assumption
        go_round
        case rel => exact ⟨k + 1, m + 1, by go_num, by omega, by go_num, by omega, Lib.hid (by rw [hcnt.out, count_yes hlt (by simpa using hn)])⟩
        case measure => simp [intOf]; omega
      · have hn : (xs[k] == t) = false := by assumption
        go_round
        case rel => exact ⟨k + 1, m, by go_num, by omega, rfl, by omega, Lib.hid (by rw [hcnt.out, count_no hlt (by simpa using hn)])⟩
        case measure => simp [intOf]; omega
    · go_wp2
      go_ret
      exact ⟨ret_int (by rw [hcnt.out, List.take_of_length_le (by omega)]), rfl⟩

set_option maxHeartbeats 400000 in
/-- 'func(w string) bool { return w == term }': the term lies in a box. -/
theorem countLit_any (x t : List UInt8) (B : Nat) (w : World) (hb : w.cell? ⟨B, 0, none⟩ = some (.string ⟨t.toArray⟩)) :
    Calls Try.prog 25 #[.string ⟨x.toArray⟩, .pointer (some ⟨B, 0, none⟩)] w fun e w' => e = .returned (.bool (x == t)) ∧ w = w' := by
  go_enter Try.func25, Try.ntmps25
  go_wp2
  go_ret
  exact ⟨rfl, rfl⟩

set_option maxHeartbeats 400000 in
theorem count_any (BL B : Nat) (v1 : Value) (xs : List (List UInt8)) (t : List UInt8) (w : World) (hL : w.cell? ⟨BL, 0, none⟩ = some v1) (h1 : StrsAt w v1 xs) (hb : w.cell? ⟨B, 0, none⟩ = some (.string ⟨t.toArray⟩)) :
    Calls Try.prog 24 #[.pointer (some ⟨BL, 0, none⟩), .func (.func 25) #[] #[.pointer (some ⟨B, 0, none⟩)]] w fun e w' => e = .returned (.int .i64 (xs.count t)) ∧ w = w' := by
  obtain ⟨a1, c1, rfl, hcp, hl1, hc1⟩ := h1
  have H1 := Lib.hid hc1; clear hc1 hcp
  go_enter Try.func24, Try.ntmps24
  go_wp2
  go_loop [5, 13] (fun c p => ∃ (k m : Nat), p = .int .i64 k ∧ k ≤ xs.length ∧ c = .int .i64 m ∧ m ≤ k ∧ Hid (m = (xs.take k).count t)) (fun _ p => xs.length - (intOf p).toNat)
  case atStart => exact ⟨0, 0, rfl, by omega, rfl, by omega, Lib.hid rfl⟩
  case round =>
    obtain ⟨k, m, rfl, hk, rfl, hm, hcnt⟩ := hrel
    by_cases hlt : k < xs.length
    · obtain ⟨b1, o1, rfl, hx⟩ := H1.out k hlt
      unfold encW at hx
      go_wp2_with (go_at_call 25; refine (countLit_any _ _ _ _ hb).mono ?_; rintro e w' ⟨rfl, rfl⟩)
      · have hn : (xs[k] == t) = true := by assumption
        go_round
        case rel => exact ⟨k + 1, m + 1, by go_num, by omega, by go_num, by omega, Lib.hid (by rw [hcnt.out, count_yes hlt (by simpa using hn)])⟩
        case measure => simp [intOf]; omega
      · have hn : (xs[k] == t) = false := by assumption
        go_round
        case rel => exact ⟨k + 1, m, by go_num, by omega, rfl, by omega, Lib.hid (by rw [hcnt.out, count_no hlt (by simpa using hn)])⟩
        case measure => simp [intOf]; omega
    · go_wp2
      go_ret
      exact ⟨ret_int (by rw [hcnt.out, List.take_of_length_le (by omega)]), rfl⟩

set_option maxHeartbeats 400000 in
theorem Count_any (v1 : Value) (xs : List (List UInt8)) (t : List UInt8) (w : World) (h1 : StrsAt w v1 xs) :
    Calls Try.prog 18 #[v1, .string ⟨t.toArray⟩] w fun e w' => e = .returned (.int .i64 (xs.count t)) ∧ Below w.heap.size w w' := by
  obtain ⟨a1, c1, rfl, hcp, hl1, hc1⟩ := h1
  have hS : StrsAt w (.slice a1 xs.length c1) xs := ⟨a1, c1, rfl, hcp, hl1, hc1⟩
  obtain ⟨W2, hW2⟩ : ∃ W2 : World, W2 = (w.alloc (.cells #[.string ⟨t.toArray⟩] 9)).alloc (.cells #[.slice a1 xs.length c1] 36) := ⟨_, rfl⟩
  have hB0 : Below w.heap.size w W2 := by rw [hW2]; exact ((Below.refl _ w).alloc (Nat.le_refl _) _).alloc (by simp) _
  have hS2 := hS.below hB0
  have hL2 : W2.cell? ⟨w.heap.size + 1, 0, none⟩ = some (.slice a1 xs.length c1) := by
    rw [hW2]; simp
  have hb2 : W2.cell? ⟨w.heap.size, 0, none⟩ = some (.string ⟨t.toArray⟩) := by
    rw [hW2, World.cell?_alloc_lt _ _ _ (by simp)]; simp
  have hcall := count_any (w.heap.size + 1) w.heap.size _ xs t W2 hL2 hS2 hb2
  subst hW2
  clear hS hc1 hL2 hb2 hS2
  go_enter Try.func18, Try.ntmps18
  go_wp2_with (go_at_call 24; refine hcall.mono ?_; rintro e w' ⟨rfl, rfl⟩)
  go_ret
  exact ⟨rfl, hB0⟩

def cut600 (x : List UInt8) : List UInt8 := x.take 600
theorem cut600_small {s : ByteArray} (h : s.size ≤ 600) : s = ⟨(cut600 s.data.toList).toArray⟩ := by
  unfold cut600; rw [List.take_of_length_le (by simp; omega)]
theorem cut600_big (s : ByteArray) : s.extract 0 600 = ⟨(cut600 s.data.toList).toArray⟩ := by
  apply ByteArray.ext; apply Array.toList_inj.1
  rw [Lib.extract_data]; simp [cut600]
theorem ret_str {a b : ByteArray} (h : a = b) : Ending.returned (.string a) = .returned (.string b) := by rw [h]
set_option maxHeartbeats 400000 in
theorem short_any (s : ByteArray) (w : World) (hs : s.size ≤ 9223372036854775807) :
    Calls Try.prog 12 #[.string s] w fun e w' => e = .returned (.string ⟨(cut600 s.data.toList).toArray⟩) ∧ w = w' := by
  by_cases h : s.size ≤ 600
  · have H := Lib.hid (cut600_small h)
    go_enter Try.func12, Try.ntmps12
    go_wp2
    go_ret
    exact ⟨ret_str H.out, rfl⟩
  · have H := Lib.hid (cut600_big s)
    go_enter Try.func12, Try.ntmps12
    go_wp2
    all_goals go_ret
    all_goals exact ⟨ret_str H.out, rfl⟩

end Go.Proofs.Ythgnjbnieahneaa
