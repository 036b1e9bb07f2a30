import Derived.Test.YthgnjbnieahneaaTokI4
import Derived.Deep.RegionWith
namespace Go.Proofs.Ythgnjbnieahneaa
open Go.RowKit

theorem take_strs {W : World} {a : Option Addr} {c : Nat} {xs : List (List UInt8)} (h : StrsAt W (.slice a xs.length c) xs) (k : Nat) (hk : k ≤ xs.length) : StrsAt W (.slice a k c) (xs.take k) := by
  obtain ⟨a', c', he, h1, h2, h3⟩ := h
  cases he
  have hl : (xs.take k).length = k := by simp; omega
  refine ⟨a, c, by rw [hl], by omega, by omega, fun j hj => ?_⟩
  obtain ⟨b, off, ha, hcell⟩ := h3 j (by omega)
  exact ⟨b, off, ha, by rw [hcell]; simp⟩

set_option maxHeartbeats 1000000 in
theorem law8_any (s : ByteArray) (hs : s.size ≤ 9223372036854775807) (w : World) :
    Calls Try.prog 10 #[.string s] w fun e w' => e = .returned (.bool true) ∧ Below w.heap.size w w' := by
  go_enter Try.func10, Try.ntmps10
  go_wp2_with fail
  refine (sane_any _).mono ?_
  rintro e w1 ⟨rfl, hb1⟩
  go_wp2_with fail
  refine (short_any s _ hs).mono ?_
  rintro e w2 ⟨rfl, rfl⟩
  have hc := cut600_len s.data.toList
  generalize cut600 s.data.toList = x at *
  have hx : (⟨x.toArray⟩ : ByteArray).size ≤ 274877906944 := by rw [mk_size]; omega
  go_wp2_with fail
  refine (Words_any ⟨x.toArray⟩ hx _).mono ?_
  intro e w2 hp
  obtain ⟨v, rfl, hs2, hb2⟩ := hp.strs hx
  rw [mk_data] at hs2
  clear hp
  have hB2 := below_then hb1 hb2
  have hwl := words_count_le x
  generalize wordsOf x = xs at *
  have hxl : xs.length ≤ 1200 := by omega
  clear hwl hb1 hb2 hx hc
  have hs2' := hs2
  obtain ⟨a1, c1, rfl, hcp, hl1, hc1⟩ := hs2
  have H1 := Lib.hid hc1; clear hc1
  go_wp2
  go_loopw [5, 6] (fun n p wr => ∃ (k m : Nat), p = .int .i64 k ∧ k ≤ xs.length ∧ n = .int .i64 m ∧ m ≤ 1200 ∧ Hid (m = among xs k) ∧ Below w2.heap.size w2 wr)
    (fun _ p _ => xs.length - (intOf p).toNat)
  case atStart => exact ⟨0, 0, rfl, by omega, rfl, by omega, Lib.hid (among_zero xs).symm, Below.refl _ _⟩
  case round =>
    obtain ⟨k, m, rfl, hk, rfl, hm, hcnt, hB⟩ := hrel
    have HS := Lib.hid (hs2'.below hB)
    by_cases hlt : k < xs.length
    · obtain ⟨b1, o1, rfl, hx⟩ := H1.out k hlt
      have hx' := (hB.cell (World.block_lt_of_cell? w2 _ hx)).trans hx
      unfold encW at hx'
      clear hx
      have hkc : k ≤ c1 := by omega
      go_wp2
      have HT := Lib.hid (take_strs HS.out k (by omega))
      go_region_with (go_at_call 18; refine (Count_any _ (xs.take k) xs[k] _ (HT.out.below (Below.refl _ _).drew)).mono ?_; rintro e w3 ⟨rfl, hb3⟩)
      have hbw : Below wr.heap.size wr w3 := below_then ((Below.refl _ wr).drew) hb3
      have hB3 := below_then hB hbw
      by_cases hmem : xs[k] ∈ xs.take k
      · have hz : (((xs.take k).count xs[k] : Int) == 0) = false := by
          have := List.count_pos_iff.2 hmem
          rw [beq_eq_false_iff_ne]; omega
        have HC := Lib.hid (among_old hlt hmem); clear hmem
        go_wp2
        go_roundw
        case rel => exact ⟨k + 1, m, by go_num, by omega, rfl, hm, Lib.hid (by rw [HC.out, hcnt.out]), hB3⟩
        case measure => simp [intOf]; omega
      · have hz : (((xs.take k).count xs[k] : Int) == 0) = true := by
          rw [List.count_eq_zero.2 hmem]; rfl
        have HC := Lib.hid (among_new hlt hmem); clear hmem
        have hx3 := (hbw.cell (World.block_lt_of_cell? wr _ hx')).trans hx'
        have hsum : m + xs.count xs[k] ≤ 1200 := by
          have := among_le xs (k + 1)
          rw [HC.out, ← hcnt.out] at this; omega
        go_wp2_with (go_at_call 18; refine (Count_any _ xs xs[k] _ (HS.out.below hbw)).mono ?_; rintro e w4 ⟨rfl, hb4⟩)
        go_roundw
        case rel => exact ⟨k + 1, m + xs.count xs[k], by go_num, by omega, by go_num, hsum, Lib.hid (by rw [HC.out, hcnt.out]), below_then hB3 hb4⟩
        case measure => simp [intOf]; omega
    · have hfin : (((m : Int)) == (xs.length : Int)) = true := by
        have := hcnt.out
        rw [show k = xs.length by omega, among_all] at this
        rw [beq_iff_eq]; omega
      go_wp2
      go_ret
      exact ⟨rfl, below_then hB2 hB⟩
end Go.Proofs.Ythgnjbnieahneaa
