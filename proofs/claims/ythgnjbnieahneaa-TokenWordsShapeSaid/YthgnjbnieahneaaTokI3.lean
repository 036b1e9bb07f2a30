import Derived.Test.YthgnjbnieahneaaTokI4
namespace Go.Proofs.Ythgnjbnieahneaa
open Go.RowKit

theorem low_not_big {c : UInt8} (h : low c = c) : (c.toNat : Int) < 65 ∨ (90 : Int) < c.toNat := by
  by_cases hb : 65 ≤ c.toNat ∧ c.toNat ≤ 90
  · have := low_big hb; rw [h] at this; omega
  · omega

set_option maxHeartbeats 1000000 in
theorem law3_any (s : ByteArray) (hs : s.size ≤ 9223372036854775807) (w : World) :
    Calls Try.prog 5 #[.string s] w fun e w' => e = .returned (.bool true) ∧ Below w.heap.size w w' := by
  go_enter Try.func5, Try.ntmps5
  go_wp2_with fail
  refine (sane_any _).mono ?_
  rintro e w1 ⟨rfl, hb1⟩
  go_wp2_with fail
  refine (short_any s _ hs).mono ?_
  rintro e w2 ⟨rfl, rfl⟩
  have hc := cut600_len s.data.toList
  generalize cut600 s.data.toList = x at *
  have hx : (⟨x.toArray⟩ : ByteArray).size ≤ 274877906944 := by rw [mk_size]; omega
  go_wp2_with fail
  refine (Words_any ⟨x.toArray⟩ hx _).mono ?_
  intro e w2 hp
  obtain ⟨v, rfl, hs2, hb2⟩ := hp.strs hx
  rw [mk_data] at hs2
  clear hp
  have hB2 := below_then hb1 hb2
  have HOK := Lib.hid (words_ok x)
  generalize wordsOf x = xs at *
  clear hb1 hb2 hx hc
  obtain ⟨a1, c1, rfl, hcp, hl1, hc1⟩ := hs2
  have H1 := Lib.hid hc1; clear hc1 hcp
  go_wp2
  go_loop [5] (fun p => ∃ (k : Nat), p = .int .i64 k ∧ k ≤ xs.length) (fun p => xs.length - (intOf p).toNat)
  case atStart => exact ⟨0, rfl, by omega⟩
  case round =>
    obtain ⟨k, rfl, hk⟩ := hrel
    by_cases hlt : k < xs.length
    · obtain ⟨b1, o1, rfl, hx⟩ := H1.out k hlt
      unfold encW at hx
      have hok := HOK.out xs[k] (List.getElem_mem hlt)
      have h1 : (1 : Int) ≤ xs[k].length := by have := List.length_pos_iff.2 hok.1; omega
      have h30 : (xs[k].length : Int) ≤ 30 := by have := hok.2.1; omega
      have HB := Lib.hid hok.2.2; clear hok
      go_wp2
      go_loop [6] (fun q => ∃ (j : Nat), q = .int .i64 j ∧ j ≤ xs[k].length) (fun q => xs[k].length - (intOf q).toNat)
      case atStart => exact ⟨0, rfl, by omega⟩
      case round =>
        obtain ⟨j, rfl, hj⟩ := hrel
        by_cases hlj : j < xs[k].length
        · have hb := HB.out xs[k][j] (List.getElem_mem hlj)
          have hp := hb.1
          rcases low_not_big hb.2 with hn | hn
          all_goals
            clear hb
            go_wp2_with fail
            rw [show (⟨xs[k].toArray⟩ : ByteArray)[j]'(by rw [mk_size]; exact hlj) = xs[k][j] from rfl]
            refine (part_any xs[k][j] _).mono ?_
            rw [hp]
            rintro e w3 ⟨rfl, rfl⟩
            go_wp2
            go_round
            case rel => exact ⟨j + 1, by go_num, by omega⟩
            case measure => simp [intOf]; omega
        · go_wp2
          go_round
          case rel => exact ⟨k + 1, by go_num, by omega⟩
          case measure => simp [intOf]; omega
    · go_wp2
      go_ret
      exact ⟨rfl, hB2⟩
end Go.Proofs.Ythgnjbnieahneaa
