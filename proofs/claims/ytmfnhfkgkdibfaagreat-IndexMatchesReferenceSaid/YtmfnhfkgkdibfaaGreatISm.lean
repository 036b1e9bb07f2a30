/- The law's comparisons of results. -/
import Derived.Test.YtmfnhfkgkdibfaaGreatIBd
import Derived.Test.YtmfnhfkgkdibfaaGreatTokS
namespace Go.Proofs.YtmfnhfkgkdibfaaGreat
open Go.RowKit

def IntsAt (W : World) (v : Value) (zs : List Int) : Prop :=
  ∃ a c, v = .slice a zs.length c ∧ zs.length ≤ c ∧ zs.length ≤ 1099511627776 ∧ ∀ j (h : j < zs.length), ∃ b off, a = some ⟨b, off, none⟩ ∧ W.cell? ⟨b, off + j, none⟩ = some (.int .i64 zs[j])

set_option maxHeartbeats 400000 in
theorem sameInts_any (v1 v2 : Value) (xs ys : List Int) (w : World) (h1 : IntsAt w v1 xs) (h2 : IntsAt w v2 ys) :
    Calls Tryz.prog 19 #[v1, v2] w fun e w' => e = .returned (.bool (decide (xs = ys))) ∧ Below w.heap.size w w' := by
  obtain ⟨a1, c1, rfl, _, hl1, hc1⟩ := h1
  obtain ⟨a2, c2, rfl, _, hl2, hc2⟩ := h2
  by_cases hlen : xs.length = ys.length
  · have HL := Lib.hid hlen
    have hb : ((xs.length : Int) != (ys.length : Int)) = false := by simp [hlen]
    clear hlen
    have H1 := Lib.hid hc1
    have H2 := Lib.hid hc2
    clear hc1 hc2
    go_enter Tryz.func19, Tryz.ntmps19
    go_wp2
    go_loopw [5] (fun p wr => ∃ (k : Nat), p = .int .i64 k ∧ k ≤ xs.length ∧ Hid (xs.take k = ys.take k) ∧ Below w.heap.size w wr) (fun p _ => xs.length - (intOf p).toNat)
    case atStart => exact ⟨0, rfl, by omega, Lib.hid rfl, Below.refl _ _⟩
    case round =>
      obtain ⟨k, rfl, hk, hpre, hB⟩ := hrel
      by_cases hlt : k < xs.length
      · obtain ⟨b1, o1, rfl, hx⟩ := H1.out k hlt
        obtain ⟨b2, o2, rfl, hy⟩ := H2.out k (by rw [← HL.out]; exact hlt)
        have hlt2 : k < ys.length := by rw [← HL.out]; exact hlt
        have hx' := (hB.cell (World.block_lt_of_cell? w _ hx)).trans hx
        have hy' := (hB.cell (World.block_lt_of_cell? w _ hy)).trans hy
        clear hx hy
        go_wp2
        go_quiet (fail)
        go_wp2
        · have hn : (!xs[k] == ys[k]) = true := by assumption
          go_ret
          refine ⟨bool1 ?_, hB.drewN _⟩
          symm; rw [decide_eq_false_iff_not]; intro h; subst h; simp at hn
        · have hn : (!xs[k] == ys[k]) = false := by assumption
          have he : xs[k] = ys[k] := by simpa using hn
          go_roundw
          case rel => exact ⟨k + 1, by go_num, by omega, Lib.hid (take_snoc_eq hpre.out hlt hlt2 he), hB.drewN _⟩
          case measure => simp [intOf]; omega
      · have hf : true = decide (xs = ys) := by
          symm; rw [decide_eq_true_iff]
          have := hpre.out
          rwa [List.take_of_length_le (by omega), List.take_of_length_le (by rw [← HL.out]; omega)] at this
        have HF := Lib.hid hf; clear hf
        go_wp2
        go_ret
        exact ⟨bool1 HF.out, hB⟩
  · have hb : ((xs.length : Int) != (ys.length : Int)) = true := by rw [bne_iff_ne]; omega
    have hf : false = decide (xs = ys) := by
      symm; rw [decide_eq_false_iff_not]; intro h; subst h; exact hlen rfl
    have HF := Lib.hid hf
    clear hf hlen
    go_enter Tryz.func19, Tryz.ntmps19
    go_wp2
    go_ret
    exact ⟨bool1 HF.out, Below.refl _ _⟩

end Go.Proofs.YtmfnhfkgkdibfaaGreat
