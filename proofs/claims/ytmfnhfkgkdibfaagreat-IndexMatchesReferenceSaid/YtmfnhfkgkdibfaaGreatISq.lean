/- The law's comparisons of hits and of terms: equal lists are the same. -/
import Derived.Test.YtmfnhfkgkdibfaaGreatISm
import Derived.Laws.StructEq
import Derived.Test.YtmfnhfkgkdibfaaGreatIxM
namespace Go.Proofs.YtmfnhfkgkdibfaaGreat
open Go.RowKit

/-- v is a slice of such structs, l -/
def HitsAt (W : World) (v : Value) (l : List (Int × Nat)) : Prop :=
  ∃ a c, v = .slice a l.length c ∧ l.length ≤ c ∧ c ≤ 9223372036854775807 ∧ ∀ k (h : k < l.length), ∃ b off, a = some ⟨b, off, none⟩ ∧ W.cell? ⟨b, off + k * 2, none⟩ = some (.int .i64 l[k].1) ∧ W.cell? ⟨b, off + (k * 2 + 1), none⟩ = some (.int .i64 (l[k].2 : Int))
theorem HitsAt.below {W W' : World} {v : Value} {l : List (Int × Nat)} (h : HitsAt W v l) (hb : Below W.heap.size W W') : HitsAt W' v l := by
  obtain ⟨a, c, hv, hle, hm, hc⟩ := h
  refine ⟨a, c, hv, hle, hm, fun j hj => ?_⟩
  obtain ⟨b, off, ha, h1, h2⟩ := hc j hj
  exact ⟨b, off, ha, (hb.cell (World.block_lt_of_cell? W _ h1)).trans h1, (hb.cell (World.block_lt_of_cell? W _ h2)).trans h2⟩

set_option maxRecDepth 100000 in
set_option maxHeartbeats 2000000 in
theorem sameHits_true (v v' : Value) (l : List (Int × Nat)) (w : World) (h : HitsAt w v l) (h' : HitsAt w v' l) :
    Calls Tryz.prog 22 #[v, v'] w fun e w' => e = .returned (.bool true) ∧ Below w.heap.size w w' := by
  obtain ⟨A, cap, rfl, hl, hc, hce⟩ := h
  obtain ⟨A', cap', rfl, hl', hc', hce'⟩ := h'
  have HC := Lib.hid hce; have HC' := Lib.hid hce'
  clear hce hce'
  go_enter Tryz.func22, Tryz.ntmps22
  go_wp2
  go_loopw [5] (fun i wr => ∃ k : Nat, i = .int .i64 k ∧ k ≤ l.length ∧ Hid (Below w.heap.size w wr)) (fun i _ => l.length - (intOf i).toNat)
  case atStart => exact ⟨0, rfl, by omega, Lib.hid (Below.refl _ _)⟩
  case round =>
    obtain ⟨k, rfl, hk, HB⟩ := hrel
    by_cases hlt : k < l.length
    · obtain ⟨g, o, rfl, c0, c1⟩ := HC.out k hlt
      obtain ⟨g', o', rfl, d0, d1⟩ := HC'.out k hlt
      have e0 := (HB.out.cell (p := ⟨g, _, none⟩) (World.block_lt_of_cell? w _ c0)).trans c0
      have e1 := (HB.out.cell (p := ⟨g, _, none⟩) (World.block_lt_of_cell? w _ c1)).trans c1
      have f0 := (HB.out.cell (p := ⟨g', _, none⟩) (World.block_lt_of_cell? w _ d0)).trans d0
      have f1 := (HB.out.cell (p := ⟨g', _, none⟩) (World.block_lt_of_cell? w _ d1)).trans d1
      rw [← Nat.add_assoc] at e1 f1
      generalize l[k] = x at *
      clear c0 c1 d0 d1
      have k0 : (0 : Int) ≤ (k : Int) := by omega
      have k1 : (k : Int) < (l.length : Int) := by omega
      go_wp2_with fail
      go_quiet (fail)
      go_wp2
      go_roundw
      case rel => exact ⟨k + 1, by go_num, by omega, Lib.hid (HB.out.drewN _)⟩
      case measure => simp [intOf]; omega
    · go_wp2
      go_ret
      exact ⟨rfl, HB.out⟩

/-- v is a slice of such structs, l -/
def TermsAt (W : World) (v : Value) (l : List (Wd × Nat)) : Prop :=
  ∃ a c, v = .slice a l.length c ∧ l.length ≤ c ∧ c ≤ 9223372036854775807 ∧ ∀ k (h : k < l.length), ∃ b off, a = some ⟨b, off, none⟩ ∧ W.cell? ⟨b, off + k * 2, none⟩ = some (.string ⟨l[k].1.toArray⟩) ∧ W.cell? ⟨b, off + (k * 2 + 1), none⟩ = some (.int .i64 (l[k].2 : Int))
theorem TermsAt.below {W W' : World} {v : Value} {l : List (Wd × Nat)} (h : TermsAt W v l) (hb : Below W.heap.size W W') : TermsAt W' v l := by
  obtain ⟨a, c, hv, hle, hm, hc⟩ := h
  refine ⟨a, c, hv, hle, hm, fun j hj => ?_⟩
  obtain ⟨b, off, ha, h1, h2⟩ := hc j hj
  exact ⟨b, off, ha, (hb.cell (World.block_lt_of_cell? W _ h1)).trans h1, (hb.cell (World.block_lt_of_cell? W _ h2)).trans h2⟩

set_option maxRecDepth 100000 in
set_option maxHeartbeats 2000000 in
theorem sameTerms_true (v v' : Value) (l : List (Wd × Nat)) (w : World) (h : TermsAt w v l) (h' : TermsAt w v' l) :
    Calls Tryz.prog 25 #[v, v'] w fun e w' => e = .returned (.bool true) ∧ Below w.heap.size w w' := by
  obtain ⟨A, cap, rfl, hl, hc, hce⟩ := h
  obtain ⟨A', cap', rfl, hl', hc', hce'⟩ := h'
  have HC := Lib.hid hce; have HC' := Lib.hid hce'
  clear hce hce'
  go_enter Tryz.func25, Tryz.ntmps25
  go_wp2
  go_loopw [5] (fun i wr => ∃ k : Nat, i = .int .i64 k ∧ k ≤ l.length ∧ Hid (Below w.heap.size w wr)) (fun i _ => l.length - (intOf i).toNat)
  case atStart => exact ⟨0, rfl, by omega, Lib.hid (Below.refl _ _)⟩
  case round =>
    obtain ⟨k, rfl, hk, HB⟩ := hrel
    by_cases hlt : k < l.length
    · obtain ⟨g, o, rfl, c0, c1⟩ := HC.out k hlt
      obtain ⟨g', o', rfl, d0, d1⟩ := HC'.out k hlt
      have e0 := (HB.out.cell (p := ⟨g, _, none⟩) (World.block_lt_of_cell? w _ c0)).trans c0
      have e1 := (HB.out.cell (p := ⟨g, _, none⟩) (World.block_lt_of_cell? w _ c1)).trans c1
      have f0 := (HB.out.cell (p := ⟨g', _, none⟩) (World.block_lt_of_cell? w _ d0)).trans d0
      have f1 := (HB.out.cell (p := ⟨g', _, none⟩) (World.block_lt_of_cell? w _ d1)).trans d1
      rw [← Nat.add_assoc] at e1 f1
      generalize l[k] = x at *
      clear c0 c1 d0 d1
      have k0 : (0 : Int) ≤ (k : Int) := by omega
      have k1 : (k : Int) < (l.length : Int) := by omega
      go_wp2_with fail
      go_quiet (fail)
      go_wp2
      go_roundw
      case rel => exact ⟨k + 1, by go_num, by omega, Lib.hid (HB.out.drewN _)⟩
      case measure => simp [intOf]; omega
    · go_wp2
      go_ret
      exact ⟨rfl, HB.out⟩
end Go.Proofs.YtmfnhfkgkdibfaaGreat
