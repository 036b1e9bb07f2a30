/- The reference's SameMessages and SameItems. -/
import Derived.Test.YtnhpnipfledihaaDoorParC
import Derived.Deep.QuietTactic
import Derived.BigQuiet
namespace Go.Proofs.YtnhpnipfledihaaDoor
open Go.RowKit

set_option maxRecDepth 100000 in
set_option maxHeartbeats 2000000 in
theorem same_msgs (n n' : Nat) (v v' : Value) (ms : List Msg) (w : World) (h : MsgsAt n v ms w) (h' : MsgsAt n' v' ms w) :
    Calls Tryd.prog 17 #[v, v'] w fun e w' => e = .returned (.bool true) ∧ Below w.heap.size w w' := by
  rcases h with ⟨rfl, rfl⟩ | ⟨m, g, rfl, rfl, _, hm⟩
  · rcases h' with ⟨_, rfl⟩ | ⟨m, g, h1, _⟩
    · go_enter Tryd.func17, Tryd.ntmps17
      go_wp2
      go_loop [5] (fun i => i = .int .i64 0) (fun _ => 0)
      case atStart => rfl
      case round =>
        subst hrel
        go_wp2
        go_ret
        exact ⟨rfl, Below.refl _ _⟩
    · cases h1
  · rcases h' with ⟨h1, _⟩ | ⟨m', g', h1, rfl, _, hm'⟩
    · cases h1
    · cases h1
      have HM := Lib.hid hm; have HM' := Lib.hid hm'
      clear hm hm'
      go_enter Tryd.func17, Tryd.ntmps17
      go_wp2
      go_loopw [5] (fun i wr => ∃ k : Nat, i = .int .i64 k ∧ k ≤ 1 ∧ Hid (Below w.heap.size w wr)) (fun i _ => 1 - (intOf i).toNat)
      case atStart => exact ⟨0, rfl, by omega, Lib.hid (Below.refl _ _)⟩
      case round =>
        obtain ⟨k, rfl, hk, HB⟩ := hrel
        by_cases h0 : k = 0
        · subst h0
          obtain ⟨c0, c1, c2, c3, c4, c5, c6⟩ := (HM.out.below HB.out).cells
          obtain ⟨d0, d1, d2, d3, d4, d5, d6⟩ := (HM'.out.below HB.out).cells
          go_wp2_with fail
          go_quiet (fail)
          go_wp2
          go_roundw
          case rel => exact ⟨1, by go_num, by omega, Lib.hid (HB.out.drewN _)⟩
          case measure => simp [intOf]
        · obtain rfl : k = 1 := by omega
          go_wp2
          go_ret
          exact ⟨rfl, HB.out⟩

theorem ifl_at : ∀ (l : List (Int × List UInt8)) (k j : Nat) (h : k < l.length), j < 2 → (l.flatMap itemCells)[k * 2 + j]? = (itemCells l[k])[j]?
  | [], k, j, h, _ => by simp at h
  | e :: l, 0, j, _, hj => by
    rw [List.flatMap_cons, List.getElem?_append_left (by simp [itemCells]; omega)]; simp
  | e :: l, k + 1, j, h, hj => by
    rw [List.flatMap_cons, List.getElem?_append_right (by simp [itemCells]; omega)]
    rw [show (k + 1) * 2 + j - (itemCells e).length = k * 2 + j by simp [itemCells]; omega, ifl_at l k j (by simpa using h) hj]
    simp

theorem ItemsAt.slice {n : Nat} {v : Value} {l : List (Int × List UInt8)} {w : World} (h : ItemsAt n v l w) : ∃ A cap, v = .slice A l.length cap ∧ l.length ≤ cap ∧ cap ≤ maxLen ∧ ∀ k (hk : k < l.length), ∃ g, A = some ⟨g, 0, none⟩ ∧ n ≤ g ∧ w.cell? ⟨g, k * 2, none⟩ = some (.int .i64 l[k].1) ∧ w.cell? ⟨g, k * 2 + 1, none⟩ = some (.string ⟨l[k].2.toArray⟩) := by
  have hh := h
  unfold ItemsAt at h
  rcases h.2 with ⟨h1, h2⟩ | ⟨g, cap, cur, h1, h2, h3, h4, h5, h6, h7⟩
  · obtain rfl := List.eq_nil_of_length_eq_zero h2
    exact ⟨none, 0, h1, Nat.le_refl _, by decide, fun k hk => by simp at hk⟩
  · refine ⟨some ⟨g, 0, none⟩, cap, h1, h4, h5, fun k hk => ⟨g, rfl, h2, ?_⟩⟩
    have hc : ∀ j u, (l.flatMap itemCells)[j]? = some u → w.cell? ⟨g, j, none⟩ = some u := fun j u hj => by
      have := h.cells (g := g) (by rw [h1]; rfl) j u hj
      rwa [addr_add] at this
    refine ⟨hc _ _ ?_, hc _ _ ?_⟩
    · have := ifl_at l k 0 hk (by omega); simpa [itemCells] using this
    · have := ifl_at l k 1 hk (by omega); simpa [itemCells] using this

theorem ItemsAt.below {n m : Nat} {v : Value} {l : List (Int × List UInt8)} {w w' : World} (h : ItemsAt n v l w) (hb : Below w.heap.size w w') (hm : m ≤ n) : ItemsAt m v l w' := by
  obtain ⟨h1, h2⟩ := h
  refine ⟨h1, ?_⟩
  rcases h2 with h2 | ⟨g, cap, cur, rfl, h3, h4, h5⟩
  · exact .inl h2
  · exact .inr ⟨g, cap, cur, rfl, by omega, (hb.block _ (some_lt h4)).trans h4, h5⟩

set_option maxRecDepth 100000 in
set_option maxHeartbeats 2000000 in
theorem same_items (n n' : Nat) (v v' : Value) (l : List (Int × List UInt8)) (w : World) (h : ItemsAt n v l w) (h' : ItemsAt n' v' l w) :
    Calls Tryd.prog 20 #[v, v'] w fun e w' => e = .returned (.bool true) ∧ Below w.heap.size w w' := by
  obtain ⟨A, cap, rfl, hl, hc, hce⟩ := h.slice
  obtain ⟨A', cap', rfl, hl', hc', hce'⟩ := h'.slice
  unfold maxLen at hc hc'
  have HC := Lib.hid hce; have HC' := Lib.hid hce'
  clear hce hce' h h'
  go_enter Tryd.func20, Tryd.ntmps20
  go_wp2
  go_loopw [5] (fun i wr => ∃ k : Nat, i = .int .i64 k ∧ k ≤ l.length ∧ Hid (Below w.heap.size w wr)) (fun i _ => l.length - (intOf i).toNat)
  case atStart => exact ⟨0, rfl, by omega, Lib.hid (Below.refl _ _)⟩
  case round =>
    obtain ⟨k, rfl, hk, HB⟩ := hrel
    by_cases hlt : k < l.length
    · obtain ⟨g, rfl, _, c0, c1⟩ := HC.out k hlt
      obtain ⟨g', rfl, _, d0, d1⟩ := HC'.out k hlt
      have e0 := (HB.out.cell (p := ⟨g, k * 2, none⟩) (World.block_lt_of_cell? w _ c0)).trans c0
      have e1 := (HB.out.cell (p := ⟨g, k * 2 + 1, none⟩) (World.block_lt_of_cell? w _ c1)).trans c1
      have f0 := (HB.out.cell (p := ⟨g', k * 2, none⟩) (World.block_lt_of_cell? w _ d0)).trans d0
      have f1 := (HB.out.cell (p := ⟨g', k * 2 + 1, none⟩) (World.block_lt_of_cell? w _ d1)).trans d1
      generalize l[k] = x at *
      clear c0 c1 d0 d1
      have k0 : (0 : Int) ≤ (k : Int) := by omega
      have k1 : (k : Int) < (l.length : Int) := by omega
      go_wp2_with fail
      go_quiet (fail)
      go_wp2
      go_roundw
      case rel => exact ⟨k + 1, by go_num, by omega, Lib.hid (HB.out.drewN _)⟩
      case measure => simp [intOf]; omega
    · go_wp2
      go_ret
      exact ⟨rfl, HB.out⟩
end Go.Proofs.YtnhpnipfledihaaDoor
