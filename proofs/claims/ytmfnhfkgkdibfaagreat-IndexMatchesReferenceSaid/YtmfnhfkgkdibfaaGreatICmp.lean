/- Comparisons that the sorts call: cmp.Compare, cmp.Or, the comparison of hits, of terms. -/
import Derived.Test.YtmfnhfkgkdibfaaGreatIMap
import Derived.Lib.Small
import Derived.Sort.Grow
import Derived.Deep.RegionHeld3
import Derived.Deep.QuietTactic
import Derived.BigQuiet
import Derived.Laws.Cover1
import Derived.Sort.Walk0
namespace Go.Proofs.YtmfnhfkgkdibfaaGreat
open Go.RowKit Go.Sort

theorem str_lt_irrefl (x : List UInt8) : ¬ x < x := List.lt_irrefl x
/-- -1, 0 or 1 -/
def cmpS (x y : List UInt8) : Int := if x < y then -1 else if y < x then 1 else 0
theorem isNaN_int (x : Int) (w : World) : Calls Tryz.prog 63 #[.int .i64 x] w fun e w' => e = .returned (.bool false) ∧ w' = w := by
  go_enter Tryz.func63, Tryz.ntmps63
  go_wp2
  go_ret
  exact ⟨by simp, rfl⟩
theorem isNaN_str (x : List UInt8) (w : World) : Calls Tryz.prog 61 #[.string ⟨x.toArray⟩] w fun e w' => e = .returned (.bool false) ∧ w' = w := by
  go_enter Tryz.func61, Tryz.ntmps61
  go_wp2
  go_ret
  exact ⟨by simp, rfl⟩
set_option maxRecDepth 100000 in
theorem cmp_int (x y : Int) (w : World) : Calls Tryz.prog 44 #[.int .i64 x, .int .i64 y] w fun e w' => e = .returned (.int .i64 (Lib.compareInt x y)) ∧ w' = w := by
  go_enter Tryz.func44, Tryz.ntmps44
  go_wp2_with (go_at_call 63; refine (isNaN_int _ _).mono ?_; rintro e w' ⟨rfl, hw⟩; rw [hw])
  all_goals (go_ret; refine ⟨?_, rfl⟩; unfold Lib.compareInt; (repeat' split) <;> first | rfl | (exfalso; omega))
set_option maxRecDepth 100000 in
theorem cmp_str (x y : List UInt8) (w : World) : Calls Tryz.prog 41 #[.string ⟨x.toArray⟩, .string ⟨y.toArray⟩] w fun e w' => e = .returned (.int .i64 (cmpS x y)) ∧ w' = w := by
  obtain ⟨R, hR⟩ : ∃ R, cmpS x y = R := ⟨_, rfl⟩
  rw [hR]
  have HR := Lib.hid hR
  clear hR
  go_enter Tryz.func41, Tryz.ntmps41
  go_wp2_with (go_at_call 61; refine (isNaN_str _ _).mono ?_; rintro e w' ⟨rfl, hw⟩; rw [hw])
  all_goals (go_ret; refine ⟨?_, by first | rfl | assumption⟩; rw [← HR.out]; unfold cmpS; (repeat' split) <;> simp_all [bytesLess_eq, str_lt_irrefl] <;> first | (rename_i h1 h2 h3; exact absurd (List.le_antisymm h3 h2) h1))

/-- the first that is not 0 -/
def orI (x y : Int) : Int := if x = 0 then y else x
set_option maxRecDepth 100000 in
theorem or_int (b : Nat) (x y : Int) (w : World) (h0 : w.cell? ⟨b, 0, none⟩ = some (.int .i64 x)) (h1 : w.cell? ⟨b, 1, none⟩ = some (.int .i64 y)) :
    Calls Tryz.prog 53 #[.slice (some ⟨b, 0, none⟩) 2 2] w fun e w' => e = .returned (.int .i64 (orI x y)) ∧ w' = w := by
  obtain ⟨R, hR⟩ : ∃ R, orI x y = R := ⟨_, rfl⟩
  rw [hR]
  have HR := Lib.hid hR
  clear hR
  by_cases hx : x = 0
  · have g0 : (x != 0) = false := by simpa using hx
    have HR1 : Hid (y = R) := Lib.hid (by have := HR.out; simpa [orI, hx] using this)
    clear hx HR
    by_cases hy : y = 0
    · have g1 : (y != 0) = false := by simpa using hy
      have HR2 : Hid (0 = R) := Lib.hid (by rw [← hy]; exact HR1.out)
      clear hy HR1
      go_enter Tryz.func53, Tryz.ntmps53
      go_wp2
      refine wp_loop_rounds 3 ?_
      rw [rounds_succ]
      go_wp2
      rw [rounds_succ]
      go_wp2
      rw [rounds_succ]
      go_wp2
      go_ret
      exact ⟨by rw [← HR2.out]; rfl, rfl⟩
    · have g1 : (y != 0) = true := by simpa using hy
      clear hy
      go_enter Tryz.func53, Tryz.ntmps53
      go_wp2
      refine wp_loop_rounds 3 ?_
      rw [rounds_succ]
      go_wp2
      rw [rounds_succ]
      go_wp2
      go_ret
      exact ⟨by rw [← HR1.out]; rfl, rfl⟩
  · have g0 : (x != 0) = true := by simpa using hx
    have HR1 : Hid (x = R) := Lib.hid (by have := HR.out; simpa [orI, hx] using this)
    clear hx HR
    go_enter Tryz.func53, Tryz.ntmps53
    go_wp2
    refine wp_loop_rounds 3 ?_
    rw [rounds_succ]
    go_wp2
    go_ret
    exact ⟨by rw [← HR1.out]; rfl, rfl⟩

/-- The comparison of hits. -/
theorem hits_cmp (x y : Int × Nat) (W : World) : Calls Tryz.prog 65 #[.agg #[.int .i64 x.1, .int .i64 x.2], .agg #[.int .i64 y.1, .int .i64 y.2]] W fun e w' => e = .returned (.int .i64 (Lib.compareInt x.1 y.1)) ∧ ∃ q os', w' = grow (W.drewN q) os' := by
  obtain ⟨R, hR⟩ : ∃ R, Lib.compareInt x.1 y.1 = R := ⟨_, rfl⟩
  have hcon := fun W' => cmp_int x.1 y.1 W'
  rw [hR] at hcon ⊢
  clear hR
  go_enter Tryz.func65, Tryz.ntmps65
  go_wp2_with (go_at_call 44; refine (hcon _).mono ?_; rintro e w' ⟨rfl, rfl⟩)
  go_ret
  exact ⟨rfl, 0, _, by rw [alloc_eq_grow, alloc_eq_grow, grow_grow]; rfl⟩

/-- the comparison of terms, as a number -/
def cmpT (x y : List UInt8 × Nat) : Int := orI (Lib.compareInt y.2 x.2) (cmpS x.1 y.1)
set_option maxRecDepth 100000 in
set_option maxHeartbeats 1000000 in
theorem terms_cmp (x y : List UInt8 × Nat) (W : World) : Calls Tryz.prog 52 #[.agg #[.string ⟨x.1.toArray⟩, .int .i64 x.2], .agg #[.string ⟨y.1.toArray⟩, .int .i64 y.2]] W fun e w' => e = .returned (.int .i64 (cmpT x y)) ∧ ∃ q os', w' = grow (W.drewN q) os' := by
  obtain ⟨c1, h1⟩ : ∃ c, Lib.compareInt y.2 x.2 = c := ⟨_, rfl⟩
  obtain ⟨c2, h2⟩ : ∃ c, cmpS x.1 y.1 = c := ⟨_, rfl⟩
  have k1 := fun W' => cmp_int y.2 x.2 W'
  have k2 := fun W' => cmp_str x.1 y.1 W'
  rw [h1] at k1
  rw [h2] at k2
  have hR : cmpT x y = orI c1 c2 := by rw [← h1, ← h2]; rfl
  rw [hR]
  clear h1 h2 hR
  have x0 : ((W.alloc (.cells #[.string ⟨x.1.toArray⟩, .int .i64 x.2] 56)).alloc (.cells #[.string ⟨y.1.toArray⟩, .int .i64 y.2] 56)).cell? ⟨W.heap.size, 0, none⟩ = some (.string ⟨x.1.toArray⟩) := Lib.cell?_alloc_some _ (by simp)
  have x1 : ((W.alloc (.cells #[.string ⟨x.1.toArray⟩, .int .i64 x.2] 56)).alloc (.cells #[.string ⟨y.1.toArray⟩, .int .i64 y.2] 56)).cell? ⟨W.heap.size, 1, none⟩ = some (.int .i64 x.2) := Lib.cell?_alloc_some _ (by simp)
  have y0 : ((W.alloc (.cells #[.string ⟨x.1.toArray⟩, .int .i64 x.2] 56)).alloc (.cells #[.string ⟨y.1.toArray⟩, .int .i64 y.2] 56)).cell? ⟨W.heap.size + 1, 0, none⟩ = some (.string ⟨y.1.toArray⟩) := by simp
  have y1 : ((W.alloc (.cells #[.string ⟨x.1.toArray⟩, .int .i64 x.2] 56)).alloc (.cells #[.string ⟨y.1.toArray⟩, .int .i64 y.2] 56)).cell? ⟨W.heap.size + 1, 1, none⟩ = some (.int .i64 y.2) := by simp
  have hg : (W.alloc (.cells #[.string ⟨x.1.toArray⟩, .int .i64 x.2] 56)).alloc (.cells #[.string ⟨y.1.toArray⟩, .int .i64 y.2] 56) = grow W #[.cells #[.string ⟨x.1.toArray⟩, .int .i64 x.2] 56, .cells #[.string ⟨y.1.toArray⟩, .int .i64 y.2] 56] := by rw [alloc_eq_grow, alloc_eq_grow, grow_grow]; rfl
  have hs : ((W.alloc (.cells #[.string ⟨x.1.toArray⟩, .int .i64 x.2] 56)).alloc (.cells #[.string ⟨y.1.toArray⟩, .int .i64 y.2] 56)).heap.size = W.heap.size + 2 := by simp
  have HG := Lib.hid hg; clear hg
  go_enter Tryz.func52, Tryz.ntmps52
  go_upto_region 1 with fail
  generalize (W.alloc (.cells #[.string ⟨x.1.toArray⟩, .int .i64 x.2] 56)).alloc (.cells #[.string ⟨y.1.toArray⟩, .int .i64 y.2] 56) = W2 at *
  have f0 : (W2.alloc (.cells #[.int .i64 c1, .int .i64 c2] 3)).drew.cell? ⟨W.heap.size + 2, 0, none⟩ = some (.int .i64 c1) := by rw [← hs]; simp
  have f1 : (W2.alloc (.cells #[.int .i64 c1, .int .i64 c2] 3)).drew.cell? ⟨W.heap.size + 2, 1, none⟩ = some (.int .i64 c2) := by rw [← hs]; simp
  go_region_held3 (fun w' => w'.cell? ⟨W.heap.size, 0, none⟩ = some (.string ⟨x.1.toArray⟩) ∧ w'.cell? ⟨W.heap.size, 1, none⟩ = some (.int .i64 x.2) ∧ w'.cell? ⟨W.heap.size + 1, 0, none⟩ = some (.string ⟨y.1.toArray⟩) ∧ w'.cell? ⟨W.heap.size + 1, 1, none⟩ = some (.int .i64 y.2)) (first | assumption | go_keep) (first | (go_at_call 44; refine (k1 _).mono ?_; rintro e w' ⟨rfl, rfl⟩) | (go_at_call 41; refine (k2 _).mono ?_; rintro e w' ⟨rfl, rfl⟩) | (go_at_call 53; refine (or_int (W.heap.size + 2) c1 c2 _ f0 f1).mono ?_; rintro e w' ⟨rfl, rfl⟩) | fail)
  go_wp2
  go_ret
  exact ⟨rfl, 1, _, by rw [HG.out, alloc_eq_grow]; show grow (grow (W.drewN 1) _) _ = _; rw [grow_grow]⟩
end Go.Proofs.YtmfnhfkgkdibfaaGreat
