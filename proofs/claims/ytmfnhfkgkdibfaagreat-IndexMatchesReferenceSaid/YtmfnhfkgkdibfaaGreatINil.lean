/- The calls at a nil index. -/
import Derived.Test.YtmfnhfkgkdibfaaGreatILwB
namespace Go.Proofs.YtmfnhfkgkdibfaaGreat
open Go.RowKit Go.Sort Go.Proofs Go.Maps

theorem nil_remove (id : Int) (w : World) : Calls Tryz.prog 13 #[.pointer none, .int .i64 id] w fun e w' => e = .returned (.tuple #[]) ∧ Below w.heap.size w w' := by
  go_enter Tryz.func13, Tryz.ntmps13
  go_wp2
  (try simp only [Exit.inBlock, Exit.then]); refine bodyPost_ret (results_none rfl _ _ _) rfl ?_
  exact ⟨rfl, (Below.refl _ w).alloc (Nat.le_refl _) _⟩
set_option maxRecDepth 100000 in
theorem nil_put (id : Int) (s : List UInt8) (w : World) : Calls Tryz.prog 15 #[.pointer none, .int .i64 id, .string ⟨s.toArray⟩] w fun e w' => e = .returned (.int .i64 1) ∧ w' = w := by
  go_enter Tryz.func15, Tryz.ntmps15
  go_wp2
  go_ret
  exact ⟨rfl, rfl⟩
set_option maxRecDepth 100000 in
theorem nil_docs (s : List UInt8) (hs : s.length ≤ 1000000) (w : World) : Calls Tryz.prog 28 #[.pointer none, .string ⟨s.toArray⟩] w fun e w' => e = .returned (.slice none 0 0) ∧ Below w.heap.size w w' := by
  have hcw := fun W => word_any s (by omega) W
  generalize (wordOf s).getD [] = x at hcw
  generalize (wordOf s).isSome = b at hcw
  go_enter Tryz.func28, Tryz.ntmps28
  go_wp2_with (go_at_call 45; refine (hcw _).mono ?_; rintro e w1 ⟨rfl, hb1⟩)
  go_ret
  exact ⟨rfl, hb1⟩
set_option maxRecDepth 100000 in
theorem nil_prefix (s : List UInt8) (hs : s.length ≤ 1000000) (w : World) : Calls Tryz.prog 30 #[.pointer none, .string ⟨s.toArray⟩] w fun e w' => e = .returned (.slice none 0 0) ∧ Below w.heap.size w w' := by
  have hcw := fun W => word_any s (by omega) W
  generalize (wordOf s).getD [] = x at hcw
  generalize (wordOf s).isSome = b at hcw
  go_enter Tryz.func30, Tryz.ntmps30
  go_wp2_with (go_at_call 45; refine (hcw _).mono ?_; rintro e w1 ⟨rfl, hb1⟩)
  go_ret
  exact ⟨rfl, hb1⟩
set_option maxRecDepth 100000 in
theorem nil_phrase (v : Value) (w : World) : Calls Tryz.prog 23 #[.pointer none, v] w fun e w' => e = .returned (.slice none 0 0) ∧ w' = w := by
  go_enter Tryz.func23, Tryz.ntmps23
  go_wp2
  go_ret
  exact ⟨rfl, rfl⟩
set_option maxRecDepth 100000 in
theorem nil_terms (s : List UInt8) (n : Int) (w : World) : Calls Tryz.prog 26 #[.pointer none, .string ⟨s.toArray⟩, .int .i64 n] w fun e w' => e = .returned (.slice none 0 0) ∧ w' = w := by
  go_enter Tryz.func26, Tryz.ntmps26
  go_wp2
  go_ret
  exact ⟨rfl, rfl⟩
theorem nil_all (w : World) : Calls Tryz.prog 20 #[.pointer none] w fun e w' => e = .returned (.slice none 0 0) ∧ w' = w := by
  go_enter Tryz.func20, Tryz.ntmps20
  go_wp2
  go_ret
  exact ⟨rfl, rfl⟩
theorem nil_len (w : World) : Calls Tryz.prog 18 #[.pointer none] w fun e w' => e = .returned (.int .i64 0) ∧ w' = w := by
  go_enter Tryz.func18, Tryz.ntmps18
  go_wp2
  go_ret
  exact ⟨rfl, rfl⟩
end Go.Proofs.YtmfnhfkgkdibfaaGreat
