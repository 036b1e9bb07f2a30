import Derived.Test.YtmfnhfkgkdibfaaGreatTokA
import Derived.Test.YtmfnhfkgkdibfaaGreatTokL
import Derived.Deep.DeepMust
namespace Go.Proofs.YtmfnhfkgkdibfaaGreat
open Go.RowKit

theorem infoStr : (Tryz.prog.info? 9).map (fun i => (i.zero, i.size, i.bytes)) = some (some (.string .empty), 1, 16) := by kernel_rfl

/-- 'l.items = append(l.items, x)' -/
def AddPost (B n₀ k : Nat) (xs : List Value) (w : World) (e : Ending) (w' : World) : Prop :=
  e = .returned (.tuple #[]) ∧ ∃ v', Boxed w' B 89 v' ∧ w'.ownsRow n₀ 9 1 v' k xs ∧ KeepsOthers w w' ∧ ButAt n₀ B w w'

set_option maxHeartbeats 400000 in
theorem add_any (B n₀ k bi : Nat) (v : Value) (xs : List Value) (x : ByteArray) (w : World) (hv : Boxed w B 89 v) (hrow : w.ownsRow n₀ 9 1 v k xs)
    (hn₀ : n₀ ≤ w.heap.size) (hbi : w.cell? ⟨bi, 0, none⟩ = some (.string x)) (hlen : k + 1 ≤ 1099511627776) :
    Calls Tryz.prog 57 #[.pointer (some ⟨B, 0, none⟩), .slice (some ⟨bi, 0, none⟩) 1 1] w (AddPost B n₀ (k + 1) (xs ++ [.string x]) w) := by
  obtain ⟨i0, hi, hz0, hz1, hz2⟩ := info_parts infoStr
  have hc := hv.cell
  have h63 : k + 1 ≤ maxLen := by unfold maxLen; omega
  have hby : (k + 1) * 16 ≤ 140737488355328 := by omega
  have hnw := cell_one hbi
  have h1c : ∀ u ∈ [Value.string x], u.oneCell' = true := by simp [Value.oneCell']
  go_enter Tryz.func57, Tryz.ntmps57
  go_wp2_with (at_builtin; refine wpList_append_own _ rfl _ _ 23 rfl n₀ 9 i0 (.string .empty) 1 16 Tryz.underlying23 hi hz0 hz1 hz2 rfl (by decide) v k xs rfl hrow ⟨bi, 0, none⟩ 1 1 [.string x] rfl rfl hnw h1c h63 hby hn₀ ?_; intro v' w1 hown' hgrow _; obtain ⟨g', cap', rfl⟩ := ownsRow_succ hown'; obtain ⟨hv1, hv2, hr2, hk2, hb2⟩ := boxed_appended hv (by decide) hrow hn₀ hown' hgrow; have hc1 := hv1.cell; have hf1 := hv1.frozen)
  go_end0
  exact ⟨rfl, _, hv2, hr2, hk2, hb2⟩

set_option maxHeartbeats 400000 in
/-- 'words(s)': s is boxed; the function value captures the box. -/
theorem words_any (s : ByteArray) (w : World) :
    Calls Tryz.prog 56 #[.string s] w fun e w' => e = .returned (.func (.func 71) #[] #[.pointer (some ⟨w.heap.size, 0, none⟩)]) ∧ w' = w.alloc (.cells #[.string s] 9) := by
  go_enter Tryz.func56, Tryz.ntmps56
  go_wp2
  go_ret
  exact ⟨rfl, rfl⟩
end Go.Proofs.YtmfnhfkgkdibfaaGreat
