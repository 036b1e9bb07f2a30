/- Facts and contracts for the laws of the sender, part 21. Conditions: those that each theorem names. -/
import Derived.Test.YtefloieanpgnmaaDoorK02
/- Valid of the program. -/
namespace Go.Proofs.YtefloieanpgnmaaDoor
open Go.RowKit

set_option maxRecDepth 100000 in
set_option maxHeartbeats 4000000 in
theorem valid_any (m : Msg) (w : World) (hd : m.data.length ≤ 9223372036854775000) :
    Calls Tryd.prog 26 #[m.enc] w fun e w' => e = .returned (.bool m.valid) ∧ Below w.heap.size w w' := by
  obtain ⟨kind, partner, seq, story, base, version, data⟩ := m
  obtain ⟨R, hR⟩ : ∃ R, Msg.valid ⟨kind, partner, seq, story, base, version, data⟩ = R := ⟨_, rfl⟩
  rw [hR]
  have HR := Lib.hid hR; clear hR
  unfold Msg.enc
  have HB : Hid (∀ o, Below w.heap.size w (w.alloc o)) := Lib.hid (fun o => (Below.refl _ w).alloc (Nat.le_refl _) o)
  simp only [] at hd
  go_enter Tryd.func26, Tryd.ntmps26
  go_wp2
  all_goals go_ret
  all_goals refine ⟨ret_bool ?_, HB.out _⟩
  all_goals rw [← HR.out, Bool.eq_iff_iff]
  all_goals clear HB HR
  all_goals cases data
  all_goals first
    | (simp [Msg.valid] at *; omega)
    | skip
end Go.Proofs.YtefloieanpgnmaaDoor
