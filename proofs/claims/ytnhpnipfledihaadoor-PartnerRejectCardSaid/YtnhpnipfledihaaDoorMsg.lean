/- Messages: Valid of the program and of the reference. -/
import Derived.Test.YtnhpnipfledihaaDoorDifB
namespace Go.Proofs.YtnhpnipfledihaaDoor
open Go.RowKit

structure Msg where
  kind : Int
  partner : Int
  seq : Int
  story : Int
  base : Int
  version : Int
  data : List UInt8

def Msg.enc (m : Msg) : Value := .agg #[.int .i64 m.kind, .int .i64 m.partner, .int .i64 m.seq, .int .i64 m.story, .int .i64 m.base, .int .i64 m.version, .string ⟨m.data.toArray⟩]

def Msg.valid (m : Msg) : Bool :=
  decide (1 ≤ m.partner ∧ m.partner ≤ 8 ∧ 1 ≤ m.seq ∧ m.seq ≤ 4611686018427387903 ∧ 1 ≤ m.story ∧ m.story ≤ 64 ∧ 0 ≤ m.base ∧ m.base ≤ 4294967295 ∧ 0 ≤ m.version ∧ m.version ≤ 4294967295 ∧
    ((m.kind = 1 ∧ m.data.length ≤ 16384) ∨ (m.kind = 2 ∧ m.base = 0 ∧ m.version = 0 ∧ m.data = []) ∨ (m.kind = 3 ∧ m.base = 0 ∧ m.data = []) ∨ (m.kind = 4 ∧ m.version = 0 ∧ m.data = [])))

theorem ret_bool {a b : Bool} (h : a = b) : Ending.returned (.bool a) = .returned (.bool b) := by rw [h]

theorem isSum_any (n : Int) (w : World) :
    Calls Tryd.prog 39 #[.int .i64 n] w fun e w' => e = .returned (.bool (decide (0 ≤ n ∧ n ≤ 4294967295))) ∧ w = w' := by
  obtain ⟨R, hR⟩ : ∃ R, decide (0 ≤ n ∧ n ≤ 4294967295) = R := ⟨_, rfl⟩
  rw [hR]
  have HR := Lib.hid hR; clear hR
  go_enter Tryd.func39, Tryd.ntmps39
  go_wp2
  all_goals (
    go_ret
    refine ⟨ret_bool ?_, rfl⟩
    rw [← HR.out, Bool.eq_iff_iff]
    simp
    omega)

set_option maxRecDepth 100000 in
set_option maxHeartbeats 4000000 in
theorem refValid_any (m : Msg) (w : World) (hd : m.data.length ≤ 9223372036854775000) :
    Calls Tryd.prog 35 #[m.enc] w fun e w' => e = .returned (.bool m.valid) ∧ Below w.heap.size w w' := by
  obtain ⟨kind, partner, seq, story, base, version, data⟩ := m
  obtain ⟨R, hR⟩ : ∃ R, Msg.valid ⟨kind, partner, seq, story, base, version, data⟩ = R := ⟨_, rfl⟩
  rw [hR]
  have HR := Lib.hid hR; clear hR
  unfold Msg.enc
  have HB : Hid (∀ o, Below w.heap.size w (w.alloc o)) := Lib.hid (fun o => (Below.refl _ w).alloc (Nat.le_refl _) o)
  simp only [] at hd
  go_enter Tryd.func35, Tryd.ntmps35
  go_wp2
  all_goals go_ret
  all_goals refine ⟨ret_bool ?_, HB.out _⟩
  all_goals rw [← HR.out, Bool.eq_iff_iff]
  all_goals clear HB HR
  all_goals cases data
  all_goals first
    | (simp [Msg.valid] at *; omega)
    | skip
end Go.Proofs.YtnhpnipfledihaaDoor
