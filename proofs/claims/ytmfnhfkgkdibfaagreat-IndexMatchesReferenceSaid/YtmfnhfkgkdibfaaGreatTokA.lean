import Derived.Test.YtmfnhfkgkdibfaaGreatTokM
import Derived.Test.YtmfnhfkgkdibfaaGreatProg
import Derived.WalkKit
import Derived.WalkSpells
import Derived.WalkLawsBesides
namespace Go.Proofs.YtmfnhfkgkdibfaaGreat
open Go.RowKit

theorem tup2 {a b : Int} {c d : Bool} {k : IntKind} (h : a = b) (h2 : c = d) : Ending.returned (.tuple #[.int k a, .bool c]) = .returned (.tuple #[.int k b, .bool d]) := by rw [h, h2]

theorem bool1 {a b : Bool} (h : a = b) : Ending.returned (.bool a) = .returned (.bool b) := by rw [h]

set_option maxHeartbeats 400000 in
theorem small_any (x : UInt8) (w : World) :
    Calls Tryz.prog 72 #[.int .u8 x.toNat] w fun e w' => e = .returned (.tuple #[.int .u8 (smallV x), .bool (isPart x)]) ∧ w = w' := by
  go_enter Tryz.func72, Tryz.ntmps72
  go_wp2
  all_goals go_ret2
  all_goals refine ⟨tup2 ?_ ?_, rfl⟩
  all_goals first
    | exact (isPart_of (by omega)).symm
    | exact (not_isPart_of (by omega)).symm
    | (rw [smallV_big (by omega)])
    | (rw [smallV_small (by omega)])
    | (rw [smallV_none (not_isPart_of (by omega))])

theorem small_yes (x : UInt8) (h : isPart x = true) (w : World) :
    Calls Tryz.prog 72 #[.int .u8 x.toNat] w fun e w' => e = .returned (.tuple #[.int .u8 (low x).toNat, .bool true]) ∧ w = w' :=
  (small_any x w).mono fun e w' ⟨he, hw⟩ => ⟨by rw [he, h]; simp [smallV, h], hw⟩
theorem small_no (x : UInt8) (h : isPart x = false) (w : World) :
    Calls Tryz.prog 72 #[.int .u8 x.toNat] w fun e w' => e = .returned (.tuple #[.int .u8 0, .bool false]) ∧ w = w' :=
  (small_any x w).mono fun e w' ⟨he, hw⟩ => ⟨by rw [he, h]; simp [smallV, h], hw⟩

end Go.Proofs.YtmfnhfkgkdibfaaGreat
