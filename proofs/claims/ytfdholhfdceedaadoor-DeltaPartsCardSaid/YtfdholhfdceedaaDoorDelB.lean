import Derived.Test.YtfdholhfdceedaaDoorDelA
namespace Go.Proofs.YtfdholhfdceedaaDoor
open Go.RowKit

theorem refSum_list (d : List UInt8) (w : World) (hd : d.length ≤ 9223372036854775000) :
    Calls Tryd.prog 24 #[.string ⟨d.toArray⟩] w fun e w' => e = .returned (.int .i64 (crcOf d)) ∧ w = w' := by
  have := refSum_any ⟨d.toArray⟩ w (by rw [mk_size]; omega)
  rwa [mk_data] at this

/-- after the two checksums: what the loop comes to -/
def applyEnd (want : Int) : Except Int (List UInt8) → Except Int (List UInt8)
  | .error e => .error e
  | .ok out => if (crcOf out : Int) = want then .ok out else .error 190

end Go.Proofs.YtfdholhfdceedaaDoor
