import Derived.Test.YtfdholhfdceedaaDoorDelM
import Derived.Test.YtfdholhfdceedaaDoorWireG
namespace Go.Proofs.YtfdholhfdceedaaDoor
open Go.RowKit

theorem intTup_some {n : Int} {k : Nat} : intTup (some (n, k)) = .tuple #[.int .i64 n, .int .i64 (k : Int), .int .i64 0] := rfl
theorem intTup_none : intTup none = .tuple #[.int .i64 0, .int .i64 0, .int .i64 10] := rfl


end Go.Proofs.YtfdholhfdceedaaDoor
