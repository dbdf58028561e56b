/- What the laws' own helpers do with steps. -/
import Derived.Test.YtebfijjcmmlbjaaDoorKit
import Derived.Test.YtebfijjcmmlbjaaDoorPlain
import Derived.Test.YtebfijjcmmlbjaaDoorLaw
import Derived.Deep.RegionHeld3
namespace Go.Proofs.YtebfijjcmmlbjaaDoor
open Go.ChangeShapes Go.WideShapes Go.ChangeAt Go.RowKit
set_option linter.unusedVariables false

theorem Tryd.infoSt : (Tryd.prog.info? 66).map (fun i => (i.zero, i.size, i.bytes)) = some (some (.agg #[.int .i64 0, .int .i64 0]), 2, 16) := by kernel_rfl
end Go.Proofs.YtebfijjcmmlbjaaDoor
