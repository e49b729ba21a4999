/- Functions over slices of ints return what plain Lean functions say; the copies lie in memory of the call's own. -/
import Derived.Test.YtfgdepnknagniaaDoorMem
import Derived.Test.YtfgdepnknagniaaDoorDom
import Derived.BigQuiet
import Derived.Deep.QuietTactic
import Derived.OwnWalk
import Derived.Shelf.Abstract
import Derived.Outline
namespace Go.Proofs.YtfgdepnknagniaaDoor
open Go.ChangeShapes Go.WideShapes Go.ChangeAt Go.RowKit
open Go.Shelf
set_option linter.unusedVariables false
set_option maxRecDepth 100000

theorem info_int : (Tryd.prog.info? 3).map (fun i => (i.zero, i.size, i.bytes)) = some (some (.int .i64 0), 1, 8) := by kernel_rfl

end Go.Proofs.YtfgdepnknagniaaDoor
