/- Slices of weighted constraints: the laws' copies, sizes and comparisons (printed by gmod.py) -/
import Derived.Test.YthnkeiofehcekaaSof
namespace Go.Proofs.Ythnkeiofehcekaa
open Go.ChangeShapes Go.WideShapes Go.ChangeAt Go.RowKit
open Go.Shelf
set_option linter.unusedVariables false
set_option maxRecDepth 100000

end Go.Proofs.Ythnkeiofehcekaa
