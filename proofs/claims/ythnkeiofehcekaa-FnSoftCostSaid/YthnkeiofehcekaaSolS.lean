/- Solutions of a model, by the reference. -/
import Derived.Test.YthnkeiofehcekaaSatS
namespace Go.Proofs.Ythnkeiofehcekaa
open Go.ChangeShapes Go.WideShapes Go.ChangeAt Go.RowKit
open Go.Shelf
set_option linter.unusedVariables false
set_option maxRecDepth 100000

end Go.Proofs.Ythnkeiofehcekaa
