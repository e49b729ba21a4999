/- Marks and the looks at them, over sites. -/
import Derived.Test.YtjpcdbdaimonlaaSites
namespace Go.Proofs.Ytjpcdbdaimonlaa
open Go.ChangeShapes Go.WideShapes Go.ChangeAt Go.RowKit
open Go.Shelf
set_option linter.unusedVariables false
set_option maxRecDepth 100000

end Go.Proofs.Ytjpcdbdaimonlaa
