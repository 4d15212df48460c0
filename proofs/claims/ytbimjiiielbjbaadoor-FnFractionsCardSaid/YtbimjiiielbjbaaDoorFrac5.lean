/- The contract of the reference's AddFractions. -/
import Derived.Test.YtbimjiiielbjbaaDoorFrac4
import Derived.Test.YtbimjiiielbjbaaDoorReg2
namespace Go.Proofs.YtbimjiiielbjbaaDoor
set_option linter.unusedSimpArgs false
set_option linter.unusedVariables false
open Go.RowKit


end Go.Proofs.YtbimjiiielbjbaaDoor
