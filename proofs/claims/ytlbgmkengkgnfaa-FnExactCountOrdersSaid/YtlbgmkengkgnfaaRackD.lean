/- Racks and places; how many layers a tube has. -/
import Derived.Test.YtlbgmkengkgnfaaRackC
namespace Go.Proofs.Ytlbgmkengkgnfaa
set_option linter.unusedSimpArgs false
set_option linter.unusedVariables false
set_option maxRecDepth 20000
open Go.RowKit
end Go.Proofs.Ytlbgmkengkgnfaa
