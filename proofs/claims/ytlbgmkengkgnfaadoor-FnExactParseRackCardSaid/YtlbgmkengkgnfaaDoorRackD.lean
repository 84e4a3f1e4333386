/- Racks and places; how many layers a tube has. -/
import Derived.Test.YtlbgmkengkgnfaaDoorRackC
namespace Go.Proofs.YtlbgmkengkgnfaaDoor
set_option linter.unusedSimpArgs false
set_option linter.unusedVariables false
set_option maxRecDepth 20000
open Go.RowKit
end Go.Proofs.YtlbgmkengkgnfaaDoor
