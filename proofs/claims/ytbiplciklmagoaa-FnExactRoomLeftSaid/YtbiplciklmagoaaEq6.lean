/- Comparing rows of six ints. -/
import Derived.Test.YtbiplciklmagoaaMem2
namespace Go.Proofs.Ytbiplciklmagoaa
set_option linter.unusedSimpArgs false
set_option linter.unusedVariables false
set_option maxRecDepth 20000
open Go.RowKit
end Go.Proofs.Ytbiplciklmagoaa
