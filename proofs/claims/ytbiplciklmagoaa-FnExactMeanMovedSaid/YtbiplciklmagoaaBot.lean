/- BottomCounts: the program's and the reference's, and the law. -/
import Derived.Test.YtbiplciklmagoaaCnt
namespace Go.Proofs.Ytbiplciklmagoaa
set_option linter.unusedSimpArgs false
set_option linter.unusedVariables false
set_option maxRecDepth 20000
open Go.RowKit
def botsOf (f : Nat → Int) : (Nat → Int) × Bool := if rackB f = true then (tally (fun i => f (i * 4)) 6, true) else (fun _ => 0, false)
end Go.Proofs.Ytbiplciklmagoaa
