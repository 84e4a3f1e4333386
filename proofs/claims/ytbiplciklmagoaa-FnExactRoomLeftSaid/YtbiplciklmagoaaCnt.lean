/- CountColors: the program's and the reference's, and the law. -/
import Derived.Test.YtbiplciklmagoaaPut
import Derived.Test.YtbiplciklmagoaaIdx
import Derived.Test.YtbiplciklmagoaaEq6
namespace Go.Proofs.Ytbiplciklmagoaa
set_option linter.unusedSimpArgs false
set_option linter.unusedVariables false
set_option maxRecDepth 20000
open Go.RowKit
theorem zero6 : ((Try.prog.info? 43).bind (·.zero)).map (·.cells) = some (arr 6 fun _ => 0) := by kernel_rfl
theorem zbuild6 : Try.prog.built 43 [] = some (arr 6 fun _ => 0) := by kernel_rfl
theorem size6 : (Try.prog.info? 43).map (·.size) = some 6 := by kernel_rfl
theorem agg6 : aggB Try.prog 43 = true := by kernel_rfl
theorem cell_of_rack {f : Nat → Int} (h : rackB f = true) {i k : Nat} (hi : i < 6) (hk : k < 4) : 0 ≤ f (i * 4 + k) ∧ f (i * 4 + k) ≤ 5 := ((tubeB_iff f i).1 ((rackB_iff f).1 h i hi) k hk).1

def countsOf (f : Nat → Int) : (Nat → Int) × Bool := if rackB f = true then (tally f 24, true) else (fun _ => 0, false)
end Go.Proofs.Ytbiplciklmagoaa
