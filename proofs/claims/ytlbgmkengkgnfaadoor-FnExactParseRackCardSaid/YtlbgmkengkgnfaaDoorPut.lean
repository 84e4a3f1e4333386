/- PutLayer, TakeLayer, SwapTubes: the program's and the reference's, and the laws. -/
import Derived.Test.YtlbgmkengkgnfaaDoorRackD
import Derived.Test.YtlbgmkengkgnfaaDoorMem2
import Derived.Test.YtlbgmkengkgnfaaDoorHeld
namespace Go.Proofs.YtlbgmkengkgnfaaDoor
set_option linter.unusedSimpArgs false
set_option linter.unusedVariables false
set_option maxRecDepth 20000
open Go.RowKit
theorem zbuild24 : Tryd.prog.built 25 [] = some (arr 24 fun _ => 0) := by kernel_rfl
theorem tube_of_rack {f : Nat → Int} (h : rackB f = true) {n : Nat} (hn : n ≤ 5) : tubeB (tub f n) = true := (rackB_iff f).1 h n (by omega)

theorem isColor_any (x : Int) (w : World) : Calls Tryd.prog 26 #[.int .i64 x] w fun e w' => e = .returned (.bool (decide (1 ≤ x) && decide (x ≤ 5))) ∧ Below w.heap.size w w' := isColor_pred.2 x w

def putLayer (f : Nat → Int) (i c : Int) : (Nat → Int) × Bool := if rackB f = true ∧ (0 ≤ i ∧ i ≤ 5) ∧ (1 ≤ c ∧ c ≤ 5) ∧ nlay (tub f i.toNat) < 4 then (upd f (i.toNat * 4 + nlay (tub f i.toNat)) c, true) else (fun _ => 0, false)
theorem putLayer_bad {f : Nat → Int} {i c : Int} (h : ¬ (rackB f = true ∧ (0 ≤ i ∧ i ≤ 5) ∧ (1 ≤ c ∧ c ≤ 5) ∧ nlay (tub f i.toNat) < 4)) : putLayer f i c = (fun _ => 0, false) := if_neg h

end Go.Proofs.YtlbgmkengkgnfaaDoor
