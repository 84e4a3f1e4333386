/- PutLayer, TakeLayer, SwapTubes: the program's and the reference's, and the laws. -/
import Derived.Test.YtlbgmkengkgnfaaRackD
import Derived.Test.YtlbgmkengkgnfaaMem2
import Derived.Test.YtlbgmkengkgnfaaHeld
namespace Go.Proofs.Ytlbgmkengkgnfaa
set_option linter.unusedSimpArgs false
set_option linter.unusedVariables false
set_option maxRecDepth 20000
open Go.RowKit
theorem size24l : (Try.prog.info? 25).map (·.size) = some 24 := by kernel_rfl
theorem agg24l : aggB Try.prog 25 = true := by kernel_rfl
theorem zbuild24 : Try.prog.built 28 [] = some (arr 24 fun _ => 0) := by kernel_rfl
theorem tube_of_rack {f : Nat → Int} (h : rackB f = true) {n : Nat} (hn : n ≤ 5) : tubeB (tub f n) = true := (rackB_iff f).1 h n (by omega)

theorem isColor_any (x : Int) (w : World) : Calls Try.prog 28 #[.int .i64 x] w fun e w' => e = .returned (.bool (decide (1 ≤ x) && decide (x ≤ 5))) ∧ Below w.heap.size w w' := isColor_pred.2 x w

def putLayer (f : Nat → Int) (i c : Int) : (Nat → Int) × Bool := if rackB f = true ∧ (0 ≤ i ∧ i ≤ 5) ∧ (1 ≤ c ∧ c ≤ 5) ∧ nlay (tub f i.toNat) < 4 then (upd f (i.toNat * 4 + nlay (tub f i.toNat)) c, true) else (fun _ => 0, false)
theorem putLayer_bad {f : Nat → Int} {i c : Int} (h : ¬ (rackB f = true ∧ (0 ≤ i ∧ i ≤ 5) ∧ (1 ≤ c ∧ c ≤ 5) ∧ nlay (tub f i.toNat) < 4)) : putLayer f i c = (fun _ => 0, false) := if_neg h

end Go.Proofs.Ytlbgmkengkgnfaa
