/- The law of RackText: its walk. -/
import Derived.Test.YtlbgmkengkgnfaaTxtW
import Derived.Test.YtlbgmkengkgnfaaPut
namespace Go.Proofs.Ytlbgmkengkgnfaa
set_option linter.unusedSimpArgs false
set_option linter.unusedVariables false
set_option maxRecDepth 20000
open Go.RowKit
theorem FnExactRackText_walk (x0 : Nat → Int) (_hx0 : ∀ j, I64 (x0 j)) (w : World) : Calls Try.prog 4 #[.agg (arr 24 x0)] w fun e w' => e = .returned (.bool true) ∧ Below w.heap.size w w' := by
  have hr0 : (w.alloc (.cells (arr 24 x0) 25)).heap[w.heap.size]? = some (.cells (arr 24 x0) 25 (0, 0)) := heap_new (by simp)
  have hbel : Below w.heap.size w (w.alloc (.cells (arr 24 x0) 25)) := (Below.refl _ _).alloc (by simp) _
  go_enter Try.func4, Try.ntmps4
  go_wp2_with first
    | (with_reducible refine wpList_loadW rfl _ _ rfl _ rfl hr0 agg24l size24l ?_)
    | (go_at_call 6; (with_reducible refine (toRack_any _ _).mono ?_); rintro e w1 ⟨rfl, hb1⟩; replace hbel := hbel.trans (hb1.mono hbel.size); replace hr0 := row_keep hb1 hr0; clear hb1)
    | (go_at_call 8; (with_reducible refine (specRT_any x0 _).mono ?_); rintro e w1 ⟨rfl, hb1⟩; replace hbel := hbel.trans (hb1.mono hbel.size); replace hr0 := row_keep hb1 hr0; clear hb1)
    | (go_at_call 9; (with_reducible refine (implRT_any x0 _).mono ?_); rintro e w1 ⟨rfl, hb1⟩; replace hbel := hbel.trans (hb1.mono hbel.size); replace hr0 := row_keep hb1 hr0; clear hb1)
  go_ret
  exact ⟨rfl, hbel⟩
end Go.Proofs.Ytlbgmkengkgnfaa
