/- Renamings: the reference's test. -/
import Derived.Test.YtljajgaicdffkaaOrd
namespace Go.Proofs.Ytljajgaicdffkaa
set_option linter.unusedSimpArgs false
set_option linter.unusedVariables false
set_option maxRecDepth 20000
open Go.RowKit
theorem l4Names_any (f : Nat → Int) (w : World) : Calls Try.prog 42 #[.agg (arr 6 f)] w fun e w' => e = .returned (.bool ((f 0 == 0) && pB f 6)) ∧ Below w.heap.size w w' := by
  have h1 : (w.alloc (.cells (arr 6 f) 22)).heap[w.heap.size]? = some (.cells (arr 6 f) 22 (0, 0))   := heap_new rfl
  have hbel : Below w.heap.size w (w.alloc (.cells (arr 6 f) 22)) := (Below.refl _ _).alloc (by simp) _
  cases hz : f 0 == 0 with
  | true =>
    rw [Bool.true_and]
    go_enter Try.func42, Try.ntmps42
    go_wp2_with first
      | (with_reducible refine wpList_loadI rfl _ _ rfl _ _ rfl h1 aggI undI (by omega) ?_)
      | (with_reducible refine wpList_loadW rfl _ _ rfl _ rfl h1 aggO sizeO ?_)
      | (with_reducible refine wpList_loadWG rfl _ _ rfl _ rfl h1 aggO sizeO ?_)
      | (go_at_call 40; (with_reducible refine (l4Perm_any f _).mono ?_); rintro e w1 ⟨rfl, hb1⟩; replace hbel := hbel.trans (hb1.mono hbel.size); replace h1 := row_keep hb1 h1; clear hb1)
    go_ret
    exact ⟨rfl, hbel⟩
  | false =>
    rw [Bool.false_and]
    go_enter Try.func42, Try.ntmps42
    go_wp2_with first
      | (with_reducible refine wpList_loadI rfl _ _ rfl _ _ rfl h1 aggI undI (by omega) ?_)
    go_ret
    exact ⟨rfl, hbel⟩
end Go.Proofs.Ytljajgaicdffkaa
