/- IsView: the program's and the reference's, and the law. -/
import Derived.Test.YtfecfdjobljbnaaView2
import Derived.Test.YtfecfdjobljbnaaView3
import Derived.Test.YtfecfdjobljbnaaConvV
namespace Go.Proofs.Ytfecfdjobljbnaa
set_option linter.unusedSimpArgs false
set_option linter.unusedVariables false
open Go.RowKit
theorem specIsView_any (v : Nat → Int) (hx : ∀ j, I64 (v j)) (w : World) : Calls Try.prog 21 #[.agg (arr 18 v)] w fun e w' => e = .returned (.bool (viewB v)) ∧ Below w.heap.size w w' := by
  have h1 : (w.alloc (.cells (arr 18 v) 44)).heap[w.heap.size]? = some (.cells (arr 18 v) 44 (0, 0))   := heap_new rfl
  have hbel : Below w.heap.size w (w.alloc (.cells (arr 18 v) 44)) := (Below.refl _ _).alloc (by simp) _
  go_enter Try.func21, Try.ntmps21
  go_wp2_with first
    | (with_reducible refine wpList_loadW rfl _ _ rfl _ rfl h1 agg18r size18r ?_)
    | (go_at_call 37; (with_reducible refine (l7Good_any v hx _).mono ?_); rintro e w1 ⟨rfl, hb1⟩; replace hbel := hbel.trans (hb1.mono hbel.size); replace h1 := row_keep hb1 h1; clear hb1)
  go_ret
  exact ⟨rfl, hbel⟩
set_option linter.unusedVariables false in
theorem FnExactIsView_walk (x0 : Nat → Int) (hx0 : ∀ j, I64 (x0 j)) (w : World) : Calls Try.prog 8 #[.agg (arr 18 x0)] w fun e w' => e = .returned (.bool true) ∧ Below w.heap.size w w' := by
  have hr0 : (w.alloc (.cells (arr 18 x0) 42)).heap[w.heap.size]? = some (.cells (arr 18 x0) 42 (0, 0)) := by rw [heap_new (by simp)]
  have hbel : Below w.heap.size w (w.alloc (.cells (arr 18 x0) 42)) := ((Below.refl _ _).alloc (by simp) _)
  go_enter Try.func8, Try.ntmps8
  go_wp2_with first
    | (with_reducible refine wpList_loadW rfl _ _ rfl _ rfl hr0 agg18l size18l ?_)
    | (go_at_call 22; (with_reducible refine (toView_any _ _).mono ?_); (rintro e w1 ⟨rfl, hb1⟩; replace hbel := hbel.trans (hb1.mono hbel.size); replace hr0 := row_keep hb1 hr0; clear hb1))
    | (go_at_call 21; (with_reducible refine (specIsView_any _ hx0 _).mono ?_); (rintro e w1 ⟨rfl, hb1⟩; replace hbel := hbel.trans (hb1.mono hbel.size); replace hr0 := row_keep hb1 hr0; clear hb1))
    | (go_at_call 23; (with_reducible refine (IsView_any _ hx0 _).mono ?_); (rintro e w1 ⟨rfl, hb1⟩; replace hbel := hbel.trans (hb1.mono hbel.size); replace hr0 := row_keep hb1 hr0; clear hb1))
  go_ret
  exact ⟨rfl, hbel⟩
end Go.Proofs.Ytfecfdjobljbnaa
