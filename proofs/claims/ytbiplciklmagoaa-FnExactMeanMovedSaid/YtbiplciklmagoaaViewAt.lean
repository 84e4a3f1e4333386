/- Views and places. -/
import Derived.Test.YtbiplciklmagoaaView3
import Derived.Test.YtbiplciklmagoaaConvV
import Derived.Test.YtbiplciklmagoaaRackD
namespace Go.Proofs.Ytbiplciklmagoaa
set_option linter.unusedSimpArgs false
set_option linter.unusedVariables false
set_option maxRecDepth 20000
open Go.RowKit
theorem isViewAt_bad (v : Nat → Int) (hx : ∀ j, I64 (v j)) (hf : viewB v = false) (x : Value) (w : World) : Calls Try.prog 68 #[.agg (arr 18 v), x] w fun e w' => e = .returned (.bool false) ∧ Below w.heap.size w w' := by
  have h1 : (w.alloc (.cells (arr 18 v) 48)).heap[w.heap.size]? = some (.cells (arr 18 v) 48 (0, 0))   := heap_new rfl
  have hbel : Below w.heap.size w (w.alloc (.cells (arr 18 v) 48)) := (Below.refl _ _).alloc (by simp) _
  go_enter Try.func68, Try.ntmps68
  go_wp2_with first
    | (with_reducible refine wpList_loadW rfl _ _ rfl _ rfl h1 agg18r size18r ?_)
    | (go_at_call 74; (with_reducible refine (IsView_any _ hx _).mono ?_); rw [hf]; rintro e w1 ⟨rfl, hb1⟩; replace hbel := hbel.trans (hb1.mono hbel.size); replace h1 := row_keep hb1 h1; clear hb1)
  go_ret
  exact ⟨rfl, hbel⟩
theorem isViewAt_any (v : Nat → Int) (hx : ∀ j, I64 (v j)) (hf : viewB v = true) {B len cap n : Nat} {q : Nat → Int} {T : TypeId} {fr : Nat × Nat} (w : World) (hg : w.heap[B]? = some (.cells (arr n q) T fr)) (hle : len ≤ n) (hm : len ≤ 1000000) :
    Calls Try.prog 68 #[.agg (arr 18 v), .slice (some ⟨B, 0, none⟩) len cap] w fun e w' => e = .returned (.bool ((List.range len).all fun k => decide (0 ≤ q k) && decide (q k ≤ 5))) ∧ Below w.heap.size w w' := by
  have h1 : (w.alloc (.cells (arr 18 v) 48)).heap[w.heap.size]? = some (.cells (arr 18 v) 48 (0, 0))   := heap_new rfl
  have hbel : Below w.heap.size w (w.alloc (.cells (arr 18 v) 48)) := (Below.refl _ _).alloc (by simp) _
  have h2 := row_keep hbel hg
  go_enter Try.func68, Try.ntmps68
  go_wp2_with first
    | (with_reducible refine wpList_loadW rfl _ _ rfl _ rfl h1 agg18r size18r ?_)
    | (go_at_call 74; (with_reducible refine (IsView_any _ hx _).mono ?_); rw [hf]; rintro e w1 ⟨rfl, hb1⟩; replace hbel := hbel.trans (hb1.mono hbel.size); replace h1 := row_keep hb1 h1; replace h2 := row_keep hb1 h2; clear hb1)
    | (go_at_call 85; (with_reducible refine (areAll_int 86 _ isPlace_pred _ h2 (by omega) hm).mono ?_); simp only [Nat.zero_add]; rintro e w1 ⟨rfl, hb1⟩; replace hbel := hbel.trans (hb1.mono hbel.size); replace h1 := row_keep hb1 h1; clear hb1)
  go_ret
  exact ⟨rfl, hbel⟩
theorem isViewAt_two (v : Nat → Int) (hx : ∀ j, I64 (v j)) (hf : viewB v = true) (i k : Int) {B cap : Nat} {T : TypeId} {fr : Nat × Nat} (w : World) (hg : w.heap[B]? = some (.cells #[.int .i64 i, .int .i64 k] T fr)) :
    Calls Try.prog 68 #[.agg (arr 18 v), .slice (some ⟨B, 0, none⟩) 2 cap] w fun e w' => e = .returned (.bool ((decide (0 ≤ i) && decide (i ≤ 5)) && (decide (0 ≤ k) && decide (k ≤ 5)))) ∧ Below w.heap.size w w' := by
  rw [arr_two] at hg
  refine (isViewAt_any v hx hf w hg (by omega) (by omega)).mono fun e w' ⟨he, hb⟩ => ⟨he.trans (ret_bool ?_), hb⟩
  simp [List.range_succ]
theorem isViewAt_one (v : Nat → Int) (hx : ∀ j, I64 (v j)) (hf : viewB v = true) (i : Int) {B cap : Nat} {T : TypeId} {fr : Nat × Nat} (w : World) (hg : w.heap[B]? = some (.cells #[.int .i64 i] T fr)) :
    Calls Try.prog 68 #[.agg (arr 18 v), .slice (some ⟨B, 0, none⟩) 1 cap] w fun e w' => e = .returned (.bool (decide (0 ≤ i) && decide (i ≤ 5))) ∧ Below w.heap.size w w' := by
  rw [arr_one] at hg
  refine (isViewAt_any v hx hf w hg (by omega) (by omega)).mono fun e w' ⟨he, hb⟩ => ⟨he.trans (ret_bool ?_), hb⟩
  simp [List.range_succ]

end Go.Proofs.Ytbiplciklmagoaa
