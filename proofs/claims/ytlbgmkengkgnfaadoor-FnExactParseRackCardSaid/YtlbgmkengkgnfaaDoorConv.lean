/- The laws' own copying and comparing of rows of ints. -/
import Derived.Test.YtlbgmkengkgnfaaDoorMem
namespace Go.Proofs.YtlbgmkengkgnfaaDoor
set_option linter.unusedSimpArgs false
set_option linter.unusedVariables false
set_option maxRecDepth 20000
open Go.RowKit
theorem zero4 : ((Tryd.prog.info? 22).bind (·.zero)).map (·.cells) = some (arr 4 fun _ => 0) := by kernel_rfl
theorem size1 : (Tryd.prog.info? 3).map (·.size) = some 1 := by kernel_rfl
theorem size4 : (Tryd.prog.info? 22).map (·.size) = some 4 := by kernel_rfl
theorem size24 : (Tryd.prog.info? 23).map (·.size) = some 24 := by kernel_rfl
theorem agg4 : aggB Tryd.prog 22 = true := by kernel_rfl
theorem agg24 : aggB Tryd.prog 23 = true := by kernel_rfl
theorem heap_new {w : World} {o : Obj} {n : Nat} (h : n = w.heap.size) : (w.alloc o).heap[n]? = some o := by subst h; exact heap_alloc_new w o
theorem heap_old {w : World} {o : Obj} {n : Nat} (h : n < w.heap.size) : (w.alloc o).heap[n]? = w.heap[n]? := Below.heap_alloc w o n h

theorem eqIntA4_same (g : Nat → Int) (w : World) : Calls Tryd.prog 14 #[.agg (arr 4 g), .agg (arr 4 g)] w fun e w' => e = .returned (.bool true) ∧ Below w.heap.size w w' := by
  go_enter Tryd.func14, Tryd.ntmps14
  go_wp2
  go_loopw [5] (fun i wr => ∃ k : Nat, k ≤ 4 ∧ i = .int .i64 k ∧ wr.heap[w.heap.size]? = some (.cells (arr 4 g) 22 (0, 0)) ∧ wr.heap[w.heap.size + 1]? = some (.cells (arr 4 g) 22 (0, 0)) ∧ Below w.heap.size w wr) (fun i _ => 4 - (intOf i).toNat)
  case atStart =>
    refine ⟨0, by omega, rfl, ?_, ?_, ?_⟩
    · rw [heap_old (by simp), heap_new rfl]
    · rw [heap_new (by simp)]
    · exact ((Below.refl _ _).alloc (by simp) _).alloc (by simp) _
  case round =>
    obtain ⟨k, hk, rfl, h1, h2, hb⟩ := hrel
    by_cases hlt : k < 4
    · have hc := rowcell h1 hlt
      have hc2 := rowcell h2 hlt
      have hlt' : (k : Int) < 4 := by omega
      go_wp2_with fail
      go_quiet (fail)
      go_wp2
      go_roundw
      case rel => exact ⟨k + 1, by omega, by go_num, h1, h2, hb.trans ⟨rfl, rfl, rfl, Nat.le_refl _, fun _ _ => rfl⟩⟩
      case measure => simp [intOf]; omega
    · go_wp2
      go_ret
      exact ⟨rfl, hb⟩

theorem eqIntA4A6_same (g : Nat → Int) (w : World) : Calls Tryd.prog 9 #[.agg (arr 24 g), .agg (arr 24 g)] w fun e w' => e = .returned (.bool true) ∧ Below w.heap.size w w' := by
  go_enter Tryd.func9, Tryd.ntmps9
  go_wp2
  go_loopw [5] (fun i wr => ∃ k : Nat, k ≤ 6 ∧ i = .int .i64 k ∧ wr.heap[w.heap.size]? = some (.cells (arr 24 g) 23 (0, 0)) ∧ wr.heap[w.heap.size + 1]? = some (.cells (arr 24 g) 23 (0, 0)) ∧ Below w.heap.size w wr) (fun i _ => 6 - (intOf i).toNat)
  case atStart =>
    refine ⟨0, by omega, rfl, ?_, ?_, ?_⟩
    · rw [heap_old (by simp), heap_new rfl]
    · rw [heap_new (by simp)]
    · exact ((Below.refl _ _).alloc (by simp) _).alloc (by simp) _
  case round =>
    obtain ⟨k, hk, rfl, h1, h2, hb⟩ := hrel
    by_cases hlt : k < 6
    · have hlt' : (k : Int) < 6 := by omega
      go_wp2_with fail
      refine wp_region_still_tail 6 (by kernel_rfl) (by kernel_rfl) ?_
      simp only [List.take_succ_cons, List.take_zero, List.drop_succ_cons, List.drop_zero]
      have h1' : ({ wr with drawn := wr.drawn + 1 } : World).heap[w.heap.size]? = some (.cells (arr 24 g) 23 (0, 0)) := h1
      have h2' : ({ wr with drawn := wr.drawn + 1 } : World).heap[w.heap.size + 1]? = some (.cells (arr 24 g) 23 (0, 0)) := h2
      repeat (first | (with_reducible refine wpStill_loadA rfl _ _ rfl _ _ rfl h1' 4 agg4 size4 (by omega) ?_) | (with_reducible refine wpStill_loadA rfl _ _ rfl _ _ rfl h2' 4 agg4 size4 (by omega) ?_) | still_step)
      try refine wpStill_nil ?_
      change wpList _ _ _ _ _ wr.drew
      go_wp2_with (go_at_call 14; refine (eqIntA4_same _ _).mono ?_; rintro e w1 ⟨rfl, hb1⟩)
      go_roundw
      case rel => exact ⟨k + 1, by omega, by go_num, row_keep hb1 h1, row_keep hb1 h2, hb.drew.trans (hb1.mono hb.size)⟩
      case measure => simp [intOf]; omega
    · go_wp2
      go_ret
      exact ⟨rfl, hb⟩

theorem size24r : (Tryd.prog.info? 25).map (·.size) = some 24 := by kernel_rfl
theorem agg24r : aggB Tryd.prog 25 = true := by kernel_rfl
theorem zero24 : ((Tryd.prog.info? 23).bind (·.zero)).map (·.cells) = some (arr 24 fun _ => 0) := by kernel_rfl
theorem zero24r : ((Tryd.prog.info? 25).bind (·.zero)).map (·.cells) = some (arr 24 fun _ => 0) := by kernel_rfl
theorem eqRack_same (g : Nat → Int) (w : World) : Calls Tryd.prog 6 #[.agg (arr 24 g), .agg (arr 24 g)] w fun e w' => e = .returned (.bool true) ∧ Below w.heap.size w w' := by
  have h1 : ((w.alloc (.cells (arr 24 g) 25)).alloc (.cells (arr 24 g) 25)).heap[w.heap.size]? = some (.cells (arr 24 g) 25 (0, 0)) := by rw [heap_old (by simp), heap_new rfl]
  have h2 : ((w.alloc (.cells (arr 24 g) 25)).alloc (.cells (arr 24 g) 25)).heap[w.heap.size + 1]? = some (.cells (arr 24 g) 25 (0, 0)) := by rw [heap_new (by simp)]
  go_enter Tryd.func6, Tryd.ntmps6
  go_wp2_with first | (with_reducible refine wpList_loadW rfl _ _ rfl _ rfl h1 agg24 size24 ?_) | (with_reducible refine wpList_loadW rfl _ _ rfl _ rfl h2 agg24 size24 ?_) | (go_at_call 9; refine (eqIntA4A6_same _ _).mono ?_; rintro e w1 ⟨rfl, hb1⟩)
  go_ret
  exact ⟨rfl, (((Below.refl _ _).alloc (by simp) _).alloc (by simp) _).trans (hb1.mono (by simp; omega))⟩

end Go.Proofs.YtlbgmkengkgnfaaDoor
