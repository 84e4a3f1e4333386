/- The laws' own copying and comparing of rows of ints. -/
import Derived.Test.YtlbgmkengkgnfaaMem
namespace Go.Proofs.Ytlbgmkengkgnfaa
set_option linter.unusedSimpArgs false
set_option linter.unusedVariables false
set_option maxRecDepth 20000
open Go.RowKit
theorem zero4 : ((Try.prog.info? 22).bind (·.zero)).map (·.cells) = some (arr 4 fun _ => 0) := by kernel_rfl
theorem size1 : (Try.prog.info? 3).map (·.size) = some 1 := by kernel_rfl
theorem size4 : (Try.prog.info? 22).map (·.size) = some 4 := by kernel_rfl
theorem size24 : (Try.prog.info? 23).map (·.size) = some 24 := by kernel_rfl
theorem agg4 : aggB Try.prog 22 = true := by kernel_rfl
theorem agg24 : aggB Try.prog 23 = true := by kernel_rfl
theorem heap_new {w : World} {o : Obj} {n : Nat} (h : n = w.heap.size) : (w.alloc o).heap[n]? = some o := by subst h; exact heap_alloc_new w o
theorem heap_old {w : World} {o : Obj} {n : Nat} (h : n < w.heap.size) : (w.alloc o).heap[n]? = w.heap[n]? := Below.heap_alloc w o n h

theorem toIntA4_any (g : Nat → Int) (w : World) : Calls Try.prog 19 #[.agg (arr 4 g)] w fun e w' => e = .returned (.agg (arr 4 g)) ∧ Below w.heap.size w w' := by
  go_enter Try.func19, Try.ntmps19
  go_wp2_with (with_reducible refine wpList_allocA rfl 22 rfl 4 zero4 ?_)
  go_loopw [4] (fun i wr => ∃ k : Nat, k ≤ 4 ∧ i = .int .i64 k ∧ wr.heap[w.heap.size]? = some (.cells (arr 4 g) 22 (0, 0)) ∧ wr.heap[w.heap.size + 1]? = some (.cells (arr 4 fun _ => 0) 22 (0, 0)) ∧
    wr.heap[w.heap.size + 2]? = some (.cells (arr 4 fun j => if j < k then g j else 0) 22 (0, 0)) ∧ Below w.heap.size w wr) (fun i _ => 4 - (intOf i).toNat)
  case atStart =>
    refine ⟨0, by omega, rfl, ?_, ?_, ?_, ?_⟩
    · rw [heap_old (by simp; omega), heap_old (by simp), heap_new rfl]
    · rw [heap_old (by simp), heap_new (by simp)]
    · rw [heap_new (by simp)]; simp
    · exact (((Below.refl _ _).alloc (by simp) _).alloc (by simp) _).alloc (by simp; omega) _
  case round =>
    obtain ⟨k, hk, rfl, h1, h2, h3, hb⟩ := hrel
    by_cases hlt : k < 4
    · have hc := rowcell h1 hlt
      go_wp2_with (with_reducible refine wpList_storeI rfl 3 _ _ rfl _ _ rfl rfl h3 size1 hlt ?_)
      go_roundw
      case rel =>
        refine ⟨k + 1, by omega, by go_num, ?_, ?_, ?_, below_setRow2 hb (by omega) _⟩
        · rw [setRow_other _ _ _ _ (by omega), h1]
        · rw [setRow_other _ _ _ _ (by omega), h2]
        · rw [setRow_heap _ _ _ _ _ _ h3]
          congr 2
          refine arr_congr fun j hj => ?_
          unfold upd
          by_cases e : j = k
          · subst e; simp
          · have : j < k + 1 ↔ j < k := by omega
            simp [e, this]
      case measure => simp [intOf]; omega
    · go_wp2_with first | (with_reducible refine wpList_loadW rfl _ _ rfl _ rfl h3 agg4 size4 ?_) | (with_reducible refine wpList_storeW rfl _ _ _ rfl _ rfl rfl h2 size4 ?_)
      refine bodyPost_ret_by (results_cellA rfl _ _ _ _ _ _ _ rfl (setRow_heap _ _ _ _ _ _ h2) agg4 size4) rfl ⟨?_, below_setRow2 hb (by omega) _⟩
      congr 2
      refine arr_congr fun j hj => ?_
      rw [if_pos (by omega)]

theorem size24r : (Try.prog.info? 28).map (·.size) = some 24 := by kernel_rfl
theorem agg24r : aggB Try.prog 28 = true := by kernel_rfl
theorem zero24 : ((Try.prog.info? 23).bind (·.zero)).map (·.cells) = some (arr 24 fun _ => 0) := by kernel_rfl
theorem zero24r : ((Try.prog.info? 28).bind (·.zero)).map (·.cells) = some (arr 24 fun _ => 0) := by kernel_rfl

theorem toIntA4A6_any (g : Nat → Int) (w : World) : Calls Try.prog 12 #[.agg (arr 24 g)] w fun e w' => e = .returned (.agg (arr 24 g)) ∧ Below w.heap.size w w' := by
  go_enter Try.func12, Try.ntmps12
  go_wp2_with (with_reducible refine wpList_allocA rfl 23 rfl 24 zero24 ?_)
  go_loopw [4] (fun i wr => ∃ k : Nat, k ≤ 6 ∧ i = .int .i64 k ∧ wr.heap[w.heap.size]? = some (.cells (arr 24 g) 23 (0, 0)) ∧ wr.heap[w.heap.size + 1]? = some (.cells (arr 24 fun _ => 0) 23 (0, 0)) ∧
    wr.heap[w.heap.size + 2]? = some (.cells (arr 24 fun j => if j < 4 * k then g j else 0) 23 (0, 0)) ∧ Below w.heap.size w wr) (fun i _ => 6 - (intOf i).toNat)
  case atStart =>
    refine ⟨0, by omega, rfl, ?_, ?_, ?_, ?_⟩
    · rw [heap_old (by simp; omega), heap_old (by simp), heap_new rfl]
    · rw [heap_old (by simp), heap_new (by simp)]
    · rw [heap_new (by simp)]; simp
    · exact (((Below.refl _ _).alloc (by simp) _).alloc (by simp) _).alloc (by simp; omega) _
  case round =>
    obtain ⟨k, hk, rfl, h1, h2, h3, hb⟩ := hrel
    by_cases hlt : k < 6
    · go_wp2_with first | (with_reducible refine wpList_loadA rfl _ _ rfl _ _ rfl h1 4 agg4 size4 (by omega) ?_) | (go_at_call 19; refine (toIntA4_any _ _).mono ?_; rintro e w1 ⟨rfl, hb1⟩; have h4 := row_keep hb1 h3) | (with_reducible refine wpList_storeA rfl _ _ _ rfl _ _ rfl rfl h4 size4 (by omega) ?_)
      go_roundw
      case rel =>
        refine ⟨k + 1, by omega, by go_num, ?_, ?_, ?_, below_setRow2 (hb.trans (hb1.mono hb.size)) (by omega) _⟩
        · rw [setRow_other _ _ _ _ (by omega), row_keep hb1 h1]
        · rw [setRow_other _ _ _ _ (by omega), row_keep hb1 h2]
        · rw [setRow_heap _ _ _ _ _ _ h4, copy_step]
      case measure => simp [intOf]; omega
    · go_wp2_with first | (with_reducible refine wpList_loadW rfl _ _ rfl _ rfl h3 agg24 size24 ?_) | (with_reducible refine wpList_storeW rfl _ _ _ rfl _ rfl rfl h2 size24 ?_)
      refine bodyPost_ret_by (results_cellA rfl _ _ _ _ _ _ _ rfl (setRow_heap _ _ _ _ _ _ h2) agg24 size24) rfl ⟨?_, below_setRow2 hb (by omega) _⟩
      congr 2
      refine arr_congr fun j hj => ?_
      rw [if_pos (by omega)]

theorem toRack_any (g : Nat → Int) (w : World) : Calls Try.prog 6 #[.agg (arr 24 g)] w fun e w' => e = .returned (.agg (arr 24 g)) ∧ Below w.heap.size w w' := by
  have h1 : (((w.alloc (.cells (arr 24 g) 25)).alloc (.cells (arr 24 fun _ => 0) 28)).alloc (.cells (arr 24 fun _ => 0) 28)).heap[w.heap.size]? = some (.cells (arr 24 g) 25 (0, 0)) := by rw [heap_old (by simp; omega), heap_old (by simp), heap_new rfl]
  have h2 : (((w.alloc (.cells (arr 24 g) 25)).alloc (.cells (arr 24 fun _ => 0) 28)).alloc (.cells (arr 24 fun _ => 0) 28)).heap[w.heap.size + 1]? = some (.cells (arr 24 fun _ => 0) 28 (0, 0)) := by rw [heap_old (by simp), heap_new (by simp)]
  have h3 : (((w.alloc (.cells (arr 24 g) 25)).alloc (.cells (arr 24 fun _ => 0) 28)).alloc (.cells (arr 24 fun _ => 0) 28)).heap[w.heap.size + 1 + 1]? = some (.cells (arr 24 fun _ => 0) 28 (0, 0)) := by rw [heap_new (by simp)]
  have hb : Below w.heap.size w (((w.alloc (.cells (arr 24 g) 25)).alloc (.cells (arr 24 fun _ => 0) 28)).alloc (.cells (arr 24 fun _ => 0) 28)) := (((Below.refl _ _).alloc (by simp) _).alloc (by simp) _).alloc (by simp; omega) _
  go_enter Try.func6, Try.ntmps6
  go_wp2_with first
    | (with_reducible refine wpList_allocA rfl 28 rfl 24 zero24r ?_)
    | (with_reducible refine wpList_loadW rfl _ _ rfl _ rfl h1 agg24 size24 ?_)
    | (go_at_call 12; (refine (toIntA4A6_any _ _).mono ?_; rintro e w1 ⟨rfl, hb1⟩; have h4 := row_keep hb1 h3; have h5 := setRow_heap _ _ _ (arr 24 g) _ _ h4; have h6 := (setRow_other w1 (w.heap.size + 1 + 1) (w.heap.size + 1) (arr 24 g) (by omega)).trans (row_keep hb1 h2)))
    | (with_reducible refine wpList_storeW rfl _ _ _ rfl _ rfl rfl h4 size24 ?_)
    | (with_reducible refine wpList_loadW rfl _ _ rfl _ rfl h5 agg24r size24r ?_)
    | (with_reducible refine wpList_storeW rfl _ _ _ rfl _ rfl rfl h6 size24r ?_)
  exact bodyPost_ret_by (results_cellA rfl _ _ _ _ _ _ _ rfl (setRow_heap _ _ _ _ _ _ h6) agg24r size24r) rfl ⟨rfl, below_setRow2 (below_setRow2 (hb.trans (hb1.mono hb.size)) (by omega) _) (by omega) _⟩
end Go.Proofs.Ytlbgmkengkgnfaa
