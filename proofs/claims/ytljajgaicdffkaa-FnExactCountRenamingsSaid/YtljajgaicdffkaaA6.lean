/- Rows of six: the laws' own copying (lines of ConvV). -/
import Derived.Test.YtljajgaicdffkaaRackD
import Derived.Test.YtljajgaicdffkaaEq6
namespace Go.Proofs.Ytljajgaicdffkaa
set_option linter.unusedSimpArgs false
set_option linter.unusedVariables false
set_option maxRecDepth 20000
open Go.RowKit
theorem zero6 : ((Try.prog.info? 22).bind (·.zero)).map (·.cells) = some (arr 6 fun _ => 0) := by kernel_rfl
theorem zbuild6 : Try.prog.built 22 [] = some (arr 6 fun _ => 0) := by kernel_rfl
theorem size6 : (Try.prog.info? 22).map (·.size) = some 6 := by kernel_rfl
theorem agg6 : aggB Try.prog 22 = true := by kernel_rfl
theorem toIntA6_any (g : Nat → Int) (w : World) : Calls Try.prog 15 #[.agg (arr 6 g)] w fun e w' => e = .returned (.agg (arr 6 g)) ∧ Below w.heap.size w w' := by
  go_enter Try.func15, Try.ntmps15
  go_wp2_with (with_reducible refine wpList_allocA rfl 22 rfl 6 zero6 ?_)
  go_loopw [4] (fun i wr => ∃ k : Nat, k ≤ 6 ∧ i = .int .i64 k ∧ wr.heap[w.heap.size]? = some (.cells (arr 6 g) 22 (0, 0)) ∧ wr.heap[w.heap.size + 1]? = some (.cells (arr 6 fun _ => 0) 22 (0, 0)) ∧
    wr.heap[w.heap.size + 2]? = some (.cells (arr 6 fun j => if j < k then g j else 0) 22 (0, 0)) ∧ Below w.heap.size w wr) (fun i _ => 6 - (intOf i).toNat)
  case atStart =>
    refine ⟨0, by omega, rfl, ?_, ?_, ?_, ?_⟩
    · rw [heap_old (by simp; omega), heap_old (by simp), heap_new rfl]
    · rw [heap_old (by simp), heap_new (by simp)]
    · rw [heap_new (by simp)]; simp
    · exact (((Below.refl _ _).alloc (by simp) _).alloc (by simp) _).alloc (by simp; omega) _
  case round =>
    obtain ⟨k, hk, rfl, h1, h2, h3, hb⟩ := hrel
    by_cases hlt : k < 6
    · have hc := rowcell h1 hlt
      go_wp2_with (with_reducible refine wpList_storeI rfl 3 _ _ rfl _ _ rfl rfl h3 size1 hlt ?_)
      go_roundw
      case rel =>
        refine ⟨k + 1, by omega, by go_num, ?_, ?_, ?_, below_setRow2 hb (by omega) _⟩
        · rw [setRow_other _ _ _ _ (by omega), h1]
        · rw [setRow_other _ _ _ _ (by omega), h2]
        · rw [setRow_heap _ _ _ _ _ _ h3]
          congr 2
          refine arr_congr fun j hj => ?_
          unfold upd
          by_cases e : j = k
          · subst e; simp
          · have : j < k + 1 ↔ j < k := by omega
            simp [e, this]
      case measure => simp [intOf]; omega
    · go_wp2_with first | (with_reducible refine wpList_loadW rfl _ _ rfl _ rfl h3 agg6 size6 ?_) | (with_reducible refine wpList_storeW rfl _ _ _ rfl _ rfl rfl h2 size6 ?_)
      refine bodyPost_ret_by (results_cellA rfl _ _ _ _ _ _ _ rfl (setRow_heap _ _ _ _ _ _ h2) agg6 size6) rfl ⟨?_, below_setRow2 hb (by omega) _⟩
      congr 2
      refine arr_congr fun j hj => ?_
      rw [if_pos (by omega)]
end Go.Proofs.Ytljajgaicdffkaa
