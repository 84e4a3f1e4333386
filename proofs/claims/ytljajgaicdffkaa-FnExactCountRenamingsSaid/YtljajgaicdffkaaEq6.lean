/- Comparing rows of six ints. -/
import Derived.Test.YtljajgaicdffkaaMem2
namespace Go.Proofs.Ytljajgaicdffkaa
set_option linter.unusedSimpArgs false
set_option linter.unusedVariables false
set_option maxRecDepth 20000
open Go.RowKit
theorem eqIntA6_same (g : Nat → Int) (w : World) : Calls Try.prog 21 #[.agg (arr 6 g), .agg (arr 6 g)] w fun e w' => e = .returned (.bool true) ∧ Below w.heap.size w w' := by
  go_enter Try.func21, Try.ntmps21
  go_wp2
  go_loopw [5] (fun i wr => ∃ k : Nat, k ≤ 6 ∧ i = .int .i64 k ∧ wr.heap[w.heap.size]? = some (.cells (arr 6 g) 22 (0, 0)) ∧ wr.heap[w.heap.size + 1]? = some (.cells (arr 6 g) 22 (0, 0)) ∧ Below w.heap.size w wr) (fun i _ => 6 - (intOf i).toNat)
  case atStart =>
    refine ⟨0, by omega, rfl, ?_, ?_, ?_⟩
    · rw [heap_old (by simp), heap_new rfl]
    · rw [heap_new (by simp)]
    · exact ((Below.refl _ _).alloc (by simp) _).alloc (by simp) _
  case round =>
    obtain ⟨k, hk, rfl, h1, h2, hb⟩ := hrel
    by_cases hlt : k < 6
    · have hc := rowcell h1 hlt
      have hc2 := rowcell h2 hlt
      have hlt' : (k : Int) < 6 := by omega
      go_wp2_with fail
      go_quiet (fail)
      go_wp2
      go_roundw
      case rel => exact ⟨k + 1, by omega, by go_num, h1, h2, hb.trans ⟨rfl, rfl, rfl, Nat.le_refl _, fun _ _ => rfl⟩⟩
      case measure => simp [intOf]; omega
    · go_wp2
      go_ret
      exact ⟨rfl, hb⟩

end Go.Proofs.Ytljajgaicdffkaa
