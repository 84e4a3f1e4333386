/- slices.Equal of two rows of ints. -/
import Derived.Test.YtljajgaicdffkaaPerm
namespace Go.Proofs.Ytljajgaicdffkaa
set_option linter.unusedSimpArgs false
set_option linter.unusedVariables false
set_option maxRecDepth 20000
open Go.RowKit
theorem eqS_any {B1 B2 n1 n2 n c1 c2 : Nat} {f g : Nat → Int} {T1 T2 : TypeId} {fr1 fr2 : Nat × Nat} (hl1 : n ≤ n1) (hl2 : n ≤ n2) (hn : n ≤ 1000) (w : World) (h1 : w.heap[B1]? = some (.cells (arr n1 f) T1 fr1)) (h2 : w.heap[B2]? = some (.cells (arr n2 g) T2 fr2)) :
    Calls Try.prog 61 #[.slice (some ⟨B1, 0, none⟩) n c1, .slice (some ⟨B2, 0, none⟩) n c2] w fun e w' => e = .returned (.bool (decide (∀ j, j < n → f j = g j))) ∧ Below w.heap.size w w' := by
  have hbel := Below.refl w.heap.size w
  go_enter Try.func61, Try.ntmps61
  go_wp2_with fail
  go_loopw [13] (fun i wr => ∃ k : Nat, k ≤ n ∧ i = .int .i64 k ∧ (∀ j, j < k → f j = g j) ∧ wr.heap[B1]? = some (.cells (arr n1 f) T1 fr1) ∧ wr.heap[B2]? = some (.cells (arr n2 g) T2 fr2) ∧ Below w.heap.size w wr) (fun i _ => n - (intOf i).toNat)
  case atStart => exact ⟨0, by omega, rfl, fun j hj => by omega, h1, h2, hbel⟩
  case round =>
    clear h1 h2 hbel
    obtain ⟨k, hk, rfl, he, h1, h2, hbel⟩ := hrel
    have HE : Hid _ := he
    clear he
    by_cases hlt : k < n
    · have hlt' : (k : Int) < (n : Int) := by omega
      by_cases e : f k = g k
      · have hed : (f k != g k) = false := by simpa using e
        have HK : Hid _ := e
        clear e
        go_wp2_with fail
        refine wp_region_held 9 (Cls wr []) (by kernel_rfl) (by kernel_rfl) (Cls.zero (Below.refl _ _)) ?_; simp only [List.take_succ_cons, List.take_zero, List.drop_succ_cons, List.drop_zero]
        repeat (first
          | (with_reducible refine wpQuiet_loadI rfl _ _ rfl _ _ rfl (fun _ h => h.kp h1) aggI undI (by omega) ?_)
          | (with_reducible refine wpQuiet_loadI rfl _ _ rfl _ _ rfl (fun _ h => h.kp h2) aggI undI (by omega) ?_)
          | ((with_reducible refine wpQuiet_step (fun K hK => ?_)); go_simp; (first | (refine ⟨_, fun _ _ => rfl, hK _ ?_⟩) | (refine ⟨_, fun _ _ => ⟨rfl, rfl⟩, hK _ ?_⟩) | (refine hK _ ?_)); clear hK K))
        refine wpQuiet_nil ?_; intro wt hCt; replace hCt := hCt.2; replace hbel := hbel.trans (hCt.mono hbel.size); replace h1 := row_keep hCt h1; replace h2 := row_keep hCt h2; clear hCt
        go_wp2_with fail
        go_roundw
        case rel => exact ⟨k + 1, by omega, by go_num, fun j hj => by
          by_cases e2 : j = k
          · subst e2; exact HK.out
          · exact HE.out j (by omega), h1, h2, hbel⟩
        case measure => simp [intOf]; omega
      · have hed : (f k != g k) = true := by simpa using e
        have HS : Hid (decide (∀ j, j < n → f j = g j) = false) := decide_eq_false fun h => e (h k hlt)
        clear e
        go_wp2_with fail
        refine wp_region_held 9 (Cls wr []) (by kernel_rfl) (by kernel_rfl) (Cls.zero (Below.refl _ _)) ?_; simp only [List.take_succ_cons, List.take_zero, List.drop_succ_cons, List.drop_zero]
        repeat (first
          | (with_reducible refine wpQuiet_loadI rfl _ _ rfl _ _ rfl (fun _ h => h.kp h1) aggI undI (by omega) ?_)
          | (with_reducible refine wpQuiet_loadI rfl _ _ rfl _ _ rfl (fun _ h => h.kp h2) aggI undI (by omega) ?_)
          | ((with_reducible refine wpQuiet_step (fun K hK => ?_)); go_simp; (first | (refine ⟨_, fun _ _ => rfl, hK _ ?_⟩) | (refine ⟨_, fun _ _ => ⟨rfl, rfl⟩, hK _ ?_⟩) | (refine hK _ ?_)); clear hK K))
        refine wpQuiet_nil ?_; intro wt hCt; replace hCt := hCt.2; replace hbel := hbel.trans (hCt.mono hbel.size); replace h1 := row_keep hCt h1; replace h2 := row_keep hCt h2; clear hCt
        go_wp2_with fail
        go_ret
        exact ⟨ret_bool HS.out.symm, hbel⟩
    · obtain rfl : k = n := by omega
      have HS : Hid (decide (∀ j, j < k → f j = g j) = true) := decide_eq_true HE.out
      go_wp2_with fail
      go_ret
      exact ⟨ret_bool HS.out.symm, hbel⟩
end Go.Proofs.Ytljajgaicdffkaa
