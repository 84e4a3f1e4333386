/- The greatest common divisor, by the program. -/
import Derived.Test.YtbiplciklmagoaaFloat
import Derived.Test.YtbiplciklmagoaaMem2
namespace Go.Proofs.Ytbiplciklmagoaa
set_option linter.unusedSimpArgs false
set_option linter.unusedVariables false
set_option maxRecDepth 20000
open Go.RowKit
theorem divisor_any (a b : Nat) (w : World) : Calls Try.prog 98 #[.int .i64 a, .int .i64 b] w fun e w' => e = .returned (.int .i64 (Nat.gcd a b : Nat)) ∧ Below w.heap.size w w' := by
  have hbel : Below w.heap.size w w := Below.refl _ _
  go_enter Try.func98, Try.ntmps98
  go_wp2_with first
    | fail
  go_loopw [0, 1] (fun x y wr => ∃ p q : Nat, x = .int .i64 p ∧ y = .int .i64 q ∧ Nat.gcd p q = Nat.gcd a b ∧ Below w.heap.size w wr) (fun _ y _ => (intOf y).toNat)
  case atStart => exact ⟨a, b, rfl, rfl, rfl, hbel⟩
  case round =>
    clear hbel
    obtain ⟨p, q, rfl, rfl, hg, hbel⟩ := hrel
    have HG : Hid _ := hg
    clear hg
    by_cases hq : q = 0
    · subst hq
      go_wp2_with first
        | fail
      go_ret
      exact ⟨ret_int (by rw [← HG.out, Nat.gcd_zero_right]), hbel⟩
    · have hq1 : ¬ (q : Int) = 0 := by omega
      have hq2 : ((q : Int) != 0) = true := by simpa using hq
      have HQ : Hid (Nat.gcd q (p % q) = Nat.gcd a b) := by
        have h := HG.out
        rw [Nat.gcd_comm p q, Nat.gcd_rec, Nat.gcd_comm] at h
        exact h
      go_wp2_with first
        | fail
      refine wp_region_held 6 (Cls w _) (by kernel_rfl) (by kernel_rfl) (Cls.zero hbel) ?_; simp only [List.take_succ_cons, List.take_zero, List.drop_succ_cons, List.drop_zero]
      repeat (first
        | ((with_reducible refine wpQuiet_step (fun K hK => ?_)); go_simp; (first | (refine ⟨_, fun _ _ => rfl, hK _ ?_⟩) | (refine ⟨_, fun _ _ => ⟨rfl, rfl⟩, hK _ ?_⟩) | (refine hK _ ?_)); clear hK K))
      refine wpQuiet_nil ?_
      intro wt hCt
      replace hbel := hCt.2
      go_wp2_with first
        | fail
      go_roundw
      case rel => exact ⟨q, p % q, rfl, by go_num, HQ.out, hbel⟩
      case measure => simp [intOf]; exact Nat.mod_lt _ (by omega)
end Go.Proofs.Ytbiplciklmagoaa
