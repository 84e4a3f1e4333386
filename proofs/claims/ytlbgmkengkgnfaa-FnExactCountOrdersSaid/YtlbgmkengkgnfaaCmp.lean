/- The order of tubes and of racks: the program's comparisons. -/
import Derived.Test.YtlbgmkengkgnfaaRackD
import Derived.Test.YtlbgmkengkgnfaaFloat
import Derived.Test.YtlbgmkengkgnfaaFork
import Derived.Test.YtlbgmkengkgnfaaSl
import Derived.Test.YtlbgmkengkgnfaaFormP
import Derived.Test.YtlbgmkengkgnfaaConv
namespace Go.Proofs.Ytlbgmkengkgnfaa
set_option linter.unusedSimpArgs false
set_option linter.unusedVariables false
set_option maxRecDepth 20000
open Go.RowKit
theorem lexC_val (a b : Nat → Int) : ∀ k, lexC a b k = 0 ∨ lexC a b k = -1 ∨ lexC a b k = 1
  | 0 => .inl rfl
  | k + 1 => by
    have := lexC_val a b k
    simp only [lexC]
    split
    · exact this
    · split
      · simp
      · split <;> simp
theorem lexC_shift {a b : Nat → Int} {n : Nat} (h : lexC a b n = 0) : ∀ k, lexC a b (n + k) = lexC (fun j => a (n + j)) (fun j => b (n + j)) k
  | 0 => h
  | k + 1 => by
    have ih := lexC_shift h k
    rw [show n + (k + 1) = (n + k) + 1 from rfl]
    simp only [lexC, ih]
theorem lexC_stop {a b : Nat → Int} {n : Nat} (h : lexC a b n ≠ 0) : ∀ k, lexC a b (n + k) = lexC a b n
  | 0 => rfl
  | k + 1 => by
    have ih := lexC_stop h k
    rw [show n + (k + 1) = (n + k) + 1 from rfl]
    simp only [lexC, ih, if_pos h]
def c3 (x y : Int) : Int := if x < y then -1 else if y < x then 1 else 0
theorem lexC_next {a b : Nat → Int} {n : Nat} (h : lexC a b n = 0) : lexC a b (n + 1) = c3 (a n) (b n) := by
  simp only [lexC, h, c3]
  simp
theorem lexC_neg {a b : Nat → Int} {n : Nat} (h : lexC a b n = 0) (hne : a n ≠ b n) {m : Nat} (hm : n < m) : decide (lexC a b m < 0) = decide (a n < b n) := by
  have h1 := lexC_next h
  have hz : lexC a b (n + 1) ≠ 0 := by
    rw [h1]; unfold c3
    split
    · omega
    · split
      · omega
      · omega
  have h2 := lexC_stop hz (m - (n + 1))
  rw [show n + 1 + (m - (n + 1)) = m by omega] at h2
  rw [h2, h1, Bool.eq_iff_iff, decide_eq_true_iff, decide_eq_true_iff]
  unfold c3
  split
  · omega
  · split <;> omega
def lessR (f g : Nat → Int) : Bool × Bool := if rackB f = true ∧ rackB g = true then (decide (lexC f g 24 < 0), true) else (false, false)
theorem size24L : (Try.prog.info? 25).map (·.size) = some 24 := by kernel_rfl
theorem agg24L : aggB Try.prog 25 = true := by kernel_rfl
end Go.Proofs.Ytlbgmkengkgnfaa
