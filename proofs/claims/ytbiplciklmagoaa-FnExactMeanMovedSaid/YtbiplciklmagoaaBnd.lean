/- Bounds and spare runs: the program's and the reference's, and the laws. -/
import Derived.Test.YtbiplciklmagoaaCr
namespace Go.Proofs.Ytbiplciklmagoaa
set_option linter.unusedSimpArgs false
set_option linter.unusedVariables false
set_option maxRecDepth 20000
open Go.RowKit
theorem l1Most_any (x y : Int) (w : World) : Calls Try.prog 95 #[.int .i64 x, .int .i64 y] w fun e w' => e = .returned (.int .i64 (max x y)) ∧ w = w' := by
  by_cases h : x > y
  · go_enter Try.func95, Try.ntmps95
    go_wp2
    go_ret
    exact ⟨ret_int (by omega), rfl⟩
  · go_enter Try.func95, Try.ntmps95
    go_wp2
    go_ret
    exact ⟨ret_int (by omega), rfl⟩
/-- What stands above one, of the first n. -/
def esum (g : Nat → Int) : Nat → Nat
  | 0 => 0
  | n + 1 => esum g n + (g (1 + n) - 1).toNat
theorem esum_le {g : Nat → Int} (hg : ∀ j, 0 ≤ g j ∧ g j ≤ 24) : ∀ n, esum g n ≤ 24 * n
  | 0 => by simp [esum]
  | n + 1 => by
    have := esum_le hg n
    have := hg (1 + n)
    unfold esum
    omega
/-- How many of the first n are there. -/
def dsum (g : Nat → Int) : Nat → Nat
  | 0 => 0
  | n + 1 => dsum g n + if 0 < g (1 + n) then 1 else 0
theorem dsum_le (g : Nat → Int) : ∀ n, dsum g n ≤ n
  | 0 => by simp [dsum]
  | n + 1 => by
    have := dsum_le g n
    unfold dsum
    split <;> omega
def botF (f : Nat → Int) : Nat → Int := tally (fun i => f (i * 4)) 6
theorem botF_bd (f : Nat → Int) : ∀ j, 0 ≤ botF f j ∧ botF f j ≤ 24 := fun j => by have := tally_bd (fun i => f (i * 4)) 6 j; unfold botF; omega
def bndF (f : Nat → Int) : Nat := bsum f 6 + esum (botF f) 5
def bndOf (f : Nat → Int) : Int × Bool := if rackB f = true then ((bndF f : Nat), true) else (0, false)
end Go.Proofs.Ytbiplciklmagoaa
