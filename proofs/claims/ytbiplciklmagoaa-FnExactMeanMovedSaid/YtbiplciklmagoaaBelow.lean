/- ChanceBelow: the program's and the reference's, and the law. -/
import Derived.Test.YtbiplciklmagoaaCut
import Derived.Test.YtbiplciklmagoaaViewAt
import Derived.Test.YtbiplciklmagoaaCntHid
import Derived.Test.YtbiplciklmagoaaSlaw
namespace Go.Proofs.Ytbiplciklmagoaa
set_option linter.unusedSimpArgs false
set_option linter.unusedVariables false
set_option maxRecDepth 20000
open Go.RowKit
theorem lft_sm {v : Nat → Int} (hx : ∀ j, I64 (v j)) (hf : viewB v = true) {k : Nat} (hk : k < 6) : 0 ≤ lft v 6 k ∧ lft v 6 k ≤ 1000 := by
  have := (hid_sum hx hf).1 k hk
  rwa [Nat.zero_add] at this
theorem hsum_nat {v : Nat → Int} (hv : ∀ i, i < 6 → vok v i) : hsum v 6 = ((hsum v 6).toNat : Int) ∧ (hsum v 6).toNat ≤ 18 := by
  have := hsum_bd hv 6 (by omega)
  omega
theorem hsum_ge {v : Nat → Int} (hv : ∀ i, i < 6 → vok v i) {n : Nat} (hn : n < 6) (h : 1 ≤ v (6 + n)) : v (6 + n) - 1 ≤ hsum v 6 := by
  have m : ∀ a b, a ≤ b → b ≤ 6 → hsum v a ≤ hsum v b := fun a b hab hb => by
    induction b with
    | zero => rw [show a = 0 by omega]; exact Int.le_refl _
    | succ b ih =>
      by_cases e : a = b + 1
      · rw [e]; exact Int.le_refl _
      · have := ih (by omega) (by omega)
        have hb := (hv b (by omega)).1
        rw [show hsum v (b + 1) = if v (6 + b) = 0 then hsum v b else hsum v b + v (6 + b) - 1 from rfl]
        split <;> omega
  have h1 := m (n + 1) 6 (by omega) (by omega)
  have h2 := hsum_bd hv n (by omega)
  rw [show hsum v (n + 1) = if v (6 + n) = 0 then hsum v n else hsum v n + v (6 + n) - 1 from rfl, if_neg (by omega)] at h1
  omega
noncomputable def cbR (v : Nat → Int) (i c : Int) : (Nat → Int) × Bool := if viewB v = true ∧ (0 ≤ i ∧ i ≤ 5) ∧ (1 ≤ c ∧ c ≤ 5) ∧ 2 ≤ v (6 + i.toNat) then (rw2 (fr (lft v 6 c.toNat).toNat (hsum v 6).toNat), true) else (fun _ => 0, false)
theorem cbR_bad {v : Nat → Int} {i c : Int} (h : ¬ (viewB v = true ∧ (0 ≤ i ∧ i ≤ 5) ∧ (1 ≤ c ∧ c ≤ 5) ∧ 2 ≤ v (6 + i.toNat))) : cbR v i c = (fun _ => 0, false) := if_neg h
theorem cbR_ok {v : Nat → Int} {i c : Int} (h : viewB v = true ∧ (0 ≤ i ∧ i ≤ 5) ∧ (1 ≤ c ∧ c ≤ 5) ∧ 2 ≤ v (6 + i.toNat)) : cbR v i c = (rw2 (fr (lft v 6 c.toNat).toNat (hsum v 6).toNat), true) := if_pos h
theorem c2b0 : Try.prog.built 51 [] = some (arr 2 fun _ => 0) := by kernel_rfl
theorem zero2 : ((Try.prog.info? 51).bind (·.zero)).map (·.cells) = some (arr 2 fun _ => 0) := c2z
theorem size2 : (Try.prog.info? 51).map (·.size) = some 2 := c2s
theorem agg2 : aggB Try.prog 51 = true := c2a
end Go.Proofs.Ytbiplciklmagoaa
