/- ChanceTop: the program's and the reference's, and the law. -/
import Derived.Test.YtbiplciklmagoaaTopL
import Derived.Test.YtbiplciklmagoaaBelow
namespace Go.Proofs.Ytbiplciklmagoaa
set_option linter.unusedSimpArgs false
set_option linter.unusedVariables false
set_option maxRecDepth 20000
open Go.RowKit
/-- Of a good view: the whole unknown, and the unknown of the top's color. -/
noncomputable def ctR (v : Nat → Int) (i c : Int) : (Nat → Int) × Bool := if viewB v = true ∧ (0 ≤ i ∧ i ≤ 5) ∧ v (6 + i.toNat) ≠ 0 ∧ (1 ≤ c ∧ c ≤ 4) then (rw2 (spT (hsum v 6).toNat (lft v 6 (v i.toNat).toNat).toNat (v (6 + i.toNat)).toNat c.toNat), true) else (fun _ => 0, false)
theorem ctR_bad {v : Nat → Int} {i c : Int} (h : ¬ (viewB v = true ∧ (0 ≤ i ∧ i ≤ 5) ∧ v (6 + i.toNat) ≠ 0 ∧ (1 ≤ c ∧ c ≤ 4))) : ctR v i c = (fun _ => 0, false) := if_neg h
theorem ctR_ok {v : Nat → Int} {i c : Int} (h : viewB v = true ∧ (0 ≤ i ∧ i ≤ 5) ∧ v (6 + i.toNat) ≠ 0 ∧ (1 ≤ c ∧ c ≤ 4)) : ctR v i c = (rw2 (spT (hsum v 6).toNat (lft v 6 (v i.toNat).toNat).toNat (v (6 + i.toNat)).toNat c.toNat), true) := if_pos h
theorem ownT_bd {A S m k : Nat} (hS : S ≤ A) (hA : A ≤ 18) (hm : m ≤ 4) : ownT A S m k < 1000000000000000000 := by
  unfold ownT
  split
  · omega
  · split
    · have h0 := wys_bd (t := k - 1) (show S ≤ 18 by omega) (by omega)
      have h1 : wys S (k - 1) * (A - S) ≤ 104976 * 18 := Nat.mul_le_mul h0 (by omega)
      have h2 : wys S (k - 1) * (A - S) * chs A k (m - 1 - k) ≤ 104976 * 18 * 104976 := Nat.mul_le_mul h1 (chs_bd hA (by omega))
      omega
    · split
      · have h0 := wys_bd (t := k - 1) (show S ≤ 18 by omega) (by omega)
        omega
      · omega
theorem chs_pos {A : Nat} : ∀ t, t ≤ A → 0 < chs A 0 t
  | 0, _ => by simp [chs]
  | t + 1, h => by
    unfold chs
    exact Nat.mul_pos (chs_pos t (by omega)) (by omega)
theorem allT_bd {A m : Nat} (hA : A ≤ 18) (hm : m ≤ 4) (hmA : m ≤ A + 1) : 0 < allT A m ∧ allT A m < 1000000000000000000 := by
  have h := chs_bd (b := 0) hA (show m - 1 ≤ 4 by omega)
  exact ⟨chs_pos _ (by omega), show chs A 0 (m - 1) < _ by omega⟩
end Go.Proofs.Ytbiplciklmagoaa
