/- Runs of a tube, as functions of its layers. -/
import Derived.Test.YtbiplciklmagoaaSl
import Derived.Test.YtbiplciklmagoaaPure
namespace Go.Proofs.Ytbiplciklmagoaa
set_option linter.unusedSimpArgs false
set_option linter.unusedVariables false
set_option maxRecDepth 20000
/-- How many runs the first k layers have. -/
def rN (g : Nat → Int) : Nat → Nat
  | 0 => 0
  | k + 1 => if 0 < k ∧ g k = g (k - 1) then rN g k else rN g k + 1
/-- The runs themselves: colour and length, one behind the other. -/
def rF (g : Nat → Int) : Nat → (Nat → Int)
  | 0 => fun _ => 0
  | k + 1 => if 0 < k ∧ g k = g (k - 1) then upd (rF g k) ((rN g k - 1) * 2 + 1) (rF g k ((rN g k - 1) * 2 + 1) + 1) else app (rF g k) (rN g k * 2) (fun j => if j = 0 then g k else 1)
theorem rN_le (g : Nat → Int) : ∀ k, rN g k ≤ k
  | 0 => by simp [rN]
  | k + 1 => by have := rN_le g k; unfold rN; split <;> omega
theorem rN_pos (g : Nat → Int) : ∀ k, 0 < k → 0 < rN g k
  | k + 1, _ => by
    unfold rN
    split
    · rename_i h; exact rN_pos g k h.1
    · omega
theorem rN_yes {g : Nat → Int} {k : Nat} (h0 : 0 < k) (h : g k = g (k - 1)) : rN g (k + 1) = rN g k ∧ rF g (k + 1) = upd (rF g k) ((rN g k - 1) * 2 + 1) (rF g k ((rN g k - 1) * 2 + 1) + 1) := by
  constructor
  · rw [rN, if_pos ⟨h0, h⟩]
  · rw [rF, if_pos ⟨h0, h⟩]
theorem rN_no {g : Nat → Int} {k : Nat} (h : ¬ (0 < k ∧ g k = g (k - 1))) : rN g (k + 1) = rN g k + 1 ∧ rF g (k + 1) = app (rF g k) (rN g k * 2) (fun j => if j = 0 then g k else 1) := by
  constructor
  · rw [rN, if_neg h]
  · rw [rF, if_neg h]
theorem rF_last (g : Nat → Int) : ∀ k, 0 < k → rF g k ((rN g k - 1) * 2) = g (k - 1)
  | k + 1, _ => by
    by_cases h : 0 < k ∧ g k = g (k - 1)
    · obtain ⟨h1, h2⟩ := rN_yes h.1 h.2
      rw [h1, h2]
      unfold upd
      rw [if_neg (by omega), rF_last g k h.1, ← h.2]; rfl
    · obtain ⟨h1, h2⟩ := rN_no h
      rw [h1, h2]
      unfold app
      rw [if_neg (by omega)]
      show (if (rN g k + 1 - 1) * 2 - rN g k * 2 = 0 then g k else 1) = _
      rw [if_pos (by omega)]; rfl
/-- The length of the uppermost run. -/
def rT (g : Nat → Int) (k : Nat) : Int := rF g k ((rN g k - 1) * 2 + 1)
theorem rT_yes {g : Nat → Int} {k : Nat} (h0 : 0 < k) (h : g k = g (k - 1)) : rT g (k + 1) = rT g k + 1 := by
  obtain ⟨h1, h2⟩ := rN_yes h0 h
  unfold rT
  rw [h1, h2]
  unfold upd
  rw [if_pos rfl]
theorem rT_no {g : Nat → Int} {k : Nat} (h : ¬ (0 < k ∧ g k = g (k - 1))) : rT g (k + 1) = 1 := by
  obtain ⟨h1, h2⟩ := rN_no h
  unfold rT
  rw [h1, h2]
  unfold app
  rw [if_neg (by omega)]
  show (if (rN g k + 1 - 1) * 2 + 1 - rN g k * 2 = 0 then g k else 1) = _
  rw [if_neg (by omega)]
/-- What the uppermost run is. -/
theorem rT_spec (g : Nat → Int) : ∀ k, 0 < k → ∃ R : Nat, rT g k = R ∧ 1 ≤ R ∧ R ≤ k ∧ (∀ j, j < R → g (k - 1 - j) = g (k - 1)) ∧ (R = k ∨ g (k - 1 - R) ≠ g (k - 1))
  | k + 1, _ => by
    by_cases h : 0 < k ∧ g k = g (k - 1)
    · obtain ⟨R, h1, h2, h3, h4, h5⟩ := rT_spec g k h.1
      refine ⟨R + 1, by rw [rT_yes h.1 h.2, h1]; rfl, by omega, by omega, fun j hj => ?_, ?_⟩
      · cases j with
        | zero => rfl
        | succ j =>
          rw [show k + 1 - 1 - (j + 1) = k - 1 - j by omega, h4 j (by omega), ← h.2]
          rfl
      · rcases h5 with h5 | h5
        · left; omega
        · right
          rw [show k + 1 - 1 - (R + 1) = k - 1 - R by omega, show k + 1 - 1 = k by omega, h.2]
          exact h5
    · refine ⟨1, rT_no h, by omega, by omega, fun j hj => by rw [show j = 0 by omega]; rfl, ?_⟩
      by_cases hk : k = 0
      · left; omega
      · right
        intro h2
        exact h ⟨by omega, by rw [show k + 1 - 1 - 1 = k - 1 by omega, show k + 1 - 1 = k by omega] at h2; exact h2.symm⟩
/-- Bounds of the runs' lengths. -/
theorem rF_bd (g : Nat → Int) : ∀ k r, r < rN g k → 1 ≤ rF g k (r * 2 + 1) ∧ rF g k (r * 2 + 1) ≤ k
  | 0, r, h => by simp [rN] at h
  | k + 1, r, h => by
    by_cases hm : 0 < k ∧ g k = g (k - 1)
    · obtain ⟨h1, h2⟩ := rN_yes hm.1 hm.2
      rw [h1] at h
      rw [h2]
      have ih := rF_bd g k r h
      unfold upd
      split
      · rename_i e
        have : r = rN g k - 1 := by omega
        rw [← this]
        push_cast; omega
      · push_cast; omega
    · obtain ⟨h1, h2⟩ := rN_no hm
      rw [h1] at h
      rw [h2]
      unfold app
      by_cases hr : r < rN g k
      · have ih := rF_bd g k r hr
        rw [if_pos (by omega)]
        push_cast; omega
      · rw [if_neg (by omega)]
        show 1 ≤ (if r * 2 + 1 - rN g k * 2 = 0 then g k else 1) ∧ (if r * 2 + 1 - rN g k * 2 = 0 then g k else 1) ≤ ((k + 1 : Nat) : Int)
        rw [if_neg (by omega)]
        exact ⟨Int.le_refl _, by omega⟩
/-- The colour of the top of a tube and its length. -/
def tpF (g : Nat → Int) : Int × Int := if nlay g = 0 then (0, 0) else (g (nlay g - 1), rT g (nlay g))
theorem tpF_zero {g : Nat → Int} (h : nlay g = 0) : tpF g = (0, 0) := if_pos h
theorem tpF_pos {g : Nat → Int} (h : 0 < nlay g) : tpF g = (g (nlay g - 1), rT g (nlay g)) := if_neg (by omega)
end Go.Proofs.Ytbiplciklmagoaa
