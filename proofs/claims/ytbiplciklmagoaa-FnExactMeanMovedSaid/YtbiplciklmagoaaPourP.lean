/- Pours, in plain numbers. -/
import Derived.Test.YtbiplciklmagoaaCanP
namespace Go.Proofs.Ytbiplciklmagoaa
set_option linter.unusedSimpArgs false
set_option linter.unusedVariables false
set_option maxRecDepth 20000
/-- k layers of i's top, put onto j. -/
def pS (f : Nat → Int) (i j : Nat) : Nat → (Nat → Int)
  | 0 => f
  | k + 1 => upd (upd (pS f i j k) (i * 4 + (nlay (tub f i) - 1 - k)) 0) (j * 4 + (nlay (tub f j) + k)) (tpF (tub f i)).1
/-- How many layers a pour moves. -/
def mvd (f : Nat → Int) (i j : Nat) : Nat := min (tpF (tub f i)).2.toNat (4 - nlay (tub f j))
def pourF (f : Nat → Int) (i j : Nat) : Nat → Int := pS f i j (mvd f i j)
theorem mvd_le {f : Nat → Int} {i j : Nat} (ht : tubeB (tub f i) = true) : mvd f i j ≤ nlay (tub f i) ∧ mvd f i j ≤ 4 - nlay (tub f j) ∧ mvd f i j ≤ 4 := by
  have := (tpF_sign ht).2.2.2.2
  have := nlay_le (tub f i)
  unfold mvd
  omega
theorem pS_at {f : Nat → Int} {i j : Nat} (hij : i ≠ j) : ∀ k, k ≤ nlay (tub f i) → nlay (tub f j) + k ≤ 4 → ∀ q, pS f i j k q =
    if j * 4 + nlay (tub f j) ≤ q ∧ q < j * 4 + nlay (tub f j) + k then (tpF (tub f i)).1 else if i * 4 + (nlay (tub f i) - k) ≤ q ∧ q < i * 4 + nlay (tub f i) then 0 else f q
  | 0, _, _, q => by
    rw [if_neg (by omega), if_neg (by omega)]; rfl
  | k + 1, h1, h2, q => by
    have ih := pS_at (f := f) hij k (by omega) (by omega) q
    have h4 := nlay_le (tub f i)
    show upd (upd (pS f i j k) _ _) _ _ q = _
    unfold upd
    by_cases e1 : q = j * 4 + (nlay (tub f j) + k)
    · rw [if_pos e1, if_pos (by omega)]
    · rw [if_neg e1]
      by_cases e2 : q = i * 4 + (nlay (tub f i) - 1 - k)
      · rw [if_pos e2, if_neg (by omega), if_pos (by omega)]
      · rw [if_neg e2, ih]
        by_cases e3 : j * 4 + nlay (tub f j) ≤ q ∧ q < j * 4 + nlay (tub f j) + k
        · rw [if_pos e3, if_pos (by omega)]
        · rw [if_neg e3, if_neg (show ¬ (j * 4 + nlay (tub f j) ≤ q ∧ q < j * 4 + nlay (tub f j) + (k + 1)) by omega)]
          by_cases e4 : i * 4 + (nlay (tub f i) - k) ≤ q ∧ q < i * 4 + nlay (tub f i)
          · rw [if_pos e4, if_pos (by omega)]
          · rw [if_neg e4, if_neg (by omega)]
/-- A tube by its shape. -/
theorem tube_shape {g : Nat → Int} {n : Nat} (hn : n ≤ 4) (h1 : ∀ k, k < n → 1 ≤ g k ∧ g k ≤ 5) (h0 : ∀ k, n ≤ k → k < 4 → g k = 0) : tubeB g = true ∧ nlay g = n := by
  unfold tubeB nlay
  rw [decide_eq_true_iff]
  match n, hn with
  | 0, _ =>
    have a := h0 0 (by omega) (by omega); have b := h0 1 (by omega) (by omega); have c := h0 2 (by omega) (by omega); have d := h0 3 (by omega) (by omega)
    simp [a, b, c, d]
  | 1, _ =>
    have a := h1 0 (by omega); have b := h0 1 (by omega) (by omega); have c := h0 2 (by omega) (by omega); have d := h0 3 (by omega) (by omega)
    have a' : ¬ g 0 = 0 := by omega
    simp [a', b, c, d]; omega
  | 2, _ =>
    have a := h1 0 (by omega); have b := h1 1 (by omega); have c := h0 2 (by omega) (by omega); have d := h0 3 (by omega) (by omega)
    have a' : ¬ g 0 = 0 := by omega
    have b' : ¬ g 1 = 0 := by omega
    simp [a', b', c, d]; omega
  | 3, _ =>
    have a := h1 0 (by omega); have b := h1 1 (by omega); have c := h1 2 (by omega); have d := h0 3 (by omega) (by omega)
    have a' : ¬ g 0 = 0 := by omega
    have b' : ¬ g 1 = 0 := by omega
    have c' : ¬ g 2 = 0 := by omega
    simp [a', b', c', d]; omega
  | 4, _ =>
    have a := h1 0 (by omega); have b := h1 1 (by omega); have c := h1 2 (by omega); have d := h1 3 (by omega)
    have a' : ¬ g 0 = 0 := by omega
    have b' : ¬ g 1 = 0 := by omega
    have c' : ¬ g 2 = 0 := by omega
    have d' : ¬ g 3 = 0 := by omega
    simp [a', b', c', d']; omega
theorem tube_zero {g : Nat → Int} (h : tubeB g = true) : ∀ k, nlay g ≤ k → k < 4 → g k = 0 := fun k h1 h2 => by
  have e := tubeB_layers g
  rw [h, Bool.and_eq_true, List.all_eq_true, List.all_eq_true] at e
  have := e.2 (k - nlay g) (List.mem_range.2 (by omega))
  rw [show nlay g + (k - nlay g) = k by omega] at this
  simpa using this
theorem pour_rack {f : Nat → Int} {i j : Nat} (hf : rackB f = true) (hi : i ≤ 5) (hj : j ≤ 5) (hc : canF f i j = true) : rackB (pourF f i j) = true := by
  have hc' := of_decide_eq_true hc
  obtain ⟨hij, hn, hm, _⟩ := hc'
  have ti := tube_of_rack hf hi
  have tj := tube_of_rack hf hj
  obtain ⟨l1, l2, _⟩ := mvd_le (j := j) ti
  have hs := tpF_sign ti
  have hat := pS_at hij (mvd f i j) l1 (by omega)
  have h4 := nlay_le (tub f i)
  have h4' := nlay_le (tub f j)
  refine (rackB_iff _).2 fun t ht => ?_
  have hc1 : 1 ≤ (tpF (tub f i)).1 := by have := hs.1.2 hn; omega
  by_cases e1 : t = i
  · subst e1
    refine (tube_shape (n := nlay (tub f t) - mvd f t j) (by omega) (fun k hk => ?_) fun k hk hk4 => ?_).1
    · show 1 ≤ pourF f t j (t * 4 + k) ∧ pourF f t j (t * 4 + k) ≤ 5
      unfold pourF
      rw [hat, if_neg (by omega), if_neg (by omega)]
      exact nlay_pos ti k (by omega)
    · show pourF f t j (t * 4 + k) = 0
      unfold pourF
      rw [hat, if_neg (by omega)]
      by_cases e : k < nlay (tub f t)
      · rw [if_pos (by omega)]
      · rw [if_neg (by omega)]
        exact tube_zero ti k (by omega) hk4
  · by_cases e2 : t = j
    · subst e2
      refine (tube_shape (n := nlay (tub f t) + mvd f i t) (by omega) (fun k hk => ?_) fun k hk hk4 => ?_).1
      · show 1 ≤ pourF f i t (t * 4 + k) ∧ pourF f i t (t * 4 + k) ≤ 5
        unfold pourF
        rw [hat]
        by_cases e : k < nlay (tub f t)
        · rw [if_neg (by omega), if_neg (by omega)]
          exact nlay_pos tj k e
        · rw [if_pos (by omega)]
          omega
      · show pourF f i t (t * 4 + k) = 0
        unfold pourF
        rw [hat, if_neg (by omega), if_neg (by omega)]
        exact tube_zero tj k (by omega) hk4
    · have e : ∀ k, k < 4 → tub (pourF f i j) t k = tub f t k := fun k hk => by
        show pourF f i j (t * 4 + k) = f (t * 4 + k)
        unfold pourF
        rw [hat, if_neg (by omega), if_neg (by omega)]
      have tt := tube_of_rack hf (show t ≤ 5 by omega)
      refine (tube_shape (n := nlay (tub f t)) (nlay_le _) (fun k hk => ?_) fun k hk hk4 => ?_).1
      · rw [e k (by have := nlay_le (tub f t); omega)]
        exact nlay_pos tt k hk
      · rw [e k hk4]
        exact tube_zero tt k hk hk4
end Go.Proofs.Ytbiplciklmagoaa
