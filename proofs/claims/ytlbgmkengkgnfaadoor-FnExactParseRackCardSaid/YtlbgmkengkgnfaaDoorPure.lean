/- Tubes and racks as functions of the place. -/
import Derived.Test.YtlbgmkengkgnfaaDoorArr
namespace Go.Proofs.YtlbgmkengkgnfaaDoor
set_option linter.unusedSimpArgs false
set_option linter.unusedVariables false
set_option maxRecDepth 20000
/-- Tube i of a rack. -/
@[reducible] def tub (f : Nat → Int) (i : Nat) : Nat → Int := fun j => f (i * 4 + j)
def tubeB (g : Nat → Int) : Bool := decide ((0 ≤ g 0 ∧ g 0 ≤ 5) ∧ (0 ≤ g 1 ∧ g 1 ≤ 5) ∧ (0 ≤ g 2 ∧ g 2 ≤ 5) ∧ (0 ≤ g 3 ∧ g 3 ≤ 5) ∧ (g 0 = 0 → g 1 = 0) ∧ (g 1 = 0 → g 2 = 0) ∧ (g 2 = 0 → g 3 = 0))
def rackB (f : Nat → Int) : Bool := (List.range 6).all fun i => tubeB (tub f i)
theorem rackB_all (f : Nat → Int) : ((List.range 6).all fun k => tubeB fun j => f (k * 4 + j)) = rackB f := rfl
theorem rackB_iff (f : Nat → Int) : rackB f = true ↔ ∀ i, i < 6 → tubeB (tub f i) = true := by simp [rackB]
def okP (f : Nat → Int) (i k : Nat) : Prop := (0 ≤ f (i * 4 + k) ∧ f (i * 4 + k) ≤ 5) ∧ (0 < k → 0 < f (i * 4 + k) → f (i * 4 + (k - 1)) ≠ 0)
theorem tubeB_iff (f : Nat → Int) (i : Nat) : tubeB (tub f i) = true ↔ ∀ k, k < 4 → okP f i k := by
  unfold tubeB tub okP
  rw [decide_eq_true_iff]
  constructor
  · rintro ⟨h0, h1, h2, h3, h4, h5, h6⟩ k hk
    match k, hk with
    | 0, _ => exact ⟨h0, fun h => by omega⟩
    | 1, _ => exact ⟨h1, fun _ h e => by simp at e; have := h4 e; omega⟩
    | 2, _ => exact ⟨h2, fun _ h e => by simp at e; have := h5 e; omega⟩
    | 3, _ => exact ⟨h3, fun _ h e => by simp at e; have := h6 e; omega⟩
  · intro h
    have h0 := h 0 (by omega)
    have h1 := h 1 (by omega)
    have h2 := h 2 (by omega)
    have h3 := h 3 (by omega)
    simp at h1 h2 h3
    refine ⟨h0.1, h1.1, h2.1, h3.1, fun e => ?_, fun e => ?_, fun e => ?_⟩
    · have := h1.2; by_cases e2 : 0 < f (i * 4 + 1)
      · exact absurd e (this e2)
      · omega
    · have := h2.2; by_cases e2 : 0 < f (i * 4 + 2)
      · exact absurd e (this e2)
      · omega
    · have := h3.2; by_cases e2 : 0 < f (i * 4 + 3)
      · exact absurd e (this e2)
      · omega
theorem rackB_true {f : Nat → Int} (h : ∀ i, i < 6 → ∀ k, k < 4 → okP f i k) : rackB f = true := (rackB_iff f).2 fun i hi => (tubeB_iff f i).2 (h i hi)
theorem rackB_false {f : Nat → Int} {i k : Nat} (hi : i < 6) (hk : k < 4) (h : ¬ okP f i k) : rackB f = false := by
  cases e : rackB f with
  | false => rfl
  | true => exact absurd ((tubeB_iff f i).1 ((rackB_iff f).1 e i hi) k hk) h

/-- The first place below n at which p holds, or -1. -/
def idx (p : Nat → Bool) (n : Nat) : Int := match (List.range n).find? p with | some k => (k : Int) | none => -1
theorem idx_found {p : Nat → Bool} {n k : Nat} (hk : k < n) (h : p k = true) (hb : ∀ j, j < k → p j = false) : idx p n = k := by
  have e : (List.range n).find? p = some k := by
    rw [List.find?_range_eq_some]
    exact ⟨h, by simpa using hk, fun j hj => by simp [hb j hj]⟩
  unfold idx
  rw [e]
theorem idx_none {p : Nat → Bool} {n : Nat} (hb : ∀ j, j < n → p j = false) : idx p n = -1 := by
  have e : (List.range n).find? p = none := by
    rw [List.find?_eq_none]
    intro x hx
    simp at hx
    simp [hb x hx]
  unfold idx
  rw [e]
theorem idx_cases (p : Nat → Bool) (n : Nat) : (idx p n = -1 ∧ ∀ j, j < n → p j = false) ∨ ∃ k, k < n ∧ idx p n = k ∧ p k = true ∧ ∀ j, j < k → p j = false := by
  cases e : (List.range n).find? p with
  | none =>
    left
    rw [List.find?_eq_none] at e
    have hb : ∀ j, j < n → p j = false := fun j hj => by simpa using e j (by simpa using hj)
    exact ⟨idx_none hb, hb⟩
  | some k =>
    right
    rw [List.find?_range_eq_some] at e
    obtain ⟨h1, h2, h3⟩ := e
    have hb : ∀ j, j < k → p j = false := fun j hj => by simpa using h3 j hj
    have hk : k < n := by simpa using h2
    exact ⟨k, hk, idx_found hk h1 hb, h1, hb⟩
theorem idx_any (p : Nat → Bool) (n : Nat) : decide (0 ≤ idx p n) = (List.range n).any p := by
  rcases idx_cases p n with ⟨h, hb⟩ | ⟨k, hk, h, hp, _⟩
  · rw [h]
    have : (List.range n).any p = false := by
      rw [List.any_eq_false]
      intro x hx
      simp at hx
      simp [hb x hx]
    rw [this]
    rfl
  · rw [h]
    have : (List.range n).any p = true := by
      rw [List.any_eq_true]
      exact ⟨k, by simpa using hk, hp⟩
    rw [this]
    simp
/-- How many layers from the bottom on are not empty. -/
def nlay (g : Nat → Int) : Nat := if g 0 = 0 then 0 else if g 1 = 0 then 1 else if g 2 = 0 then 2 else if g 3 = 0 then 3 else 4
theorem nlay_le (g : Nat → Int) : nlay g ≤ 4 := by unfold nlay; (repeat' split) <;> omega
theorem nlay_idx (g : Nat → Int) : idx (fun k => g k == 0) 4 = if nlay g < 4 then (nlay g : Int) else -1 := by
  unfold nlay
  by_cases h0 : g 0 = 0
  · rw [idx_found (k := 0) (by omega) (by simp [h0]) (by intro j hj; omega)]; simp [h0]
  by_cases h1 : g 1 = 0
  · rw [idx_found (k := 1) (by omega) (by simp [h1]) (by intro j hj; have : j = 0 := by omega
                                                         subst this; simp [h0])]; simp [h0, h1]
  by_cases h2 : g 2 = 0
  · rw [idx_found (k := 2) (by omega) (by simp [h2]) (by intro j hj; have : j = 0 ∨ j = 1 := by omega
                                                         rcases this with e | e <;> subst e <;> simp [h0, h1])]; simp [h0, h1, h2]
  by_cases h3 : g 3 = 0
  · rw [idx_found (k := 3) (by omega) (by simp [h3]) (by intro j hj; have : j = 0 ∨ j = 1 ∨ j = 2 := by omega
                                                         rcases this with e | e | e <;> subst e <;> simp [h0, h1, h2])]; simp [h0, h1, h2, h3]
  · rw [idx_none (by intro j hj; have : j = 0 ∨ j = 1 ∨ j = 2 ∨ j = 3 := by omega
                     rcases this with e | e | e | e <;> subst e <;> simp [h0, h1, h2, h3])]; simp [h0, h1, h2, h3]
/-- The program's test of a tube. -/
theorem tubeB_layers (g : Nat → Int) : (((List.range (nlay g)).all fun k => (decide (1 ≤ g k) && decide (g k ≤ 5))) && ((List.range (4 - nlay g)).all fun k => g (nlay g + k) == 0)) = tubeB g := by
  rw [Bool.eq_iff_iff]
  unfold nlay tubeB
  by_cases h0 : g 0 = 0 <;> by_cases h1 : g 1 = 0 <;> by_cases h2 : g 2 = 0 <;> by_cases h3 : g 3 = 0 <;> simp [h0, h1, h2, h3, List.range_succ] <;> omega

/-- How many of the first n places p holds at. -/
def cnt (p : Nat → Bool) : Nat → Nat
  | 0 => 0
  | k + 1 => cnt p k + if p k then 1 else 0
theorem cnt_le (p : Nat → Bool) (n : Nat) : cnt p n ≤ n := by
  induction n with
  | zero => simp [cnt]
  | succ n ih => unfold cnt; split <;> omega
theorem cnt_yes {p : Nat → Bool} {k : Nat} (h : p k = true) : cnt p (k + 1) = cnt p k + 1 := by simp [cnt, h]
theorem cnt_no {p : Nat → Bool} {k : Nat} (h : p k = false) : cnt p (k + 1) = cnt p k := by simp [cnt, h]
theorem cnt_layers (g : Nat → Int) (h : tubeB g = true) : cnt (fun k => decide (0 < g k)) 4 = nlay g := by
  unfold tubeB at h
  rw [decide_eq_true_iff] at h
  unfold nlay
  by_cases h0 : g 0 = 0 <;> by_cases h1 : g 1 = 0 <;> by_cases h2 : g 2 = 0 <;> by_cases h3 : g 3 = 0 <;> simp [cnt, h0, h1, h2, h3] <;> grind
end Go.Proofs.YtlbgmkengkgnfaaDoor
