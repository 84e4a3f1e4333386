/- The form of a rack: its tubes in ascending order; two ways of sorting come to the same rack. -/
import Derived.Test.YtlbgmkengkgnfaaMem
import Derived.Test.YtlbgmkengkgnfaaPure
namespace Go.Proofs.Ytlbgmkengkgnfaa
set_option linter.unusedSimpArgs false
set_option linter.unusedVariables false
set_option maxRecDepth 20000
/-- A tube as a number; the order of tubes is that of the numbers. -/
def cod (g : Nat → Int) : Int := g 0 * 216 + g 1 * 36 + g 2 * 6 + g 3
def cdl (f : Nat → Int) : List Int := [cod (tub f 0), cod (tub f 1), cod (tub f 2), cod (tub f 3), cod (tub f 4), cod (tub f 5)]
def cellB (f : Nat → Int) : Prop := ∀ j, j < 24 → 0 ≤ f j ∧ f j ≤ 5
theorem cellB_of_rack {f : Nat → Int} (h : rackB f = true) : cellB f := fun j hj => by
  have h1 := (tubeB_iff f (j / 4)).1 ((rackB_iff f).1 h (j / 4) (by omega)) (j % 4) (Nat.mod_lt _ (by omega))
  have h2 := h1.1
  rwa [show j / 4 * 4 + j % 4 = j by omega] at h2
/-- F has f's tubes, in some order. -/
def Rr (f F : Nat → Int) : Prop := (cdl F).Perm (cdl f) ∧ cellB F
theorem Rr.refl {f : Nat → Int} (h : cellB f) : Rr f f := ⟨.refl _, h⟩
theorem Rr.trans {f g h : Nat → Int} (h1 : Rr f g) (h2 : Rr g h) : Rr f h := ⟨h2.1.trans h1.1, h2.2⟩
/-- Neighbours changed. -/
def swp (F : Nat → Int) (k : Nat) : Nat → Int := updN (updN F (k * 4) 4 fun j => F ((k + 1) * 4 + j)) ((k + 1) * 4) 4 fun j => F (k * 4 + j)
theorem swp_at (F : Nat → Int) (k i j : Nat) (hj : j < 4) : swp F k (i * 4 + j) = if i = k then F ((k + 1) * 4 + j) else if i = k + 1 then F (k * 4 + j) else F (i * 4 + j) := by
  unfold swp updN
  by_cases h1 : i = k
  · subst h1
    rw [if_neg (by omega), if_pos (by omega), if_pos rfl]
    congr 1; omega
  · by_cases h2 : i = k + 1
    · subst h2
      rw [if_pos (by omega), if_neg h1, if_pos rfl]
      congr 1; omega
    · rw [if_neg (by omega), if_neg (by omega), if_neg h1, if_neg h2]
theorem cod_swp (F : Nat → Int) (k i : Nat) : cod (tub (swp F k) i) = if i = k then cod (tub F (k + 1)) else if i = k + 1 then cod (tub F k) else cod (tub F i) := by
  have h := fun j hj => swp_at F k i j hj
  have h0 := h 0 (by omega)
  have h1 := h 1 (by omega)
  have h2 := h 2 (by omega)
  have h3 := h 3 (by omega)
  unfold cod tub
  by_cases e1 : i = k
  · simp only [e1, if_true] at h0 h1 h2 h3 ⊢
    rw [h0, h1, h2, h3]
  · by_cases e2 : i = k + 1
    · have e3 : ¬ k + 1 = k := by omega
      simp only [e2, e3, if_true, if_false] at h0 h1 h2 h3 ⊢
      rw [h0, h1, h2, h3]
    · simp only [e1, e2, if_false] at h0 h1 h2 h3 ⊢
      rw [h0, h1, h2, h3]
theorem swp_cell {F : Nat → Int} (h : cellB F) {k : Nat} (hk : k < 5) : cellB (swp F k) := fun j hj => by
  have := swp_at F k (j / 4) (j % 4) (Nat.mod_lt _ (by omega))
  rw [show j / 4 * 4 + j % 4 = j by omega] at this
  rw [this]
  have hm := Nat.mod_lt j (show 0 < 4 by omega)
  split
  · exact h _ (by omega)
  · split
    · exact h _ (by omega)
    · exact h _ (by omega)
theorem swp_perm (F : Nat → Int) {k : Nat} (hk : k < 5) : (cdl (swp F k)).Perm (cdl F) := by
  unfold cdl
  simp only [cod_swp]
  match k, hk with
  | 0, _ => exact .swap _ _ _
  | 1, _ => exact .cons _ (.swap _ _ _)
  | 2, _ => exact .cons _ (.cons _ (.swap _ _ _))
  | 3, _ => exact .cons _ (.cons _ (.cons _ (.swap _ _ _)))
  | 4, _ => exact .cons _ (.cons _ (.cons _ (.cons _ (.swap _ _ _))))
theorem Rr.swp {f F : Nat → Int} (h : Rr f F) {k : Nat} (hk : k < 5) : Rr f (swp F k) := ⟨(swp_perm F hk).trans h.1, swp_cell h.2 hk⟩
def srt (F : Nat → Int) : Prop := ∀ a b, a < b → b < 6 → cod (tub F a) ≤ cod (tub F b)
theorem pw_of_srt {F : Nat → Int} (h : srt F) : (cdl F).Pairwise (· ≤ ·) := by
  unfold cdl
  simp only [List.pairwise_cons, List.mem_cons, List.not_mem_nil, or_false, List.Pairwise.nil, and_true, forall_eq_or_imp, forall_eq, false_implies, implies_true]
  refine ⟨⟨?_, ?_, ?_, ?_, ?_⟩, ⟨?_, ?_, ?_, ?_⟩, ⟨?_, ?_, ?_⟩, ⟨?_, ?_⟩, ?_⟩ <;> exact h _ _ (by omega) (by omega)
theorem cod_inj {g h : Nat → Int} (hg : ∀ k, k < 4 → 0 ≤ g k ∧ g k ≤ 5) (hh : ∀ k, k < 4 → 0 ≤ h k ∧ h k ≤ 5) (e : cod g = cod h) : ∀ k, k < 4 → g k = h k := by
  have a0 := hg 0 (by omega); have a1 := hg 1 (by omega); have a2 := hg 2 (by omega); have a3 := hg 3 (by omega)
  have b0 := hh 0 (by omega); have b1 := hh 1 (by omega); have b2 := hh 2 (by omega); have b3 := hh 3 (by omega)
  unfold cod at e
  intro k hk
  match k, hk with
  | 0, _ => omega
  | 1, _ => omega
  | 2, _ => omega
  | 3, _ => omega
theorem tub_cell {F : Nat → Int} (h : cellB F) {i : Nat} (hi : i < 6) : ∀ k, k < 4 → 0 ≤ tub F i k ∧ tub F i k ≤ 5 := fun k hk => h _ (by omega)
theorem arr_of_cdl {F G : Nat → Int} (hF : cellB F) (hG : cellB G) (e : cdl F = cdl G) : arr 24 F = arr 24 G := by
  unfold cdl at e
  simp only [List.cons.injEq, and_true] at e
  obtain ⟨e0, e1, e2, e3, e4, e5⟩ := e
  refine arr_congr fun j hj => ?_
  have h : ∀ i, i < 6 → cod (tub F i) = cod (tub G i) := fun i hi => by
    match i, hi with
    | 0, _ => exact e0
    | 1, _ => exact e1
    | 2, _ => exact e2
    | 3, _ => exact e3
    | 4, _ => exact e4
    | 5, _ => exact e5
  have := cod_inj (tub_cell hF (i := j / 4) (by omega)) (tub_cell hG (by omega)) (h (j / 4) (by omega)) (j % 4) (Nat.mod_lt _ (by omega))
  unfold tub at this
  rwa [show j / 4 * 4 + j % 4 = j by omega] at this
/-- F is f's form. -/
def IsForm (f F : Nat → Int) : Prop := Rr f F ∧ srt F
theorem form_uniq {f g F G : Nat → Int} (hF : IsForm f F) (hG : IsForm g G) (h : (cdl f).Perm (cdl g)) : arr 24 F = arr 24 G :=
  arr_of_cdl hF.1.2 hG.1.2 (List.Perm.eq_of_pairwise (le := (· ≤ ·)) (fun _ _ _ _ h1 h2 => Int.le_antisymm h1 h2) (pw_of_srt hF.2) (pw_of_srt hG.2) (hF.1.1.trans (h.trans hG.1.1.symm)))
open Classical in
noncomputable def formF (f : Nat → Int) : Nat → Int := if h : ∃ F, IsForm f F then h.choose else f
theorem form_arr {f F : Nat → Int} (h : IsForm f F) : arr 24 F = arr 24 (formF f) := by
  have hx : ∃ F, IsForm f F := ⟨F, h⟩
  have : formF f = hx.choose := dif_pos hx
  rw [this]
  exact form_uniq h hx.choose_spec (.refl _)
/-! ### sorting by neighbours, six times through -/
/-- Behind i times through and k steps more. -/
def bI (F : Nat → Int) (i k : Nat) : Prop := (∀ a b, a < b → b < 6 → 6 - i ≤ b → cod (tub F a) ≤ cod (tub F b)) ∧ (∀ a, a < min k (5 - i) → cod (tub F a) ≤ cod (tub F (min k (5 - i))))
def bS (F : Nat → Int) (k : Nat) : Nat → Int := if cod (tub F (k + 1)) < cod (tub F k) then swp F k else F
theorem bI_start (F : Nat → Int) : bI F 0 0 := ⟨fun a b _ _ h => by omega, fun a h => by omega⟩
theorem bI_next {F : Nat → Int} {i : Nat} (hi : i < 6) (h : bI F i 5) : bI F (i + 1) 0 := by
  refine ⟨fun a b hab hb h1 => ?_, fun a h => by omega⟩
  by_cases h2 : 6 - i ≤ b
  · exact h.1 a b hab hb h2
  · have : b = min 5 (5 - i) := by omega
    subst this
    exact h.2 a hab
theorem bI_step {F : Nat → Int} {i k : Nat} (hk : k < 5) (h : bI F i k) : bI (bS F k) i (k + 1) := by
  unfold bS
  by_cases hc : cod (tub F (k + 1)) < cod (tub F k)
  · rw [if_pos hc]
    have hk2 : k + 1 < 6 - i := by
      rcases Nat.lt_or_ge (k + 1) (6 - i) with h1 | h1
      · exact h1
      · have := h.1 k (k + 1) (by omega) (by omega) h1
        omega
    refine ⟨fun a b hab hb h1 => ?_, fun a ha => ?_⟩
    · rw [cod_swp, cod_swp, if_neg (show ¬ b = k by omega), if_neg (show ¬ b = k + 1 by omega)]
      split
      · exact h.1 _ b (by omega) hb h1
      · split
        · exact h.1 _ b (by omega) hb h1
        · exact h.1 a b hab hb h1
    · have e : min (k + 1) (5 - i) = k + 1 := by omega
      have e2 : min k (5 - i) = k := by omega
      rw [e] at ha ⊢
      have h2 := h.2
      rw [e2] at h2
      rw [cod_swp, cod_swp, if_neg (show ¬ k + 1 = k by omega), if_pos rfl]
      split
      · omega
      · rw [if_neg (by omega)]
        exact h2 a (by omega)
  · rw [if_neg hc]
    refine ⟨h.1, fun a ha => ?_⟩
    by_cases h1 : k < 5 - i
    · have e : min (k + 1) (5 - i) = k + 1 := by omega
      have e2 : min k (5 - i) = k := by omega
      have h2 := h.2
      rw [e] at ha ⊢
      rw [e2] at h2
      by_cases h3 : a = k
      · subst h3; omega
      · have := h2 a (by omega); omega
    · have e : min (k + 1) (5 - i) = min k (5 - i) := by omega
      rw [e] at ha ⊢
      exact h.2 a ha
theorem bI_done {F : Nat → Int} (h : bI F 6 0) : srt F := fun a b hab hb => h.1 a b hab hb (by omega)
/-! ### sorting by insertion -/
/-- Tubes 0 .. i are in order, but for the one at j, which is not above those behind it. -/
def iI (F : Nat → Int) (i j : Nat) : Prop := j ≤ i ∧ (∀ a b, a < b → b ≤ i → a ≠ j → b ≠ j → cod (tub F a) ≤ cod (tub F b)) ∧ (∀ b, j < b → b ≤ i → cod (tub F j) ≤ cod (tub F b))
theorem iI_start {F : Nat → Int} {i : Nat} (h : ∀ a b, a < b → b < i → cod (tub F a) ≤ cod (tub F b)) : iI F i i := ⟨Nat.le_refl _, fun a b hab hb h1 h2 => h a b hab (by omega), fun b h1 h2 => by omega⟩
theorem iI_step {F : Nat → Int} {i j : Nat} (h : iI F i (j + 1)) (hc : cod (tub F (j + 1)) < cod (tub F j)) : iI (swp F j) i j := by
  obtain ⟨h0, h1, h2⟩ := h
  refine ⟨by omega, fun a b hab hb ha hb2 => ?_, fun b h3 h4 => ?_⟩
  · rw [cod_swp, cod_swp, if_neg ha, if_neg hb2]
    by_cases e1 : a = j + 1
    · rw [if_pos e1, if_neg (by omega)]
      exact h1 j b (by omega) hb (by omega) (by omega)
    · rw [if_neg e1]
      by_cases e2 : b = j + 1
      · rw [if_pos e2]
        exact h1 a j (by omega) (by omega) (by omega) (by omega)
      · rw [if_neg e2]
        exact h1 a b hab hb e1 e2
  · rw [cod_swp, cod_swp, if_pos rfl, if_neg (show ¬ b = j by omega)]
    split
    · omega
    · exact h2 b (by omega) h4
theorem iI_done {F : Nat → Int} {i j : Nat} (h : iI F i j) (hc : j = 0 ∨ ¬ cod (tub F j) < cod (tub F (j - 1))) : ∀ a b, a < b → b < i + 1 → cod (tub F a) ≤ cod (tub F b) := by
  obtain ⟨h0, h1, h2⟩ := h
  intro a b hab hb
  by_cases e1 : a = j
  · subst e1; exact h2 b hab (by omega)
  · by_cases e2 : b = j
    · subst e2
      rcases hc with hc | hc
      · omega
      · by_cases e3 : a = b - 1
        · subst e3; omega
        · have := h1 a (b - 1) (by omega) (by omega) e1 (by omega); omega
    · exact h1 a b hab (by omega) e1 e2
/-! ### the order of tubes -/
/-- How two tubes compare, layer by layer. -/
def lexC (a b : Nat → Int) : Nat → Int
  | 0 => 0
  | k + 1 => if lexC a b k ≠ 0 then lexC a b k else if a k < b k then -1 else if b k < a k then 1 else 0
theorem lexC_cod {a b : Nat → Int} (ha : ∀ k, k < 4 → 0 ≤ a k ∧ a k ≤ 5) (hb : ∀ k, k < 4 → 0 ≤ b k ∧ b k ≤ 5) : (lexC a b 4 < 0 ↔ cod a < cod b) ∧ (lexC a b 4 = 0 ↔ cod a = cod b) := by
  have a0 := ha 0 (by omega); have a1 := ha 1 (by omega); have a2 := ha 2 (by omega); have a3 := ha 3 (by omega)
  have b0 := hb 0 (by omega); have b1 := hb 1 (by omega); have b2 := hb 2 (by omega); have b3 := hb 3 (by omega)
  unfold cod
  simp only [lexC]
  by_cases h0 : a 0 < b 0
  · simp [h0]; omega
  by_cases h0' : b 0 < a 0
  · simp [h0, h0']; omega
  by_cases h1 : a 1 < b 1
  · simp [h0, h0', h1]; omega
  by_cases h1' : b 1 < a 1
  · simp [h0, h0', h1, h1']; omega
  by_cases h2 : a 2 < b 2
  · simp [h0, h0', h1, h1', h2]; omega
  by_cases h2' : b 2 < a 2
  · simp [h0, h0', h1, h1', h2, h2']; omega
  by_cases h3 : a 3 < b 3
  · simp [h0, h0', h1, h1', h2, h2', h3]; omega
  by_cases h3' : b 3 < a 3
  · simp [h0, h0', h1, h1', h2, h2', h3, h3']; omega
  · simp [h0, h0', h1, h1', h2, h2', h3, h3']; omega
end Go.Proofs.Ytlbgmkengkgnfaa
