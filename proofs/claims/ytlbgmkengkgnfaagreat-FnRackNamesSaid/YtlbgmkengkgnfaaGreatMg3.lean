/- A part (number 3) of the proof of the law FnRackNames: what each of its sections proves stands in the section's own first remark. No conditions beside those that each theorem states. -/
import Derived.Test.YtlbgmkengkgnfaaGreatMg2
import Derived.Test.YtlbgmkengkgnfaaGreatMg1
import Derived.Laws.Append
import Derived.Laws.AppendOwn
import Derived.IntWalk
import Derived.ChangeKeysEq
import Derived.Laws.StructEq
section
/- The form of a rack: its tubes in ascending order; two ways of sorting come to the same rack. -/
namespace Go.Proofs.YtlbgmkengkgnfaaGreat
set_option linter.unusedSimpArgs false
set_option linter.unusedVariables false
set_option maxRecDepth 20000
/-- A tube as a number; the order of tubes is that of the numbers. -/
def cod (g : Nat → Int) : Int := g 0 * 216 + g 1 * 36 + g 2 * 6 + g 3
def cdl (f : Nat → Int) : List Int := [cod (tub f 0), cod (tub f 1), cod (tub f 2), cod (tub f 3), cod (tub f 4), cod (tub f 5)]
def cellB (f : Nat → Int) : Prop := ∀ j, j < 24 → 0 ≤ f j ∧ f j ≤ 5
theorem cellB_of_rack {f : Nat → Int} (h : rackB f = true) : cellB f := fun j hj => by
  have h1 := (tubeB_iff f (j / 4)).1 ((rackB_iff f).1 h (j / 4) (by omega)) (j % 4) (Nat.mod_lt _ (by omega))
  have h2 := h1.1
  rwa [show j / 4 * 4 + j % 4 = j by omega] at h2
/-- F has f's tubes, in some order. -/
def Rr (f F : Nat → Int) : Prop := (cdl F).Perm (cdl f) ∧ cellB F
theorem Rr.refl {f : Nat → Int} (h : cellB f) : Rr f f := ⟨.refl _, h⟩
theorem Rr.trans {f g h : Nat → Int} (h1 : Rr f g) (h2 : Rr g h) : Rr f h := ⟨h2.1.trans h1.1, h2.2⟩
/-- Neighbours changed. -/
def swp (F : Nat → Int) (k : Nat) : Nat → Int := updN (updN F (k * 4) 4 fun j => F ((k + 1) * 4 + j)) ((k + 1) * 4) 4 fun j => F (k * 4 + j)
theorem swp_at (F : Nat → Int) (k i j : Nat) (hj : j < 4) : swp F k (i * 4 + j) = if i = k then F ((k + 1) * 4 + j) else if i = k + 1 then F (k * 4 + j) else F (i * 4 + j) := by
  unfold swp updN
  by_cases h1 : i = k
  · subst h1
    rw [if_neg (by omega), if_pos (by omega), if_pos rfl]
    congr 1; omega
  · by_cases h2 : i = k + 1
    · subst h2
      rw [if_pos (by omega), if_neg h1, if_pos rfl]
      congr 1; omega
    · rw [if_neg (by omega), if_neg (by omega), if_neg h1, if_neg h2]
theorem cod_swp (F : Nat → Int) (k i : Nat) : cod (tub (swp F k) i) = if i = k then cod (tub F (k + 1)) else if i = k + 1 then cod (tub F k) else cod (tub F i) := by
  have h := fun j hj => swp_at F k i j hj
  have h0 := h 0 (by omega)
  have h1 := h 1 (by omega)
  have h2 := h 2 (by omega)
  have h3 := h 3 (by omega)
  unfold cod tub
  by_cases e1 : i = k
  · simp only [e1, if_true] at h0 h1 h2 h3 ⊢
    rw [h0, h1, h2, h3]
  · by_cases e2 : i = k + 1
    · have e3 : ¬ k + 1 = k := by omega
      simp only [e2, e3, if_true, if_false] at h0 h1 h2 h3 ⊢
      rw [h0, h1, h2, h3]
    · simp only [e1, e2, if_false] at h0 h1 h2 h3 ⊢
      rw [h0, h1, h2, h3]
theorem swp_cell {F : Nat → Int} (h : cellB F) {k : Nat} (hk : k < 5) : cellB (swp F k) := fun j hj => by
  have := swp_at F k (j / 4) (j % 4) (Nat.mod_lt _ (by omega))
  rw [show j / 4 * 4 + j % 4 = j by omega] at this
  rw [this]
  have hm := Nat.mod_lt j (show 0 < 4 by omega)
  split
  · exact h _ (by omega)
  · split
    · exact h _ (by omega)
    · exact h _ (by omega)
theorem swp_perm (F : Nat → Int) {k : Nat} (hk : k < 5) : (cdl (swp F k)).Perm (cdl F) := by
  unfold cdl
  simp only [cod_swp]
  match k, hk with
  | 0, _ => exact .swap _ _ _
  | 1, _ => exact .cons _ (.swap _ _ _)
  | 2, _ => exact .cons _ (.cons _ (.swap _ _ _))
  | 3, _ => exact .cons _ (.cons _ (.cons _ (.swap _ _ _)))
  | 4, _ => exact .cons _ (.cons _ (.cons _ (.cons _ (.swap _ _ _))))
theorem Rr.swp {f F : Nat → Int} (h : Rr f F) {k : Nat} (hk : k < 5) : Rr f (swp F k) := ⟨(swp_perm F hk).trans h.1, swp_cell h.2 hk⟩
def srt (F : Nat → Int) : Prop := ∀ a b, a < b → b < 6 → cod (tub F a) ≤ cod (tub F b)
theorem pw_of_srt {F : Nat → Int} (h : srt F) : (cdl F).Pairwise (· ≤ ·) := by
  unfold cdl
  simp only [List.pairwise_cons, List.mem_cons, List.not_mem_nil, or_false, List.Pairwise.nil, and_true, forall_eq_or_imp, forall_eq, false_implies, implies_true]
  refine ⟨⟨?_, ?_, ?_, ?_, ?_⟩, ⟨?_, ?_, ?_, ?_⟩, ⟨?_, ?_, ?_⟩, ⟨?_, ?_⟩, ?_⟩ <;> exact h _ _ (by omega) (by omega)
theorem cod_inj {g h : Nat → Int} (hg : ∀ k, k < 4 → 0 ≤ g k ∧ g k ≤ 5) (hh : ∀ k, k < 4 → 0 ≤ h k ∧ h k ≤ 5) (e : cod g = cod h) : ∀ k, k < 4 → g k = h k := by
  have a0 := hg 0 (by omega); have a1 := hg 1 (by omega); have a2 := hg 2 (by omega); have a3 := hg 3 (by omega)
  have b0 := hh 0 (by omega); have b1 := hh 1 (by omega); have b2 := hh 2 (by omega); have b3 := hh 3 (by omega)
  unfold cod at e
  intro k hk
  match k, hk with
  | 0, _ => omega
  | 1, _ => omega
  | 2, _ => omega
  | 3, _ => omega
theorem tub_cell {F : Nat → Int} (h : cellB F) {i : Nat} (hi : i < 6) : ∀ k, k < 4 → 0 ≤ tub F i k ∧ tub F i k ≤ 5 := fun k hk => h _ (by omega)
theorem arr_of_cdl {F G : Nat → Int} (hF : cellB F) (hG : cellB G) (e : cdl F = cdl G) : arr 24 F = arr 24 G := by
  unfold cdl at e
  simp only [List.cons.injEq, and_true] at e
  obtain ⟨e0, e1, e2, e3, e4, e5⟩ := e
  refine arr_congr fun j hj => ?_
  have h : ∀ i, i < 6 → cod (tub F i) = cod (tub G i) := fun i hi => by
    match i, hi with
    | 0, _ => exact e0
    | 1, _ => exact e1
    | 2, _ => exact e2
    | 3, _ => exact e3
    | 4, _ => exact e4
    | 5, _ => exact e5
  have := cod_inj (tub_cell hF (i := j / 4) (by omega)) (tub_cell hG (by omega)) (h (j / 4) (by omega)) (j % 4) (Nat.mod_lt _ (by omega))
  unfold tub at this
  rwa [show j / 4 * 4 + j % 4 = j by omega] at this
/-- F is f's form. -/
def IsForm (f F : Nat → Int) : Prop := Rr f F ∧ srt F
theorem form_uniq {f g F G : Nat → Int} (hF : IsForm f F) (hG : IsForm g G) (h : (cdl f).Perm (cdl g)) : arr 24 F = arr 24 G :=
  arr_of_cdl hF.1.2 hG.1.2 (List.Perm.eq_of_pairwise (le := (· ≤ ·)) (fun _ _ _ _ h1 h2 => Int.le_antisymm h1 h2) (pw_of_srt hF.2) (pw_of_srt hG.2) (hF.1.1.trans (h.trans hG.1.1.symm)))
open Classical in
noncomputable def formF (f : Nat → Int) : Nat → Int := if h : ∃ F, IsForm f F then h.choose else f
theorem form_arr {f F : Nat → Int} (h : IsForm f F) : arr 24 F = arr 24 (formF f) := by
  have hx : ∃ F, IsForm f F := ⟨F, h⟩
  have : formF f = hx.choose := dif_pos hx
  rw [this]
  exact form_uniq h hx.choose_spec (.refl _)
/-! ### sorting by neighbours, six times through -/
/-- Behind i times through and k steps more. -/
def bI (F : Nat → Int) (i k : Nat) : Prop := (∀ a b, a < b → b < 6 → 6 - i ≤ b → cod (tub F a) ≤ cod (tub F b)) ∧ (∀ a, a < min k (5 - i) → cod (tub F a) ≤ cod (tub F (min k (5 - i))))
def bS (F : Nat → Int) (k : Nat) : Nat → Int := if cod (tub F (k + 1)) < cod (tub F k) then swp F k else F
theorem bI_start (F : Nat → Int) : bI F 0 0 := ⟨fun a b _ _ h => by omega, fun a h => by omega⟩
theorem bI_next {F : Nat → Int} {i : Nat} (hi : i < 6) (h : bI F i 5) : bI F (i + 1) 0 := by
  refine ⟨fun a b hab hb h1 => ?_, fun a h => by omega⟩
  by_cases h2 : 6 - i ≤ b
  · exact h.1 a b hab hb h2
  · have : b = min 5 (5 - i) := by omega
    subst this
    exact h.2 a hab
theorem bI_step {F : Nat → Int} {i k : Nat} (hk : k < 5) (h : bI F i k) : bI (bS F k) i (k + 1) := by
  unfold bS
  by_cases hc : cod (tub F (k + 1)) < cod (tub F k)
  · rw [if_pos hc]
    have hk2 : k + 1 < 6 - i := by
      rcases Nat.lt_or_ge (k + 1) (6 - i) with h1 | h1
      · exact h1
      · have := h.1 k (k + 1) (by omega) (by omega) h1
        omega
    refine ⟨fun a b hab hb h1 => ?_, fun a ha => ?_⟩
    · rw [cod_swp, cod_swp, if_neg (show ¬ b = k by omega), if_neg (show ¬ b = k + 1 by omega)]
      split
      · exact h.1 _ b (by omega) hb h1
      · split
        · exact h.1 _ b (by omega) hb h1
        · exact h.1 a b hab hb h1
    · have e : min (k + 1) (5 - i) = k + 1 := by omega
      have e2 : min k (5 - i) = k := by omega
      rw [e] at ha ⊢
      have h2 := h.2
      rw [e2] at h2
      rw [cod_swp, cod_swp, if_neg (show ¬ k + 1 = k by omega), if_pos rfl]
      split
      · omega
      · rw [if_neg (by omega)]
        exact h2 a (by omega)
  · rw [if_neg hc]
    refine ⟨h.1, fun a ha => ?_⟩
    by_cases h1 : k < 5 - i
    · have e : min (k + 1) (5 - i) = k + 1 := by omega
      have e2 : min k (5 - i) = k := by omega
      have h2 := h.2
      rw [e] at ha ⊢
      rw [e2] at h2
      by_cases h3 : a = k
      · subst h3; omega
      · have := h2 a (by omega); omega
    · have e : min (k + 1) (5 - i) = min k (5 - i) := by omega
      rw [e] at ha ⊢
      exact h.2 a ha
theorem bI_done {F : Nat → Int} (h : bI F 6 0) : srt F := fun a b hab hb => h.1 a b hab hb (by omega)
/-! ### sorting by insertion -/
/-- Tubes 0 .. i are in order, but for the one at j, which is not above those behind it. -/
def iI (F : Nat → Int) (i j : Nat) : Prop := j ≤ i ∧ (∀ a b, a < b → b ≤ i → a ≠ j → b ≠ j → cod (tub F a) ≤ cod (tub F b)) ∧ (∀ b, j < b → b ≤ i → cod (tub F j) ≤ cod (tub F b))
theorem iI_start {F : Nat → Int} {i : Nat} (h : ∀ a b, a < b → b < i → cod (tub F a) ≤ cod (tub F b)) : iI F i i := ⟨Nat.le_refl _, fun a b hab hb h1 h2 => h a b hab (by omega), fun b h1 h2 => by omega⟩
theorem iI_step {F : Nat → Int} {i j : Nat} (h : iI F i (j + 1)) (hc : cod (tub F (j + 1)) < cod (tub F j)) : iI (swp F j) i j := by
  obtain ⟨h0, h1, h2⟩ := h
  refine ⟨by omega, fun a b hab hb ha hb2 => ?_, fun b h3 h4 => ?_⟩
  · rw [cod_swp, cod_swp, if_neg ha, if_neg hb2]
    by_cases e1 : a = j + 1
    · rw [if_pos e1, if_neg (by omega)]
      exact h1 j b (by omega) hb (by omega) (by omega)
    · rw [if_neg e1]
      by_cases e2 : b = j + 1
      · rw [if_pos e2]
        exact h1 a j (by omega) (by omega) (by omega) (by omega)
      · rw [if_neg e2]
        exact h1 a b hab hb e1 e2
  · rw [cod_swp, cod_swp, if_pos rfl, if_neg (show ¬ b = j by omega)]
    split
    · omega
    · exact h2 b (by omega) h4
theorem iI_done {F : Nat → Int} {i j : Nat} (h : iI F i j) (hc : j = 0 ∨ ¬ cod (tub F j) < cod (tub F (j - 1))) : ∀ a b, a < b → b < i + 1 → cod (tub F a) ≤ cod (tub F b) := by
  obtain ⟨h0, h1, h2⟩ := h
  intro a b hab hb
  by_cases e1 : a = j
  · subst e1; exact h2 b hab (by omega)
  · by_cases e2 : b = j
    · subst e2
      rcases hc with hc | hc
      · omega
      · by_cases e3 : a = b - 1
        · subst e3; omega
        · have := h1 a (b - 1) (by omega) (by omega) e1 (by omega); omega
    · exact h1 a b hab (by omega) e1 e2
/-! ### the order of tubes -/
/-- How two tubes compare, layer by layer. -/
def lexC (a b : Nat → Int) : Nat → Int
  | 0 => 0
  | k + 1 => if lexC a b k ≠ 0 then lexC a b k else if a k < b k then -1 else if b k < a k then 1 else 0
theorem lexC_cod {a b : Nat → Int} (ha : ∀ k, k < 4 → 0 ≤ a k ∧ a k ≤ 5) (hb : ∀ k, k < 4 → 0 ≤ b k ∧ b k ≤ 5) : (lexC a b 4 < 0 ↔ cod a < cod b) ∧ (lexC a b 4 = 0 ↔ cod a = cod b) := by
  have a0 := ha 0 (by omega); have a1 := ha 1 (by omega); have a2 := ha 2 (by omega); have a3 := ha 3 (by omega)
  have b0 := hb 0 (by omega); have b1 := hb 1 (by omega); have b2 := hb 2 (by omega); have b3 := hb 3 (by omega)
  unfold cod
  simp only [lexC]
  by_cases h0 : a 0 < b 0
  · simp [h0]; omega
  by_cases h0' : b 0 < a 0
  · simp [h0, h0']; omega
  by_cases h1 : a 1 < b 1
  · simp [h0, h0', h1]; omega
  by_cases h1' : b 1 < a 1
  · simp [h0, h0', h1, h1']; omega
  by_cases h2 : a 2 < b 2
  · simp [h0, h0', h1, h1', h2]; omega
  by_cases h2' : b 2 < a 2
  · simp [h0, h0', h1, h1', h2, h2']; omega
  by_cases h3 : a 3 < b 3
  · simp [h0, h0', h1, h1', h2, h2', h3]; omega
  by_cases h3' : b 3 < a 3
  · simp [h0, h0', h1, h1', h2, h2', h3, h3']; omega
  · simp [h0, h0', h1, h1', h2, h2', h3, h3']; omega
end Go.Proofs.YtlbgmkengkgnfaaGreat
end

section
/- Renamings, forms and first forms: plain laws. -/
namespace Go.Proofs.YtlbgmkengkgnfaaGreat
set_option linter.unusedSimpArgs false
set_option linter.unusedVariables false
set_option maxRecDepth 20000
theorem bS_rr {f F : Nat → Int} (h : Rr f F) {k : Nat} (hk : k < 5) : Rr f (bS F k) := by
  unfold bS
  split
  · exact h.swp hk
  · exact h
theorem ex_form {f : Nat → Int} (h : cellB f) : ∃ F, IsForm f F := by
  have hk : ∀ i, i < 6 → (∃ F, Rr f F ∧ bI F i 0) → ∀ k, k ≤ 5 → ∃ F, Rr f F ∧ bI F i k := by
    intro i hi h0 k
    induction k with
    | zero => intro _; exact h0
    | succ k ih =>
      intro hk
      obtain ⟨F, h1, h2⟩ := ih (by omega)
      exact ⟨bS F k, bS_rr h1 (by omega), bI_step (by omega) h2⟩
  have hi : ∀ i, i ≤ 6 → ∃ F, Rr f F ∧ bI F i 0 := by
    intro i
    induction i with
    | zero => intro _; exact ⟨f, Rr.refl h, bI_start f⟩
    | succ i ih =>
      intro hi
      obtain ⟨F, h1, h2⟩ := hk i (by omega) (ih (by omega)) 5 (Nat.le_refl _)
      exact ⟨F, h1, bI_next (by omega) h2⟩
  obtain ⟨F, h1, h2⟩ := hi 6 (Nat.le_refl _)
  exact ⟨F, h1, bI_done h2⟩
theorem form_is {f : Nat → Int} (h : cellB f) : IsForm f (formF f) := by
  have hx := ex_form h
  have : formF f = hx.choose := dif_pos hx
  rw [this]
  exact hx.choose_spec
theorem form_perm {f g : Nat → Int} (hf : cellB f) (hg : cellB g) (h : (cdl f).Perm (cdl g)) : arr 24 (formF f) = arr 24 (formF g) := form_uniq (form_is hf) (form_is hg) h
theorem arr_inj {n : Nat} {f g : Nat → Int} (h : arr n f = arr n g) : ∀ j, j < n → f j = g j := fun j hj => by
  have h1 := arr_get n f j
  rw [h, arr_get, if_pos hj, if_pos hj] at h1
  simpa using h1.symm
theorem cdl_congr {f g : Nat → Int} (h : ∀ j, j < 24 → f j = g j) : cdl f = cdl g := by
  unfold cdl cod tub
  rw [h (0 * 4 + 0) (by omega), h (0 * 4 + 1) (by omega), h (0 * 4 + 2) (by omega), h (0 * 4 + 3) (by omega), h (1 * 4 + 0) (by omega), h (1 * 4 + 1) (by omega), h (1 * 4 + 2) (by omega), h (1 * 4 + 3) (by omega), h (2 * 4 + 0) (by omega), h (2 * 4 + 1) (by omega), h (2 * 4 + 2) (by omega), h (2 * 4 + 3) (by omega), h (3 * 4 + 0) (by omega), h (3 * 4 + 1) (by omega), h (3 * 4 + 2) (by omega), h (3 * 4 + 3) (by omega), h (4 * 4 + 0) (by omega), h (4 * 4 + 1) (by omega), h (4 * 4 + 2) (by omega), h (4 * 4 + 3) (by omega), h (5 * 4 + 0) (by omega), h (5 * 4 + 1) (by omega), h (5 * 4 + 2) (by omega), h (5 * 4 + 3) (by omega)]
theorem perm_form {f g : Nat → Int} (hf : cellB f) (hg : cellB g) (h : arr 24 (formF f) = arr 24 (formF g)) : (cdl f).Perm (cdl g) := by
  have e := cdl_congr (arr_inj h)
  exact (form_is hf).1.1.symm.trans (e ▸ (form_is hg).1.1)
/-! ### renamings -/
def isRen (s : Nat → Int) : Prop := s 0 = 0 ∧ (∀ i, i < 6 → 0 ≤ s i ∧ s i ≤ 5) ∧ (∀ i j, i < 6 → j < 6 → s i = s j → i = j)
def renF (f s : Nat → Int) : Nat → Int := fun j => s (f j).toNat
theorem ren_cell {f s : Nat → Int} (hf : cellB f) (hs : isRen s) : cellB (renF f s) := fun j hj => hs.2.1 _ (by have := hf j hj; omega)
/-- What a renaming makes of a tube's number. -/
def rc (s : Nat → Int) (c : Int) : Int := s (c / 216).toNat * 216 + s (c / 36 % 6).toNat * 36 + s (c / 6 % 6).toNat * 6 + s (c % 6).toNat
theorem rc_cod {s g : Nat → Int} (hg : ∀ k, k < 4 → 0 ≤ g k ∧ g k ≤ 5) : cod (fun j => s (g j).toNat) = rc s (cod g) := by
  have a0 := hg 0 (by omega); have a1 := hg 1 (by omega); have a2 := hg 2 (by omega); have a3 := hg 3 (by omega)
  unfold rc cod
  have e0 : (g 0 * 216 + g 1 * 36 + g 2 * 6 + g 3) / 216 = g 0 := by omega
  have e1 : (g 0 * 216 + g 1 * 36 + g 2 * 6 + g 3) / 36 % 6 = g 1 := by omega
  have e2 : (g 0 * 216 + g 1 * 36 + g 2 * 6 + g 3) / 6 % 6 = g 2 := by omega
  have e3 : (g 0 * 216 + g 1 * 36 + g 2 * 6 + g 3) % 6 = g 3 := by omega
  rw [e0, e1, e2, e3]
theorem cdl_ren {f s : Nat → Int} (hf : cellB f) : cdl (renF f s) = (cdl f).map (rc s) := by
  unfold cdl
  simp only [List.map_cons, List.map_nil]
  rw [← rc_cod (tub_cell hf (i := 0) (by omega)), ← rc_cod (tub_cell hf (i := 1) (by omega)), ← rc_cod (tub_cell hf (i := 2) (by omega)), ← rc_cod (tub_cell hf (i := 3) (by omega)), ← rc_cod (tub_cell hf (i := 4) (by omega)), ← rc_cod (tub_cell hf (i := 5) (by omega))]
  rfl
theorem renF_congr {f g s t : Nat → Int} (hf : cellB f) (h : ∀ j, j < 24 → f j = g j) (hs : ∀ i, i < 6 → s i = t i) : ∀ j, j < 24 → renF f s j = renF g t j := fun j hj => by
  unfold renF
  rw [← h j hj, hs _ (by have := hf j hj; omega)]
/-- First s, then t. -/
def cmp2 (s t : Nat → Int) : Nat → Int := fun i => t (s i).toNat
theorem cmp2_ren {s t : Nat → Int} (hs : isRen s) (ht : isRen t) : isRen (cmp2 s t) := by
  refine ⟨?_, fun i hi => ?_, fun i j hi hj h => ?_⟩
  · unfold cmp2; rw [hs.1]; exact ht.1
  · have := hs.2.1 i hi
    exact ht.2.1 _ (by omega)
  · have h1 := hs.2.1 i hi
    have h2 := hs.2.1 j hj
    exact hs.2.2 i j hi hj (by have := ht.2.2 _ _ (by omega) (by omega) h; omega)
theorem renF_cmp {f s t : Nat → Int} : renF (renF f s) t = renF f (cmp2 s t) := rfl
def idR : Nat → Int := fun i => i
theorem idR_ren : isRen idR := ⟨rfl, fun i hi => by unfold idR; omega, fun i j _ _ h => by unfold idR at h; omega⟩
theorem renF_id {f : Nat → Int} (hf : cellB f) : ∀ j, j < 24 → renF f idR j = f j := fun j hj => by
  unfold renF idR
  have := hf j hj
  omega
/-- Five numbers of 1 .. 5 without a repetition are all of them. -/
def disB (a b c d e : Nat) : Bool := decide (a ≠ 0 ∧ b ≠ 0 ∧ c ≠ 0 ∧ d ≠ 0 ∧ e ≠ 0 ∧ a ≠ b ∧ a ≠ c ∧ a ≠ d ∧ a ≠ e ∧ b ≠ c ∧ b ≠ d ∧ b ≠ e ∧ c ≠ d ∧ c ≠ e ∧ d ≠ e)
def surB : Bool := (List.range 6).all fun a => (List.range 6).all fun b => (List.range 6).all fun c => (List.range 6).all fun d => (List.range 6).all fun e =>
  !disB a b c d e || (List.range 6).all fun j => [0, a, b, c, d, e].contains j
theorem surB_true : surB = true := by decide +kernel
theorem ren_sur {s : Nat → Int} (hs : isRen s) : ∀ j : Nat, j < 6 → ∃ i, i < 6 ∧ s i = j := by
  have h := surB_true
  unfold surB at h
  simp only [List.all_eq_true, List.mem_range] at h
  have b := hs.2.1
  have hh := h (s 1).toNat (by have := b 1 (by omega); omega) (s 2).toNat (by have := b 2 (by omega); omega) (s 3).toNat (by have := b 3 (by omega); omega) (s 4).toNat (by have := b 4 (by omega); omega) (s 5).toNat (by have := b 5 (by omega); omega)
  clear h
  intro j hj
  have n : ∀ i k, i < 6 → k < 6 → i ≠ k → (s i).toNat ≠ (s k).toNat := fun i k hi hk hik e => hik (hs.2.2 i k hi hk (by have := b i hi; have := b k hk; omega))
  have n0 : ∀ k, 0 < k → k < 6 → (s k).toNat ≠ 0 := fun k h0 hk e => by
    have := n k 0 hk (by omega) (by omega)
    rw [hs.1] at this
    exact this e
  have hd : disB (s 1).toNat (s 2).toNat (s 3).toNat (s 4).toNat (s 5).toNat = true := by
    unfold disB
    rw [decide_eq_true_iff]
    exact ⟨n0 1 (by omega) (by omega), n0 2 (by omega) (by omega), n0 3 (by omega) (by omega), n0 4 (by omega) (by omega), n0 5 (by omega) (by omega), n 1 2 (by omega) (by omega) (by omega), n 1 3 (by omega) (by omega) (by omega), n 1 4 (by omega) (by omega) (by omega), n 1 5 (by omega) (by omega) (by omega), n 2 3 (by omega) (by omega) (by omega), n 2 4 (by omega) (by omega) (by omega), n 2 5 (by omega) (by omega) (by omega), n 3 4 (by omega) (by omega) (by omega), n 3 5 (by omega) (by omega) (by omega), n 4 5 (by omega) (by omega) (by omega)⟩
  rw [hd] at hh
  simp only [Bool.not_true, Bool.false_or, List.all_eq_true, List.mem_range] at hh
  have hc := hh j hj
  simp only [List.contains_eq_mem, List.mem_cons, List.not_mem_nil, or_false, decide_eq_true_eq] at hc
  rcases hc with e | e | e | e | e | e
  · exact ⟨0, by omega, by rw [hs.1]; omega⟩
  · exact ⟨1, by omega, by have := b 1 (by omega); omega⟩
  · exact ⟨2, by omega, by have := b 2 (by omega); omega⟩
  · exact ⟨3, by omega, by have := b 3 (by omega); omega⟩
  · exact ⟨4, by omega, by have := b 4 (by omega); omega⟩
  · exact ⟨5, by omega, by have := b 5 (by omega); omega⟩
open Classical in
noncomputable def invR (s : Nat → Int) : Nat → Int := fun j => if h : ∃ i, i < 6 ∧ s i = (j : Int) then (h.choose : Int) else 0
theorem invR_at {s : Nat → Int} (hs : isRen s) {j : Nat} (hj : j < 6) : ∃ i, i < 6 ∧ s i = j ∧ invR s j = i := by
  have hx := ren_sur hs j hj
  refine ⟨hx.choose, hx.choose_spec.1, hx.choose_spec.2, ?_⟩
  unfold invR
  rw [dif_pos hx]
theorem invR_ren {s : Nat → Int} (hs : isRen s) : isRen (invR s) := by
  refine ⟨?_, fun j hj => ?_, fun j k hj hk h => ?_⟩
  · obtain ⟨i, hi, h1, h2⟩ := invR_at hs (j := 0) (by omega)
    have := hs.2.2 i 0 hi (by omega) (by rw [h1, hs.1]; rfl)
    rw [h2, this]; rfl
  · obtain ⟨i, hi, _, h2⟩ := invR_at hs hj
    omega
  · obtain ⟨i, hi, h1, h2⟩ := invR_at hs hj
    obtain ⟨i', hi', h1', h2'⟩ := invR_at hs hk
    have : i = i' := by omega
    subst this
    omega
theorem cmp_inv {s : Nat → Int} (hs : isRen s) : ∀ i, i < 6 → cmp2 s (invR s) i = i := fun i hi => by
  unfold cmp2
  have b := hs.2.1 i hi
  obtain ⟨k, hk, h1, h2⟩ := invR_at hs (j := (s i).toNat) (by omega)
  rw [h2]
  have := hs.2.2 k i hk hi (by omega)
  omega
/-! ### first forms -/
def key (f : Nat → Int) : Int := ((((cod (tub f 0) * 1296 + cod (tub f 1)) * 1296 + cod (tub f 2)) * 1296 + cod (tub f 3)) * 1296 + cod (tub f 4)) * 1296 + cod (tub f 5)
theorem cod_bd {g : Nat → Int} (hg : ∀ k, k < 4 → 0 ≤ g k ∧ g k ≤ 5) : 0 ≤ cod g ∧ cod g ≤ 1295 := by
  have a0 := hg 0 (by omega); have a1 := hg 1 (by omega); have a2 := hg 2 (by omega); have a3 := hg 3 (by omega)
  unfold cod; omega
theorem key_inj {F G : Nat → Int} (hF : cellB F) (hG : cellB G) (e : key F = key G) : arr 24 F = arr 24 G := by
  refine arr_of_cdl hF hG ?_
  have f0 := cod_bd (tub_cell hF (i := 0) (by omega)); have f1 := cod_bd (tub_cell hF (i := 1) (by omega)); have f2 := cod_bd (tub_cell hF (i := 2) (by omega)); have f3 := cod_bd (tub_cell hF (i := 3) (by omega)); have f4 := cod_bd (tub_cell hF (i := 4) (by omega)); have f5 := cod_bd (tub_cell hF (i := 5) (by omega))
  have g0 := cod_bd (tub_cell hG (i := 0) (by omega)); have g1 := cod_bd (tub_cell hG (i := 1) (by omega)); have g2 := cod_bd (tub_cell hG (i := 2) (by omega)); have g3 := cod_bd (tub_cell hG (i := 3) (by omega)); have g4 := cod_bd (tub_cell hG (i := 4) (by omega)); have g5 := cod_bd (tub_cell hG (i := 5) (by omega))
  unfold key at e
  unfold cdl
  generalize cod (tub F 0) = x0 at *; generalize cod (tub F 1) = x1 at *; generalize cod (tub F 2) = x2 at *; generalize cod (tub F 3) = x3 at *; generalize cod (tub F 4) = x4 at *; generalize cod (tub F 5) = x5 at *
  generalize cod (tub G 0) = y0 at *; generalize cod (tub G 1) = y1 at *; generalize cod (tub G 2) = y2 at *; generalize cod (tub G 3) = y3 at *; generalize cod (tub G 4) = y4 at *; generalize cod (tub G 5) = y5 at *
  have e5 : x5 = y5 := by omega
  have e4 : x4 = y4 := by omega
  have e3 : x3 = y3 := by omega
  have e2 : x2 = y2 := by omega
  have e1 : x1 = y1 := by omega
  have e0 : x0 = y0 := by omega
  rw [e0, e1, e2, e3, e4, e5]
theorem key_congr {F G : Nat → Int} (h : arr 24 F = arr 24 G) : key F = key G := by
  have := cdl_congr (arr_inj h)
  unfold cdl at this
  simp only [List.cons.injEq, and_true] at this
  obtain ⟨e0, e1, e2, e3, e4, e5⟩ := this
  unfold key
  rw [e0, e1, e2, e3, e4, e5]
/-- The best of the forms by the first n renamings. -/
noncomputable def fstF (f : Nat → Int) (S : Nat → (Nat → Int)) : Nat → (Nat → Int)
  | 0 => formF f
  | n + 1 => if key (formF (renF f (S n))) < key (fstF f S n) then formF (renF f (S n)) else fstF f S n
/-- S lists all renamings, and no others, up to N. -/
def allR (S : Nat → (Nat → Int)) (N : Nat) : Prop := (∀ n, n < N → isRen (S n)) ∧ ∀ s, isRen s → ∃ n, n < N ∧ ∀ i, i < 6 → S n i = s i
theorem fstF_is {f : Nat → Int} {S : Nat → (Nat → Int)} {N : Nat} (hf : cellB f) (hS : ∀ n, n < N → isRen (S n)) : ∀ n, n ≤ N → ∃ s, isRen s ∧ arr 24 (fstF f S n) = arr 24 (formF (renF f s)) ∧ cellB (fstF f S n)
  | 0, _ => ⟨idR, idR_ren, form_perm hf (ren_cell hf idR_ren) (by rw [cdl_congr (renF_id hf)]), (form_is hf).1.2⟩
  | n + 1, h => by
    unfold fstF
    split
    · exact ⟨S n, hS n (by omega), rfl, (form_is (ren_cell hf (hS n (by omega)))).1.2⟩
    · exact fstF_is hf hS n (by omega)
theorem fstF_le {f : Nat → Int} {S : Nat → (Nat → Int)} : ∀ n k, k < n → key (fstF f S n) ≤ key (formF (renF f (S k)))
  | n + 1, k, h => by
    unfold fstF
    by_cases h1 : k = n
    · subst h1
      split
      · exact Int.le_refl _
      · omega
    · have := fstF_le (f := f) (S := S) n k (by omega)
      split
      · omega
      · exact this
theorem fst_le {f : Nat → Int} {S : Nat → (Nat → Int)} {N : Nat} (hf : cellB f) (hS : allR S N) {s : Nat → Int} (hs : isRen s) : key (fstF f S N) ≤ key (formF (renF f s)) := by
  obtain ⟨n, hn, h⟩ := hS.2 s hs
  have h1 := fstF_le (f := f) (S := S) N n hn
  have e : arr 24 (formF (renF f (S n))) = arr 24 (formF (renF f s)) := form_perm (ren_cell hf (hS.1 n hn)) (ren_cell hf hs) (by rw [cdl_congr (renF_congr hf (fun _ _ => rfl) h)])
  rw [← key_congr e]
  exact h1
/-- b is a renamed, but for the order of the tubes. -/
def alk (a b : Nat → Int) : Prop := ∃ s, isRen s ∧ arr 24 (formF (renF a s)) = arr 24 (formF b)
theorem alk_form {a b s t : Nat → Int} (ha : cellB a) (hb : cellB b) (hs : isRen s) (ht : isRen t) (h : arr 24 (formF (renF a s)) = arr 24 (formF b)) : arr 24 (formF (renF b t)) = arr 24 (formF (renF a (cmp2 s t))) := by
  have hp := perm_form (ren_cell ha hs) hb h
  refine form_perm (ren_cell hb ht) (ren_cell ha (cmp2_ren hs ht)) ?_
  rw [cdl_ren hb, ← renF_cmp, cdl_ren (ren_cell ha hs)]
  exact (hp.symm).map _
theorem alk_symm {a b : Nat → Int} (ha : cellB a) (hb : cellB b) (h : alk a b) : alk b a := by
  obtain ⟨s, hs, h⟩ := h
  refine ⟨invR s, invR_ren hs, ?_⟩
  rw [alk_form ha hb hs (invR_ren hs) h]
  refine form_perm (ren_cell ha (cmp2_ren hs (invR_ren hs))) ha ?_
  rw [cdl_congr (renF_congr (t := idR) ha (fun _ _ => rfl) (cmp_inv hs)), cdl_congr (renF_id ha)]
theorem alk_le {a b : Nat → Int} {S : Nat → (Nat → Int)} {N : Nat} (ha : cellB a) (hb : cellB b) (hS : allR S N) (h : alk a b) : key (fstF a S N) ≤ key (fstF b S N) := by
  obtain ⟨s, hs, h⟩ := h
  obtain ⟨t, ht, h1, _⟩ := fstF_is hb hS.1 N (Nat.le_refl _)
  rw [key_congr h1, key_congr (alk_form ha hb hs ht h)]
  exact fst_le ha hS (cmp2_ren hs ht)
/-- Alike racks are those with the same first form. -/
theorem alk_iff {a b : Nat → Int} {S : Nat → (Nat → Int)} {N : Nat} (ha : cellB a) (hb : cellB b) (hS : allR S N) : arr 24 (fstF a S N) = arr 24 (fstF b S N) ↔ alk a b := by
  obtain ⟨s, hs, h1, c1⟩ := fstF_is ha hS.1 N (Nat.le_refl _)
  obtain ⟨t, ht, h2, c2⟩ := fstF_is hb hS.1 N (Nat.le_refl _)
  constructor
  · intro e
    rw [h1, h2] at e
    have e2 := alk_form (t := invR t) (ren_cell ha hs) (ren_cell hb ht) idR_ren (invR_ren ht) (by
      rw [← e]
      exact form_perm (ren_cell (ren_cell ha hs) idR_ren) (ren_cell ha hs) (by rw [cdl_congr (renF_id (ren_cell ha hs))]))
    refine ⟨cmp2 s (invR t), cmp2_ren hs (invR_ren ht), ?_⟩
    have e3 : arr 24 (formF (renF (renF b t) (invR t))) = arr 24 (formF b) := by
      refine form_perm (ren_cell (ren_cell hb ht) (invR_ren ht)) hb ?_
      rw [renF_cmp, cdl_congr (renF_congr (t := idR) hb (fun _ _ => rfl) (cmp_inv ht)), cdl_congr (renF_id hb)]
    rw [← e3, e2]
    refine form_perm (ren_cell ha (cmp2_ren hs (invR_ren ht))) (ren_cell (ren_cell ha hs) (cmp2_ren idR_ren (invR_ren ht))) ?_
    rw [← renF_cmp, cdl_congr (renF_congr (s := cmp2 idR (invR t)) (t := invR t) (ren_cell ha hs) (fun _ _ => rfl) (fun i hi => by unfold cmp2 idR; rfl))]
  · intro h
    refine key_inj c1 c2 ?_
    have h3 := alk_le ha hb hS h
    have h4 := alk_le hb ha hS (alk_symm ha hb h)
    omega
end Go.Proofs.YtlbgmkengkgnfaaGreat
end

section
/- Slices of ints, and of rows of ints, that a call has made: append. -/
namespace Go.Proofs.YtlbgmkengkgnfaaGreat
set_option linter.unusedSimpArgs false
set_option linter.unusedVariables false
set_option maxRecDepth 20000
open Go.RowKit
variable {P : Program}
/-- v is a slice of n elements of s ints each (the first n * s values of f): nil, or in a block from base on. -/
def Sl (w : World) (base : Nat) (e : TypeId) (s : Nat) (v : Value) (n : Nat) (f : Nat → Int) : Prop :=
  (v = .slice none 0 0 ∧ n = 0) ∨ ∃ g cap F, v = .slice (some ⟨g, 0, none⟩) n cap ∧ base ≤ g ∧ w.heap[g]? = some (.cells (arr (cap * s) F) e (0, 0)) ∧ n ≤ cap ∧ cap ≤ maxLen ∧ ∀ j, j < n * s → F j = f j
/-- g behind the first k values of f. -/
def app (f : Nat → Int) (k : Nat) (g : Nat → Int) : Nat → Int := fun j => if j < k then f j else g (j - k)
theorem arr_append (n m : Nat) (f g : Nat → Int) : arr n f ++ arr m g = arr (n + m) (app f n g) := by
  refine Array.ext_getElem? fun i => ?_
  rw [Array.getElem?_append, arr_size, arr_get, arr_get, arr_get]
  unfold app
  by_cases h : i < n
  · rw [if_pos h, if_pos h, if_pos (by omega), if_pos h]
  · rw [if_neg h, if_neg h]
    by_cases h2 : i < n + m
    · rw [if_pos h2, if_pos (by omega)]
    · rw [if_neg h2, if_neg (by omega)]
theorem zeroCells_arr (s k : Nat) (hs : 0 < s) : Builtin.zeroCells (arr s fun _ => 0) k = arr (k * s) fun _ => 0 := by
  refine Array.ext_getElem? fun i => ?_
  unfold Builtin.zeroCells
  rw [arr_get, arr_size]
  by_cases h : i < k * s
  · have h1 : (arr s fun _ => 0)[i % s]! = Value.int .i64 0 := by
      have hm := Nat.mod_lt i hs
      rw [getElem!_def, arr_get, if_pos hm]
    rw [if_pos h]
    simp [h, h1]
  · rw [if_neg h]
    simp; omega
theorem arr_list_get (n : Nat) (f : Nat → Int) (j : Nat) : (arr n f).toList[j]? = if j < n then some (.int .i64 (f j)) else none := by
  rw [Array.getElem?_toList, arr_get]
theorem news_arr {w : World} {B off N m : Nat} {g : Nat → Int} {T : TypeId} {fr : Nat × Nat} (hB : w.heap[B]? = some (.cells (arr N g) T fr)) (hle : off + m ≤ N) :
    ∀ j u, (arr m fun j => g (off + j)).toList[j]? = some u → w.cell? ((⟨B, off, none⟩ : Addr).add j) = some u := fun j u hu => by
  rw [arr_list_get] at hu
  split at hu
  · rename_i h
    simp only [Option.some.injEq] at hu
    subst hu
    rw [add_off]
    exact rowcell hB (by omega)
  · cases hu
theorem arr_take (n k : Nat) (f : Nat → Int) (h : k ≤ n) : (arr n f).toList.take k = (arr k f).toList := by
  refine List.ext_getElem? fun j => ?_
  rw [List.getElem?_take, arr_list_get, arr_list_get]
  by_cases h1 : j < k
  · rw [if_pos h1, if_pos (by omega), if_pos h1]
  · rw [if_neg h1, if_neg h1]
theorem arr_splice (n k m : Nat) (F g : Nat → Int) (h : k + m ≤ n) : ((arr n F).toList.take k ++ (arr m g).toList ++ (arr n F).toList.drop (k + m)).toArray = arr n (updN F k m g) := by
  refine Array.ext_getElem? fun j => ?_
  rw [arr_take n k F (by omega), List.getElem?_toArray, arr_get]
  unfold updN
  by_cases h1 : j < k
  · rw [List.getElem?_append_left (by simp [arr_size]; omega), List.getElem?_append_left (by simp [arr_size]; omega), arr_list_get, if_pos h1, if_pos (by omega), if_neg (by omega)]
  · by_cases h2 : j < k + m
    · rw [List.getElem?_append_left (by simp [arr_size]; omega), List.getElem?_append_right (by simp [arr_size]; omega), arr_list_get]
      simp only [Array.length_toList, arr_size]
      rw [if_pos (by omega), if_pos (by omega), if_pos (by omega)]
    · rw [List.getElem?_append_right (by simp [arr_size]; omega), List.getElem?_drop, arr_list_get]
      simp only [List.length_append, Array.length_toList, arr_size]
      rw [show k + m + (j - (k + m)) = j by omega]
      by_cases h3 : j < n
      · rw [if_pos h3, if_pos h3, if_neg (by omega)]
      · rw [if_neg h3, if_neg h3]
/-- Slices of type t have elements of type e, of s ints and b bytes. -/
structure SlOK (P : Program) (t e : TypeId) (s b : Nat) : Prop where
  ht : P.underlying t = some (.slice e)
  hi : ((P.info? e).map fun i => (i.size, i.bytes)) = some (s, b)
  hz : ((P.info? e).bind (·.zero)).map (·.cells) = some (arr s fun _ => 0)
theorem run_append_Sl {t ty e : TypeId} {s b : Nat} (hT : SlOK P t e s b) (hs0 : 0 < s) {w : World} {base : Nat} {v : Value} {n : Nat} {f : Nat → Int} (hS : Sl w base e s v n f)
    {B off N m c : Nat} {g : Nat → Int} {T : TypeId} {fr : Nat × Nat} (hB : w.heap[B]? = some (.cells (arr N g) T fr)) (hle : off + m * s ≤ N) (hm : 0 < m) (h63 : n + m ≤ maxLen) (hby : (n + m) * b ≤ 140737488355328) (hbase : base ≤ w.heap.size) :
    ∃ v' w', (Builtin.append_ #[t, t] ty #[v, .slice (some ⟨B, off, none⟩) m c]).run P w = .ok v' w' ∧ Sl w' base e s v' (n + m) (app f (n * s) fun j => g (off + j)) ∧ Below base w w' ∧ (∀ k, k < w.heap.size → some k ≠ v.ownBlock → w'.heap[k]? = w.heap[k]?) := by
  obtain ⟨ht, hi0, hz0⟩ := hT
  cases hi : P.info? e with
  | none => simp [hi] at hi0
  | some i =>
  cases hz : i.zero with
  | none => simp [hi, hz] at hz0
  | some z =>
  simp only [hi, hz, Option.map_some, Option.bind_some, Option.some.injEq, Prod.mk.injEq] at hi0 hz0
  obtain ⟨rfl, rfl⟩ := hi0
  have hnews := news_arr hB hle
  have hl : (arr (m * i.size) fun j => g (off + j)).toList.length = m * i.size := by simp [arr_size]
  have hsm : n + m ≤ 9223372036854775807 := by simp only [maxLen] at h63; omega
  have grown : ∀ (old : Nat) (F : Nat → Int), (∀ j, j < n * i.size → F j = f j) → ∃ cap F', (((arr (n * i.size) F).toList.toArray ++ (arr (m * i.size) fun j => g (off + j)).toList.toArray ++ Builtin.zeroCells z.cells (grownCap w (n + m) old e - (n + m))) = arr (cap * i.size) F') ∧ cap = grownCap w (n + m) old e ∧ n + m ≤ cap ∧ cap ≤ maxLen ∧ ∀ j, j < (n + m) * i.size → F' j = app f (n * i.size) (fun j => g (off + j)) j := by
    intro old F hF
    have hge := grownCap_ge w (n + m) old e
    have hcm := grownCap_le_maxLen w (n + m) old e h63
    refine ⟨_, app (app F (n * i.size) fun j => g (off + j)) (n * i.size + m * i.size) (fun _ => 0), ?_, rfl, hge, hcm, fun j hj => ?_⟩
    · rw [hz0, zeroCells_arr _ _ hs0, Array.toArray_toList, Array.toArray_toList, arr_append, arr_append]
      congr 1
      rw [← Nat.add_mul, ← Nat.add_mul]
      congr 1
      omega
    · rw [Nat.add_mul] at hj
      unfold app
      rw [if_pos hj]
      split
      · rw [hF j (by assumption)]
      · rfl
  rcases hS with ⟨rfl, rfl⟩ | ⟨q, cap, F, rfl, hbg, hg, hnc, hcm, hF⟩
  · obtain ⟨cap, F', hc, hcap, h1, h2, h3⟩ := grown 0 f (fun _ _ => rfl)
    have hr := run_append_nil (P := P) w t ty e i z ht hi hz ⟨B, off, none⟩ m c _ hl hnews hm (by omega) (by have hb := hby; simp only [Nat.zero_add] at hb; omega)
    have e0 : (arr (0 * i.size) f).toList.toArray = #[] := by
      refine Array.ext_getElem? fun k => ?_
      rw [Array.toArray_toList, arr_get, if_neg (by omega)]; rfl
    rw [e0, Array.empty_append] at hc
    simp only [Nat.zero_add] at *
    rw [hc, ← hcap] at hr
    exact ⟨_, _, hr, .inr ⟨w.heap.size, cap, F', rfl, hbase, heap_alloc_new w.drew _, h1, h2, h3⟩, ⟨rfl, rfl, rfl, by simp, fun k hk => Below.heap_alloc w.drew _ k (show k < w.heap.size by omega)⟩, fun k hk _ => Below.heap_alloc w.drew _ k hk⟩
  · by_cases hroom : n + m ≤ cap
    · have hfit : n * i.size + (arr (m * i.size) fun j => g (off + j)).toList.length ≤ (arr (cap * i.size) F).size := by rw [hl, arr_size, ← Nat.add_mul]; exact Nat.mul_le_mul_right _ hroom
      have hr := run_append_room (P := P) w t ty e i ht hi q n cap _ hg ⟨B, off, none⟩ m c _ hl hnews (oneCell_arr _ _) hroom hfit
      rw [hl, arr_splice _ _ _ _ _ (by rw [← Nat.add_mul]; exact Nat.mul_le_mul_right _ hroom)] at hr
      refine ⟨_, _, hr, .inr ⟨q, cap, _, rfl, hbg, setRow_heap w q _ _ e _ hg, hroom, hcm, fun j hj => ?_⟩, ⟨rfl, rfl, rfl, by simp, fun k hk => setRow_other w q k _ (by omega)⟩, fun k _ hk => setRow_other w q k _ (fun e => hk (by simp [Value.ownBlock, e]))⟩
      rw [Nat.add_mul] at hj
      unfold updN app
      by_cases h1 : j < n * i.size
      · rw [if_neg (by omega), if_pos h1, hF j h1]
      · rw [if_pos (by omega), if_neg h1]
    · obtain ⟨cap', F', hc, hcap, h1, h2, h3⟩ := grown cap F hF
      have hr := run_append_grow (P := P) w t ty e i z ht hi hz ⟨q, 0, none⟩ n cap (arr (n * i.size) F).toList (by simp [arr_size]) (fun j u hu => by
          have := news_arr (off := 0) hg (by rw [Nat.zero_add]; exact Nat.mul_le_mul_right _ hnc) j u (by simpa using hu)
          exact this) ⟨B, off, none⟩ m c _ hl hnews (by omega) (by omega) (growslice_fits (by omega) hby)
      rw [hc, ← hcap] at hr
      exact ⟨_, _, hr, .inr ⟨w.heap.size, cap', F', rfl, hbase, heap_alloc_new w.drew _, h1, h2, h3⟩, ⟨rfl, rfl, rfl, by simp, fun k hk => Below.heap_alloc w.drew _ k (show k < w.heap.size by omega)⟩, fun k hk _ => Below.heap_alloc w.drew _ k hk⟩
/-- append, at the walk. -/
theorem wpList_appendS {ops : Array Oper} {rest : List Oper} {o : Oper} {a : Act} {Q : Exit → Act → World → Prop} {t e : TypeId} {s b : Nat} (hT : SlOK P t e s b) (hs0 : 0 < s) (hgd : o.guard = none) (y x : Operand)
    (ho : o.op = .call { callee := .builtin .append, args := #[y, x], argTypes := #[t, t] })
    {w : World} {base : Nat} {v : Value} {n : Nat} {f : Nat → Int} (hy : a.eval y = v) (hS : Sl w base e s v n f)
    {B off N m c : Nat} {g : Nat → Int} {T : TypeId} {fr : Nat × Nat} (hx : a.eval x = .slice (some ⟨B, off, none⟩) m c) (hB : w.heap[B]? = some (.cells (arr N g) T fr)) (hle : off + m * s ≤ N) (hm : 0 < m) (h63 : n + m ≤ maxLen) (hby : (n + m) * b ≤ 140737488355328) (hbase : base ≤ w.heap.size)
    (h : ∀ v' w', Sl w' base e s v' (n + m) (app f (n * s) fun j => g (off + j)) → Below base w w' → wpList P ops Q rest (a.put o.dst v') w') : wpList P ops Q (o :: rest) a w :=
  wpList_plain hgd fun _ hK => by
    obtain ⟨v', w', hr, h2, h3, _⟩ := run_append_Sl (P := P) (ty := o.type) (c := c) hT hs0 hS hB hle hm h63 hby hbase
    unfold Oper.wp execOp
    simp only [ho, resolve, invoke, builtin, Sem.run_bind, Sem.run_pure, Result.andThen_ok, List.map_toArray, List.map_cons, List.map_nil, hy, hx, hr]
    exact hK _ _ (h v' w' h2 h3)
/-- len, at the walk. -/
theorem run_lenS {t e : TypeId} (ht : P.underlying t = some (.slice e)) {w w0 : World} {base : Nat} {e' : TypeId} {s : Nat} {v : Value} {n : Nat} {f : Nat → Int} (hS : Sl w0 base e' s v n f) (ty : TypeId) :
    (Builtin.len_ #[t] ty #[v]).run P w = .ok (.int .i64 n) w := by
  rcases hS with ⟨rfl, rfl⟩ | ⟨g, cap, F, rfl, _⟩
  · simp [Builtin.len_, run_underlying ht, goInt]
  · simp [Builtin.len_, run_underlying ht, goInt]
theorem wpList_lenS {ops : Array Oper} {rest : List Oper} {o : Oper} {a : Act} {Q : Exit → Act → World → Prop} {t e : TypeId} (ht : P.underlying t = some (.slice e)) (hw : Region.wanted o (yielded ops a.tmps) = true) (x : Operand)
    (ho : o.op = .call { callee := .builtin .len, args := #[x], argTypes := #[t] })
    {w w0 : World} {base : Nat} {e' : TypeId} {s : Nat} {v : Value} {n : Nat} {f : Nat → Int} (hx : a.eval x = v) (hS : Sl w0 base e' s v n f)
    (h : wpList P ops Q rest (a.put o.dst (.int .i64 n)) w) : wpList P ops Q (o :: rest) a w :=
  wpList_step fun K hK => by
    rw [if_pos hw]
    have hr := run_lenS (P := P) ht hS o.type (w := w)
    unfold Oper.wp execOp
    simp only [ho, resolve, invoke, builtin, Sem.run_bind, Sem.run_pure, Result.andThen_ok, List.map_toArray, List.map_cons, List.map_nil, hx, hr]
    exact hK _ _ h
theorem Sl.keep {w w' : World} {base : Nat} {e : TypeId} {s : Nat} {v : Value} {n : Nat} {f : Nat → Int} (h : Sl w base e s v n f) (hb : Below w.heap.size w w') : Sl w' base e s v n f := by
  rcases h with h | ⟨g, cap, F, rfl, h1, h2, h3⟩
  · exact .inl h
  · exact .inr ⟨g, cap, F, rfl, h1, row_keep hb h2, h3⟩
theorem Sl.below {w w' : World} {base K : Nat} {e : TypeId} {s : Nat} {v : Value} {n : Nat} {f : Nat → Int} (h : Sl w base e s v n f) (hb : Below K w w') (hk : w.heap.size ≤ K) : Sl w' base e s v n f := h.keep (hb.mono hk)
theorem Sl.lower {w : World} {base base' : Nat} {e : TypeId} {s : Nat} {v : Value} {n : Nat} {f : Nat → Int} (h : Sl w base e s v n f) (hb : base' ≤ base) : Sl w base' e s v n f := by
  rcases h with h | ⟨g, cap, F, rfl, h1, h2, h3⟩
  · exact .inl h
  · exact .inr ⟨g, cap, F, rfl, by omega, h2, h3⟩
theorem Sl.congr {w : World} {base : Nat} {e : TypeId} {s : Nat} {v : Value} {n n' : Nat} {f f' : Nat → Int} (h : Sl w base e s v n f) (hn : n = n') (hf : ∀ j, j < n * s → f j = f' j) : Sl w base e s v n' f' := by
  subst hn
  rcases h with h | ⟨g, cap, F, rfl, h1, h2, h3, h4, h5⟩
  · exact .inl h
  · exact .inr ⟨g, cap, F, rfl, h1, h2, h3, h4, fun j hj => by rw [h5 j hj, hf j hj]⟩
/-- The block of a slice that has elements. -/
theorem Sl.blk {w : World} {base : Nat} {e : TypeId} {s : Nat} {v : Value} {n : Nat} {f : Nat → Int} (h : Sl w base e s v n f) (hn : 0 < n) :
    ∃ g cap F, v = .slice (some ⟨g, 0, none⟩) n cap ∧ base ≤ g ∧ w.heap[g]? = some (.cells (arr (cap * s) F) e (0, 0)) ∧ n ≤ cap ∧ cap ≤ maxLen ∧ ∀ j, j < n * s → F j = f j := by
  rcases h with h | h
  · omega
  · exact h
/-- What a function returns that hands back such a slice. -/
def RetSl (w : World) (e : TypeId) (s n : Nat) (f : Nat → Int) (x : Ending) (w' : World) : Prop := ∃ v, x = .returned v ∧ Sl w' w.heap.size e s v n f ∧ Below w.heap.size w w'
def RetSlB (w : World) (e : TypeId) (s n : Nat) (f : Nat → Int) (b : Bool) (x : Ending) (w' : World) : Prop := ∃ v, x = .returned (.tuple #[v, .bool b]) ∧ Sl w' w.heap.size e s v n f ∧ Below w.heap.size w w'
/-- A sum or difference that is a small number. -/
theorem wrapN {x : Int} {n : Nat} (h : x = n) (hn : n < 4611686018427387904) : IntKind.i64.wrap x = (n : Int) := by
  rw [IntWalk.i64_in _ (by omega)]; exact h
theorem Cls.b {w0 W : World} {l : List (Nat × Obj)} (h : Cls w0 l W) : Below w0.heap.size w0 W := h.2
theorem Cls.kp {w0 W : World} {l : List (Nat × Obj)} {B : Nat} {o : Obj} (h : Cls w0 l W) (hr : w0.heap[B]? = some o) : W.heap[B]? = some o := row_keep h.2 hr
end Go.Proofs.YtlbgmkengkgnfaaGreat
end

section
/- The list of all renamings: two ways of listing them. -/
namespace Go.Proofs.YtlbgmkengkgnfaaGreat
set_option linter.unusedSimpArgs false
set_option linter.unusedVariables false
set_option maxRecDepth 20000
/-- The elements of a list, one behind the other, s values each. -/
def fls (s : Nat) (L : List (Nat → Int)) : Nat → Int := fun q => L.getD (q / s) (fun _ => 0) (q % s)
theorem fls_at {s : Nat} (L : List (Nat → Int)) {k i : Nat} (hi : i < s) : fls s L (k * s + i) = L.getD k (fun _ => 0) i := by
  unfold fls
  have h1 : (k * s + i) / s = k := by rw [Nat.mul_comm, Nat.mul_add_div (by omega), Nat.div_eq_of_lt hi, Nat.add_zero]
  have h2 : (k * s + i) % s = i := by rw [Nat.mul_comm, Nat.mul_add_mod, Nat.mod_eq_of_lt hi]
  rw [h1, h2]
theorem fls_append {s : Nat} (hs : 0 < s) (L M : List (Nat → Int)) : ∀ j, j < (L ++ M).length * s → app (fls s L) (L.length * s) (fls s M) j = fls s (L ++ M) j := fun j _ => by
  have hm := Nat.mod_lt j hs
  have hd : j / s * s + j % s = j := by rw [Nat.mul_comm]; exact Nat.div_add_mod j s
  unfold app
  by_cases h1 : j < L.length * s
  · rw [if_pos h1]
    have h2 : j / s < L.length := by rw [Nat.div_lt_iff_lt_mul hs]; exact h1
    unfold fls
    rw [List.getD_eq_getElem?_getD, List.getD_eq_getElem?_getD, List.getElem?_append_left h2]
  · rw [if_neg h1]
    have h2 : L.length ≤ j / s := by rw [Nat.le_div_iff_mul_le hs]; omega
    have e : j - L.length * s = (j / s - L.length) * s + j % s := by rw [Nat.sub_mul]; have := Nat.mul_le_mul_right s h2; omega
    rw [e, fls_at _ hm]
    show _ = (L ++ M).getD (j / s) (fun _ => 0) (j % s)
    rw [List.getD_eq_getElem?_getD, List.getD_eq_getElem?_getD, List.getElem?_append_right h2]
theorem fls_snoc {s : Nat} (hs : 0 < s) (L : List (Nat → Int)) (x : Nat → Int) : ∀ j, j < (L.length + 1) * s → app (fls s L) (L.length * s) x j = fls s (L ++ [x]) j := fun j hj => by
  rw [← fls_append hs L [x] j (by simpa using hj)]
  unfold app
  split
  · rfl
  · rename_i h
    have h2 : j - L.length * s < s := by rw [Nat.add_mul] at hj; omega
    have := fls_at (s := s) [x] (k := 0) h2
    rw [Nat.zero_mul, Nat.zero_add] at this
    rw [this]; rfl
/-! ### renamings as lists -/
def dgL (n : Nat) : List Nat := [0, 1 + n / 625 % 5, 1 + n / 125 % 5, 1 + n / 25 % 5, 1 + n / 5 % 5, 1 + n % 5]
def okL (l : List Nat) : Bool := l.getD 0 0 == 0 && disB (l.getD 1 0) (l.getD 2 0) (l.getD 3 0) (l.getD 4 0) (l.getD 5 0)
def nmL : List (List Nat) := ((List.range 3125).map dgL).filter okL
/-- The program's way: numbers that are not there yet, one behind the other. -/
def arL : Nat → List Nat → List (List Nat)
  | 0, own => [own]
  | d + 1, own => (List.range 6).flatMap fun n => if own.contains n then [] else arL d (own ++ [n])
theorem arL_nm : arL 5 [0] = nmL := by decide +kernel
theorem nmL_len : nmL.length = 120 := by decide +kernel
def fnL (l : List Nat) : Nat → Int := fun i => (l.getD i 0 : Nat)
def nmS (n : Nat) : Nat → Int := fnL (nmL.getD n [])
theorem okL_ren {n : Nat} (h : okL (dgL n) = true) : isRen (fnL (dgL n)) := by
  unfold okL dgL disB at h
  simp only [List.getD_cons_zero, List.getD_cons_succ, beq_self_eq_true, Bool.true_and, decide_eq_true_eq] at h
  have h1 := Nat.mod_lt (n / 625) (show 0 < 5 by omega); have h2 := Nat.mod_lt (n / 125) (show 0 < 5 by omega); have h3 := Nat.mod_lt (n / 25) (show 0 < 5 by omega); have h4 := Nat.mod_lt (n / 5) (show 0 < 5 by omega); have h5 := Nat.mod_lt n (show 0 < 5 by omega)
  refine ⟨rfl, fun i hi => ?_, fun i j hi hj e => ?_⟩
  · match i, hi with
    | 0, _ => show 0 ≤ ((0 : Nat) : Int) ∧ ((0 : Nat) : Int) ≤ 5; omega
    | 1, _ => show 0 ≤ ((1 + n / 625 % 5 : Nat) : Int) ∧ ((1 + n / 625 % 5 : Nat) : Int) ≤ 5; omega
    | 2, _ => show 0 ≤ ((1 + n / 125 % 5 : Nat) : Int) ∧ ((1 + n / 125 % 5 : Nat) : Int) ≤ 5; omega
    | 3, _ => show 0 ≤ ((1 + n / 25 % 5 : Nat) : Int) ∧ ((1 + n / 25 % 5 : Nat) : Int) ≤ 5; omega
    | 4, _ => show 0 ≤ ((1 + n / 5 % 5 : Nat) : Int) ∧ ((1 + n / 5 % 5 : Nat) : Int) ≤ 5; omega
    | 5, _ => show 0 ≤ ((1 + n % 5 : Nat) : Int) ∧ ((1 + n % 5 : Nat) : Int) ≤ 5; omega
  · have g0 : fnL (dgL n) 0 = 0 := rfl
    have g1 : fnL (dgL n) 1 = ((1 + n / 625 % 5 : Nat) : Int) := rfl
    have g2 : fnL (dgL n) 2 = ((1 + n / 125 % 5 : Nat) : Int) := rfl
    have g3 : fnL (dgL n) 3 = ((1 + n / 25 % 5 : Nat) : Int) := rfl
    have g4 : fnL (dgL n) 4 = ((1 + n / 5 % 5 : Nat) : Int) := rfl
    have g5 : fnL (dgL n) 5 = ((1 + n % 5 : Nat) : Int) := rfl
    generalize n / 625 % 5 = a at *; generalize n / 125 % 5 = b at *; generalize n / 25 % 5 = c at *; generalize n / 5 % 5 = d at *; generalize n % 5 = x at *
    generalize fnL (dgL n) = F at *
    match i, j, hi, hj with
    | 0, 0, _, _ | 1, 1, _, _ | 2, 2, _, _ | 3, 3, _, _ | 4, 4, _, _ | 5, 5, _, _ => rfl
    | 0, 1, _, _ | 0, 2, _, _ | 0, 3, _, _ | 0, 4, _, _ | 0, 5, _, _ | 1, 0, _, _ | 1, 2, _, _ | 1, 3, _, _ | 1, 4, _, _ | 1, 5, _, _ | 2, 0, _, _ | 2, 1, _, _ | 2, 3, _, _ | 2, 4, _, _ | 2, 5, _, _ | 3, 0, _, _ | 3, 1, _, _ | 3, 2, _, _ | 3, 4, _, _ | 3, 5, _, _ | 4, 0, _, _ | 4, 1, _, _ | 4, 2, _, _ | 4, 3, _, _ | 4, 5, _, _ | 5, 0, _, _ | 5, 1, _, _ | 5, 2, _, _ | 5, 3, _, _ | 5, 4, _, _ => exfalso; omega
theorem ren_dg {s : Nat → Int} (hs : isRen s) : ∃ n, n < 3125 ∧ okL (dgL n) = true ∧ ∀ i, i < 6 → fnL (dgL n) i = s i := by
  have b := hs.2.1
  have d : ∀ i k, i < 6 → k < 6 → i ≠ k → s i ≠ s k := fun i k hi hk hik e => hik (hs.2.2 i k hi hk e)
  have p : ∀ i, 0 < i → i < 6 → ∃ m : Nat, s i = (1 + m : Nat) ∧ m < 5 := fun i h0 hi => by
    have h1 := b i hi
    have h2 := d i 0 hi (by omega) (by omega)
    rw [hs.1] at h2
    exact ⟨(s i - 1).toNat, by omega, by omega⟩
  obtain ⟨m1, e1, l1⟩ := p 1 (by omega) (by omega)
  obtain ⟨m2, e2, l2⟩ := p 2 (by omega) (by omega)
  obtain ⟨m3, e3, l3⟩ := p 3 (by omega) (by omega)
  obtain ⟨m4, e4, l4⟩ := p 4 (by omega) (by omega)
  obtain ⟨m5, e5, l5⟩ := p 5 (by omega) (by omega)
  have q1 : (m1 * 625 + m2 * 125 + m3 * 25 + m4 * 5 + m5) / 625 % 5 = m1 := by omega
  have q2 : (m1 * 625 + m2 * 125 + m3 * 25 + m4 * 5 + m5) / 125 % 5 = m2 := by omega
  have q3 : (m1 * 625 + m2 * 125 + m3 * 25 + m4 * 5 + m5) / 25 % 5 = m3 := by omega
  have q4 : (m1 * 625 + m2 * 125 + m3 * 25 + m4 * 5 + m5) / 5 % 5 = m4 := by omega
  have q5 : (m1 * 625 + m2 * 125 + m3 * 25 + m4 * 5 + m5) % 5 = m5 := by omega
  have f12 := d 1 2 (by omega) (by omega) (by omega); have f13 := d 1 3 (by omega) (by omega) (by omega); have f14 := d 1 4 (by omega) (by omega) (by omega); have f15 := d 1 5 (by omega) (by omega) (by omega)
  have f23 := d 2 3 (by omega) (by omega) (by omega); have f24 := d 2 4 (by omega) (by omega) (by omega); have f25 := d 2 5 (by omega) (by omega) (by omega)
  have f34 := d 3 4 (by omega) (by omega) (by omega); have f35 := d 3 5 (by omega) (by omega) (by omega); have f45 := d 4 5 (by omega) (by omega) (by omega)
  refine ⟨m1 * 625 + m2 * 125 + m3 * 25 + m4 * 5 + m5, by omega, ?_, fun i hi => ?_⟩
  · unfold okL dgL disB
    rw [q1, q2, q3, q4, q5]
    simp only [List.getD_cons_zero, List.getD_cons_succ, beq_self_eq_true, Bool.true_and, decide_eq_true_eq]
    rw [e1, e2] at f12; rw [e1, e3] at f13; rw [e1, e4] at f14; rw [e1, e5] at f15; rw [e2, e3] at f23; rw [e2, e4] at f24; rw [e2, e5] at f25; rw [e3, e4] at f34; rw [e3, e5] at f35; rw [e4, e5] at f45
    refine ⟨?_, ?_, ?_, ?_, ?_, ?_, ?_, ?_, ?_, ?_, ?_, ?_, ?_, ?_, ?_⟩ <;> omega
  · unfold fnL dgL
    rw [q1, q2, q3, q4, q5]
    match i, hi with
    | 0, _ => rw [hs.1]; rfl
    | 1, _ => rw [e1]; rfl
    | 2, _ => rw [e2]; rfl
    | 3, _ => rw [e3]; rfl
    | 4, _ => rw [e4]; rfl
    | 5, _ => rw [e5]; rfl
theorem nmS_all : allR nmS 120 := by
  refine ⟨fun n hn => ?_, fun s hs => ?_⟩
  · have hl : n < nmL.length := by rw [nmL_len]; exact hn
    have hm : nmL[n] ∈ nmL := List.getElem_mem hl
    have e : nmS n = fnL nmL[n] := by
      unfold nmS
      rw [List.getD_eq_getElem?_getD, List.getElem?_eq_getElem hl]; rfl
    rw [e]
    generalize nmL[n] = x at hm
    unfold nmL at hm
    rw [List.mem_filter, List.mem_map] at hm
    obtain ⟨⟨m, _, rfl⟩, hok⟩ := hm
    exact okL_ren hok
  · obtain ⟨m, hm, hok, h⟩ := ren_dg hs
    have hx : dgL m ∈ nmL := by
      unfold nmL
      rw [List.mem_filter, List.mem_map]
      exact ⟨⟨m, List.mem_range.2 hm, rfl⟩, hok⟩
    obtain ⟨n, hn, e⟩ := List.getElem_of_mem hx
    refine ⟨n, by rw [← nmL_len]; exact hn, fun i hi => ?_⟩
    rw [← h i hi, ← e]
    unfold nmS
    rw [List.getD_eq_getElem?_getD, List.getElem?_eq_getElem hn]; rfl
end Go.Proofs.YtlbgmkengkgnfaaGreat
end

section
/- Reading an element of an array value; counting. -/
namespace Go.Proofs.YtlbgmkengkgnfaaGreat
set_option linter.unusedSimpArgs false
set_option linter.unusedVariables false
set_option maxRecDepth 20000
open Go.RowKit
variable {P : Program}
theorem extract_arr (N a m : Nat) (g : Nat → Int) (h : a + m ≤ N) : (arr N g).extract a (a + m) = arr m fun j => g (a + j) := by
  refine Array.ext_getElem? fun i => ?_
  rw [arr_get]
  by_cases hi : i < m
  · rw [if_pos hi, Array.getElem?_extract_of_lt (by rw [arr_size]; omega)]
    have := arr_get N g (a + i)
    rw [if_pos (by omega)] at this
    rw [← this, Array.getElem?_eq_getElem (by rw [arr_size]; omega)]
  · rw [if_neg hi, Array.getElem?_eq_none (by simp [arr_size]; omega)]
/-- An element of an array, itself an array. -/
theorem wpList_indexA {ops : Array Oper} {rest : List Oper} {o : Oper} {a : Act} {w : World} {Q : Exit → Act → World → Prop} (hw : Region.wanted o (yielded ops a.tmps) = true) (ty : TypeId) (x y : Operand) (ho : o.op = .index ty x y)
    {N : Nat} {g : Nat → Int} (hx : a.eval x = .agg (arr N g)) {k : Nat} (hy : a.eval y = .int .i64 k) (n : Nat) (e : TypeId) (hu : P.underlying ty = some (.array n e)) (m : Nat) (hd : aggB P e = true)
    (hi : (P.info? e).map (·.size) = some m) (hk : k < n) (hN : n * m = N) (h : wpList P ops Q rest (a.put o.dst (.agg (arr m fun j => g (k * m + j)))) w) : wpList P ops Q (o :: rest) a w :=
  wpList_step fun K hK => by
    rw [if_pos hw]
    have hle : k * m + m ≤ N := by
      have : (k + 1) * m ≤ n * m := Nat.mul_le_mul_right m hk
      rw [Nat.add_mul] at this
      omega
    have hr : (Instr.index ty (.agg (arr N g)) (.int .i64 k)).run P w = .ok (.agg (arr m fun j => g (k * m + j))) w := by
      cases hq : P.info? e with
      | none => simp [hq] at hi
      | some i =>
        have hs : i.size = m := by simpa [hq] using hi
        have hk2 : (k : Int) < (n : Int) := by omega
        simp [Instr.index, asIntOf, Sem.run_bind, run_underlying hu, part, run_isAgg hd, sizeOf, typeInfo, hq, hs, hk, extract_arr N (k * m) m g hle]
    unfold Oper.wp execOp
    simp only [ho, hx, hy, Sem.run_bind, hr, Result.andThen_ok, Sem.run_pure]
    exact hK _ _ h
theorem wpList_indexI {ops : Array Oper} {rest : List Oper} {o : Oper} {a : Act} {w : World} {Q : Exit → Act → World → Prop} (hw : Region.wanted o (yielded ops a.tmps) = true) (ty : TypeId) (x y : Operand) (ho : o.op = .index ty x y)
    {N : Nat} {g : Nat → Int} (hx : a.eval x = .agg (arr N g)) {k : Nat} (hy : a.eval y = .int .i64 k) (e : TypeId) (hu : P.underlying ty = some (.array N e)) (hd : aggB P e = false) (hue : (P.underlying e).isSome = true)
    (hi : (P.info? e).map (·.size) = some 1) (hk : k < N) (h : wpList P ops Q rest (a.put o.dst (.int .i64 (g k))) w) : wpList P ops Q (o :: rest) a w :=
  wpList_step fun K hK => by
    rw [if_pos hw]
    have hagg : (isAgg e).run P w = .ok false w := by
      unfold aggB at hd
      unfold isAgg
      cases hq : P.underlying e with
      | none => simp [hq] at hue
      | some d =>
        rw [Sem.run_bind, run_underlying hq w]
        cases d <;> simp_all
    have hg := arr_get N g k
    rw [if_pos hk] at hg
    have hr : (Instr.index ty (.agg (arr N g)) (.int .i64 k)).run P w = .ok (.int .i64 (g k)) w := by
      cases hq : P.info? e with
      | none => simp [hq] at hi
      | some i =>
        have hs : i.size = 1 := by simpa [hq] using hi
        simp [Instr.index, asIntOf, Sem.run_bind, run_underlying hu, part, hagg, sizeOf, typeInfo, hq, hs, hk, hg]
    unfold Oper.wp execOp
    simp only [ho, hx, hy, Sem.run_bind, hr, Result.andThen_ok, Sem.run_pure]
    exact hK _ _ h

/-- How often each number has come among the first k. -/
def tally (q : Nat → Int) : Nat → (Nat → Int)
  | 0 => fun _ => 0
  | k + 1 => upd (tally q k) (q k).toNat (tally q k (q k).toNat + 1)
theorem tally_succ (q : Nat → Int) (k : Nat) : tally q (k + 1) = upd (tally q k) (q k).toNat (tally q k (q k).toNat + 1) := rfl
theorem tally_bd (q : Nat → Int) (k : Nat) : ∀ j, 0 ≤ tally q k j ∧ tally q k j ≤ k := by
  induction k with
  | zero => intro j; simp [tally]
  | succ k ih =>
    intro j
    unfold tally upd
    have h1 := ih (q k).toNat
    have h2 := ih j
    split <;> (push_cast; omega)
end Go.Proofs.YtlbgmkengkgnfaaGreat
end

section
/- Comparing rows of six ints. -/
namespace Go.Proofs.YtlbgmkengkgnfaaGreat
set_option linter.unusedSimpArgs false
set_option linter.unusedVariables false
set_option maxRecDepth 20000
open Go.RowKit
end Go.Proofs.YtlbgmkengkgnfaaGreat
end

section
/- Rows of six: the laws' own copying (lines of ConvV). -/
namespace Go.Proofs.YtlbgmkengkgnfaaGreat
set_option linter.unusedSimpArgs false
set_option linter.unusedVariables false
set_option maxRecDepth 20000
open Go.RowKit
theorem zero6 : ((Tryz.prog.info? 28).bind (·.zero)).map (·.cells) = some (arr 6 fun _ => 0) := by kernel_rfl
theorem zbuild6 : Tryz.prog.built 28 [] = some (arr 6 fun _ => 0) := by kernel_rfl
theorem size6 : (Tryz.prog.info? 28).map (·.size) = some 6 := by kernel_rfl
theorem agg6 : aggB Tryz.prog 28 = true := by kernel_rfl
end Go.Proofs.YtlbgmkengkgnfaaGreat
end

section
/- Runs of a tube, as functions of its layers. -/
namespace Go.Proofs.YtlbgmkengkgnfaaGreat
set_option linter.unusedSimpArgs false
set_option linter.unusedVariables false
set_option maxRecDepth 20000
/-- How many runs the first k layers have. -/
def rN (g : Nat → Int) : Nat → Nat
  | 0 => 0
  | k + 1 => if 0 < k ∧ g k = g (k - 1) then rN g k else rN g k + 1
/-- The runs themselves: colour and length, one behind the other. -/
def rF (g : Nat → Int) : Nat → (Nat → Int)
  | 0 => fun _ => 0
  | k + 1 => if 0 < k ∧ g k = g (k - 1) then upd (rF g k) ((rN g k - 1) * 2 + 1) (rF g k ((rN g k - 1) * 2 + 1) + 1) else app (rF g k) (rN g k * 2) (fun j => if j = 0 then g k else 1)
theorem rN_le (g : Nat → Int) : ∀ k, rN g k ≤ k
  | 0 => by simp [rN]
  | k + 1 => by have := rN_le g k; unfold rN; split <;> omega
theorem rN_pos (g : Nat → Int) : ∀ k, 0 < k → 0 < rN g k
  | k + 1, _ => by
    unfold rN
    split
    · rename_i h; exact rN_pos g k h.1
    · omega
theorem rN_yes {g : Nat → Int} {k : Nat} (h0 : 0 < k) (h : g k = g (k - 1)) : rN g (k + 1) = rN g k ∧ rF g (k + 1) = upd (rF g k) ((rN g k - 1) * 2 + 1) (rF g k ((rN g k - 1) * 2 + 1) + 1) := by
  constructor
  · rw [rN, if_pos ⟨h0, h⟩]
  · rw [rF, if_pos ⟨h0, h⟩]
theorem rN_no {g : Nat → Int} {k : Nat} (h : ¬ (0 < k ∧ g k = g (k - 1))) : rN g (k + 1) = rN g k + 1 ∧ rF g (k + 1) = app (rF g k) (rN g k * 2) (fun j => if j = 0 then g k else 1) := by
  constructor
  · rw [rN, if_neg h]
  · rw [rF, if_neg h]
theorem rF_last (g : Nat → Int) : ∀ k, 0 < k → rF g k ((rN g k - 1) * 2) = g (k - 1)
  | k + 1, _ => by
    by_cases h : 0 < k ∧ g k = g (k - 1)
    · obtain ⟨h1, h2⟩ := rN_yes h.1 h.2
      rw [h1, h2]
      unfold upd
      rw [if_neg (by omega), rF_last g k h.1, ← h.2]; rfl
    · obtain ⟨h1, h2⟩ := rN_no h
      rw [h1, h2]
      unfold app
      rw [if_neg (by omega)]
      show (if (rN g k + 1 - 1) * 2 - rN g k * 2 = 0 then g k else 1) = _
      rw [if_pos (by omega)]; rfl
/-- The length of the uppermost run. -/
def rT (g : Nat → Int) (k : Nat) : Int := rF g k ((rN g k - 1) * 2 + 1)
theorem rT_yes {g : Nat → Int} {k : Nat} (h0 : 0 < k) (h : g k = g (k - 1)) : rT g (k + 1) = rT g k + 1 := by
  obtain ⟨h1, h2⟩ := rN_yes h0 h
  unfold rT
  rw [h1, h2]
  unfold upd
  rw [if_pos rfl]
theorem rT_no {g : Nat → Int} {k : Nat} (h : ¬ (0 < k ∧ g k = g (k - 1))) : rT g (k + 1) = 1 := by
  obtain ⟨h1, h2⟩ := rN_no h
  unfold rT
  rw [h1, h2]
  unfold app
  rw [if_neg (by omega)]
  show (if (rN g k + 1 - 1) * 2 + 1 - rN g k * 2 = 0 then g k else 1) = _
  rw [if_neg (by omega)]
/-- What the uppermost run is. -/
theorem rT_spec (g : Nat → Int) : ∀ k, 0 < k → ∃ R : Nat, rT g k = R ∧ 1 ≤ R ∧ R ≤ k ∧ (∀ j, j < R → g (k - 1 - j) = g (k - 1)) ∧ (R = k ∨ g (k - 1 - R) ≠ g (k - 1))
  | k + 1, _ => by
    by_cases h : 0 < k ∧ g k = g (k - 1)
    · obtain ⟨R, h1, h2, h3, h4, h5⟩ := rT_spec g k h.1
      refine ⟨R + 1, by rw [rT_yes h.1 h.2, h1]; rfl, by omega, by omega, fun j hj => ?_, ?_⟩
      · cases j with
        | zero => rfl
        | succ j =>
          rw [show k + 1 - 1 - (j + 1) = k - 1 - j by omega, h4 j (by omega), ← h.2]
          rfl
      · rcases h5 with h5 | h5
        · left; omega
        · right
          rw [show k + 1 - 1 - (R + 1) = k - 1 - R by omega, show k + 1 - 1 = k by omega, h.2]
          exact h5
    · refine ⟨1, rT_no h, by omega, by omega, fun j hj => by rw [show j = 0 by omega]; rfl, ?_⟩
      by_cases hk : k = 0
      · left; omega
      · right
        intro h2
        exact h ⟨by omega, by rw [show k + 1 - 1 - 1 = k - 1 by omega, show k + 1 - 1 = k by omega] at h2; exact h2.symm⟩
/-- Bounds of the runs' lengths. -/
theorem rF_bd (g : Nat → Int) : ∀ k r, r < rN g k → 1 ≤ rF g k (r * 2 + 1) ∧ rF g k (r * 2 + 1) ≤ k
  | 0, r, h => by simp [rN] at h
  | k + 1, r, h => by
    by_cases hm : 0 < k ∧ g k = g (k - 1)
    · obtain ⟨h1, h2⟩ := rN_yes hm.1 hm.2
      rw [h1] at h
      rw [h2]
      have ih := rF_bd g k r h
      unfold upd
      split
      · rename_i e
        have : r = rN g k - 1 := by omega
        rw [← this]
        push_cast; omega
      · push_cast; omega
    · obtain ⟨h1, h2⟩ := rN_no hm
      rw [h1] at h
      rw [h2]
      unfold app
      by_cases hr : r < rN g k
      · have ih := rF_bd g k r hr
        rw [if_pos (by omega)]
        push_cast; omega
      · rw [if_neg (by omega)]
        show 1 ≤ (if r * 2 + 1 - rN g k * 2 = 0 then g k else 1) ∧ (if r * 2 + 1 - rN g k * 2 = 0 then g k else 1) ≤ ((k + 1 : Nat) : Int)
        rw [if_neg (by omega)]
        exact ⟨Int.le_refl _, by omega⟩
/-- The colour of the top of a tube and its length. -/
def tpF (g : Nat → Int) : Int × Int := if nlay g = 0 then (0, 0) else (g (nlay g - 1), rT g (nlay g))
theorem tpF_zero {g : Nat → Int} (h : nlay g = 0) : tpF g = (0, 0) := if_pos h
theorem tpF_pos {g : Nat → Int} (h : 0 < nlay g) : tpF g = (g (nlay g - 1), rT g (nlay g)) := if_neg (by omega)
end Go.Proofs.YtlbgmkengkgnfaaGreat
end

section
/- Runs of a tube: the reference's and the program's. -/
namespace Go.Proofs.YtlbgmkengkgnfaaGreat
set_option linter.unusedSimpArgs false
set_option linter.unusedVariables false
set_option maxRecDepth 20000
open Go.RowKit
theorem slP : SlOK Tryz.prog 77 79 2 16 := ⟨by kernel_rfl, by kernel_rfl, by kernel_rfl⟩
theorem pairS : (Tryz.prog.info? 79).map (·.size) = some 2 := by kernel_rfl
theorem pairA : aggB Tryz.prog 79 = true := by kernel_rfl
theorem arr_none (f : Nat → Int) : #[] = arr 0 f := by
  refine Array.ext_getElem? fun i => ?_
  rw [arr_get, if_neg (by omega)]; rfl
theorem Sl.made {w : World} {base : Nat} {e : TypeId} {s : Nat} {f : Nat → Int} (h : base ≤ w.heap.size) : Sl (w.alloc (.cells #[] e)) base e s (.slice (some ⟨w.heap.size, 0, none⟩) 0 0) 0 f :=
  .inr ⟨w.heap.size, 0, fun _ => 0, rfl, h, by rw [arr_none fun _ => 0, Nat.zero_mul]; exact heap_new rfl, Nat.le_refl _, Nat.zero_le _, fun j hj => by omega⟩
theorem Sl.nil {w : World} {base : Nat} {e : TypeId} {s : Nat} {f : Nat → Int} : Sl w base e s (.slice none 0 0) 0 f := .inl ⟨rfl, rfl⟩
theorem nlay_pos {g : Nat → Int} (h : tubeB g = true) : ∀ k, k < nlay g → 1 ≤ g k ∧ g k ≤ 5 := fun k hk => by
  have e := tubeB_layers g
  rw [h, Bool.and_eq_true, List.all_eq_true] at e
  have := e.1 k (List.mem_range.2 hk)
  simpa using this
end Go.Proofs.YtlbgmkengkgnfaaGreat
end

section
/- The top of a tube; whether one can pour. -/
namespace Go.Proofs.YtlbgmkengkgnfaaGreat
set_option linter.unusedSimpArgs false
set_option linter.unusedVariables false
set_option maxRecDepth 20000
open Go.RowKit
theorem zeroP : ((Tryz.prog.info? 79).bind (·.zero)).map (·.cells) = some (arr 2 fun _ => 0) := by kernel_rfl
theorem tpF_eq {g : Nat → Int} {m : Nat} {F : Nat → Int} (h0 : 0 < nlay g) (hm : rN g (nlay g) = m + 1) (hF : ∀ j, j < (m + 1) * 2 → F j = rF g (nlay g) j) : F (m * 2) = (tpF g).1 ∧ F (m * 2 + 1) = (tpF g).2 := by
  rw [tpF_pos h0]
  have hl := rF_last g (nlay g) h0
  rw [hm, Nat.add_sub_cancel] at hl
  refine ⟨by rw [hF _ (by omega), hl], ?_⟩
  show _ = rT g (nlay g)
  unfold rT
  rw [hF _ (by omega), hm, Nat.add_sub_cancel]
theorem l2Top_any (g : Nat → Int) (hg : tubeB g = true) (w : World) : Calls Tryz.prog 81 #[.agg (arr 4 g)] w fun e w' => e = .returned (.tuple #[.int .i64 (tpF g).1, .int .i64 (tpF g).2]) ∧ Below w.heap.size w w' := by
  have h1 : (w.alloc (.cells (arr 4 g) 24)).heap[w.heap.size]? = some (.cells (arr 4 g) 24 (0, 0))   := heap_new rfl
  have hbel : Below w.heap.size w (w.alloc (.cells (arr 4 g) 24)) := (Below.refl _ _).alloc (by simp) _
  by_cases h0 : nlay g = 0
  · rw [tpF_zero h0]
    have HZ : Hid _ := h0
    clear h0
    go_enter Tryz.func81, Tryz.ntmps81
    go_wp2_with first
      | (with_reducible refine wpList_loadW rfl _ _ rfl _ rfl h1 agg4 size4 ?_)
      | (go_at_call 82; (with_reducible refine (l2Many_ok g hg _).mono ?_); rw [HZ.out]; rintro e w1 ⟨rfl, hb1⟩; replace hbel := hbel.trans (hb1.mono hbel.size); replace h1 := row_keep hb1 h1; clear hb1)
    go_ret2
    exact ⟨rfl, hbel⟩
  · obtain ⟨R, r1, r2, r3, r4, r5⟩ := rT_spec g (nlay g) (by omega)
    obtain ⟨N, hN⟩ : ∃ N, nlay g = N := ⟨_, rfl⟩
    have hn4 := nlay_le g
    rw [tpF_pos (by omega)]
    rw [hN] at r1 r3 r4 r5 hn4 h0 ⊢
    rw [r1]
    have HN : Hid _ := hN
    have hN1 : 0 < N := by omega
    have hN2 : ((N : Int) == 0) = false := by simpa using h0
    have H4 : Hid _ := r4
    have H5 : Hid _ := r5
    clear hN r1 r4 r5 h0
    go_enter Tryz.func81, Tryz.ntmps81
    go_wp2_with first
      | (with_reducible refine wpList_loadW rfl _ _ rfl _ rfl h1 agg4 size4 ?_)
      | (go_at_call 82; (with_reducible refine (l2Many_ok g hg _).mono ?_); rw [HN.out]; rintro e w1 ⟨rfl, hb1⟩; replace hbel := hbel.trans (hb1.mono hbel.size); replace h1 := row_keep hb1 h1; clear hb1)
    clear hN2
    go_loopw [5] (fun i wr => ∃ r : Nat, r ≤ R ∧ i = .int .i64 r ∧ wr.heap[w.heap.size]? = some (.cells (arr 4 g) 24 (0, 0)) ∧ Below w.heap.size w wr) (fun i _ => R - (intOf i).toNat)
    case atStart => exact ⟨0, by omega, rfl, h1, hbel⟩
    case round =>
      clear h1 hbel
      obtain ⟨r, hr, rfl, h1, hbel⟩ := hrel
      have hd := Nat.lt_or_ge r N
      by_cases hc : r < N
      · have hcd : decide (r < N) = true := by simpa using hc
        have i1 : ((N - 1 - r : Nat) : Int) < 4 := by omega
        have i2 : ((N - 1 : Nat) : Int) < 4 := by omega
        have hw1 : IntKind.i64.wrap ((N : Int) - 1) = ((N - 1 : Nat) : Int) := wrapN (by omega) (by omega)
        have hw2 : IntKind.i64.wrap (((N - 1 : Nat) : Int) - (r : Int)) = ((N - 1 - r : Nat) : Int) := by clear hw1; exact wrapN (by omega) (by omega)
        have k1 : N - 1 - r < 4 := by clear hw1 hw2; omega
        have k2 : N - 1 < 4 := by clear hw1 hw2; omega
        clear hd hc
        by_cases hR : r < R
        · have he := H4.out r hR
          have hed : (g (N - 1 - r) == g (N - 1)) = true := by simpa using he
          clear he
          go_wp2_with fail
          refine wp_region_held 16 (Cls wr []) (by kernel_rfl) (by kernel_rfl) (Cls.zero (Below.refl _ _)) ?_; simp only [List.take_succ_cons, List.take_zero, List.drop_succ_cons, List.drop_zero]
          repeat (first
            | (with_reducible refine wpQuiet_loadI rfl _ _ rfl _ _ rfl (fun _ h => h.kp h1) aggI undI k1 ?_)
            | (with_reducible refine wpQuiet_loadI rfl _ _ rfl _ _ rfl (fun _ h => h.kp h1) aggI undI k2 ?_)
            | ((with_reducible refine wpQuiet_step (fun K hK => ?_)); go_simp; (first | (refine ⟨_, fun _ _ => rfl, hK _ ?_⟩) | (refine ⟨_, fun _ _ => ⟨rfl, rfl⟩, hK _ ?_⟩) | (refine hK _ ?_)); clear hK K))
          refine wpQuiet_nil ?_; intro wt hCt; replace hCt := hCt.2; replace hbel := hbel.trans (hCt.mono hbel.size); replace h1 := row_keep hCt h1; clear hCt
          clear hw1 hw2
          go_wp2_with fail
          go_roundw
          case rel => exact ⟨r + 1, by omega, by go_num, h1, hbel⟩
          case measure => simp [intOf]; omega
        · obtain rfl : r = R := by clear hw1 hw2; omega
          have hed : (g (N - 1 - r) == g (N - 1)) = false := by
            rcases H5.out with h | h
            · exfalso; clear hw1 hw2; simp at hcd; omega
            · simpa using h
          go_wp2_with fail
          refine wp_region_held 16 (Cls wr []) (by kernel_rfl) (by kernel_rfl) (Cls.zero (Below.refl _ _)) ?_; simp only [List.take_succ_cons, List.take_zero, List.drop_succ_cons, List.drop_zero]
          repeat (first
            | (with_reducible refine wpQuiet_loadI rfl _ _ rfl _ _ rfl (fun _ h => h.kp h1) aggI undI k1 ?_)
            | (with_reducible refine wpQuiet_loadI rfl _ _ rfl _ _ rfl (fun _ h => h.kp h1) aggI undI k2 ?_)
            | ((with_reducible refine wpQuiet_step (fun K hK => ?_)); go_simp; (first | (refine ⟨_, fun _ _ => rfl, hK _ ?_⟩) | (refine ⟨_, fun _ _ => ⟨rfl, rfl⟩, hK _ ?_⟩) | (refine hK _ ?_)); clear hK K))
          refine wpQuiet_nil ?_; intro wt hCt; replace hCt := hCt.2; replace hbel := hbel.trans (hCt.mono hbel.size); replace h1 := row_keep hCt h1; clear hCt
          clear hw1 hw2
          go_wp2_with first
            | (with_reducible refine wpList_loadI rfl _ _ rfl _ _ rfl h1 aggI undI k2 ?_)
          go_ret2
          exact ⟨rfl, hbel⟩
      · have hcd : decide (r < N) = false := by simpa using hc
        obtain rfl : r = R := by omega
        have k2 : N - 1 < 4 := by omega
        have i2 : ((N - 1 : Nat) : Int) < 4 := by omega
        have hrN : ¬ ((r : Int) < (N : Int)) := by omega
        clear hd
        go_wp2_with fail
        refine wp_region_held 16 (Cls wr []) (by kernel_rfl) (by kernel_rfl) (Cls.zero (Below.refl _ _)) ?_; simp only [List.take_succ_cons, List.take_zero, List.drop_succ_cons, List.drop_zero]
        repeat (first
          | (with_reducible refine wpQuiet_loadI rfl _ _ rfl _ _ rfl (fun _ h => h.kp h1) aggI undI k2 ?_)
          | ((with_reducible refine wpQuiet_step (fun K hK => ?_)); go_simp; (first | (refine ⟨_, fun _ _ => rfl, hK _ ?_⟩) | (refine ⟨_, fun _ _ => ⟨rfl, rfl⟩, hK _ ?_⟩) | (refine hK _ ?_)); clear hK K))
        refine wpQuiet_nil ?_; intro wt hCt; replace hCt := hCt.2; replace hbel := hbel.trans (hCt.mono hbel.size); replace h1 := row_keep hCt h1; clear hCt
        go_wp2_with first
          | (with_reducible refine wpList_loadI rfl _ _ rfl _ _ rfl h1 aggI undI k2 ?_)
        go_ret2
        exact ⟨rfl, hbel⟩
end Go.Proofs.YtlbgmkengkgnfaaGreat
end

section
/- Whether one can pour: the program's and the reference's, and the law. -/
namespace Go.Proofs.YtlbgmkengkgnfaaGreat
set_option linter.unusedSimpArgs false
set_option linter.unusedVariables false
set_option maxRecDepth 20000
open Go.RowKit
theorem tpF_sign {g : Nat → Int} (hg : tubeB g = true) : (0 < (tpF g).1 ↔ 0 < nlay g) ∧ (0 < (tpF g).2 ↔ 0 < nlay g) ∧ 0 ≤ (tpF g).1 ∧ (tpF g).1 ≤ 5 ∧ 0 ≤ (tpF g).2 ∧ (tpF g).2 ≤ nlay g := by
  by_cases h0 : nlay g = 0
  · rw [tpF_zero h0, h0]; simp
  · have h1 := nlay_pos hg (nlay g - 1) (by omega)
    obtain ⟨R, r1, r2, r3, _⟩ := rT_spec g (nlay g) (by omega)
    rw [tpF_pos (by omega)]
    show (0 < g (nlay g - 1) ↔ _) ∧ (0 < rT g (nlay g) ↔ _) ∧ 0 ≤ g (nlay g - 1) ∧ g (nlay g - 1) ≤ 5 ∧ 0 ≤ rT g (nlay g) ∧ rT g (nlay g) ≤ _
    rw [r1]
    omega
def canF (f : Nat → Int) (i k : Nat) : Bool := decide (i ≠ k ∧ 0 < nlay (tub f i) ∧ nlay (tub f k) < 4 ∧ ((tpF (tub f k)).1 = 0 ∨ (tpF (tub f k)).1 = (tpF (tub f i)).1))
theorem tub_eq (f : Nat → Int) (i : Nat) : (fun j => f (i * 4 + j)) = tub f i := rfl
theorem l2Can_any (f : Nat → Int) (hf : rackB f = true) (n m : Nat) (hn : n ≤ 5) (hm : m ≤ 5) (w : World) : Calls Tryz.prog 80 #[.agg (arr 24 f), .int .i64 n, .int .i64 m] w fun e w' => e = .returned (.bool (canF f n m)) ∧ Below w.heap.size w w' := by
  have h1 : (w.alloc (.cells (arr 24 f) 27)).heap[w.heap.size]? = some (.cells (arr 24 f) 27 (0, 0))   := heap_new rfl
  have hbel : Below w.heap.size w (w.alloc (.cells (arr 24 f) 27)) := (Below.refl _ _).alloc (by simp) _
  have t1 := tube_of_rack hf hn
  have t2 := tube_of_rack hf hm
  have HT1 : Hid _ := tpF_sign t1
  have HT2 : Hid _ := tpF_sign t2
  have n1 : (n : Int) < 6 := by omega
  have n2 : (m : Int) < 6 := by omega
  by_cases hne : n = m
  · have hq : ((n : Int) != (m : Int)) = false := by simp [hne]
    go_enter Tryz.func80, Tryz.ntmps80
    go_wp2_with first
      | (with_reducible refine wpList_loadAG rfl _ _ rfl _ _ rfl h1 4 agg4 size4 (by omega) ?_)
      | (go_at_call 81; (with_reducible refine (l2Top_any (tub f n) t1 _).mono ?_); rintro e w1 ⟨rfl, hb1⟩; replace hbel := hbel.trans (hb1.mono hbel.size); replace h1 := row_keep hb1 h1; clear hb1)
      | (go_at_call 81; (with_reducible refine (l2Top_any (tub f m) t2 _).mono ?_); rintro e w1 ⟨rfl, hb1⟩; replace hbel := hbel.trans (hb1.mono hbel.size); replace h1 := row_keep hb1 h1; clear hb1)
      | (go_at_call 82; (with_reducible refine (l2Many_ok (tub f m) t2 _).mono ?_); rintro e w1 ⟨rfl, hb1⟩; replace hbel := hbel.trans (hb1.mono hbel.size); replace h1 := row_keep hb1 h1; clear hb1)
    all_goals
      go_ret
      refine ⟨ret_bool ?_, hbel⟩
      have e1 := HT1.out
      have e2 := HT2.out
      unfold canF
      first
        | exact (decide_eq_true (by omega)).symm
        | exact (decide_eq_false (by omega)).symm
        | (rw [Bool.eq_iff_iff]; simp only [Bool.or_eq_true, beq_iff_eq, decide_eq_true_eq]; omega)
  · have hq : ((n : Int) != (m : Int)) = true := by simp; omega
    by_cases hp : 0 < (tpF (tub f n)).2
    · have hpd : decide (0 < (tpF (tub f n)).2) = true := decide_eq_true hp
      go_enter Tryz.func80, Tryz.ntmps80
      go_wp2_with first
        | (with_reducible refine wpList_loadAG rfl _ _ rfl _ _ rfl h1 4 agg4 size4 (by omega) ?_)
        | (go_at_call 81; (with_reducible refine (l2Top_any (tub f n) t1 _).mono ?_); rintro e w1 ⟨rfl, hb1⟩; replace hbel := hbel.trans (hb1.mono hbel.size); replace h1 := row_keep hb1 h1; clear hb1)
        | (go_at_call 81; (with_reducible refine (l2Top_any (tub f m) t2 _).mono ?_); rintro e w1 ⟨rfl, hb1⟩; replace hbel := hbel.trans (hb1.mono hbel.size); replace h1 := row_keep hb1 h1; clear hb1)
        | (go_at_call 82; (with_reducible refine (l2Many_ok (tub f m) t2 _).mono ?_); rintro e w1 ⟨rfl, hb1⟩; replace hbel := hbel.trans (hb1.mono hbel.size); replace h1 := row_keep hb1 h1; clear hb1)
      all_goals
        go_ret
        refine ⟨ret_bool ?_, hbel⟩
        have e1 := HT1.out
        have e2 := HT2.out
        unfold canF
        first
          | exact (decide_eq_true (by omega)).symm
          | exact (decide_eq_false (by omega)).symm
          | (rw [Bool.eq_iff_iff]; simp only [Bool.or_eq_true, beq_iff_eq, decide_eq_true_eq]; omega)
    · have hpd : decide (0 < (tpF (tub f n)).2) = false := decide_eq_false hp
      go_enter Tryz.func80, Tryz.ntmps80
      go_wp2_with first
        | (with_reducible refine wpList_loadAG rfl _ _ rfl _ _ rfl h1 4 agg4 size4 (by omega) ?_)
        | (go_at_call 81; (with_reducible refine (l2Top_any (tub f n) t1 _).mono ?_); rintro e w1 ⟨rfl, hb1⟩; replace hbel := hbel.trans (hb1.mono hbel.size); replace h1 := row_keep hb1 h1; clear hb1)
        | (go_at_call 81; (with_reducible refine (l2Top_any (tub f m) t2 _).mono ?_); rintro e w1 ⟨rfl, hb1⟩; replace hbel := hbel.trans (hb1.mono hbel.size); replace h1 := row_keep hb1 h1; clear hb1)
        | (go_at_call 82; (with_reducible refine (l2Many_ok (tub f m) t2 _).mono ?_); rintro e w1 ⟨rfl, hb1⟩; replace hbel := hbel.trans (hb1.mono hbel.size); replace h1 := row_keep hb1 h1; clear hb1)
      all_goals
        go_ret
        refine ⟨ret_bool ?_, hbel⟩
        have e1 := HT1.out
        have e2 := HT2.out
        unfold canF
        first
          | exact (decide_eq_true (by omega)).symm
          | exact (decide_eq_false (by omega)).symm
          | (rw [Bool.eq_iff_iff]; simp only [Bool.or_eq_true, beq_iff_eq, decide_eq_true_eq]; omega)
/-! ### the laws -/
def canR (f : Nat → Int) (i k : Int) : Bool × Bool := if rackB f = true ∧ (0 ≤ i ∧ i ≤ 5) ∧ (0 ≤ k ∧ k ≤ 5) ∧ ¬ i = k then (canF f i.toNat k.toNat, true) else (false, false)
theorem canR_bad {f : Nat → Int} {i k : Int} (h : ¬ (rackB f = true ∧ (0 ≤ i ∧ i ≤ 5) ∧ (0 ≤ k ∧ k ≤ 5) ∧ ¬ i = k)) : canR f i k = (false, false) := if_neg h
/-- The top of a tube, asked for. -/
def topR (f : Nat → Int) (i : Int) : Int × Int × Bool := if rackB f = true ∧ (0 ≤ i ∧ i ≤ 5) ∧ 0 < nlay (tub f i.toNat) then ((tpF (tub f i.toNat)).1, (tpF (tub f i.toNat)).2, true) else (0, 0, false)
theorem topR_bad {f : Nat → Int} {i : Int} (h : ¬ (rackB f = true ∧ (0 ≤ i ∧ i ≤ 5) ∧ 0 < nlay (tub f i.toNat))) : topR f i = (0, 0, false) := if_neg h
end Go.Proofs.YtlbgmkengkgnfaaGreat
end

section
/- The laws' own comparing and marking of slices of pairs. -/
namespace Go.Proofs.YtlbgmkengkgnfaaGreat
set_option linter.unusedSimpArgs false
set_option linter.unusedVariables false
set_option maxRecDepth 20000
open Go.RowKit
variable {P : Program}
theorem wpQuiet_loadX {ops : Array Oper} {C : World → Prop} {rest : List Oper} {o : Oper} {a : Act} {Q : Act → Prop} (hw : Region.wanted o (yielded ops a.tmps) = true) (ty : TypeId) (x : Operand) (ho : o.op = .load ty x)
    (B off : Nat) (hx : a.eval x = .pointer (some ⟨B, off, none⟩)) {T : TypeId} {fr : Nat × Nat} {n : Nat} {f : Nat → Int} (hg : ∀ w, C w → w.heap[B]? = some (.cells (arr n f) T fr)) (m : Nat) (hd : aggB P ty = true)
    (hi : (P.info? ty).map (·.size) = some m) (hle : off + m ≤ n) {y : Array Value} (hy : arr m (fun j => f (off + j)) = y) (h : wpQuiet P ops C Q rest (a.put o.dst (.agg y))) : wpQuiet P ops C Q (o :: rest) a := by
  subst hy
  exact wpQuiet_loadA hw ty x ho B off hx hg m hd hi hle h
end Go.Proofs.YtlbgmkengkgnfaaGreat
end

section
/- All pours that are possible: the program's and the reference's, and the law. -/
namespace Go.Proofs.YtlbgmkengkgnfaaGreat
set_option linter.unusedSimpArgs false
set_option linter.unusedVariables false
set_option maxRecDepth 20000
open Go.RowKit
theorem size28 : (Tryz.prog.info? 27).map (·.size) = some 24 := size24r
theorem agg28 : aggB Tryz.prog 27 = true := agg24r
/-- How many of the first q pairs of tubes are pours. -/
def poN (f : Nat → Int) : Nat → Nat
  | 0 => 0
  | q + 1 => if canF f (q / 6) (q % 6) = true then poN f q + 1 else poN f q
def poF (f : Nat → Int) : Nat → (Nat → Int)
  | 0 => fun _ => 0
  | q + 1 => if canF f (q / 6) (q % 6) = true then app (poF f q) (poN f q * 2) (fun j => if j = 0 then ((q / 6 : Nat) : Int) else ((q % 6 : Nat) : Int)) else poF f q
theorem poN_le (f : Nat → Int) : ∀ q, poN f q ≤ q
  | 0 => by simp [poN]
  | q + 1 => by have := poN_le f q; unfold poN; split <;> omega
theorem po_yes {f : Nat → Int} {q : Nat} (h : canF f (q / 6) (q % 6) = true) : poN f (q + 1) = poN f q + 1 ∧ poF f (q + 1) = app (poF f q) (poN f q * 2) (fun j => if j = 0 then ((q / 6 : Nat) : Int) else ((q % 6 : Nat) : Int)) := by
  constructor
  · rw [poN, if_pos h]
  · rw [poF, if_pos h]
theorem po_no {f : Nat → Int} {q : Nat} (h : canF f (q / 6) (q % 6) = false) : poN f (q + 1) = poN f q ∧ poF f (q + 1) = poF f q := by
  constructor
  · rw [poN, if_neg (by simp [h])]
  · rw [poF, if_neg (by simp [h])]
theorem l2Pours_any (f : Nat → Int) (hf : rackB f = true) (w : World) : Calls Tryz.prog 61 #[.agg (arr 24 f)] w (RetSl w 79 2 (poN f 36) (poF f 36)) := by
  have h0 : (w.alloc (.cells (arr 24 f) 27)).heap[w.heap.size]? = some (.cells (arr 24 f) 27 (0, 0)) := heap_new rfl
  have h1 := row_alloc (x := .cells #[] 79) h0
  have hbel : Below w.heap.size w ((w.alloc (.cells (arr 24 f) 27)).alloc (.cells #[] 79)) := ((Below.refl _ _).alloc (by simp) _).alloc (by simp) _
  have hS : Sl ((w.alloc (.cells (arr 24 f) 27)).alloc (.cells #[] 79)) (w.heap.size + 1) 79 2 (.slice (some ⟨w.heap.size + 1, 0, none⟩) 0 0) (poN f (0 * 6)) (poF f (0 * 6)) := by
    have := Sl.made (w := w.alloc (.cells (arr 24 f) 27)) (base := w.heap.size + 1) (e := 79) (s := 2) (f := poF f 0) (by simp)
    simpa [poN] using this
  go_enter Tryz.func61, Tryz.ntmps61
  go_wp2_with fail
  go_loopw [3, 4] (fun o i wr => ∃ n : Nat, ∃ v : Value, n ≤ 6 ∧ i = .int .i64 n ∧ o = v ∧ Sl wr (w.heap.size + 1) 79 2 v (poN f (n * 6)) (poF f (n * 6)) ∧ wr.heap[w.heap.size]? = some (.cells (arr 24 f) 27 (0, 0)) ∧ Below w.heap.size w wr) (fun _ i _ => 6 - (intOf i).toNat)
  case atStart => exact ⟨0, _, by omega, rfl, rfl, hS, h1, hbel⟩
  case round =>
    clear h0 h1 hbel hS
    obtain ⟨n, v, hn, rfl, rfl, hS, h1, hbel⟩ := hrel
    by_cases hlt : n < 6
    · have hlt' : (n : Int) < 6 := by omega
      go_wp2_with fail
      obtain ⟨wo, hwo⟩ : ∃ wo : World, wo = wr := ⟨_, rfl⟩
      rw [← hwo] at h1 hS hbel
      go_loopw [3, 5] (fun o i wq => ∃ m : Nat, ∃ v : Value, m ≤ 6 ∧ i = .int .i64 m ∧ o = v ∧ Sl wq (w.heap.size + 1) 79 2 v (poN f (n * 6 + m)) (poF f (n * 6 + m)) ∧ wq.heap[w.heap.size]? = some (.cells (arr 24 f) 27 (0, 0)) ∧ Below w.heap.size w wq) (fun _ i _ => 6 - (intOf i).toNat)
      case atStart => exact ⟨0, _, by omega, rfl, rfl, hwo ▸ hS, hwo ▸ h1, hwo ▸ hbel⟩
      case round =>
        clear h1 hbel hS hwo
        obtain ⟨m, v, hm6, rfl, rfl, hS, h1, hbel⟩ := hrel
        have hsz := row_lt h1
        have hN := poN_le f (n * 6 + m)
        by_cases hlt2 : m < 6
        · have hlt2' : (m : Int) < 6 := by omega
          have e1 : (n * 6 + m) / 6 = n := by omega
          have e2 : (n * 6 + m) % 6 = m := by omega
          cases hc : canF f n m with
          | true =>
            have HC : Hid _ := hc
            have HS : Hid (poN f (n * 6 + (m + 1)) = poN f (n * 6 + m) + 1 ∧ poF f (n * 6 + (m + 1)) = app (poF f (n * 6 + m)) (poN f (n * 6 + m) * 2) (fun j => if j = 0 then (n : Int) else m)) := by
              have := po_yes (f := f) (q := n * 6 + m) (by rw [e1, e2]; exact hc)
              rw [e1, e2] at this
              exact this
            have hB : ∀ W : World, (W.alloc (.cells #[.int .i64 n, .int .i64 m] 79)).heap[W.heap.size]? = some (.cells (arr 2 fun j => if j = 0 then (n : Int) else m) 79 (0, 0)) := fun W => by rw [arr_two]; exact heap_new rfl
            have HB : Hid _ := hB
            clear hc hB e1 e2
            go_wp2_with first
              | (with_reducible refine wpList_loadW rfl _ _ rfl _ rfl h1 agg28 size28 ?_)
              | (go_at_call 80; (with_reducible refine (l2Can_any f hf n m (by omega) (by omega) _).mono ?_); rw [HC.out]; rintro e w1 ⟨rfl, hb1⟩; replace hbel := hbel.trans (hb1.mono hbel.size); replace h1 := row_keep hb1 h1; replace hS := hS.keep hb1; have hz := row_lt h1; clear hb1)
              | ((with_reducible refine wpList_appendS slP (by omega) rfl _ _ rfl rfl (hS.keep ((Below.refl _ _).alloc (Nat.le_refl _) _)) rfl (HB.out _) (by omega) (by omega) (by unfold maxLen; omega) (by omega) (by simp; omega) ?_); intro v2 w2 hS2 hb2)
            go_roundw
            case rel =>
              refine ⟨m + 1, v2, by omega, by go_num, rfl, ?_, row_kept hb2 (row_alloc h1) (by omega), hbel.trans (((Below.refl _ _).alloc (Nat.le_of_lt hz) _).trans (hb2.mono (by omega)))⟩
              rw [HS.out.1, HS.out.2]
              exact hS2.congr rfl fun j hj => by simp only [Nat.zero_add]
            case measure => simp [intOf]; omega
          | false =>
            have HC : Hid _ := hc
            have HS : Hid (poN f (n * 6 + (m + 1)) = poN f (n * 6 + m) ∧ poF f (n * 6 + (m + 1)) = poF f (n * 6 + m)) := po_no (f := f) (q := n * 6 + m) (by rw [e1, e2]; exact hc)
            clear hc e1 e2
            go_wp2_with first
              | (with_reducible refine wpList_loadW rfl _ _ rfl _ rfl h1 agg28 size28 ?_)
              | (go_at_call 80; (with_reducible refine (l2Can_any f hf n m (by omega) (by omega) _).mono ?_); rw [HC.out]; rintro e w1 ⟨rfl, hb1⟩; replace hbel := hbel.trans (hb1.mono hbel.size); replace h1 := row_keep hb1 h1; replace hS := hS.keep hb1; clear hb1)
            go_roundw
            case rel => exact ⟨m + 1, _, by omega, by go_num, rfl, by rw [HS.out.1, HS.out.2]; exact hS, h1, hbel⟩
            case measure => simp [intOf]; omega
        · obtain rfl : m = 6 := by omega
          go_wp2_with fail
          go_roundw
          case rel => exact ⟨n + 1, _, by omega, by go_num, rfl, by rw [show (n + 1) * 6 = n * 6 + 6 by omega]; exact hS, h1, hbel⟩
          case measure => simp [intOf]; omega
    · obtain rfl : n = 6 := by omega
      go_wp2_with fail
      go_ret
      exact ⟨_, rfl, hS.lower (by omega), hbel⟩
def pofN (f : Nat → Int) : Nat := if rackB f = true then poN f 36 else 0
def pofF (f : Nat → Int) : Nat → Int := if rackB f = true then poF f 36 else fun _ => 0
theorem pofN_le (f : Nat → Int) : pofN f ≤ 1000000 := by
  unfold pofN
  split
  · have := poN_le f 36; omega
  · omega
end Go.Proofs.YtlbgmkengkgnfaaGreat
end

section
/- Pours, in plain numbers. -/
namespace Go.Proofs.YtlbgmkengkgnfaaGreat
set_option linter.unusedSimpArgs false
set_option linter.unusedVariables false
set_option maxRecDepth 20000
/-- k layers of i's top, put onto j. -/
def pS (f : Nat → Int) (i j : Nat) : Nat → (Nat → Int)
  | 0 => f
  | k + 1 => upd (upd (pS f i j k) (i * 4 + (nlay (tub f i) - 1 - k)) 0) (j * 4 + (nlay (tub f j) + k)) (tpF (tub f i)).1
/-- How many layers a pour moves. -/
def mvd (f : Nat → Int) (i j : Nat) : Nat := min (tpF (tub f i)).2.toNat (4 - nlay (tub f j))
def pourF (f : Nat → Int) (i j : Nat) : Nat → Int := pS f i j (mvd f i j)
theorem mvd_le {f : Nat → Int} {i j : Nat} (ht : tubeB (tub f i) = true) : mvd f i j ≤ nlay (tub f i) ∧ mvd f i j ≤ 4 - nlay (tub f j) ∧ mvd f i j ≤ 4 := by
  have := (tpF_sign ht).2.2.2.2
  have := nlay_le (tub f i)
  unfold mvd
  omega
theorem pS_at {f : Nat → Int} {i j : Nat} (hij : i ≠ j) : ∀ k, k ≤ nlay (tub f i) → nlay (tub f j) + k ≤ 4 → ∀ q, pS f i j k q =
    if j * 4 + nlay (tub f j) ≤ q ∧ q < j * 4 + nlay (tub f j) + k then (tpF (tub f i)).1 else if i * 4 + (nlay (tub f i) - k) ≤ q ∧ q < i * 4 + nlay (tub f i) then 0 else f q
  | 0, _, _, q => by
    rw [if_neg (by omega), if_neg (by omega)]; rfl
  | k + 1, h1, h2, q => by
    have ih := pS_at (f := f) hij k (by omega) (by omega) q
    have h4 := nlay_le (tub f i)
    show upd (upd (pS f i j k) _ _) _ _ q = _
    unfold upd
    by_cases e1 : q = j * 4 + (nlay (tub f j) + k)
    · rw [if_pos e1, if_pos (by omega)]
    · rw [if_neg e1]
      by_cases e2 : q = i * 4 + (nlay (tub f i) - 1 - k)
      · rw [if_pos e2, if_neg (by omega), if_pos (by omega)]
      · rw [if_neg e2, ih]
        by_cases e3 : j * 4 + nlay (tub f j) ≤ q ∧ q < j * 4 + nlay (tub f j) + k
        · rw [if_pos e3, if_pos (by omega)]
        · rw [if_neg e3, if_neg (show ¬ (j * 4 + nlay (tub f j) ≤ q ∧ q < j * 4 + nlay (tub f j) + (k + 1)) by omega)]
          by_cases e4 : i * 4 + (nlay (tub f i) - k) ≤ q ∧ q < i * 4 + nlay (tub f i)
          · rw [if_pos e4, if_pos (by omega)]
          · rw [if_neg e4, if_neg (by omega)]
/-- A tube by its shape. -/
theorem tube_shape {g : Nat → Int} {n : Nat} (hn : n ≤ 4) (h1 : ∀ k, k < n → 1 ≤ g k ∧ g k ≤ 5) (h0 : ∀ k, n ≤ k → k < 4 → g k = 0) : tubeB g = true ∧ nlay g = n := by
  unfold tubeB nlay
  rw [decide_eq_true_iff]
  match n, hn with
  | 0, _ =>
    have a := h0 0 (by omega) (by omega); have b := h0 1 (by omega) (by omega); have c := h0 2 (by omega) (by omega); have d := h0 3 (by omega) (by omega)
    simp [a, b, c, d]
  | 1, _ =>
    have a := h1 0 (by omega); have b := h0 1 (by omega) (by omega); have c := h0 2 (by omega) (by omega); have d := h0 3 (by omega) (by omega)
    have a' : ¬ g 0 = 0 := by omega
    simp [a', b, c, d]; omega
  | 2, _ =>
    have a := h1 0 (by omega); have b := h1 1 (by omega); have c := h0 2 (by omega) (by omega); have d := h0 3 (by omega) (by omega)
    have a' : ¬ g 0 = 0 := by omega
    have b' : ¬ g 1 = 0 := by omega
    simp [a', b', c, d]; omega
  | 3, _ =>
    have a := h1 0 (by omega); have b := h1 1 (by omega); have c := h1 2 (by omega); have d := h0 3 (by omega) (by omega)
    have a' : ¬ g 0 = 0 := by omega
    have b' : ¬ g 1 = 0 := by omega
    have c' : ¬ g 2 = 0 := by omega
    simp [a', b', c', d]; omega
  | 4, _ =>
    have a := h1 0 (by omega); have b := h1 1 (by omega); have c := h1 2 (by omega); have d := h1 3 (by omega)
    have a' : ¬ g 0 = 0 := by omega
    have b' : ¬ g 1 = 0 := by omega
    have c' : ¬ g 2 = 0 := by omega
    have d' : ¬ g 3 = 0 := by omega
    simp [a', b', c', d']; omega
theorem tube_zero {g : Nat → Int} (h : tubeB g = true) : ∀ k, nlay g ≤ k → k < 4 → g k = 0 := fun k h1 h2 => by
  have e := tubeB_layers g
  rw [h, Bool.and_eq_true, List.all_eq_true, List.all_eq_true] at e
  have := e.2 (k - nlay g) (List.mem_range.2 (by omega))
  rw [show nlay g + (k - nlay g) = k by omega] at this
  simpa using this
theorem pour_rack {f : Nat → Int} {i j : Nat} (hf : rackB f = true) (hi : i ≤ 5) (hj : j ≤ 5) (hc : canF f i j = true) : rackB (pourF f i j) = true := by
  have hc' := of_decide_eq_true hc
  obtain ⟨hij, hn, hm, _⟩ := hc'
  have ti := tube_of_rack hf hi
  have tj := tube_of_rack hf hj
  obtain ⟨l1, l2, _⟩ := mvd_le (j := j) ti
  have hs := tpF_sign ti
  have hat := pS_at hij (mvd f i j) l1 (by omega)
  have h4 := nlay_le (tub f i)
  have h4' := nlay_le (tub f j)
  refine (rackB_iff _).2 fun t ht => ?_
  have hc1 : 1 ≤ (tpF (tub f i)).1 := by have := hs.1.2 hn; omega
  by_cases e1 : t = i
  · subst e1
    refine (tube_shape (n := nlay (tub f t) - mvd f t j) (by omega) (fun k hk => ?_) fun k hk hk4 => ?_).1
    · show 1 ≤ pourF f t j (t * 4 + k) ∧ pourF f t j (t * 4 + k) ≤ 5
      unfold pourF
      rw [hat, if_neg (by omega), if_neg (by omega)]
      exact nlay_pos ti k (by omega)
    · show pourF f t j (t * 4 + k) = 0
      unfold pourF
      rw [hat, if_neg (by omega)]
      by_cases e : k < nlay (tub f t)
      · rw [if_pos (by omega)]
      · rw [if_neg (by omega)]
        exact tube_zero ti k (by omega) hk4
  · by_cases e2 : t = j
    · subst e2
      refine (tube_shape (n := nlay (tub f t) + mvd f i t) (by omega) (fun k hk => ?_) fun k hk hk4 => ?_).1
      · show 1 ≤ pourF f i t (t * 4 + k) ∧ pourF f i t (t * 4 + k) ≤ 5
        unfold pourF
        rw [hat]
        by_cases e : k < nlay (tub f t)
        · rw [if_neg (by omega), if_neg (by omega)]
          exact nlay_pos tj k e
        · rw [if_pos (by omega)]
          omega
      · show pourF f i t (t * 4 + k) = 0
        unfold pourF
        rw [hat, if_neg (by omega), if_neg (by omega)]
        exact tube_zero tj k (by omega) hk4
    · have e : ∀ k, k < 4 → tub (pourF f i j) t k = tub f t k := fun k hk => by
        show pourF f i j (t * 4 + k) = f (t * 4 + k)
        unfold pourF
        rw [hat, if_neg (by omega), if_neg (by omega)]
      have tt := tube_of_rack hf (show t ≤ 5 by omega)
      refine (tube_shape (n := nlay (tub f t)) (nlay_le _) (fun k hk => ?_) fun k hk hk4 => ?_).1
      · rw [e k (by have := nlay_le (tub f t); omega)]
        exact nlay_pos tt k hk
      · rw [e k hk4]
        exact tube_zero tt k hk hk4
end Go.Proofs.YtlbgmkengkgnfaaGreat
end

section
/- CountColors: the program's and the reference's, and the law. -/
namespace Go.Proofs.YtlbgmkengkgnfaaGreat
set_option linter.unusedSimpArgs false
set_option linter.unusedVariables false
set_option maxRecDepth 20000
open Go.RowKit
theorem cell_of_rack {f : Nat → Int} (h : rackB f = true) {i k : Nat} (hi : i < 6) (hk : k < 4) : 0 ≤ f (i * 4 + k) ∧ f (i * 4 + k) ≤ 5 := ((tubeB_iff f i).1 ((rackB_iff f).1 h i hi) k hk).1

def countsOf (f : Nat → Int) : (Nat → Int) × Bool := if rackB f = true then (tally f 24, true) else (fun _ => 0, false)
end Go.Proofs.YtlbgmkengkgnfaaGreat
end

section
/- BottomCounts: the program's and the reference's, and the law. -/
namespace Go.Proofs.YtlbgmkengkgnfaaGreat
set_option linter.unusedSimpArgs false
set_option linter.unusedVariables false
set_option maxRecDepth 20000
open Go.RowKit
def botsOf (f : Nat → Int) : (Nat → Int) × Bool := if rackB f = true then (tally (fun i => f (i * 4)) 6, true) else (fun _ => 0, false)
end Go.Proofs.YtlbgmkengkgnfaaGreat
end

section
/- Comparing arrays of ints, arrays of these, and structs of one such field, by ==. -/
namespace Go.Proofs.YtlbgmkengkgnfaaGreat
set_option linter.unusedSimpArgs false
set_option linter.unusedVariables false
set_option maxRecDepth 20000
open Go.RowKit
variable {P : Program}
def eqv (n : Nat) (f g : Nat → Int) : Bool := (List.range n).all fun j => f j == g j
theorem eqv_iff {n : Nat} {f g : Nat → Int} : eqv n f g = true ↔ ∀ j, j < n → f j = g j := by
  unfold eqv
  rw [List.all_eq_true]
  exact ⟨fun h j hj => by simpa using h j (List.mem_range.2 hj), fun h j hj => by simpa using h j (List.mem_range.1 hj)⟩
theorem eqv_arr {n : Nat} {f g : Nat → Int} : eqv n f g = true ↔ arr n f = arr n g := by
  rw [eqv_iff]
  refine ⟨fun h => arr_congr h, fun h j hj => ?_⟩
  have h1 := arr_get n f j
  rw [h, arr_get, if_pos hj, if_pos hj] at h1
  simpa using h1.symm
/-- Type t is compared value by value: n of them, from depth k on. -/
structure EqA (P : Program) (t : TypeId) (n k : Nat) : Prop where
  agg : aggB P t = true
  size : (P.info? t).map (·.size) = some n
  run : ∀ (d : Nat) (f g : Nat → Int) (w : World), (Op.equalIn (d + k) t (.agg (arr n f)) (.agg (arr n g))).run P w = .ok (eqv n f g) w
theorem run_partA {e : TypeId} {m N off : Nat} {F : Nat → Int} (ha : aggB P e = true) (hs : (P.info? e).map (·.size) = some m) (hle : off + m ≤ N) (w : World) :
    (part e (arr N F) off).run P w = .ok (.agg (arr m fun j => F (off + j))) w := by
  cases hq : P.info? e with
  | none => simp [hq] at hs
  | some i =>
    have hs' : i.size = m := by simpa [hq] using hs
    simp [part, Sem.run_bind, run_isAgg ha, sizeOf, typeInfo, hq, hs', extract_arr N off m F hle]
theorem run_partI {e : TypeId} {N off : Nat} {F : Nat → Int} (hd : aggB P e = false) (hu : (P.underlying e).isSome = true) (hle : off < N) (w : World) :
    (part e (arr N F) off).run P w = .ok (.int .i64 (F off)) w := by
  have hagg : (isAgg e).run P w = .ok false w := by
    unfold aggB at hd
    unfold isAgg
    cases hq : P.underlying e with
    | none => simp [hq] at hu
    | some d =>
      rw [Sem.run_bind, run_underlying hq w]
      cases d <;> simp_all
  have hg := arr_get N F off
  rw [if_pos hle] at hg
  simp [part, Sem.run_bind, hagg, hg]
theorem run_items (d : Nat) (e : TypeId) (c : Nat) (xs ys : Array Value) (q : Nat → Bool) (w : World) : ∀ (is : List Nat),
    (∀ i, i ∈ is → ∃ a b, (part e xs (i * c)).run P w = .ok a w ∧ (part e ys (i * c)).run P w = .ok b w ∧ (Op.equalIn d e a b).run P w = .ok (q i) w) →
    (Op.eqItems d e c xs ys is).run P w = .ok (is.all q) w
  | [], _ => by simp [Op.eqItems]
  | i :: is, h => by
    obtain ⟨a, b, h1, h2, h3⟩ := h i (.head _)
    have ih := run_items d e c xs ys q w is fun j hj => h j (.tail _ hj)
    simp only [Op.eqItems, Sem.run_bind, h1, h2, h3, Result.andThen_ok, List.all_cons]
    cases q i <;> simp [ih]
theorem EqA.ints {t e : TypeId} {n : Nat} (ha : aggB P t = true) (hs : (P.info? t).map (·.size) = some n) (ht : P.underlying t = some (.array n e)) (he : P.underlying e = some (.int .i64)) (hi : (P.info? e).map (·.size) = some 1) (hc : P.cellsOf e = 1) : EqA P t n 2 := by
  refine ⟨ha, hs, fun d f g w => ?_⟩
  cases hq : P.info? e with
  | none => simp [hq] at hi
  | some i =>
    rw [show d + 2 = (d + 1) + 1 from rfl, run_equalIn_array w (d + 1) _ _ ht hq, hc]
    rw [run_items (d + 1) e 1 _ _ (fun j => f j == g j) w]
    · rfl
    · intro j hj
      have hj' := List.mem_range.1 hj
      rw [Nat.mul_one]
      have hd : aggB P e = false := by simp [aggB, he]
      exact ⟨_, _, run_partI hd (by simp [he]) hj' w, run_partI hd (by simp [he]) hj' w, run_equalIn_int w d e .i64 .i64 _ _ he⟩
theorem all_mul (len m : Nat) (f g : Nat → Int) : ((List.range len).all fun i => eqv m (fun j => f (i * m + j)) fun j => g (i * m + j)) = eqv (len * m) f g := by
  rw [Bool.eq_iff_iff, eqv_iff, List.all_eq_true]
  constructor
  · intro h j hj
    have hm : 0 < m := by rcases Nat.eq_zero_or_pos m with e | e
                          · subst e; omega
                          · exact e
    have h1 := eqv_iff.1 (h (j / m) (List.mem_range.2 (by rw [Nat.div_lt_iff_lt_mul hm]; exact hj))) (j % m) (Nat.mod_lt _ hm)
    have e : j / m * m + j % m = j := by rw [Nat.mul_comm]; exact Nat.div_add_mod j m
    rwa [e] at h1
  · intro h i hi
    have hi' := List.mem_range.1 hi
    refine eqv_iff.2 fun j hj => h _ ?_
    have : (i + 1) * m ≤ len * m := Nat.mul_le_mul_right m hi'
    rw [Nat.add_mul] at this
    omega
theorem EqA.arrays {t e : TypeId} {len m k : Nat} (h : EqA P e m k) (ha : aggB P t = true) (hs : (P.info? t).map (·.size) = some (len * m)) (ht : P.underlying t = some (.array len e)) (hc : P.cellsOf e = m) : EqA P t (len * m) (k + 1) := by
  refine ⟨ha, hs, fun d f g w => ?_⟩
  have hsz := h.size
  cases hq : P.info? e with
  | none => simp [hq] at hsz
  | some i =>
    rw [show d + (k + 1) = (d + k) + 1 from rfl, run_equalIn_array w (d + k) _ _ ht hq, hc]
    rw [run_items (d + k) e m _ _ (fun i => eqv m (fun j => f (i * m + j)) fun j => g (i * m + j)) w, all_mul]
    intro j hj
    have hj' := List.mem_range.1 hj
    have hle : j * m + m ≤ len * m := by
      have : (j + 1) * m ≤ len * m := Nat.mul_le_mul_right m hj'
      rw [Nat.add_mul] at this
      omega
    exact ⟨_, _, run_partA h.agg h.size hle w, run_partA h.agg h.size hle w, h.run d _ _ w⟩
theorem EqA.struct1 {t : TypeId} {f0 : Field} {n k : Nat} (h : EqA P f0.type n k) (ha : aggB P t = true) (hs : (P.info? t).map (·.size) = some n) (ht : P.underlying t = some (.struct #[f0])) (h0 : f0.offset = 0) (hn : f0.name ≠ "_") (hp : P.stoodInHeld t = false) : EqA P t n (k + 1) := by
  refine ⟨ha, hs, fun d f g w => ?_⟩
  have hf : P.fieldsOf t = #[f0] := by unfold Program.fieldsOf; rw [ht]
  rw [show d + (k + 1) = (d + k) + 1 from rfl, run_equalIn_struct w (d + k) t _ _ (by rw [hf]; exact ht) hp, hf]
  have p1 := run_partA (F := f) h.agg h.size (show 0 + n ≤ n by omega) w
  have p2 := run_partA (F := g) h.agg h.size (show 0 + n ≤ n by omega) w
  simp only [Nat.zero_add] at p1 p2
  have hr := h.run d f g w
  simp only [Op.eqFields, hn, ne_eq, not_false_eq_true, if_true, h0, Sem.run_bind, p1, p2, hr, Result.andThen_ok]
  cases eqv n f g <;> simp
theorem run_eqlA {t : TypeId} {n k : Nat} (h : EqA P t n k) (hk : k ≤ 10000) (f g : Nat → Int) (w : World) : (binOp .eql t (.agg (arr n f)) (.agg (arr n g))).run P w = .ok (.bool (eqv n f g)) w := by
  rw [run_eql_struct, show 10000 = (10000 - k) + k by omega, h.run]
  rfl
theorem run_neqA {t : TypeId} {n k : Nat} (h : EqA P t n k) (hk : k ≤ 10000) (f g : Nat → Int) (w : World) : (binOp .neq t (.agg (arr n f)) (.agg (arr n g))).run P w = .ok (.bool (!eqv n f g)) w := by
  rw [run_neq_struct, show 10000 = (10000 - k) + k by omega, h.run]
  rfl
theorem wpList_eqlA {ops : Array Oper} {rest : List Oper} {o : Oper} {a : Act} {w : World} {Q : Exit → Act → World → Prop} {t : TypeId} {n k : Nat} (h : EqA P t n k) (hk : k ≤ 10000) (hm : P.eqGuardType P.depth t = false) (hw : Region.wanted o (yielded ops a.tmps) = true) (x y : Operand) (t2 : TypeId) (ho : o.op = .binOp .eql t x y t2)
    {f g : Nat → Int} (hx : a.eval x = .agg (arr n f)) (hy : a.eval y = .agg (arr n g)) (hc : wpList P ops Q rest (a.put o.dst (.bool (eqv n f g))) w) : wpList P ops Q (o :: rest) a w :=
  wpList_step fun K hK => by
    rw [if_pos hw]
    have hr := run_eqlA h hk f g w
    have hg := run_eqGuard_agg (P := P) w .eql t x y (arr n f) (arr n g) hm
    unfold Oper.wp execOp
    simp only [ho, hx, hy, Sem.run_bind, hg, hr, Result.andThen_ok, Sem.run_pure]
    exact hK _ _ hc
theorem eqT : EqA Tryz.prog 24 4 2 := EqA.ints agg4 size4 Tryz.underlying24 Tryz.underlying3 size1 (by kernel_rfl)
theorem eqTs : EqA Tryz.prog 25 24 3 := EqA.arrays (len := 6) eqT agg24 size24 Tryz.underlying25 (by kernel_rfl)
theorem eqRk : EqA Tryz.prog 27 24 4 := EqA.struct1 eqTs agg24r size24r Tryz.underlying27 rfl (by decide) (by kernel_rfl)
theorem gdT : Tryz.prog.eqGuardType Tryz.prog.depth 24 = false := by kernel_rfl
theorem gdRk : Tryz.prog.eqGuardType Tryz.prog.depth 27 = false := by kernel_rfl
end Go.Proofs.YtlbgmkengkgnfaaGreat
end

section
/- Rows of bools. -/
namespace Go.Proofs.YtlbgmkengkgnfaaGreat
set_option linter.unusedSimpArgs false
set_option linter.unusedVariables false
set_option maxRecDepth 20000
open Go.RowKit
variable {P : Program}
/-- A row of n bools. -/
def brr (n : Nat) (s : Nat → Bool) : Array Value := Array.ofFn (n := n) fun j => .bool (s j)
theorem brr_size (n : Nat) (s : Nat → Bool) : (brr n s).size = n := by simp [brr]
theorem brr_get (n : Nat) (s : Nat → Bool) (i : Nat) : (brr n s)[i]? = if i < n then some (.bool (s i)) else none := by
  simp [brr, Array.getElem?_ofFn]
theorem brr_congr {n : Nat} {s t : Nat → Bool} (h : ∀ j, j < n → s j = t j) : brr n s = brr n t := by
  refine Array.ext_getElem? fun i => ?_
  rw [brr_get, brr_get]
  by_cases hi : i < n
  · rw [if_pos hi, if_pos hi, h i hi]
  · rw [if_neg hi, if_neg hi]
def bup (s : Nat → Bool) (i : Nat) (b : Bool) : Nat → Bool := fun j => if j = i then b else s j
theorem brr_set (n : Nat) (s : Nat → Bool) (i : Nat) (b : Bool) : (brr n s).setIfInBounds i (.bool b) = brr n (bup s i b) := by
  refine Array.ext_getElem? fun j => ?_
  rw [Array.getElem?_setIfInBounds, brr_get, brr_get, brr_size]
  unfold bup
  by_cases hj : i = j
  · subst hj; simp
  · have hj2 : ¬ j = i := fun h => hj h.symm
    simp only [hj, hj2, if_false]
attribute [irreducible] brr
theorem browcell {w : World} {B n : Nat} {s : Nat → Bool} {T : TypeId} {fr : Nat × Nat} (hg : w.heap[B]? = some (.cells (brr n s) T fr)) {i : Nat} (h : i < n) :
    w.cell? ⟨B, i, none⟩ = some (.bool (s i)) := by
  rw [cell_of_row w B i _ T fr hg, brr_get, if_pos h]
theorem wpList_loadB {ops : Array Oper} {rest : List Oper} {o : Oper} {a : Act} {w : World} {Q : Exit → Act → World → Prop} (hw : Region.wanted o (yielded ops a.tmps) = true) (ty : TypeId) (x : Operand) (ho : o.op = .load ty x)
    (B off : Nat) (hx : a.eval x = .pointer (some ⟨B, off, none⟩)) {T : TypeId} {fr : Nat × Nat} {n : Nat} {s : Nat → Bool} (hg : w.heap[B]? = some (.cells (brr n s) T fr)) (hd : aggB P ty = false) (hu : (P.underlying ty).isSome = true)
    (hle : off < n) (h : wpList P ops Q rest (a.put o.dst (.bool (s off))) w) : wpList P ops Q (o :: rest) a w :=
  wpList_step fun K hK => by
    rw [if_pos hw]
    have hagg : (isAgg ty).run P w = .ok false w := by
      unfold aggB at hd
      unfold isAgg
      cases hq : P.underlying ty with
      | none => simp [hq] at hu
      | some d =>
        rw [Sem.run_bind, run_underlying hq w]
        cases d <;> simp_all
    have hr : (loadVar ty ⟨B, off, none⟩).run P w = .ok (.bool (s off)) w := by
      simp only [loadVar, Sem.run_bind, Result.andThen_ok, hagg]
      simp [browcell hg hle]
    unfold Oper.wp execOp
    simp only [ho, hx, Instr.loadAt, Instr.sureAddr, Sem.run_bind, Sem.run_pure, Result.andThen_ok, hr]
    exact hK _ _ h
theorem wpList_storeB {ops : Array Oper} {rest : List Oper} {o : Oper} {a : Act} {w : World} {Q : Exit → Act → World → Prop} (hgd : o.guard = none) (ty : TypeId) (x y : Operand) (ho : o.op = .store ty x y)
    (B off : Nat) (hx : a.eval x = .pointer (some ⟨B, off, none⟩)) {b : Bool} (hy : a.eval y = .bool b) {T : TypeId} {n : Nat} {s : Nat → Bool} (hg : w.heap[B]? = some (.cells (brr n s) T (0, 0)))
    (hi : (P.info? ty).map (·.size) = some 1) (hle : off < n) (h : wpList P ops Q rest (a.put o.dst undef) (w.setRow B (brr n (bup s off b)))) : wpList P ops Q (o :: rest) a w :=
  wpList_plain hgd fun _ hK => by
    have hcell : w.cell? ⟨B, off, none⟩ = some (.bool (s off)) := browcell hg hle
    have hfro : w.frozen? ⟨B, off, none⟩ = false := by simp [World.frozen?, hg]
    have hst : (store ((⟨B, off, none⟩ : Addr).add 0) (.bool b)).run P w = .ok () (w.setRow B (brr n (bup s off b))) := by
      rw [add_off, Nat.add_zero, run_store P w _ _ _ rfl, hcell]
      simp [hfro, setCell_eq_setRow w B off _ T (0, 0) _ hg, brr_set]
    have hs : (storeVar ty ⟨B, off, none⟩ (.bool b)).run P w = .ok () (w.setRow B (brr n (bup s off b))) := by
      cases hq : P.info? ty with
      | none => simp [hq] at hi
      | some i =>
        have hs : i.size = 1 := by simpa [hq] using hi
        simp [storeVar, sizeOf, typeInfo, hq, Value.cells, hs, storeCells, hst]
    unfold Oper.wp execOp
    simp only [ho, hx, hy, Instr.storeAt, Instr.sureAddr, Sem.run_bind, Sem.run_pure, Result.andThen_ok, hs]
    exact hK _ _ h
/-- A new row of bools, by name. -/
theorem wpList_allocB {ops : Array Oper} {rest : List Oper} {o : Oper} {a : Act} {w : World} {Q : Exit → Act → World → Prop} (hgd : o.guard = none) (ty : TypeId) (ho : o.op = .alloc ty) (n : Nat)
    (hz : ((P.info? ty).bind (·.zero)).map (·.cells) = some (brr n fun _ => false))
    (h : ∀ B w', w.heap.size ≤ B → w'.heap[B]? = some (.cells (brr n fun _ => false) ty (0, 0)) → Below w.heap.size w w' → wpList P ops Q rest (a.put o.dst (.pointer (some ⟨B, 0, none⟩))) w') : wpList P ops Q (o :: rest) a w :=
  wpList_plain hgd fun _ hK => by
    have hr : (Instr.alloc ty true (.tuple #[])).run P w = .ok (.pointer (some ⟨w.heap.size, 0, none⟩)) (w.alloc (.cells (brr n fun _ => false) ty)) := by
      cases hq : P.info? ty with
      | none => simp [hq] at hz
      | some i =>
        cases hz2 : i.zero with
        | none => simp [hq, hz2] at hz
        | some z =>
          simp only [hq, hz2, Option.bind_some, Option.map_some, Option.some.injEq] at hz
          simp [Instr.alloc, zeroValue, typeInfo, hq, hz2, newVar, newRow, hz]
    unfold Oper.wp execOp
    simp only [ho, Sem.run_bind, hr, Result.andThen_ok, Sem.run_pure]
    exact hK _ _ (h _ _ (Nat.le_refl _) (heap_new rfl) ((Below.refl _ _).alloc (Nat.le_refl _) _))
end Go.Proofs.YtlbgmkengkgnfaaGreat
end
