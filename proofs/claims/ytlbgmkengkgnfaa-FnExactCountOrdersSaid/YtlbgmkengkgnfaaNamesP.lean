/- Renamings, forms and first forms: plain laws. -/
import Derived.Test.YtlbgmkengkgnfaaFormP
namespace Go.Proofs.Ytlbgmkengkgnfaa
set_option linter.unusedSimpArgs false
set_option linter.unusedVariables false
set_option maxRecDepth 20000
theorem bS_rr {f F : Nat → Int} (h : Rr f F) {k : Nat} (hk : k < 5) : Rr f (bS F k) := by
  unfold bS
  split
  · exact h.swp hk
  · exact h
theorem ex_form {f : Nat → Int} (h : cellB f) : ∃ F, IsForm f F := by
  have hk : ∀ i, i < 6 → (∃ F, Rr f F ∧ bI F i 0) → ∀ k, k ≤ 5 → ∃ F, Rr f F ∧ bI F i k := by
    intro i hi h0 k
    induction k with
    | zero => intro _; exact h0
    | succ k ih =>
      intro hk
      obtain ⟨F, h1, h2⟩ := ih (by omega)
      exact ⟨bS F k, bS_rr h1 (by omega), bI_step (by omega) h2⟩
  have hi : ∀ i, i ≤ 6 → ∃ F, Rr f F ∧ bI F i 0 := by
    intro i
    induction i with
    | zero => intro _; exact ⟨f, Rr.refl h, bI_start f⟩
    | succ i ih =>
      intro hi
      obtain ⟨F, h1, h2⟩ := hk i (by omega) (ih (by omega)) 5 (Nat.le_refl _)
      exact ⟨F, h1, bI_next (by omega) h2⟩
  obtain ⟨F, h1, h2⟩ := hi 6 (Nat.le_refl _)
  exact ⟨F, h1, bI_done h2⟩
theorem form_is {f : Nat → Int} (h : cellB f) : IsForm f (formF f) := by
  have hx := ex_form h
  have : formF f = hx.choose := dif_pos hx
  rw [this]
  exact hx.choose_spec
theorem form_perm {f g : Nat → Int} (hf : cellB f) (hg : cellB g) (h : (cdl f).Perm (cdl g)) : arr 24 (formF f) = arr 24 (formF g) := form_uniq (form_is hf) (form_is hg) h
theorem arr_inj {n : Nat} {f g : Nat → Int} (h : arr n f = arr n g) : ∀ j, j < n → f j = g j := fun j hj => by
  have h1 := arr_get n f j
  rw [h, arr_get, if_pos hj, if_pos hj] at h1
  simpa using h1.symm
theorem cdl_congr {f g : Nat → Int} (h : ∀ j, j < 24 → f j = g j) : cdl f = cdl g := by
  unfold cdl cod tub
  rw [h (0 * 4 + 0) (by omega), h (0 * 4 + 1) (by omega), h (0 * 4 + 2) (by omega), h (0 * 4 + 3) (by omega), h (1 * 4 + 0) (by omega), h (1 * 4 + 1) (by omega), h (1 * 4 + 2) (by omega), h (1 * 4 + 3) (by omega), h (2 * 4 + 0) (by omega), h (2 * 4 + 1) (by omega), h (2 * 4 + 2) (by omega), h (2 * 4 + 3) (by omega), h (3 * 4 + 0) (by omega), h (3 * 4 + 1) (by omega), h (3 * 4 + 2) (by omega), h (3 * 4 + 3) (by omega), h (4 * 4 + 0) (by omega), h (4 * 4 + 1) (by omega), h (4 * 4 + 2) (by omega), h (4 * 4 + 3) (by omega), h (5 * 4 + 0) (by omega), h (5 * 4 + 1) (by omega), h (5 * 4 + 2) (by omega), h (5 * 4 + 3) (by omega)]
theorem perm_form {f g : Nat → Int} (hf : cellB f) (hg : cellB g) (h : arr 24 (formF f) = arr 24 (formF g)) : (cdl f).Perm (cdl g) := by
  have e := cdl_congr (arr_inj h)
  exact (form_is hf).1.1.symm.trans (e ▸ (form_is hg).1.1)
/-! ### renamings -/
def isRen (s : Nat → Int) : Prop := s 0 = 0 ∧ (∀ i, i < 6 → 0 ≤ s i ∧ s i ≤ 5) ∧ (∀ i j, i < 6 → j < 6 → s i = s j → i = j)
def renF (f s : Nat → Int) : Nat → Int := fun j => s (f j).toNat
theorem ren_cell {f s : Nat → Int} (hf : cellB f) (hs : isRen s) : cellB (renF f s) := fun j hj => hs.2.1 _ (by have := hf j hj; omega)
/-- What a renaming makes of a tube's number. -/
def rc (s : Nat → Int) (c : Int) : Int := s (c / 216).toNat * 216 + s (c / 36 % 6).toNat * 36 + s (c / 6 % 6).toNat * 6 + s (c % 6).toNat
theorem rc_cod {s g : Nat → Int} (hg : ∀ k, k < 4 → 0 ≤ g k ∧ g k ≤ 5) : cod (fun j => s (g j).toNat) = rc s (cod g) := by
  have a0 := hg 0 (by omega); have a1 := hg 1 (by omega); have a2 := hg 2 (by omega); have a3 := hg 3 (by omega)
  unfold rc cod
  have e0 : (g 0 * 216 + g 1 * 36 + g 2 * 6 + g 3) / 216 = g 0 := by omega
  have e1 : (g 0 * 216 + g 1 * 36 + g 2 * 6 + g 3) / 36 % 6 = g 1 := by omega
  have e2 : (g 0 * 216 + g 1 * 36 + g 2 * 6 + g 3) / 6 % 6 = g 2 := by omega
  have e3 : (g 0 * 216 + g 1 * 36 + g 2 * 6 + g 3) % 6 = g 3 := by omega
  rw [e0, e1, e2, e3]
theorem cdl_ren {f s : Nat → Int} (hf : cellB f) : cdl (renF f s) = (cdl f).map (rc s) := by
  unfold cdl
  simp only [List.map_cons, List.map_nil]
  rw [← rc_cod (tub_cell hf (i := 0) (by omega)), ← rc_cod (tub_cell hf (i := 1) (by omega)), ← rc_cod (tub_cell hf (i := 2) (by omega)), ← rc_cod (tub_cell hf (i := 3) (by omega)), ← rc_cod (tub_cell hf (i := 4) (by omega)), ← rc_cod (tub_cell hf (i := 5) (by omega))]
  rfl
theorem renF_congr {f g s t : Nat → Int} (hf : cellB f) (h : ∀ j, j < 24 → f j = g j) (hs : ∀ i, i < 6 → s i = t i) : ∀ j, j < 24 → renF f s j = renF g t j := fun j hj => by
  unfold renF
  rw [← h j hj, hs _ (by have := hf j hj; omega)]
/-- First s, then t. -/
def cmp2 (s t : Nat → Int) : Nat → Int := fun i => t (s i).toNat
theorem cmp2_ren {s t : Nat → Int} (hs : isRen s) (ht : isRen t) : isRen (cmp2 s t) := by
  refine ⟨?_, fun i hi => ?_, fun i j hi hj h => ?_⟩
  · unfold cmp2; rw [hs.1]; exact ht.1
  · have := hs.2.1 i hi
    exact ht.2.1 _ (by omega)
  · have h1 := hs.2.1 i hi
    have h2 := hs.2.1 j hj
    exact hs.2.2 i j hi hj (by have := ht.2.2 _ _ (by omega) (by omega) h; omega)
theorem renF_cmp {f s t : Nat → Int} : renF (renF f s) t = renF f (cmp2 s t) := rfl
def idR : Nat → Int := fun i => i
theorem idR_ren : isRen idR := ⟨rfl, fun i hi => by unfold idR; omega, fun i j _ _ h => by unfold idR at h; omega⟩
theorem renF_id {f : Nat → Int} (hf : cellB f) : ∀ j, j < 24 → renF f idR j = f j := fun j hj => by
  unfold renF idR
  have := hf j hj
  omega
/-- Five numbers of 1 .. 5 without a repetition are all of them. -/
def disB (a b c d e : Nat) : Bool := decide (a ≠ 0 ∧ b ≠ 0 ∧ c ≠ 0 ∧ d ≠ 0 ∧ e ≠ 0 ∧ a ≠ b ∧ a ≠ c ∧ a ≠ d ∧ a ≠ e ∧ b ≠ c ∧ b ≠ d ∧ b ≠ e ∧ c ≠ d ∧ c ≠ e ∧ d ≠ e)
def surB : Bool := (List.range 6).all fun a => (List.range 6).all fun b => (List.range 6).all fun c => (List.range 6).all fun d => (List.range 6).all fun e =>
  !disB a b c d e || (List.range 6).all fun j => [0, a, b, c, d, e].contains j
theorem surB_true : surB = true := by decide +kernel
theorem ren_sur {s : Nat → Int} (hs : isRen s) : ∀ j : Nat, j < 6 → ∃ i, i < 6 ∧ s i = j := by
  have h := surB_true
  unfold surB at h
  simp only [List.all_eq_true, List.mem_range] at h
  have b := hs.2.1
  have hh := h (s 1).toNat (by have := b 1 (by omega); omega) (s 2).toNat (by have := b 2 (by omega); omega) (s 3).toNat (by have := b 3 (by omega); omega) (s 4).toNat (by have := b 4 (by omega); omega) (s 5).toNat (by have := b 5 (by omega); omega)
  clear h
  intro j hj
  have n : ∀ i k, i < 6 → k < 6 → i ≠ k → (s i).toNat ≠ (s k).toNat := fun i k hi hk hik e => hik (hs.2.2 i k hi hk (by have := b i hi; have := b k hk; omega))
  have n0 : ∀ k, 0 < k → k < 6 → (s k).toNat ≠ 0 := fun k h0 hk e => by
    have := n k 0 hk (by omega) (by omega)
    rw [hs.1] at this
    exact this e
  have hd : disB (s 1).toNat (s 2).toNat (s 3).toNat (s 4).toNat (s 5).toNat = true := by
    unfold disB
    rw [decide_eq_true_iff]
    exact ⟨n0 1 (by omega) (by omega), n0 2 (by omega) (by omega), n0 3 (by omega) (by omega), n0 4 (by omega) (by omega), n0 5 (by omega) (by omega), n 1 2 (by omega) (by omega) (by omega), n 1 3 (by omega) (by omega) (by omega), n 1 4 (by omega) (by omega) (by omega), n 1 5 (by omega) (by omega) (by omega), n 2 3 (by omega) (by omega) (by omega), n 2 4 (by omega) (by omega) (by omega), n 2 5 (by omega) (by omega) (by omega), n 3 4 (by omega) (by omega) (by omega), n 3 5 (by omega) (by omega) (by omega), n 4 5 (by omega) (by omega) (by omega)⟩
  rw [hd] at hh
  simp only [Bool.not_true, Bool.false_or, List.all_eq_true, List.mem_range] at hh
  have hc := hh j hj
  simp only [List.contains_eq_mem, List.mem_cons, List.not_mem_nil, or_false, decide_eq_true_eq] at hc
  rcases hc with e | e | e | e | e | e
  · exact ⟨0, by omega, by rw [hs.1]; omega⟩
  · exact ⟨1, by omega, by have := b 1 (by omega); omega⟩
  · exact ⟨2, by omega, by have := b 2 (by omega); omega⟩
  · exact ⟨3, by omega, by have := b 3 (by omega); omega⟩
  · exact ⟨4, by omega, by have := b 4 (by omega); omega⟩
  · exact ⟨5, by omega, by have := b 5 (by omega); omega⟩
open Classical in
noncomputable def invR (s : Nat → Int) : Nat → Int := fun j => if h : ∃ i, i < 6 ∧ s i = (j : Int) then (h.choose : Int) else 0
theorem invR_at {s : Nat → Int} (hs : isRen s) {j : Nat} (hj : j < 6) : ∃ i, i < 6 ∧ s i = j ∧ invR s j = i := by
  have hx := ren_sur hs j hj
  refine ⟨hx.choose, hx.choose_spec.1, hx.choose_spec.2, ?_⟩
  unfold invR
  rw [dif_pos hx]
theorem invR_ren {s : Nat → Int} (hs : isRen s) : isRen (invR s) := by
  refine ⟨?_, fun j hj => ?_, fun j k hj hk h => ?_⟩
  · obtain ⟨i, hi, h1, h2⟩ := invR_at hs (j := 0) (by omega)
    have := hs.2.2 i 0 hi (by omega) (by rw [h1, hs.1]; rfl)
    rw [h2, this]; rfl
  · obtain ⟨i, hi, _, h2⟩ := invR_at hs hj
    omega
  · obtain ⟨i, hi, h1, h2⟩ := invR_at hs hj
    obtain ⟨i', hi', h1', h2'⟩ := invR_at hs hk
    have : i = i' := by omega
    subst this
    omega
theorem cmp_inv {s : Nat → Int} (hs : isRen s) : ∀ i, i < 6 → cmp2 s (invR s) i = i := fun i hi => by
  unfold cmp2
  have b := hs.2.1 i hi
  obtain ⟨k, hk, h1, h2⟩ := invR_at hs (j := (s i).toNat) (by omega)
  rw [h2]
  have := hs.2.2 k i hk hi (by omega)
  omega
/-! ### first forms -/
def key (f : Nat → Int) : Int := ((((cod (tub f 0) * 1296 + cod (tub f 1)) * 1296 + cod (tub f 2)) * 1296 + cod (tub f 3)) * 1296 + cod (tub f 4)) * 1296 + cod (tub f 5)
theorem cod_bd {g : Nat → Int} (hg : ∀ k, k < 4 → 0 ≤ g k ∧ g k ≤ 5) : 0 ≤ cod g ∧ cod g ≤ 1295 := by
  have a0 := hg 0 (by omega); have a1 := hg 1 (by omega); have a2 := hg 2 (by omega); have a3 := hg 3 (by omega)
  unfold cod; omega
theorem key_inj {F G : Nat → Int} (hF : cellB F) (hG : cellB G) (e : key F = key G) : arr 24 F = arr 24 G := by
  refine arr_of_cdl hF hG ?_
  have f0 := cod_bd (tub_cell hF (i := 0) (by omega)); have f1 := cod_bd (tub_cell hF (i := 1) (by omega)); have f2 := cod_bd (tub_cell hF (i := 2) (by omega)); have f3 := cod_bd (tub_cell hF (i := 3) (by omega)); have f4 := cod_bd (tub_cell hF (i := 4) (by omega)); have f5 := cod_bd (tub_cell hF (i := 5) (by omega))
  have g0 := cod_bd (tub_cell hG (i := 0) (by omega)); have g1 := cod_bd (tub_cell hG (i := 1) (by omega)); have g2 := cod_bd (tub_cell hG (i := 2) (by omega)); have g3 := cod_bd (tub_cell hG (i := 3) (by omega)); have g4 := cod_bd (tub_cell hG (i := 4) (by omega)); have g5 := cod_bd (tub_cell hG (i := 5) (by omega))
  unfold key at e
  unfold cdl
  generalize cod (tub F 0) = x0 at *; generalize cod (tub F 1) = x1 at *; generalize cod (tub F 2) = x2 at *; generalize cod (tub F 3) = x3 at *; generalize cod (tub F 4) = x4 at *; generalize cod (tub F 5) = x5 at *
  generalize cod (tub G 0) = y0 at *; generalize cod (tub G 1) = y1 at *; generalize cod (tub G 2) = y2 at *; generalize cod (tub G 3) = y3 at *; generalize cod (tub G 4) = y4 at *; generalize cod (tub G 5) = y5 at *
  have e5 : x5 = y5 := by omega
  have e4 : x4 = y4 := by omega
  have e3 : x3 = y3 := by omega
  have e2 : x2 = y2 := by omega
  have e1 : x1 = y1 := by omega
  have e0 : x0 = y0 := by omega
  rw [e0, e1, e2, e3, e4, e5]
theorem key_congr {F G : Nat → Int} (h : arr 24 F = arr 24 G) : key F = key G := by
  have := cdl_congr (arr_inj h)
  unfold cdl at this
  simp only [List.cons.injEq, and_true] at this
  obtain ⟨e0, e1, e2, e3, e4, e5⟩ := this
  unfold key
  rw [e0, e1, e2, e3, e4, e5]
/-- The best of the forms by the first n renamings. -/
noncomputable def fstF (f : Nat → Int) (S : Nat → (Nat → Int)) : Nat → (Nat → Int)
  | 0 => formF f
  | n + 1 => if key (formF (renF f (S n))) < key (fstF f S n) then formF (renF f (S n)) else fstF f S n
/-- S lists all renamings, and no others, up to N. -/
def allR (S : Nat → (Nat → Int)) (N : Nat) : Prop := (∀ n, n < N → isRen (S n)) ∧ ∀ s, isRen s → ∃ n, n < N ∧ ∀ i, i < 6 → S n i = s i
theorem fstF_is {f : Nat → Int} {S : Nat → (Nat → Int)} {N : Nat} (hf : cellB f) (hS : ∀ n, n < N → isRen (S n)) : ∀ n, n ≤ N → ∃ s, isRen s ∧ arr 24 (fstF f S n) = arr 24 (formF (renF f s)) ∧ cellB (fstF f S n)
  | 0, _ => ⟨idR, idR_ren, form_perm hf (ren_cell hf idR_ren) (by rw [cdl_congr (renF_id hf)]), (form_is hf).1.2⟩
  | n + 1, h => by
    unfold fstF
    split
    · exact ⟨S n, hS n (by omega), rfl, (form_is (ren_cell hf (hS n (by omega)))).1.2⟩
    · exact fstF_is hf hS n (by omega)
theorem fstF_le {f : Nat → Int} {S : Nat → (Nat → Int)} : ∀ n k, k < n → key (fstF f S n) ≤ key (formF (renF f (S k)))
  | n + 1, k, h => by
    unfold fstF
    by_cases h1 : k = n
    · subst h1
      split
      · exact Int.le_refl _
      · omega
    · have := fstF_le (f := f) (S := S) n k (by omega)
      split
      · omega
      · exact this
theorem fst_le {f : Nat → Int} {S : Nat → (Nat → Int)} {N : Nat} (hf : cellB f) (hS : allR S N) {s : Nat → Int} (hs : isRen s) : key (fstF f S N) ≤ key (formF (renF f s)) := by
  obtain ⟨n, hn, h⟩ := hS.2 s hs
  have h1 := fstF_le (f := f) (S := S) N n hn
  have e : arr 24 (formF (renF f (S n))) = arr 24 (formF (renF f s)) := form_perm (ren_cell hf (hS.1 n hn)) (ren_cell hf hs) (by rw [cdl_congr (renF_congr hf (fun _ _ => rfl) h)])
  rw [← key_congr e]
  exact h1
/-- b is a renamed, but for the order of the tubes. -/
def alk (a b : Nat → Int) : Prop := ∃ s, isRen s ∧ arr 24 (formF (renF a s)) = arr 24 (formF b)
theorem alk_form {a b s t : Nat → Int} (ha : cellB a) (hb : cellB b) (hs : isRen s) (ht : isRen t) (h : arr 24 (formF (renF a s)) = arr 24 (formF b)) : arr 24 (formF (renF b t)) = arr 24 (formF (renF a (cmp2 s t))) := by
  have hp := perm_form (ren_cell ha hs) hb h
  refine form_perm (ren_cell hb ht) (ren_cell ha (cmp2_ren hs ht)) ?_
  rw [cdl_ren hb, ← renF_cmp, cdl_ren (ren_cell ha hs)]
  exact (hp.symm).map _
theorem alk_symm {a b : Nat → Int} (ha : cellB a) (hb : cellB b) (h : alk a b) : alk b a := by
  obtain ⟨s, hs, h⟩ := h
  refine ⟨invR s, invR_ren hs, ?_⟩
  rw [alk_form ha hb hs (invR_ren hs) h]
  refine form_perm (ren_cell ha (cmp2_ren hs (invR_ren hs))) ha ?_
  rw [cdl_congr (renF_congr (t := idR) ha (fun _ _ => rfl) (cmp_inv hs)), cdl_congr (renF_id ha)]
theorem alk_le {a b : Nat → Int} {S : Nat → (Nat → Int)} {N : Nat} (ha : cellB a) (hb : cellB b) (hS : allR S N) (h : alk a b) : key (fstF a S N) ≤ key (fstF b S N) := by
  obtain ⟨s, hs, h⟩ := h
  obtain ⟨t, ht, h1, _⟩ := fstF_is hb hS.1 N (Nat.le_refl _)
  rw [key_congr h1, key_congr (alk_form ha hb hs ht h)]
  exact fst_le ha hS (cmp2_ren hs ht)
/-- Alike racks are those with the same first form. -/
theorem alk_iff {a b : Nat → Int} {S : Nat → (Nat → Int)} {N : Nat} (ha : cellB a) (hb : cellB b) (hS : allR S N) : arr 24 (fstF a S N) = arr 24 (fstF b S N) ↔ alk a b := by
  obtain ⟨s, hs, h1, c1⟩ := fstF_is ha hS.1 N (Nat.le_refl _)
  obtain ⟨t, ht, h2, c2⟩ := fstF_is hb hS.1 N (Nat.le_refl _)
  constructor
  · intro e
    rw [h1, h2] at e
    have e2 := alk_form (t := invR t) (ren_cell ha hs) (ren_cell hb ht) idR_ren (invR_ren ht) (by
      rw [← e]
      exact form_perm (ren_cell (ren_cell ha hs) idR_ren) (ren_cell ha hs) (by rw [cdl_congr (renF_id (ren_cell ha hs))]))
    refine ⟨cmp2 s (invR t), cmp2_ren hs (invR_ren ht), ?_⟩
    have e3 : arr 24 (formF (renF (renF b t) (invR t))) = arr 24 (formF b) := by
      refine form_perm (ren_cell (ren_cell hb ht) (invR_ren ht)) hb ?_
      rw [renF_cmp, cdl_congr (renF_congr (t := idR) hb (fun _ _ => rfl) (cmp_inv ht)), cdl_congr (renF_id hb)]
    rw [← e3, e2]
    refine form_perm (ren_cell ha (cmp2_ren hs (invR_ren ht))) (ren_cell (ren_cell ha hs) (cmp2_ren idR_ren (invR_ren ht))) ?_
    rw [← renF_cmp, cdl_congr (renF_congr (s := cmp2 idR (invR t)) (t := invR t) (ren_cell ha hs) (fun _ _ => rfl) (fun i hi => by unfold cmp2 idR; rfl))]
  · intro h
    refine key_inj c1 c2 ?_
    have h3 := alk_le ha hb hS h
    have h4 := alk_le hb ha hS (alk_symm ha hb h)
    omega
end Go.Proofs.Ytlbgmkengkgnfaa
