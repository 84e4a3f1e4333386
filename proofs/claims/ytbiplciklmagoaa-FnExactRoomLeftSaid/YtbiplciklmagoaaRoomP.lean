/- The room left in the tubes, sorted: counting and insertion agree. -/
import Derived.Test.YtbiplciklmagoaaSortI
namespace Go.Proofs.Ytbiplciklmagoaa
set_option linter.unusedSimpArgs false
set_option linter.unusedVariables false
set_option maxRecDepth 20000
def LL (ρ : Nat → Nat) : Nat → List Nat
  | 0 => []
  | q + 1 => if ρ (q % 6) = q / 6 then LL ρ q ++ [q / 6] else LL ρ q
theorem LL_congr {ρ σ : Nat → Nat} (h : ∀ i, i < 6 → ρ i = σ i) : ∀ t, LL ρ t = LL σ t
  | 0 => rfl
  | q + 1 => by
    rw [LL, LL, LL_congr h q, h (q % 6) (Nat.mod_lt _ (by omega))]
theorem LL_len (ρ : Nat → Nat) : ∀ t, (LL ρ t).length ≤ t
  | 0 => by simp [LL]
  | q + 1 => by
    have := LL_len ρ q
    rw [LL]
    split
    · simp; omega
    · omega
theorem LL_le (ρ : Nat → Nat) : ∀ q x, x ∈ LL ρ q → x ≤ q / 6
  | 0, x, h => by simp [LL] at h
  | q + 1, x, h => by
    rw [LL] at h
    split at h
    · rcases List.mem_append.1 h with h | h
      · have := LL_le ρ q x h; omega
      · rw [List.mem_singleton] at h; omega
    · have := LL_le ρ q x h; omega
theorem LL_pw (ρ : Nat → Nat) : ∀ q, (LL ρ q).Pairwise (· ≤ ·)
  | 0 => .nil
  | q + 1 => by
    rw [LL]
    split
    · refine List.pairwise_append.2 ⟨LL_pw ρ q, List.pairwise_singleton _ _, fun x hx y hy => ?_⟩
      rw [List.mem_singleton] at hy
      have := LL_le ρ q x hx
      omega
    · exact LL_pw ρ q
theorem fil_cons (r x : Nat) (l : List Nat) : (x :: l).filter (fun y => decide (y = r)) = (if x = r then [r] else []) ++ l.filter (fun y => decide (y = r)) := by
  rw [List.filter_cons]
  by_cases h : x = r
  · simp [h]
  · simp [h]
theorem LL_step (ρ : Nat → Nat) (r k q : Nat) (hk : k < 6) (hq : q = 6 * r + k) : LL ρ (q + 1) = LL ρ q ++ (if ρ k = r then [r] else []) := by
  rw [LL, show q % 6 = k by omega, show q / 6 = r by omega]
  split <;> simp
theorem LL_six (ρ : Nat → Nat) (r : Nat) : LL ρ (6 * r + 1 + 1 + 1 + 1 + 1 + 1) = LL ρ (6 * r) ++ [ρ 0, ρ 1, ρ 2, ρ 3, ρ 4, ρ 5].filter (fun y => decide (y = r)) := by
  rw [LL_step ρ r 5 (6 * r + 1 + 1 + 1 + 1 + 1) (by omega) (by omega), LL_step ρ r 4 (6 * r + 1 + 1 + 1 + 1) (by omega) (by omega), LL_step ρ r 3 (6 * r + 1 + 1 + 1) (by omega) (by omega), LL_step ρ r 2 (6 * r + 1 + 1) (by omega) (by omega), LL_step ρ r 1 (6 * r + 1) (by omega) (by omega), LL_step ρ r 0 (6 * r) (by omega) (by omega)]
  rw [fil_cons, fil_cons, fil_cons, fil_cons, fil_cons, fil_cons, List.filter_nil]
  simp only [List.append_assoc, List.append_nil]
theorem fil_count (r v : Nat) : ∀ l : List Nat, (l.filter (fun y => decide (y = r))).count v = if v = r then l.count v else 0
  | [] => by simp
  | x :: l => by
    rw [fil_cons, List.count_append, fil_count r v l, List.count_cons]
    by_cases h : x = r
    · rw [if_pos h, h]
      by_cases h2 : v = r
      · subst h2; simp; omega
      · rw [if_neg h2, if_neg h2, List.count_eq_zero.2 (by simpa using h2)]
    · rw [if_neg h]
      by_cases h2 : v = r
      · subst h2; simp [h]
      · simp [h2]
theorem LL_all {ρ : Nat → Nat} (h : ∀ i, i < 6 → ρ i < 5) : (LL ρ 30).Pairwise (· ≤ ·) ∧ (LL ρ 30).Perm [ρ 0, ρ 1, ρ 2, ρ 3, ρ 4, ρ 5] := by
  refine ⟨LL_pw ρ 30, ?_⟩
  obtain ⟨l, hl⟩ : ∃ l, [ρ 0, ρ 1, ρ 2, ρ 3, ρ 4, ρ 5] = l := ⟨_, rfl⟩
  have h6 := fun r => LL_six ρ r
  rw [hl] at h6 ⊢
  have e : LL ρ 30 = ((((LL ρ 0 ++ l.filter (fun y => decide (y = 0))) ++ l.filter (fun y => decide (y = 1))) ++ l.filter (fun y => decide (y = 2))) ++ l.filter (fun y => decide (y = 3))) ++ l.filter (fun y => decide (y = 4)) := by
    rw [← h6 0, ← h6 1, ← h6 2, ← h6 3, ← h6 4]
  rw [e, List.perm_iff_count]
  intro v
  have hm : 5 ≤ v → l.count v = 0 := fun hv => List.count_eq_zero.2 (fun hv2 => by
    rw [← hl] at hv2
    have h0 := h 0 (by omega); have h1 := h 1 (by omega); have h2 := h 2 (by omega); have h3 := h 3 (by omega); have h4 := h 4 (by omega); have h5 := h 5 (by omega)
    simp only [List.mem_cons, List.not_mem_nil, or_false] at hv2
    omega)
  simp only [List.count_append, fil_count, LL, List.count_nil]
  by_cases hv : 5 ≤ v
  · rw [hm hv]
    simp
  · have hc : v = 0 ∨ v = 1 ∨ v = 2 ∨ v = 3 ∨ v = 4 := by omega
    rcases hc with rfl | rfl | rfl | rfl | rfl <;> simp
def gl (L : List Nat) : Nat → Int := fun j => ((L.getD j 0 : Nat) : Int)
theorem room_eq {ρ : Nat → Nat} (h : ∀ i, i < 6 → ρ i < 5) {F G : Nat → Int} (hF : ∀ j, j < 6 → F j = ((ρ j : Nat) : Int)) (hS : IsS F G) : (LL ρ 30).length = 6 ∧ ∀ j, j < 6 → G j = gl (LL ρ 30) j := by
  obtain ⟨h1, h2⟩ := LL_all h
  have hl : (LL ρ 30).length = 6 := h2.length_eq
  refine ⟨hl, ?_⟩
  have p1 : ((LL ρ 30).map Int.ofNat).Perm (ls6 F) := by
    unfold ls6
    rw [hF 0 (by omega), hF 1 (by omega), hF 2 (by omega), hF 3 (by omega), hF 4 (by omega), hF 5 (by omega)]
    exact h2.map Int.ofNat
  have s1 : ((LL ρ 30).map Int.ofNat).Pairwise (· ≤ ·) := List.Pairwise.map _ (fun a b h => Int.ofNat_le.2 h) h1
  have s2 : (ls6 G).Pairwise (· ≤ ·) := by
    unfold ls6
    simp only [List.pairwise_cons, List.mem_cons, List.not_mem_nil, or_false, List.Pairwise.nil, and_true, forall_eq_or_imp, forall_eq, false_implies, implies_true]
    refine ⟨⟨?_, ?_, ?_, ?_, ?_⟩, ⟨?_, ?_, ?_, ?_⟩, ⟨?_, ?_, ?_⟩, ⟨?_, ?_⟩, ?_⟩ <;> exact hS.2 _ _ (by omega) (by omega)
  have e : (LL ρ 30).map Int.ofNat = ls6 G := List.Perm.eq_of_pairwise (le := (· ≤ ·)) (fun _ _ _ _ h1 h2 => Int.le_antisymm h1 h2) s1 s2 (p1.trans hS.1.symm)
  obtain ⟨a, b, c, d, x, y, hL⟩ : ∃ a b c d x y, LL ρ 30 = [a, b, c, d, x, y] := by
    match hq : LL ρ 30, hl with
    | [a, b, c, d, x, y], _ => exact ⟨a, b, c, d, x, y, rfl⟩
  rw [hL] at e ⊢
  unfold ls6 at e
  simp only [List.map_cons, List.map_nil, List.cons.injEq, and_true] at e
  obtain ⟨e0, e1, e2, e3, e4, e5⟩ := e
  intro j hj
  unfold gl
  match j, hj with
  | 0, _ => exact e0.symm
  | 1, _ => exact e1.symm
  | 2, _ => exact e2.symm
  | 3, _ => exact e3.symm
  | 4, _ => exact e4.symm
  | 5, _ => exact e5.symm
theorem gl_app (L : List Nat) (r : Nat) (g : Nat → Int) (hg : g 0 = r) : ∀ j, j < (L ++ [r]).length → app (gl L) L.length g j = gl (L ++ [r]) j := fun j hj => by
  unfold app gl
  by_cases h : j < L.length
  · rw [if_pos h, List.getD_eq_getElem?_getD, List.getD_eq_getElem?_getD, List.getElem?_append_left h]
  · have e : j = L.length := by simp at hj; omega
    rw [if_neg h, e, Nat.sub_self, hg, List.getD_eq_getElem?_getD, List.getElem?_append_right (Nat.le_refl _), Nat.sub_self]
    rfl
end Go.Proofs.Ytbiplciklmagoaa
