/- Orders of six: sorted they are 0 to 5. -/
import Derived.Test.YtljajgaicdffkaaPerm
namespace Go.Proofs.Ytljajgaicdffkaa
set_option linter.unusedSimpArgs false
set_option linter.unusedVariables false
set_option maxRecDepth 20000
theorem pB_iff {f : Nat → Int} : ∀ n, pB f n = true ↔ ∀ i, i < n → (0 ≤ f i ∧ f i ≤ 5) ∧ ∀ j, j < i → f j ≠ f i
  | 0 => ⟨fun _ i hi => by omega, fun _ => rfl⟩
  | n + 1 => by
    rw [pB, Bool.and_eq_true, Bool.and_eq_true, Bool.not_eq_true', decide_eq_true_iff, hsB_iff, pB_iff n]
    constructor
    · rintro ⟨h1, h2, h3⟩ i hi
      by_cases e : i = n
      · subst e; exact ⟨h2, h3⟩
      · exact h1 i (by omega)
    · intro h
      exact ⟨fun i hi => h i (by omega), (h n (by omega)).1, (h n (by omega)).2⟩
theorem ls6_nodup {f : Nat → Int} : (ls6 f).Nodup ↔ ∀ i, i < 6 → ∀ j, j < i → f j ≠ f i := by
  unfold ls6
  simp only [List.nodup_cons, List.mem_cons, List.not_mem_nil, or_false, not_or, List.nodup_nil, and_true, not_false_eq_true]
  constructor
  · intro h i hi j hj
    rcases (show i = 0 ∨ i = 1 ∨ i = 2 ∨ i = 3 ∨ i = 4 ∨ i = 5 by clear h; omega) with rfl | rfl | rfl | rfl | rfl | rfl
    · exact absurd hj (Nat.not_lt_zero j)
    · obtain rfl : j = 0 := by clear h; omega
      exact h.1.1
    · rcases (show j = 0 ∨ j = 1 by clear h; omega) with rfl | rfl <;> (obtain ⟨⟨a1, a2, a3, a4, a5⟩, ⟨b2, b3, b4, b5⟩, ⟨c3, c4, c5⟩, ⟨d4, d5⟩, e5⟩ := h; assumption)
    · rcases (show j = 0 ∨ j = 1 ∨ j = 2 by clear h; omega) with rfl | rfl | rfl <;> (obtain ⟨⟨a1, a2, a3, a4, a5⟩, ⟨b2, b3, b4, b5⟩, ⟨c3, c4, c5⟩, ⟨d4, d5⟩, e5⟩ := h; assumption)
    · rcases (show j = 0 ∨ j = 1 ∨ j = 2 ∨ j = 3 by clear h; omega) with rfl | rfl | rfl | rfl <;> (obtain ⟨⟨a1, a2, a3, a4, a5⟩, ⟨b2, b3, b4, b5⟩, ⟨c3, c4, c5⟩, ⟨d4, d5⟩, e5⟩ := h; assumption)
    · rcases (show j = 0 ∨ j = 1 ∨ j = 2 ∨ j = 3 ∨ j = 4 by clear h; omega) with rfl | rfl | rfl | rfl | rfl <;> (obtain ⟨⟨a1, a2, a3, a4, a5⟩, ⟨b2, b3, b4, b5⟩, ⟨c3, c4, c5⟩, ⟨d4, d5⟩, e5⟩ := h; assumption)
  · intro h
    have g : ∀ i j, i < 6 → j < i → ¬ f j = f i := fun i j hi hj => h i hi j hj
    exact ⟨⟨h 1 (by omega) 0 (by omega), h 2 (by omega) 0 (by omega), h 3 (by omega) 0 (by omega), h 4 (by omega) 0 (by omega), h 5 (by omega) 0 (by omega)⟩, ⟨h 2 (by omega) 1 (by omega), h 3 (by omega) 1 (by omega), h 4 (by omega) 1 (by omega), h 5 (by omega) 1 (by omega)⟩, ⟨h 3 (by omega) 2 (by omega), h 4 (by omega) 2 (by omega), h 5 (by omega) 2 (by omega)⟩, ⟨h 4 (by omega) 3 (by omega), h 5 (by omega) 3 (by omega)⟩, h 5 (by omega) 4 (by omega)⟩
theorem ls6_mem {f : Nat → Int} {x : Int} : x ∈ ls6 f ↔ ∃ i, i < 6 ∧ f i = x := by
  unfold ls6
  simp only [List.mem_cons, List.not_mem_nil, or_false]
  constructor
  · rintro (h | h | h | h | h | h)
    · exact ⟨0, by omega, h.symm⟩
    · exact ⟨1, by omega, h.symm⟩
    · exact ⟨2, by omega, h.symm⟩
    · exact ⟨3, by omega, h.symm⟩
    · exact ⟨4, by omega, h.symm⟩
    · exact ⟨5, by omega, h.symm⟩
  · rintro ⟨i, hi, rfl⟩
    have hc : i = 0 ∨ i = 1 ∨ i = 2 ∨ i = 3 ∨ i = 4 ∨ i = 5 := by omega
    rcases hc with rfl | rfl | rfl | rfl | rfl | rfl <;> simp
/-- Sorted, an order of six is 0 to 5; and nothing else is. -/
theorem perm_iff {f F : Nat → Int} (h : IsS f F) : (∀ j, j < 6 → F j = (j : Int)) ↔ pB f 6 = true := by
  rw [pB_iff]
  constructor
  · intro hF i hi
    have hn : (ls6 f).Nodup := h.1.nodup_iff.1 (ls6_nodup.2 fun i hi j hj => by rw [hF i hi, hF j (by omega)]; omega)
    refine ⟨?_, fun j hj => ls6_nodup.1 hn i hi j hj⟩
    obtain ⟨k, hk, e⟩ := ls6_mem.1 (h.1.mem_iff.2 (ls6_mem.2 ⟨i, hi, rfl⟩))
    rw [hF k hk] at e
    omega
  · intro hf
    have hn : (ls6 F).Nodup := h.1.nodup_iff.2 (ls6_nodup.2 fun i hi j hj => (hf i hi).2 j hj)
    have hd := ls6_nodup.1 hn
    have hr : ∀ i, i < 6 → 0 ≤ F i ∧ F i ≤ 5 := fun i hi => by
      obtain ⟨k, hk, e⟩ := ls6_mem.1 (h.1.mem_iff.1 (ls6_mem.2 ⟨i, hi, rfl⟩))
      rw [← e]
      exact (hf k hk).1
    have r0 := hr 0 (by omega); have r5 := hr 5 (by omega)
    have s0 := h.2 0 1 (by omega) (by omega); have s1 := h.2 1 2 (by omega) (by omega); have s2 := h.2 2 3 (by omega) (by omega); have s3 := h.2 3 4 (by omega) (by omega); have s4 := h.2 4 5 (by omega) (by omega)
    have d0 := hd 1 (by omega) 0 (by omega); have d1 := hd 2 (by omega) 1 (by omega); have d2 := hd 3 (by omega) 2 (by omega); have d3 := hd 4 (by omega) 3 (by omega); have d4 := hd 5 (by omega) 4 (by omega)
    intro j hj
    have hc : j = 0 ∨ j = 1 ∨ j = 2 ∨ j = 3 ∨ j = 4 ∨ j = 5 := by omega
    rcases hc with rfl | rfl | rfl | rfl | rfl | rfl <;> omega
end Go.Proofs.Ytljajgaicdffkaa
