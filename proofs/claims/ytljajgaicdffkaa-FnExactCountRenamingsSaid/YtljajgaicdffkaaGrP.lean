/- Matching equal tubes, the first free one each: plain laws. -/
import Derived.Test.YtljajgaicdffkaaNamesP
import Derived.Test.YtljajgaicdffkaaBool
namespace Go.Proofs.Ytljajgaicdffkaa
set_option linter.unusedSimpArgs false
set_option linter.unusedVariables false
set_option maxRecDepth 20000
theorem countP_upd {p : Nat → Bool} {k0 : Nat} {b : Bool} (hp : p k0 = false) : ∀ l : List Nat, l.Nodup → k0 ∈ l → (l.countP fun k => if k = k0 then b else p k) = l.countP p + (if b then 1 else 0)
  | [], _, h => by cases h
  | x :: l, hn, h => by
    rw [List.nodup_cons] at hn
    rw [List.countP_cons, List.countP_cons]
    by_cases e : x = k0
    · subst e
      have hc : (l.countP fun k => if k = x then b else p k) = l.countP p := List.countP_congr fun k hk => by
        have : k ≠ x := fun e => hn.1 (e ▸ hk)
        simp [this]
      rw [hc]
      simp [hp]
    · have hm : k0 ∈ l := by
        rcases List.mem_cons.1 h with h | h
        · exact absurd h.symm e
        · exact h
      have ih := countP_upd (b := b) hp l hn.2 hm
      rw [ih]
      simp only [e, if_false]
      omega
/-- The first free tube of A that is B's i-th. -/
def kf (A B : Nat → Int) (u : Nat → Bool) (i : Nat) : Nat := ((List.range 6).find? fun k => !u k && A k == B i).getD 6
def grS (A B : Nat → Int) : Nat → (Nat → Int) × (Nat → Bool)
  | 0 => (fun _ => 0, fun _ => false)
  | i + 1 => (upd (grS A B i).1 i (kf A B (grS A B i).2 i), bup (grS A B i).2 (kf A B (grS A B i).2 i) true)
theorem kf_spec {A B : Nat → Int} {u : Nat → Bool} {i : Nat} (h : ∃ k, k < 6 ∧ u k = false ∧ A k = B i) : kf A B u i < 6 ∧ u (kf A B u i) = false ∧ A (kf A B u i) = B i ∧ ∀ k, k < kf A B u i → u k = true ∨ (u k = false ∧ A k ≠ B i) := by
  obtain ⟨k, hk, h1, h2⟩ := h
  have hs : ((List.range 6).find? fun k => !u k && A k == B i).isSome = true := by
    rw [List.find?_isSome]
    exact ⟨k, List.mem_range.2 hk, by simp [h1, h2]⟩
  obtain ⟨z, hz⟩ := Option.isSome_iff_exists.1 hs
  have e : kf A B u i = z := by unfold kf; rw [hz]; rfl
  have hp := List.find?_some hz
  have hm := List.mem_of_find?_eq_some hz
  simp only [Bool.and_eq_true, Bool.not_eq_true', beq_iff_eq] at hp
  rw [e]
  refine ⟨List.mem_range.1 hm, hp.1, hp.2, fun k hk => ?_⟩
  obtain ⟨_, l1, l2, hl, hno⟩ := List.find?_eq_some_iff_append.1 hz
  have hka : k ∈ l1 := by
    have hlen : (l1 ++ z :: l2).length = 6 := by rw [← hl]; simp
    have hzi : (List.range 6)[l1.length]? = some z := by rw [hl]; simp
    have hzl : z = l1.length := by
      rw [List.getElem?_range (by simp at hlen; omega)] at hzi
      simpa using hzi.symm
    have hkk : (List.range 6)[k]? = some k := List.getElem?_range (by have := List.mem_range.1 hm; omega)
    rw [hl, List.getElem?_append_left (by omega)] at hkk
    exact List.mem_of_getElem? hkk
  have := hno k hka
  simp only [Bool.not_eq_true', Bool.and_eq_false_iff, Bool.not_eq_false'] at this
  cases hu : u k with
  | true => exact .inl rfl
  | false =>
    refine .inr ⟨rfl, fun he => ?_⟩
    simp [hu, he] at this
def grI (A B : Nat → Int) (i : Nat) : Prop := ∀ c, ((List.range 6).countP fun k => (grS A B i).2 k && A k == c) = ((List.range i).countP fun j => B j == c)
theorem cdl_range (f : Nat → Int) : cdl f = (List.range 6).map fun k => cod (tub f k) := rfl
theorem gr_ex {A B : Nat → Int} (hAB : ∀ c, ((List.range 6).countP fun k => A k == c) = ((List.range 6).countP fun k => B k == c)) {i : Nat} (hi : i < 6) (hI : grI A B i) : ∃ k, k < 6 ∧ (grS A B i).2 k = false ∧ A k = B i := by
  by_cases hx : ∃ k, k < 6 ∧ (grS A B i).2 k = false ∧ A k = B i
  · exact hx
  · exfalso
    have h1 := hI (B i)
    have h2 : ((List.range 6).countP fun k => (grS A B i).2 k && A k == B i) = ((List.range 6).countP fun k => A k == B i) := List.countP_congr fun k hk => by
      have hk' := List.mem_range.1 hk
      cases hu : (grS A B i).2 k with
      | true => simp
      | false =>
        have : A k ≠ B i := fun e => hx ⟨k, hk', hu, e⟩
        simp [this]
    have h3 : ((List.range (i + 1)).countP fun j => B j == B i) = ((List.range i).countP fun j => B j == B i) + 1 := by
      rw [List.range_succ, List.countP_append]; simp
    have h4 : ((List.range (i + 1)).countP fun j => B j == B i) ≤ ((List.range 6).countP fun j => B j == B i) := (List.range_sublist.2 (by omega)).countP_le
    have h5 := hAB (B i)
    omega
theorem grI_step {A B : Nat → Int} {i : Nat} (hI : grI A B i) (h : ∃ k, k < 6 ∧ (grS A B i).2 k = false ∧ A k = B i) : grI A B (i + 1) := by
  intro c
  obtain ⟨h1, h2, h3, _⟩ := kf_spec h
  rw [List.range_succ (n := i), List.countP_append, ← hI c]
  show ((List.range 6).countP fun k => bup (grS A B i).2 (kf A B (grS A B i).2 i) true k && A k == c) = _
  generalize kf A B (grS A B i).2 i = k0 at h1 h2 h3
  have e : (fun k => bup (grS A B i).2 k0 true k && A k == c) = fun k => if k = k0 then (B i == c) else ((grS A B i).2 k && A k == c) := funext fun k => by
    unfold bup
    by_cases hk : k = k0
    · subst hk; simp [h3]
    · simp [hk]
  rw [e, countP_upd (p := fun k => (grS A B i).2 k && A k == c) (by simp [h2]) _ List.nodup_range (List.mem_range.2 h1)]
  simp [List.countP_cons]
theorem gr_all {A B : Nat → Int} (hAB : ∀ c, ((List.range 6).countP fun k => A k == c) = ((List.range 6).countP fun k => B k == c)) : ∀ i, i ≤ 6 → grI A B i
  | 0, _ => fun c => by simp [grS]
  | i + 1, h => grI_step (gr_all hAB i (by omega)) (gr_ex hAB (by omega) (gr_all hAB i (by omega)))
/-- A place is found for each. -/
theorem gr_kf {A B : Nat → Int} (hAB : ∀ c, ((List.range 6).countP fun k => A k == c) = ((List.range 6).countP fun k => B k == c)) {i : Nat} (hi : i < 6) : kf A B (grS A B i).2 i < 6 ∧ (grS A B i).2 (kf A B (grS A B i).2 i) = false ∧ A (kf A B (grS A B i).2 i) = B i ∧ ∀ k, k < kf A B (grS A B i).2 i → (grS A B i).2 k = true ∨ ((grS A B i).2 k = false ∧ A k ≠ B i) :=
  kf_spec (gr_ex hAB hi (gr_all hAB i (by omega)))
theorem gr_perm {a b : Nat → Int} (h : (cdl a).Perm (cdl b)) : ∀ c, ((List.range 6).countP fun k => cod (tub a k) == c) = ((List.range 6).countP fun k => cod (tub b k) == c) := fun c => by
  have := h.countP_eq fun x => x == c
  rw [cdl_range, cdl_range, List.countP_map, List.countP_map] at this
  exact this
end Go.Proofs.Ytljajgaicdffkaa
