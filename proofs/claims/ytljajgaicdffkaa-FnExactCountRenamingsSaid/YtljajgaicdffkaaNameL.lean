/- The list of all renamings: two ways of listing them. -/
import Derived.Test.YtljajgaicdffkaaNamesP
import Derived.Test.YtljajgaicdffkaaSl
namespace Go.Proofs.Ytljajgaicdffkaa
set_option linter.unusedSimpArgs false
set_option linter.unusedVariables false
set_option maxRecDepth 20000
/-- The elements of a list, one behind the other, s values each. -/
def fls (s : Nat) (L : List (Nat → Int)) : Nat → Int := fun q => L.getD (q / s) (fun _ => 0) (q % s)
theorem fls_at {s : Nat} (L : List (Nat → Int)) {k i : Nat} (hi : i < s) : fls s L (k * s + i) = L.getD k (fun _ => 0) i := by
  unfold fls
  have h1 : (k * s + i) / s = k := by rw [Nat.mul_comm, Nat.mul_add_div (by omega), Nat.div_eq_of_lt hi, Nat.add_zero]
  have h2 : (k * s + i) % s = i := by rw [Nat.mul_comm, Nat.mul_add_mod, Nat.mod_eq_of_lt hi]
  rw [h1, h2]
theorem fls_append {s : Nat} (hs : 0 < s) (L M : List (Nat → Int)) : ∀ j, j < (L ++ M).length * s → app (fls s L) (L.length * s) (fls s M) j = fls s (L ++ M) j := fun j _ => by
  have hm := Nat.mod_lt j hs
  have hd : j / s * s + j % s = j := by rw [Nat.mul_comm]; exact Nat.div_add_mod j s
  unfold app
  by_cases h1 : j < L.length * s
  · rw [if_pos h1]
    have h2 : j / s < L.length := by rw [Nat.div_lt_iff_lt_mul hs]; exact h1
    unfold fls
    rw [List.getD_eq_getElem?_getD, List.getD_eq_getElem?_getD, List.getElem?_append_left h2]
  · rw [if_neg h1]
    have h2 : L.length ≤ j / s := by rw [Nat.le_div_iff_mul_le hs]; omega
    have e : j - L.length * s = (j / s - L.length) * s + j % s := by rw [Nat.sub_mul]; have := Nat.mul_le_mul_right s h2; omega
    rw [e, fls_at _ hm]
    show _ = (L ++ M).getD (j / s) (fun _ => 0) (j % s)
    rw [List.getD_eq_getElem?_getD, List.getD_eq_getElem?_getD, List.getElem?_append_right h2]
theorem fls_snoc {s : Nat} (hs : 0 < s) (L : List (Nat → Int)) (x : Nat → Int) : ∀ j, j < (L.length + 1) * s → app (fls s L) (L.length * s) x j = fls s (L ++ [x]) j := fun j hj => by
  rw [← fls_append hs L [x] j (by simpa using hj)]
  unfold app
  split
  · rfl
  · rename_i h
    have h2 : j - L.length * s < s := by rw [Nat.add_mul] at hj; omega
    have := fls_at (s := s) [x] (k := 0) h2
    rw [Nat.zero_mul, Nat.zero_add] at this
    rw [this]; rfl
/-! ### renamings as lists -/
def dgL (n : Nat) : List Nat := [0, 1 + n / 625 % 5, 1 + n / 125 % 5, 1 + n / 25 % 5, 1 + n / 5 % 5, 1 + n % 5]
def okL (l : List Nat) : Bool := l.getD 0 0 == 0 && disB (l.getD 1 0) (l.getD 2 0) (l.getD 3 0) (l.getD 4 0) (l.getD 5 0)
def nmL : List (List Nat) := ((List.range 3125).map dgL).filter okL
/-- The program's way: numbers that are not there yet, one behind the other. -/
def arL : Nat → List Nat → List (List Nat)
  | 0, own => [own]
  | d + 1, own => (List.range 6).flatMap fun n => if own.contains n then [] else arL d (own ++ [n])
theorem arL_nm : arL 5 [0] = nmL := by decide +kernel
theorem nmL_len : nmL.length = 120 := by decide +kernel
def fnL (l : List Nat) : Nat → Int := fun i => (l.getD i 0 : Nat)
def nmS (n : Nat) : Nat → Int := fnL (nmL.getD n [])
theorem okL_ren {n : Nat} (h : okL (dgL n) = true) : isRen (fnL (dgL n)) := by
  unfold okL dgL disB at h
  simp only [List.getD_cons_zero, List.getD_cons_succ, beq_self_eq_true, Bool.true_and, decide_eq_true_eq] at h
  have h1 := Nat.mod_lt (n / 625) (show 0 < 5 by omega); have h2 := Nat.mod_lt (n / 125) (show 0 < 5 by omega); have h3 := Nat.mod_lt (n / 25) (show 0 < 5 by omega); have h4 := Nat.mod_lt (n / 5) (show 0 < 5 by omega); have h5 := Nat.mod_lt n (show 0 < 5 by omega)
  refine ⟨rfl, fun i hi => ?_, fun i j hi hj e => ?_⟩
  · match i, hi with
    | 0, _ => show 0 ≤ ((0 : Nat) : Int) ∧ ((0 : Nat) : Int) ≤ 5; omega
    | 1, _ => show 0 ≤ ((1 + n / 625 % 5 : Nat) : Int) ∧ ((1 + n / 625 % 5 : Nat) : Int) ≤ 5; omega
    | 2, _ => show 0 ≤ ((1 + n / 125 % 5 : Nat) : Int) ∧ ((1 + n / 125 % 5 : Nat) : Int) ≤ 5; omega
    | 3, _ => show 0 ≤ ((1 + n / 25 % 5 : Nat) : Int) ∧ ((1 + n / 25 % 5 : Nat) : Int) ≤ 5; omega
    | 4, _ => show 0 ≤ ((1 + n / 5 % 5 : Nat) : Int) ∧ ((1 + n / 5 % 5 : Nat) : Int) ≤ 5; omega
    | 5, _ => show 0 ≤ ((1 + n % 5 : Nat) : Int) ∧ ((1 + n % 5 : Nat) : Int) ≤ 5; omega
  · have g0 : fnL (dgL n) 0 = 0 := rfl
    have g1 : fnL (dgL n) 1 = ((1 + n / 625 % 5 : Nat) : Int) := rfl
    have g2 : fnL (dgL n) 2 = ((1 + n / 125 % 5 : Nat) : Int) := rfl
    have g3 : fnL (dgL n) 3 = ((1 + n / 25 % 5 : Nat) : Int) := rfl
    have g4 : fnL (dgL n) 4 = ((1 + n / 5 % 5 : Nat) : Int) := rfl
    have g5 : fnL (dgL n) 5 = ((1 + n % 5 : Nat) : Int) := rfl
    generalize n / 625 % 5 = a at *; generalize n / 125 % 5 = b at *; generalize n / 25 % 5 = c at *; generalize n / 5 % 5 = d at *; generalize n % 5 = x at *
    generalize fnL (dgL n) = F at *
    match i, j, hi, hj with
    | 0, 0, _, _ | 1, 1, _, _ | 2, 2, _, _ | 3, 3, _, _ | 4, 4, _, _ | 5, 5, _, _ => rfl
    | 0, 1, _, _ | 0, 2, _, _ | 0, 3, _, _ | 0, 4, _, _ | 0, 5, _, _ | 1, 0, _, _ | 1, 2, _, _ | 1, 3, _, _ | 1, 4, _, _ | 1, 5, _, _ | 2, 0, _, _ | 2, 1, _, _ | 2, 3, _, _ | 2, 4, _, _ | 2, 5, _, _ | 3, 0, _, _ | 3, 1, _, _ | 3, 2, _, _ | 3, 4, _, _ | 3, 5, _, _ | 4, 0, _, _ | 4, 1, _, _ | 4, 2, _, _ | 4, 3, _, _ | 4, 5, _, _ | 5, 0, _, _ | 5, 1, _, _ | 5, 2, _, _ | 5, 3, _, _ | 5, 4, _, _ => exfalso; omega
theorem ren_dg {s : Nat → Int} (hs : isRen s) : ∃ n, n < 3125 ∧ okL (dgL n) = true ∧ ∀ i, i < 6 → fnL (dgL n) i = s i := by
  have b := hs.2.1
  have d : ∀ i k, i < 6 → k < 6 → i ≠ k → s i ≠ s k := fun i k hi hk hik e => hik (hs.2.2 i k hi hk e)
  have p : ∀ i, 0 < i → i < 6 → ∃ m : Nat, s i = (1 + m : Nat) ∧ m < 5 := fun i h0 hi => by
    have h1 := b i hi
    have h2 := d i 0 hi (by omega) (by omega)
    rw [hs.1] at h2
    exact ⟨(s i - 1).toNat, by omega, by omega⟩
  obtain ⟨m1, e1, l1⟩ := p 1 (by omega) (by omega)
  obtain ⟨m2, e2, l2⟩ := p 2 (by omega) (by omega)
  obtain ⟨m3, e3, l3⟩ := p 3 (by omega) (by omega)
  obtain ⟨m4, e4, l4⟩ := p 4 (by omega) (by omega)
  obtain ⟨m5, e5, l5⟩ := p 5 (by omega) (by omega)
  have q1 : (m1 * 625 + m2 * 125 + m3 * 25 + m4 * 5 + m5) / 625 % 5 = m1 := by omega
  have q2 : (m1 * 625 + m2 * 125 + m3 * 25 + m4 * 5 + m5) / 125 % 5 = m2 := by omega
  have q3 : (m1 * 625 + m2 * 125 + m3 * 25 + m4 * 5 + m5) / 25 % 5 = m3 := by omega
  have q4 : (m1 * 625 + m2 * 125 + m3 * 25 + m4 * 5 + m5) / 5 % 5 = m4 := by omega
  have q5 : (m1 * 625 + m2 * 125 + m3 * 25 + m4 * 5 + m5) % 5 = m5 := by omega
  have f12 := d 1 2 (by omega) (by omega) (by omega); have f13 := d 1 3 (by omega) (by omega) (by omega); have f14 := d 1 4 (by omega) (by omega) (by omega); have f15 := d 1 5 (by omega) (by omega) (by omega)
  have f23 := d 2 3 (by omega) (by omega) (by omega); have f24 := d 2 4 (by omega) (by omega) (by omega); have f25 := d 2 5 (by omega) (by omega) (by omega)
  have f34 := d 3 4 (by omega) (by omega) (by omega); have f35 := d 3 5 (by omega) (by omega) (by omega); have f45 := d 4 5 (by omega) (by omega) (by omega)
  refine ⟨m1 * 625 + m2 * 125 + m3 * 25 + m4 * 5 + m5, by omega, ?_, fun i hi => ?_⟩
  · unfold okL dgL disB
    rw [q1, q2, q3, q4, q5]
    simp only [List.getD_cons_zero, List.getD_cons_succ, beq_self_eq_true, Bool.true_and, decide_eq_true_eq]
    rw [e1, e2] at f12; rw [e1, e3] at f13; rw [e1, e4] at f14; rw [e1, e5] at f15; rw [e2, e3] at f23; rw [e2, e4] at f24; rw [e2, e5] at f25; rw [e3, e4] at f34; rw [e3, e5] at f35; rw [e4, e5] at f45
    refine ⟨?_, ?_, ?_, ?_, ?_, ?_, ?_, ?_, ?_, ?_, ?_, ?_, ?_, ?_, ?_⟩ <;> omega
  · unfold fnL dgL
    rw [q1, q2, q3, q4, q5]
    match i, hi with
    | 0, _ => rw [hs.1]; rfl
    | 1, _ => rw [e1]; rfl
    | 2, _ => rw [e2]; rfl
    | 3, _ => rw [e3]; rfl
    | 4, _ => rw [e4]; rfl
    | 5, _ => rw [e5]; rfl
theorem nmS_all : allR nmS 120 := by
  refine ⟨fun n hn => ?_, fun s hs => ?_⟩
  · have hl : n < nmL.length := by rw [nmL_len]; exact hn
    have hm : nmL[n] ∈ nmL := List.getElem_mem hl
    have e : nmS n = fnL nmL[n] := by
      unfold nmS
      rw [List.getD_eq_getElem?_getD, List.getElem?_eq_getElem hl]; rfl
    rw [e]
    generalize nmL[n] = x at hm
    unfold nmL at hm
    rw [List.mem_filter, List.mem_map] at hm
    obtain ⟨⟨m, _, rfl⟩, hok⟩ := hm
    exact okL_ren hok
  · obtain ⟨m, hm, hok, h⟩ := ren_dg hs
    have hx : dgL m ∈ nmL := by
      unfold nmL
      rw [List.mem_filter, List.mem_map]
      exact ⟨⟨m, List.mem_range.2 hm, rfl⟩, hok⟩
    obtain ⟨n, hn, e⟩ := List.getElem_of_mem hx
    refine ⟨n, by rw [← nmL_len]; exact hn, fun i hi => ?_⟩
    rw [← h i hi, ← e]
    unfold nmS
    rw [List.getD_eq_getElem?_getD, List.getElem?_eq_getElem hn]; rfl
end Go.Proofs.Ytljajgaicdffkaa
