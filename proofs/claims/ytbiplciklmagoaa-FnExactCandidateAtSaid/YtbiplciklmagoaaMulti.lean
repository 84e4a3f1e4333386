/- In how many orders things of several kinds can be put: products of binomials, and the law by the first one's kind. -/
import Derived.Test.YtbiplciklmagoaaArr
namespace Go.Proofs.Ytbiplciklmagoaa
set_option linter.unusedSimpArgs false
set_option linter.unusedVariables false
set_option maxRecDepth 20000
def ch : Nat → Nat → Nat
  | _, 0 => 1
  | 0, _ + 1 => 0
  | n + 1, k + 1 => ch n k + ch n (k + 1)
theorem ch_zero (n : Nat) : ch n 0 = 1 := by cases n <;> rfl
theorem ch_succ (n k : Nat) : ch (n + 1) (k + 1) = ch n k + ch n (k + 1) := rfl
theorem ch_big : ∀ n k, n < k → ch n k = 0
  | 0, k + 1, _ => rfl
  | n + 1, k + 1, h => by rw [ch_succ, ch_big n k (by omega), ch_big n (k + 1) (by omega)]
theorem ch_self : ∀ n, ch n n = 1
  | 0 => rfl
  | n + 1 => by rw [ch_succ, ch_self n, ch_big n (n + 1) (by omega)]
theorem ch_mul : ∀ n k, ch (n + 1) (k + 1) * (k + 1) = (n + 1) * ch n k
  | 0, 0 => rfl
  | 0, k + 1 => by simp [ch]
  | n + 1, 0 => by
    have := ch_mul n 0
    rw [ch_zero] at this
    rw [ch_zero, ch_succ, ch_zero]
    omega
  | n + 1, k + 1 => by
    have h1 := ch_mul n k
    have h2 := ch_mul n (k + 1)
    rw [ch_succ (n + 1) (k + 1), Nat.add_mul, h2, Nat.mul_succ, h1, ch_succ n k]
    rw [Nat.succ_mul (n + 1), Nat.mul_add]
    omega
theorem ch_pos : ∀ n k, k ≤ n → 0 < ch n k
  | n, 0, _ => by rw [ch_zero]; omega
  | n + 1, k + 1, h => by have := ch_pos n k (by omega); rw [ch_succ]; omega
theorem ch_bd (c : Nat) : ∀ s m k, m + k = s → ch (m + k) k * c ^ m ≤ (c + 1) ^ (m + k)
  | s, m, 0, _ => by
    rw [ch_zero, Nat.one_mul]
    exact Nat.pow_le_pow_left (by omega) m
  | s, 0, k + 1, _ => by
    rw [Nat.zero_add, ch_self, Nat.pow_zero]
    have := Nat.pow_pos (n := k + 1) (show 0 < c + 1 by omega)
    omega
  | s + 1, m + 1, k + 1, h => by
    have h1 := ch_bd c s (m + 1) k (by omega)
    have h2 := ch_bd c s m (k + 1) (by omega)
    rw [show m + 1 + (k + 1) = (m + k + 1) + 1 by omega, ch_succ, Nat.add_mul, Nat.pow_succ (c + 1), Nat.mul_add, Nat.mul_one]
    rw [show m + 1 + k = m + k + 1 by omega] at h1
    rw [show m + (k + 1) = m + k + 1 by omega] at h2
    have h3 : ch (m + k + 1) (k + 1) * c ^ (m + 1) = (ch (m + k + 1) (k + 1) * c ^ m) * c := by rw [Nat.pow_succ, Nat.mul_assoc]
    rw [h3]
    have h4 := Nat.mul_le_mul_right c h2
    omega
  | 0, m + 1, k + 1, h => by omega
/-- The sum of the first. -/
def sm (l : Nat → Nat) : Nat → Nat
  | 0 => 0
  | c + 1 => sm l c + l c
def mul (l : Nat → Nat) : Nat → Nat
  | 0 => 1
  | c + 1 => mul l c * ch (sm l c + l c) (l c)
theorem mul_pos (l : Nat → Nat) : ∀ c, 0 < mul l c
  | 0 => by simp [mul]
  | c + 1 => by unfold mul; exact Nat.mul_pos (mul_pos l c) (ch_pos _ _ (by omega))
theorem mul_bd (l : Nat → Nat) : ∀ c, mul l c ≤ c ^ sm l c
  | 0 => by simp [mul, sm]
  | c + 1 => by
    have h1 := Nat.mul_le_mul_right (ch (sm l c + l c) (l c)) (mul_bd l c)
    have h2 := ch_bd c _ (sm l c) (l c) rfl
    rw [Nat.mul_comm] at h2
    exact Nat.le_trans h1 h2
/-- The same, where only k of kind c have been put. -/
theorem mulk_bd (l : Nat → Nat) (c k : Nat) : mul l c * ch (sm l c + k) k ≤ (c + 1) ^ (sm l c + k) := by
  have h1 := Nat.mul_le_mul_right (ch (sm l c + k) k) (mul_bd l c)
  have h2 := ch_bd c _ (sm l c) k rfl
  rw [Nat.mul_comm] at h2
  exact Nat.le_trans h1 h2
theorem mulk_step (a n k : Nat) : a * ch (n + k) k * (n + k + 1) / (k + 1) = a * ch (n + k + 1) (k + 1) := by
  have h := ch_mul (n + k) k
  have e : a * ch (n + k) k * (n + k + 1) = a * ch (n + k + 1) (k + 1) * (k + 1) := by
    rw [Nat.mul_assoc, Nat.mul_assoc, h, Nat.mul_comm (ch (n + k) k)]
  rw [e, Nat.mul_div_cancel _ (by omega)]
theorem sm_congr {l l' : Nat → Nat} : ∀ c, (∀ j, j < c → l j = l' j) → sm l c = sm l' c
  | 0, _ => rfl
  | c + 1, h => by unfold sm; rw [sm_congr c fun j hj => h j (by omega), h c (by omega)]
theorem mul_congr {l l' : Nat → Nat} : ∀ c, (∀ j, j < c → l j = l' j) → mul l c = mul l' c
  | 0, _ => rfl
  | c + 1, h => by unfold mul; rw [mul_congr c fun j hj => h j (by omega), sm_congr c fun j hj => h j (by omega), h c (by omega)]
/-- One of kind c less. -/
def dec (l : Nat → Nat) (c : Nat) : Nat → Nat := fun j => if j = c then l j - 1 else l j
theorem dec_other {l : Nat → Nat} {c j : Nat} (h : j ≠ c) : dec l c j = l j := if_neg h
theorem dec_self (l : Nat → Nat) (c : Nat) : dec l c c = l c - 1 := if_pos rfl
theorem sm_dec (l : Nat → Nat) (c : Nat) (hl : 0 < l c) : ∀ C, sm (dec l c) C = if c < C then sm l C - 1 else sm l C
  | 0 => by simp [sm]
  | C + 1 => by
    have ih := sm_dec l c hl C
    unfold sm
    rw [ih]
    by_cases h1 : c < C
    · rw [if_pos h1, if_pos (by omega), dec_other (by omega)]
      have : l c ≤ sm l C := by
        clear ih
        induction C with
        | zero => omega
        | succ C ih =>
          unfold sm
          by_cases h : c = C
          · subst h; omega
          · have := ih (by omega); omega
      omega
    · rw [if_neg h1]
      by_cases h2 : c = C
      · subst h2; rw [if_pos (by omega), dec_self]; omega
      · rw [if_neg (by omega), dec_other (by omega)]
theorem le_sm (l : Nat → Nat) (c : Nat) : ∀ C, c < C → l c ≤ sm l C
  | C + 1, h => by
    unfold sm
    by_cases h1 : c = C
    · subst h1; omega
    · have := le_sm l c C (by omega); omega
/-- How many orders begin with one of the first c kinds. -/
def asc (l : Nat → Nat) (C : Nat) : Nat → Nat
  | 0 => 0
  | c + 1 => asc l C c + if 0 < l c then mul (dec l c) C else 0
theorem asc_step (l : Nat → Nat) (C : Nat) : ∀ c, c ≤ C → asc l (C + 1) c = asc l C c * ch (sm l C - 1 + l C) (l C)
  | 0, _ => by simp [asc]
  | c + 1, h => by
    unfold asc
    rw [asc_step l C c (by omega), Nat.add_mul]
    congr 1
    by_cases hl : 0 < l c
    · rw [if_pos hl, if_pos hl, mul, sm_dec l c hl, if_pos (by omega), dec_other (by omega)]
    · rw [if_neg hl, if_neg hl, Nat.zero_mul]
theorem asc_zero (l : Nat → Nat) (K : Nat) : ∀ c, sm l c = 0 → asc l K c = 0
  | 0, _ => rfl
  | c + 1, h => by
    unfold sm at h
    unfold asc
    rw [asc_zero l K c (by omega), if_neg (by omega)]
theorem mul_one (l : Nat → Nat) : ∀ c, sm l c = 0 → mul l c = 1
  | 0, _ => rfl
  | c + 1, h => by
    unfold sm at h
    unfold mul
    rw [mul_one l c (by omega), show l c = 0 by omega, ch_zero]
theorem mul_asc (l : Nat → Nat) : ∀ C, 0 < sm l C → mul l C = asc l C C
  | C + 1, h => by
    have hs := asc_step l C C (by omega)
    unfold asc
    rw [hs]
    have hd : 0 < l C → mul (dec l C) (C + 1) = mul l C * ch (sm l C + (l C - 1)) (l C - 1) := fun hl => by
      rw [mul, sm_dec l C hl, if_neg (by omega), dec_self, mul_congr C (l := dec l C) (l' := l) fun j hj => dec_other (by omega)]
    by_cases hl : 0 < l C
    · rw [if_pos hl, hd hl]
      obtain ⟨k, hk⟩ : ∃ k, l C = k + 1 := ⟨l C - 1, by omega⟩
      rw [mul, hk]
      by_cases h0 : sm l C = 0
      · rw [asc_zero l C C h0, h0, mul_one l C h0]
        simp [ch_self]
      · rw [← mul_asc l C (by omega)]
        obtain ⟨m, hm⟩ : ∃ m, sm l C = m + 1 := ⟨sm l C - 1, by omega⟩
        rw [hm, show m + 1 + (k + 1) = (m + k + 1) + 1 by omega, ch_succ, show m + 1 - 1 + (k + 1) = m + k + 1 by omega, show m + 1 + (k + 1 - 1) = m + k + 1 by omega, show k + 1 - 1 = k by omega, Nat.mul_add]
        omega
    · rw [if_neg hl, mul, show l C = 0 by omega, ch_zero, ch_zero]
      unfold sm at h
      rw [← mul_asc l C (by omega)]
      omega
theorem asc_mono (l : Nat → Nat) (K : Nat) (c : Nat) : asc l K c ≤ asc l K (c + 1) := by
  rw [show asc l K (c + 1) = asc l K c + if 0 < l c then mul (dec l c) K else 0 from rfl]
  omega
end Go.Proofs.Ytbiplciklmagoaa
