/- How many orders a rack has: plain law. -/
import Derived.Test.YtlbgmkengkgnfaaFormP
namespace Go.Proofs.Ytlbgmkengkgnfaa
set_option linter.unusedSimpArgs false
set_option linter.unusedVariables false
set_option maxRecDepth 20000
section
variable {α β : Type} [DecidableEq α] [DecidableEq β]
/-- How many of the first n are x. -/
def cntE (f : Nat → α) : Nat → α → Nat
  | 0, _ => 0
  | n + 1, x => cntE f n x + (if f n = x then 1 else 0)
/-- The product of the ranks of those whose key is done. -/
def pq (f : Nat → α) (q : α → Bool) : Nat → Nat
  | 0 => 1
  | n + 1 => pq f q n * (if q (f n) then 1 else cntE f n (f n) + 1)
def fac : Nat → Nat
  | 0 => 1
  | n + 1 => (n + 1) * fac n
theorem pq_succ (f : Nat → α) (q : α → Bool) (n : Nat) : pq f q (n + 1) = pq f q n * (if q (f n) then 1 else cntE f n (f n) + 1) := rfl
theorem pq_zero (f : Nat → α) (q : α → Bool) : pq f q 0 = 1 := rfl
theorem cntE_succ (f : Nat → α) (n : Nat) (x : α) : cntE f (n + 1) x = cntE f n x + (if f n = x then 1 else 0) := rfl
theorem cntE_le (f : Nat → α) (x : α) : ∀ n, cntE f n x ≤ n
  | 0 => Nat.le_refl _
  | n + 1 => by have := cntE_le f x n; rw [cntE_succ]; split <;> omega
theorem fac_pos : ∀ n, 0 < fac n
  | 0 => by decide
  | n + 1 => Nat.mul_pos (by omega) (fac_pos n)
theorem pq_pos (f : Nat → α) (q : α → Bool) : ∀ n, 0 < pq f q n
  | 0 => by rw [pq_zero]; omega
  | n + 1 => by rw [pq_succ]; exact Nat.mul_pos (pq_pos f q n) (by split <;> omega)
theorem pq_strike (f : Nat → α) (q q' : α → Bool) (x : α) (hx : q x = true) (hq : ∀ y, q' y = (q y && !decide (y = x))) : ∀ n, pq f q' n = pq f q n * fac (cntE f n x)
  | 0 => rfl
  | n + 1 => by
    have ih := pq_strike f q q' x hx hq n
    rw [pq_succ, pq_succ, cntE_succ, ih]
    by_cases e : f n = x
    · have h1 : q' (f n) = false := by rw [hq, e]; simp
      have h2 : q (f n) = true := by rw [e]; exact hx
      rw [h1, h2, if_pos e, e]
      simp only [Bool.false_eq_true, if_false, if_true, Nat.mul_one]
      rw [show fac (cntE f n x + 1) = (cntE f n x + 1) * fac (cntE f n x) from rfl]
      rw [Nat.mul_assoc, Nat.mul_comm (fac _)]
    · have h1 : q' (f n) = q (f n) := by rw [hq]; simp [e]
      rw [h1, if_neg e]
      simp only [Nat.add_zero]
      rw [Nat.mul_assoc, Nat.mul_assoc, Nat.mul_comm (fac _)]
theorem cntE_congr {f : Nat → α} {g : Nat → β} {N : Nat} (h : ∀ i j, i < N → j < N → (f i = f j ↔ g i = g j)) {i : Nat} (hi : i < N) : ∀ n, n ≤ N → cntE f n (f i) = cntE g n (g i)
  | 0, _ => rfl
  | n + 1, hn => by
    rw [cntE_succ, cntE_succ, cntE_congr h hi n (by omega)]
    have := h n i (by omega) hi
    by_cases e : f n = f i
    · rw [if_pos e, if_pos (this.1 e)]
    · rw [if_neg e, if_neg fun e2 => e (this.2 e2)]
theorem pq_congr {f : Nat → α} {g : Nat → β} {N : Nat} (h : ∀ i j, i < N → j < N → (f i = f j ↔ g i = g j)) : ∀ n, n ≤ N → pq f (fun _ => false) n = pq g (fun _ => false) n
  | 0, _ => rfl
  | n + 1, hn => by
    rw [pq_succ, pq_succ, pq_congr h n (by omega), cntE_congr h (by omega) n (by omega)]
theorem pq_ext (f : Nat → α) {q q' : α → Bool} (h : ∀ y, q y = q' y) (n : Nat) : pq f q n = pq f q' n := by rw [show q = q' from funext h]
theorem pq_true (f : Nat → α) {q : α → Bool} : ∀ n, (∀ i, i < n → q (f i) = true) → pq f q n = 1
  | 0, _ => rfl
  | n + 1, h => by rw [pq_succ, pq_true f n (fun i hi => h i (by omega)), h n (by omega)]; rfl
end
/-- The product of the ranks of a list, read from its end. -/
def pl : List Int → Nat
  | [] => 1
  | c :: t => (t.count c + 1) * pl t
theorem pl_perm {l m : List Int} (h : l.Perm m) : pl l = pl m := by
  induction h with
  | nil => rfl
  | cons x h ih => unfold pl; rw [ih, h.count_eq]
  | swap x y t =>
    unfold pl
    rw [show pl (x :: t) = (t.count x + 1) * pl t from rfl, show pl (y :: t) = (t.count y + 1) * pl t from rfl]
    simp only [List.count_cons]
    by_cases e : x = y
    · subst e; rfl
    · have e2 : ¬ y = x := fun h => e h.symm
      have n1 : (x == y) = false := by simpa using e
      have n2 : (y == x) = false := by simpa using e2
      rw [n1, n2]
      simp only [Bool.false_eq_true, if_false, Nat.add_zero]
      rw [← Nat.mul_assoc, ← Nat.mul_assoc, Nat.mul_comm (t.count x + 1)]
  | trans _ _ h1 h2 => exact h1.trans h2
def rl (f : Nat → Int) : Nat → List Int
  | 0 => []
  | n + 1 => f n :: rl f n
theorem rl_count (f : Nat → Int) (x : Int) : ∀ n, (rl f n).count x = cntE f n x
  | 0 => rfl
  | n + 1 => by
    rw [cntE_succ]
    unfold rl
    rw [List.count_cons, rl_count f x n]
    by_cases e : f n = x
    · simp [e]
    · simp [e]
theorem rl_pl (f : Nat → Int) : ∀ n, pl (rl f n) = pq f (fun _ => false) n
  | 0 => rfl
  | n + 1 => by
    rw [pq_succ]
    unfold rl pl
    rw [rl_count, rl_pl f n, Nat.mul_comm]
    rfl
/-- The tubes' numbers. -/
def cdf (f : Nat → Int) (i : Nat) : Int := cod (tub f i)
theorem rl_cdl (f : Nat → Int) : (rl (cdf f) 6).Perm (cdl f) := by
  have : rl (cdf f) 6 = (cdl f).reverse := rfl
  rw [this]
  exact List.reverse_perm _
/-- How many orders there are. -/
def ordN (f : Nat → Int) : Nat := 720 / pq (cdf f) (fun _ => false) 6
theorem ord_form {f F : Nat → Int} (h : (cdl F).Perm (cdl f)) : pq (cdf F) (fun _ => false) 6 = pq (cdf f) (fun _ => false) 6 := by
  rw [← rl_pl, ← rl_pl]
  exact pl_perm ((rl_cdl F).trans (h.trans (rl_cdl f).symm))
theorem cntE_none {f : Nat → Int} {x : Int} : ∀ n, (∀ i, i < n → f i ≠ x) → cntE f n x = 0
  | 0, _ => rfl
  | n + 1, h => by rw [cntE_succ, cntE_none n fun i hi => h i (by omega), if_neg (h n (by omega))]
theorem run_same {F : Nat → Int} {i : Nat} (e : cdf F (i + 1) = cdf F i) : cntE (cdf F) (i + 1) (cdf F (i + 1)) = cntE (cdf F) i (cdf F i) + 1 := by
  rw [e]
  show cntE (cdf F) i (cdf F i) + (if cdf F i = cdf F i then 1 else 0) = _
  rw [if_pos rfl]
theorem run_new {F : Nat → Int} (hs : srt F) {i : Nat} (hi : i + 1 < 6) (e : cdf F (i + 1) ≠ cdf F i) : cntE (cdf F) (i + 1) (cdf F (i + 1)) = 0 :=
  cntE_none _ fun j hj => by
    have h1 := hs i (i + 1) (by omega) hi
    unfold cdf at e ⊢
    by_cases h : j = i
    · subst h; omega
    · have h2 := hs j i (by omega) (by omega)
      omega
theorem cdf_eq {F : Nat → Int} (h : cellB F) {i j : Nat} (hi : i < 6) (hj : j < 6) : cdf F i = cdf F j ↔ ∀ k, k < 4 → tub F i k = tub F j k :=
  ⟨fun e => cod_inj (tub_cell h hi) (tub_cell h hj) e, fun e => by unfold cdf cod; rw [e 0 (by omega), e 1 (by omega), e 2 (by omega), e 3 (by omega)]⟩
end Go.Proofs.Ytlbgmkengkgnfaa
