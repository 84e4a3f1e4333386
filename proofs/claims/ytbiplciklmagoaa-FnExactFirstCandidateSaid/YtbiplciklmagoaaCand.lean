/- The candidate with a rank: the reference's and the program's. -/
import Derived.Test.YtbiplciklmagoaaCandP
import Derived.Test.YtbiplciklmagoaaWays
namespace Go.Proofs.Ytbiplciklmagoaa
set_option linter.unusedSimpArgs false
set_option linter.unusedVariables false
set_option maxRecDepth 20000
open Go.RowKit
/-! ### the ways, without wrapping -/
theorem wIn_nat {a n : Nat} : ∀ k, (∀ j, j < k → a * ch (n + j) j * (n + j + 1) < 9000000000000000000) → wIn (a : Int) n k = ((a * ch (n + k) k : Nat) : Int)
  | 0, _ => by rw [wIn, ch_zero, Nat.mul_one]
  | k + 1, h => by
    have ih := wIn_nat (a := a) (n := n) k fun j hj => h j (by omega)
    have hb := h k (by omega)
    have hs := mulk_step a n k
    rw [wIn, ih]
    have e1 : ((a * ch (n + k) k : Nat) : Int) * ((n : Int) + (k : Int) + 1) = ((a * ch (n + k) k * (n + k + 1) : Nat) : Int) := by push_cast; rfl
    rw [e1]
    have e2 : wrap64 ((a * ch (n + k) k * (n + k + 1) : Nat) : Int) = ((a * ch (n + k) k * (n + k + 1) : Nat) : Int) := by unfold wrap64; omega
    rw [e2, show ((k : Int) + 1) = ((k + 1 : Nat) : Int) from rfl]
    have e3 : Int.tdiv ((a * ch (n + k) k * (n + k + 1) : Nat) : Int) ((k + 1 : Nat) : Int) = ((a * ch (n + k) k * (n + k + 1) / (k + 1) : Nat) : Int) := rfl
    rw [e3, hs, show n + (k + 1) = n + k + 1 from rfl]
    have hle : a * ch (n + k + 1) (k + 1) ≤ a * ch (n + k) k * (n + k + 1) := by rw [← hs]; exact Nat.div_le_self _ _
    unfold wrap64
    omega
def nf (l : Nat → Nat) : Nat → Int := fun c => (l c : Int)
theorem nS_nf (l : Nat → Nat) : ∀ c, nS (nf l) c = sm l c
  | 0 => rfl
  | c + 1 => by rw [nS, sm, nS_nf l c]; rfl
theorem sm_mono (l : Nat → Nat) {a b : Nat} (h : a ≤ b) : sm l a ≤ sm l b := by
  induction b with
  | zero => rw [show a = 0 by omega]; exact Nat.le_refl _
  | succ b ih =>
    by_cases e : a = b + 1
    · rw [e]; exact Nat.le_refl _
    · have := ih (by omega)
      show sm l a ≤ sm l b + l b
      omega
theorem wA_nf {l : Nat → Nat} (hs : sm l 6 ≤ 18) : ∀ c, c ≤ 6 → wA (nf l) c = (mul l c : Nat)
  | 0, _ => rfl
  | c + 1, h => by
    have hc := wA_nf hs c (by omega)
    have h1 := sm_mono l (show c + 1 ≤ 6 by omega)
    have h2 : sm l (c + 1) = sm l c + l c := rfl
    rw [wA, hc, nS_nf, show (nf l c).toNat = l c from rfl, wIn_nat]
    · rfl
    · intro j hj
      have b1 := mulk_bd l c j
      have b2 : (c + 1) ^ (sm l c + j) ≤ 6 ^ 18 := Nat.le_trans (Nat.pow_le_pow_left (show c + 1 ≤ 6 by omega) _) (Nat.pow_le_pow_right (by omega) (by omega))
      have b3 : mul l c * ch (sm l c + j) j ≤ 101559956668416 := Nat.le_trans b1 (Nat.le_trans b2 (by decide))
      have b4 : mul l c * ch (sm l c + j) j * (sm l c + j + 1) ≤ 101559956668416 * 19 := Nat.mul_le_mul b3 (by omega)
      omega
theorem le_of_sm {l : Nat → Nat} (hs : sm l 6 ≤ 18) : ∀ c, c < 6 → 0 ≤ nf l c ∧ nf l c ≤ 1000 := fun c hc => by
  have := le_sm l c 6 hc
  unfold nf
  omega
theorem nf_dec {l : Nat → Nat} {c : Nat} (h : 0 < l c) {x : Nat} (hx : l c = x) : arr 6 (upd (nf l) c ((x : Int) - 1)) = arr 6 (nf (dec l c)) := by
  refine arr_congr fun j _ => ?_
  unfold upd nf dec
  by_cases e : j = c
  · subst e; rw [if_pos rfl, if_pos rfl]; omega
  · rw [if_neg e, if_neg e]
theorem nf_inc {l : Nat → Nat} {c : Nat} (h : 0 < l c) {x : Nat} (hx : l c = x) : arr 6 (upd (nf (dec l c)) c ((x : Int) - 1 + 1)) = arr 6 (nf l) := by
  refine arr_congr fun j _ => ?_
  unfold upd nf dec
  by_cases e : j = c
  · subst e; rw [if_pos rfl]; omega
  · rw [if_neg e, if_neg e]
theorem mul_small {l : Nat → Nat} (hs : sm l 6 ≤ 18) : mul l 6 ≤ 101559956668416 := Nat.le_trans (mul_bd l 6) (Nat.le_trans (Nat.pow_le_pow_right (by omega) hs) (by decide))
theorem arr_inj2 {n : Nat} {f g : Nat → Int} (h : arr n f = arr n g) : ∀ j, j < n → f j = g j := fun j hj => by
  have h1 := arr_get n f j
  rw [h, arr_get, if_pos hj, if_pos hj] at h1
  simpa using h1.symm
/-! ### where it starts -/
theorem lfN_lft {v : Nat → Int} (hx : ∀ j, I64 (v j)) (h : viewB v = true) : arr 6 (lft v 6) = arr 6 (nf (lfN v)) ∧ lfN v 0 = 0 ∧ sm (lfN v) 6 = hrem v 0 ∧ hrem v 0 ≤ 18 := by
  obtain ⟨h1, h0⟩ := lft_small hx h
  obtain ⟨hv, hc, hz, hs⟩ := viewB_iff.1 h
  have hb := hsum_bd hv 6 (by omega)
  have es : lsum (lft v 6) 6 = lft v 6 1 + lft v 6 2 + lft v 6 3 + lft v 6 4 + lft v 6 5 := by simp [lsum]
  refine ⟨arr_congr fun j hj => ?_, ?_, ?_, ?_⟩
  · have := h1 j hj
    unfold nf lfN
    omega
  · unfold lfN; rw [h0]; rfl
  · have a1 := h1 1 (by omega); have a2 := h1 2 (by omega); have a3 := h1 3 (by omega); have a4 := h1 4 (by omega); have a5 := h1 5 (by omega)
    unfold hrem
    rw [show hsum v 0 = 0 from rfl, ← hs, es]
    show 0 + lfN v 0 + lfN v 1 + lfN v 2 + lfN v 3 + lfN v 4 + lfN v 5 = _
    unfold lfN
    rw [h0]
    simp
    omega
  · unfold hrem
    rw [show hsum v 0 = 0 from rfl]
    omega
theorem cd_start {v : Nat → Int} (hx : ∀ j, I64 (v j)) (h : viewB v = true) {r : Nat} (hr : r < mul (lfN v) 6) : CdI (cd0 v r) (hrem v 0) := ⟨(lfN_lft hx h).2.1, (lfN_lft hx h).2.2.1, hr⟩
theorem candF_mul {v : Nat → Int} (hx : ∀ j, I64 (v j)) (h : viewB v = true) : candF v = (((mul (lfN v) 6 : Nat) : Int), true) := by
  obtain ⟨e1, e2, e3, e4⟩ := lfN_lft hx h
  unfold candF
  rw [if_pos h]
  congr 1
  have : wA (lft v 6) 6 = wA (nf (lfN v)) 6 := by
    have e := arr_inj2 e1
    simp only [wA, nS, e 0 (by omega), e 1 (by omega), e 2 (by omega), e 3 (by omega), e 4 (by omega), e 5 (by omega)]
  rw [this, wA_nf (by omega) 6 (by omega)]
end Go.Proofs.Ytbiplciklmagoaa
