/- The candidate with a rank: plain laws. -/
import Derived.Test.YtbiplciklmagoaaMulti
import Derived.Test.YtbiplciklmagoaaViewP
namespace Go.Proofs.Ytbiplciklmagoaa
set_option linter.unusedSimpArgs false
set_option linter.unusedVariables false
set_option maxRecDepth 20000
/-- The first colour with which enough are left. -/
def pkc (l : Nat → Nat) (r : Nat) : Nat := if r < asc l 6 2 then 1 else if r < asc l 6 3 then 2 else if r < asc l 6 4 then 3 else if r < asc l 6 5 then 4 else 5
theorem asc_one {l : Nat → Nat} (h : l 0 = 0) : asc l 6 1 = 0 := by unfold asc asc; rw [if_neg (by omega)]
theorem pkc_spec {l : Nat → Nat} {r : Nat} (h0 : l 0 = 0) (hs : 0 < sm l 6) (hr : r < mul l 6) : 1 ≤ pkc l r ∧ pkc l r ≤ 5 ∧ asc l 6 (pkc l r) ≤ r ∧ r < asc l 6 (pkc l r + 1) := by
  rw [mul_asc l 6 hs] at hr
  have h1 := asc_one h0
  unfold pkc
  split
  · exact ⟨by omega, by omega, by omega, by assumption⟩
  · split
    · exact ⟨by omega, by omega, by omega, by assumption⟩
    · split
      · exact ⟨by omega, by omega, by omega, by assumption⟩
      · split
        · exact ⟨by omega, by omega, by omega, by assumption⟩
        · exact ⟨by omega, by omega, by omega, by assumption⟩
theorem asc_le (l : Nat → Nat) (K : Nat) {a b : Nat} (h : a ≤ b) : asc l K a ≤ asc l K b := by
  induction b with
  | zero => rw [show a = 0 by omega]; exact Nat.le_refl _
  | succ b ih =>
    by_cases e : a = b + 1
    · rw [e]; exact Nat.le_refl _
    · exact Nat.le_trans (ih (by omega)) (asc_mono l K b)
theorem pkc_uniq {l : Nat → Nat} {r c : Nat} (h0 : l 0 = 0) (hs : 0 < sm l 6) (hr : r < mul l 6) (h1 : asc l 6 c ≤ r) (h2 : r < asc l 6 (c + 1)) : c = pkc l r := by
  obtain ⟨_, _, a, b⟩ := pkc_spec h0 hs hr
  rcases Nat.lt_trichotomy c (pkc l r) with h | h | h
  · have := asc_le l 6 (show c + 1 ≤ pkc l r by omega); omega
  · exact h
  · have := asc_le l 6 (show pkc l r + 1 ≤ c by omega); omega
theorem pkc_some {l : Nat → Nat} {r : Nat} (h0 : l 0 = 0) (hs : 0 < sm l 6) (hr : r < mul l 6) : 0 < l (pkc l r) ∧ r - asc l 6 (pkc l r) < mul (dec l (pkc l r)) 6 := by
  obtain ⟨_, _, a, b⟩ := pkc_spec h0 hs hr
  rw [show asc l 6 (pkc l r + 1) = asc l 6 (pkc l r) + if 0 < l (pkc l r) then mul (dec l (pkc l r)) 6 else 0 from rfl] at b
  split at b
  · rename_i h; exact ⟨h, by omega⟩
  · omega
/-- What is left, the rank among it, and the layers so far. -/
structure CdS where
  l : Nat → Nat
  r : Nat
  F : Nat → Int
def cd1 (i k : Nat) (s : CdS) : CdS := ⟨dec s.l (pkc s.l s.r), s.r - asc s.l 6 (pkc s.l s.r), upd s.F (i * 4 + k) (pkc s.l s.r)⟩
def cdK (i : Nat) (s : CdS) : Nat → CdS
  | 0 => s
  | k + 1 => cd1 i k (cdK i s k)
def cdT (v : Nat → Int) (i : Nat) (s : CdS) : CdS := if v (6 + i) = 0 then s else ⟨(cdK i s (v (6 + i) - 1).toNat).l, (cdK i s (v (6 + i) - 1).toNat).r, upd (cdK i s (v (6 + i) - 1).toNat).F (i * 4 + (v (6 + i) - 1).toNat) (v i)⟩
def cdR (v : Nat → Int) (s : CdS) : Nat → CdS
  | 0 => s
  | i + 1 => cdT v i (cdR v s i)
/-- So many layers are left, and the rank is one of them. -/
def CdI (s : CdS) (h : Nat) : Prop := s.l 0 = 0 ∧ sm s.l 6 = h ∧ s.r < mul s.l 6
theorem CdI.step {s : CdS} {h : Nat} (hI : CdI s (h + 1)) (i k : Nat) : CdI (cd1 i k s) h := by
  obtain ⟨h0, h1, h2⟩ := hI
  obtain ⟨a, b, _, _⟩ := pkc_spec h0 (by omega) h2
  obtain ⟨c, d⟩ := pkc_some h0 (by omega) h2
  refine ⟨?_, ?_, d⟩
  · show dec s.l (pkc s.l s.r) 0 = 0
    rw [dec_other (by omega), h0]
  · show sm (dec s.l (pkc s.l s.r)) 6 = h
    rw [sm_dec _ _ c, if_pos (by omega)]
    omega
theorem CdI.steps {s : CdS} {h : Nat} (i : Nat) : ∀ k, CdI s (h + k) → CdI (cdK i s k) h
  | 0, hI => hI
  | k + 1, hI => (CdI.steps (h := h + 1) i k (by rwa [show h + 1 + k = h + (k + 1) by omega])).step i k
/-- How many layers lie under the tops of the tubes from the first n on, at the end h. -/
def hrem (v : Nat → Int) (n : Nat) : Nat := (hsum v 6 - hsum v n).toNat
theorem hsum_mono {v : Nat → Int} (hv : ∀ i, i < 6 → vok v i) : ∀ n m, n ≤ m → m ≤ 6 → hsum v n ≤ hsum v m := fun n m h hm => by
  induction m with
  | zero => rw [show n = 0 by omega]; exact Int.le_refl _
  | succ m ih =>
    by_cases e : n = m + 1
    · rw [e]; exact Int.le_refl _
    · have := ih (by omega) (by omega)
      have hb := (hv m (by omega)).1
      rw [show hsum v (m + 1) = if v (6 + m) = 0 then hsum v m else hsum v m + v (6 + m) - 1 from rfl]
      split <;> omega
theorem hrem_step {v : Nat → Int} (hv : ∀ i, i < 6 → vok v i) {n : Nat} (hn : n < 6) (h : ¬ v (6 + n) = 0) : hrem v n = hrem v (n + 1) + (v (6 + n) - 1).toNat := by
  have h1 := hsum_mono hv (n + 1) 6 (by omega) (by omega)
  have hb := (hv n hn).1
  unfold hrem
  rw [show hsum v (n + 1) = if v (6 + n) = 0 then hsum v n else hsum v n + v (6 + n) - 1 from rfl, if_neg h] at *
  omega
theorem hrem_zero {v : Nat → Int} {n : Nat} (h : v (6 + n) = 0) : hrem v (n + 1) = hrem v n := by
  unfold hrem
  rw [show hsum v (n + 1) = if v (6 + n) = 0 then hsum v n else hsum v n + v (6 + n) - 1 from rfl, if_pos h]
theorem CdI.tube {v : Nat → Int} (hv : ∀ i, i < 6 → vok v i) {s : CdS} {n : Nat} (hn : n < 6) (hI : CdI s (hrem v n)) : CdI (cdT v n s) (hrem v (n + 1)) := by
  unfold cdT
  split
  · rename_i h
    rwa [hrem_zero h]
  · rename_i h
    have := CdI.steps (h := hrem v (n + 1)) n (v (6 + n) - 1).toNat (by rwa [← hrem_step hv hn h])
    exact ⟨this.1, this.2.1, this.2.2⟩
theorem CdI.tubes {v : Nat → Int} (hv : ∀ i, i < 6 → vok v i) {s : CdS} (hI : CdI s (hrem v 0)) : ∀ n, n ≤ 6 → CdI (cdR v s n) (hrem v n)
  | 0, _ => hI
  | n + 1, h => (CdI.tubes hv hI n (by omega)).tube hv (by omega)
/-- The colours left, as numbers. -/
def lfN (v : Nat → Int) : Nat → Nat := fun c => (lft v 6 c).toNat
def cd0 (v : Nat → Int) (r : Nat) : CdS := ⟨lfN v, r, fun _ => 0⟩
def candR (v : Nat → Int) (r : Nat) : Nat → Int := (cdR v (cd0 v r) 6).F
end Go.Proofs.Ytbiplciklmagoaa
