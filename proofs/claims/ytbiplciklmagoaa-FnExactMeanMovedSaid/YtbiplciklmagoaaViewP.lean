/- Views: the test, as the reference says it and as the program says it, in plain numbers. -/
import Derived.Test.YtbiplciklmagoaaView
namespace Go.Proofs.Ytbiplciklmagoaa
set_option linter.unusedSimpArgs false
set_option linter.unusedVariables false
set_option maxRecDepth 20000
open Go.RowKit
def cntT (v : Nat → Int) (c : Nat) : Nat → Int
  | 0 => 0
  | n + 1 => if v n ≠ 0 ∧ (v n).toNat = c then cntT v c n + 1 else cntT v c n
def nzT (v : Nat → Int) : Nat → Int
  | 0 => 0
  | n + 1 => if v n = 0 then nzT v n else nzT v n + 1
theorem cntT_bd (v : Nat → Int) (c : Nat) : ∀ n, 0 ≤ cntT v c n ∧ cntT v c n ≤ n
  | 0 => by simp [cntT]
  | n + 1 => by
    have := cntT_bd v c n
    unfold cntT
    split <;> (push_cast; omega)
theorem wrap_step (x k : Int) : wrap64 (wrap64 (x - k) - 1) = wrap64 (x - (k + 1)) := by
  unfold wrap64; omega
theorem lft_eq {v : Nat → Int} (hx : ∀ j, I64 (v j)) : ∀ n c, lft v n c = wrap64 (v (12 + c) - cntT v c n)
  | 0, c => by
    have := hx (12 + c)
    unfold I64 at this
    show v (12 + c) = wrap64 (v (12 + c) - 0)
    unfold wrap64
    omega
  | n + 1, c => by
    unfold lft cntT
    by_cases hz : v n = 0
    · rw [if_pos hz, if_neg (by simp [hz]), lft_eq hx n c]
    · rw [if_neg hz]
      unfold upd
      by_cases hc : c = (v n).toNat
      · subst hc
        rw [if_pos rfl, if_pos ⟨hz, rfl⟩, lft_eq hx n, wrap_step]
      · rw [if_neg hc, if_neg (fun h => hc h.2.symm), lft_eq hx n c]
theorem cnt_all {v : Nat → Int} (hv : ∀ i, i < 6 → vok v i) : ∀ n, n ≤ 6 → cntT v 1 n + cntT v 2 n + cntT v 3 n + cntT v 4 n + cntT v 5 n = nzT v n ∧ cntT v 0 n = 0 ∧ hsum v n = isum (fun k => v (6 + k)) n - nzT v n
  | 0, _ => by simp [cntT, nzT, hsum, isum]
  | n + 1, h => by
    obtain ⟨h1, h0, h2⟩ := cnt_all hv n (by omega)
    obtain ⟨_, ⟨ht1, ht2⟩, he⟩ := hv n (by omega)
    unfold hsum isum nzT
    unfold cntT
    by_cases hz : v n = 0
    · have hz2 := he.1 hz
      have e : ∀ c, (v n ≠ 0 ∧ (v n).toNat = c) ↔ False := fun c => ⟨fun h => h.1 hz, False.elim⟩
      simp only [e, if_false, hz, hz2, if_true]
      omega
    · have hz2 : ¬ v (6 + n) = 0 := fun h => hz (he.2 h)
      rw [if_neg hz, if_neg hz2]
      obtain ⟨c, hc⟩ : ∃ c : Nat, v n = c := ⟨(v n).toNat, by omega⟩
      have e : ∀ d : Nat, (v n ≠ 0 ∧ (v n).toNat = d) ↔ c = d := fun d => by
        rw [hc, Int.toNat_natCast]
        exact ⟨fun h => h.2, fun h => ⟨by omega, h⟩⟩
      simp only [e]
      have : c = 1 ∨ c = 2 ∨ c = 3 ∨ c = 4 ∨ c = 5 := by omega
      rcases this with rfl | rfl | rfl | rfl | rfl <;> simp <;> omega
def lsum (f : Nat → Int) : Nat → Int
  | 0 => 0
  | m + 1 => if m = 0 then 0 else lsum f m + f m
theorem lsum_bd {f : Nat → Int} : ∀ m, (∀ c, 1 ≤ c → c < m → 0 ≤ f c ∧ f c ≤ 24) → 0 ≤ lsum f m ∧ lsum f m ≤ 24 * m
  | 0, _ => by simp [lsum]
  | m + 1, h => by
    have ih := lsum_bd m (fun c h1 h2 => h c h1 (by omega))
    unfold lsum
    by_cases hm : m = 0
    · subst hm; simp
    · have := h m (by omega) (by omega)
      rw [if_neg hm]
      push_cast
      omega
def viewS (v : Nat → Int) : Prop := (∀ c, 1 ≤ c → c < 6 → 0 ≤ lft v 6 c ∧ lft v 6 c ≤ 24) ∧ v 12 = 0 ∧ lsum (lft v 6) 6 = hsum v 6
def viewI (v : Nat → Int) : Prop := v 12 = 0 ∧ (∀ k, k < 6 → 0 ≤ v (12 + k) ∧ v (12 + k) ≤ 24) ∧ (∀ k, k < 6 → 0 ≤ lft v 6 k) ∧ isum (fun k => v (12 + k)) 6 = isum (fun k => v (6 + k)) 6
theorem wrap_near {x k L : Int} (hx : I64 x) (hk : 0 ≤ k ∧ k ≤ 6) (hL : L = wrap64 (x - k)) : (0 ≤ L → L ≤ 24 → L = x - k) ∧ (0 ≤ x → x ≤ 24 → L = x - k) := by
  unfold I64 at hx
  unfold wrap64 at hL
  constructor <;> intros <;> omega
theorem viewS_iff {v : Nat → Int} (hx : ∀ j, I64 (v j)) (hv : ∀ i, i < 6 → vok v i) : viewS v ↔ viewI v := by
  obtain ⟨h1, h0, h2⟩ := cnt_all hv 6 (by omega)
  have L := fun c => wrap_near (hx (12 + c)) (by have := cntT_bd v c 6; omega) (lft_eq hx 6 c)
  have b := fun c => cntT_bd v c 6
  have t := fun i (hi : i < 6) => (hv i hi).1
  have tb : 0 ≤ isum (fun k => v (6 + k)) 6 ∧ isum (fun k => v (6 + k)) 6 ≤ 4 * 6 := by simpa using isum_bd (f := fun k => v (6 + k)) (b := 4) 6 (fun k hk => t k hk)
  have es : lsum (lft v 6) 6 = lft v 6 1 + lft v 6 2 + lft v 6 3 + lft v 6 4 + lft v 6 5 := by simp [lsum]
  have ei : isum (fun k => v (12 + k)) 6 = v 12 + v 13 + v 14 + v 15 + v 16 + v 17 := by simp [isum]
  have L0 := L 0; have L1 := L 1; have L2 := L 2; have L3 := L 3; have L4 := L 4; have L5 := L 5
  have b1 := b 1; have b2 := b 2; have b3 := b 3; have b4 := b 4; have b5 := b 5
  rw [h0] at L0
  clear L b t
  simp only [Nat.add_zero, Nat.reduceAdd] at L0 L1 L2 L3 L4 L5
  unfold viewS viewI
  rw [es, ei]
  constructor
  · rintro ⟨hc, hz, hs⟩
    have c1 := hc 1 (by omega) (by omega); have c2 := hc 2 (by omega) (by omega); have c3 := hc 3 (by omega) (by omega); have c4 := hc 4 (by omega) (by omega); have c5 := hc 5 (by omega) (by omega)
    have e1 := L1.1 c1.1 c1.2; have e2 := L2.1 c2.1 c2.2; have e3 := L3.1 c3.1 c3.2; have e4 := L4.1 c4.1 c4.2; have e5 := L5.1 c5.1 c5.2
    have e0 := L0.2 (by omega) (by omega)
    clear L0 L1 L2 L3 L4 L5 hc
    refine ⟨hz, fun k hk => ?_, fun k hk => ?_, by omega⟩
    · have : k = 0 ∨ k = 1 ∨ k = 2 ∨ k = 3 ∨ k = 4 ∨ k = 5 := by omega
      rcases this with rfl | rfl | rfl | rfl | rfl | rfl <;> simp only [Nat.add_zero, Nat.reduceAdd] <;> omega
    · have : k = 0 ∨ k = 1 ∨ k = 2 ∨ k = 3 ∨ k = 4 ∨ k = 5 := by omega
      rcases this with rfl | rfl | rfl | rfl | rfl | rfl <;> omega
  · rintro ⟨hz, hc, hl, hs⟩
    have c1 := hc 1 (by omega); have c2 := hc 2 (by omega); have c3 := hc 3 (by omega); have c4 := hc 4 (by omega); have c5 := hc 5 (by omega)
    simp only [Nat.reduceAdd] at c1 c2 c3 c4 c5
    have e1 := L1.2 c1.1 c1.2; have e2 := L2.2 c2.1 c2.2; have e3 := L3.2 c3.1 c3.2; have e4 := L4.2 c4.1 c4.2; have e5 := L5.2 c5.1 c5.2
    have l1 := hl 1 (by omega); have l2 := hl 2 (by omega); have l3 := hl 3 (by omega); have l4 := hl 4 (by omega); have l5 := hl 5 (by omega)
    clear L0 L1 L2 L3 L4 L5 hc hl
    refine ⟨fun k hk1 hk2 => ?_, hz, by omega⟩
    have : k = 1 ∨ k = 2 ∨ k = 3 ∨ k = 4 ∨ k = 5 := by omega
    rcases this with rfl | rfl | rfl | rfl | rfl <;> omega
def viewP (v : Nat → Int) : Prop := (∀ i, i < 6 → vok v i) ∧ viewS v
open Classical in
/-- A view is sound. -/
noncomputable def viewB (v : Nat → Int) : Bool := decide (viewP v)
theorem viewB_bad {v : Nat → Int} {n : Nat} (hn : n < 6) (h : ¬ vok v n) : viewB v = false := by unfold viewB; simp only [decide_eq_false_iff_not]; exact fun hp => h (hp.1 n hn)
theorem viewB_nS {v : Nat → Int} (h : ¬ viewS v) : viewB v = false := by unfold viewB; simp only [decide_eq_false_iff_not]; exact fun hp => h hp.2
theorem viewB_nI {v : Nat → Int} (hx : ∀ j, I64 (v j)) (hv : ∀ i, i < 6 → vok v i) (h : ¬ viewI v) : viewB v = false := viewB_nS fun hs => h ((viewS_iff hx hv).1 hs)
theorem viewB_ok {v : Nat → Int} (hv : ∀ i, i < 6 → vok v i) (h : viewS v) : viewB v = true := by unfold viewB; simp only [decide_eq_true_eq]; exact ⟨hv, h⟩
theorem viewB_okI {v : Nat → Int} (hx : ∀ j, I64 (v j)) (hv : ∀ i, i < 6 → vok v i) (h : viewI v) : viewB v = true := viewB_ok hv ((viewS_iff hx hv).2 h)
theorem viewB_iff {v : Nat → Int} : viewB v = true ↔ viewP v := by unfold viewB; simp only [decide_eq_true_eq]
end Go.Proofs.Ytbiplciklmagoaa
