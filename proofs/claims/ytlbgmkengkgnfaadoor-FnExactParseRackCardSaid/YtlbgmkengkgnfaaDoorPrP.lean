/- Reading a rack's text: plain law. -/
import Derived.Test.YtlbgmkengkgnfaaDoorSJp
import Derived.Test.YtlbgmkengkgnfaaDoorRackD
import Derived.Test.YtlbgmkengkgnfaaDoorMem
namespace Go.Proofs.YtlbgmkengkgnfaaDoor
set_option linter.unusedSimpArgs false
set_option linter.unusedVariables false
set_option maxRecDepth 20000
open Go.RowKit
/-- The number of a sign, or -1. -/
def sgB (b : UInt8) : Int := if b = 46 then 0 else if 97 ≤ b.toNat ∧ b.toNat ≤ 101 then (b.toNat : Int) - 96 else -1
theorem sgB_bd (b : UInt8) : -1 ≤ sgB b ∧ sgB b ≤ 5 := by unfold sgB; split <;> (try split) <;> omega
theorem sgB_slash : sgB 47 = -1 := by decide
def bt (s : ByteArray) (i : Nat) : UInt8 := s.data.toList.getD i 0
theorem bt_at (s : ByteArray) (i : Nat) (h : i < s.size) : s[i] = bt s i := by
  unfold bt
  rw [List.getD_eq_getElem?_getD, at_get s i h]; rfl
def gdN (s : ByteArray) (n : Nat) : Prop := ∀ i, i < n → if i % 5 = 4 then bt s i = 47 else 0 ≤ sgB (bt s i)
theorem gdN_zero (s : ByteArray) : gdN s 0 := fun i h => by omega
theorem gdN_slash {s : ByteArray} {n : Nat} (h : gdN s n) (h4 : n % 5 = 4) (e : bt s n = 47) : gdN s (n + 1) := fun i hi => by
  by_cases c : i = n
  · subst c; rw [if_pos h4]; exact e
  · exact h i (by omega)
theorem gdN_sign {s : ByteArray} {n : Nat} (h : gdN s n) (h4 : ¬ n % 5 = 4) (e : 0 ≤ sgB (bt s n)) : gdN s (n + 1) := fun i hi => by
  by_cases c : i = n
  · subst c; rw [if_neg h4]; exact e
  · exact h i (by omega)
/-- The rack behind the first n bytes. -/
def prO (s : ByteArray) (n : Nat) : Nat → Int := fun j => if j / 4 * 5 + j % 4 < n then sgB (bt s (j / 4 * 5 + j % 4)) else 0
theorem prO_zero (s : ByteArray) : prO s 0 = fun _ => 0 := by funext j; unfold prO; rw [if_neg (by omega)]
theorem prO_slash (s : ByteArray) (n : Nat) (h : n % 5 = 4) : prO s (n + 1) = prO s n := by
  funext j; unfold prO; (try dsimp only)
  by_cases c : j / 4 * 5 + j % 4 < n
  · rw [if_pos c, if_pos (by omega)]
  · rw [if_neg c, if_neg (by omega)]
theorem prO_sign (s : ByteArray) (n : Nat) (h : ¬ n % 5 = 4) : prO s (n + 1) = upd (prO s n) (n / 5 * 4 + n % 5) (sgB (bt s n)) := by
  funext j; unfold prO upd; (try dsimp only)
  by_cases c : j = n / 5 * 4 + n % 5
  · rw [if_pos c]
    have e : j / 4 * 5 + j % 4 = n := by omega
    rw [e, if_pos (by omega)]
  · rw [if_neg c]
    have e : ¬ j / 4 * 5 + j % 4 = n := by omega
    by_cases c2 : j / 4 * 5 + j % 4 < n
    · rw [if_pos c2, if_pos (by omega)]
    · rw [if_neg c2, if_neg (by omega)]
open Classical in
noncomputable def prB (s : ByteArray) : Bool := decide (s.size = 29 ∧ gdN s 29 ∧ rackB (prO s 29) = true)
noncomputable def prF (s : ByteArray) : Nat → Int := if prB s then prO s 29 else fun _ => 0
open Classical in
theorem pr_no {s : ByteArray} (h : ¬ (s.size = 29 ∧ gdN s 29 ∧ rackB (prO s 29) = true)) : prB s = false ∧ prF s = fun _ => 0 := by
  have : prB s = false := by unfold prB; simpa using h
  exact ⟨this, by unfold prF; rw [this]; rfl⟩
open Classical in
theorem pr_yes {s : ByteArray} (h1 : s.size = 29) (h2 : gdN s 29) (h3 : rackB (prO s 29) = true) : prB s = true ∧ prF s = prO s 29 := by
  have : prB s = true := by unfold prB; exact decide_eq_true ⟨h1, h2, h3⟩
  exact ⟨this, by unfold prF; rw [this]; rfl⟩
attribute [irreducible] prB prF
theorem gd_size {s : ByteArray} (h : ¬ s.size = 29) : prB s = false ∧ prF s = fun _ => 0 := pr_no fun e => h e.1
theorem gd_slash {s : ByteArray} {n : Nat} (hn : n < 29) (h4 : n % 5 = 4) (e : ¬ bt s n = 47) : prB s = false ∧ prF s = fun _ => 0 := pr_no fun h => by
  have := h.2.1 n hn
  rw [if_pos h4] at this
  exact e this
theorem gd_sign {s : ByteArray} {n : Nat} (hn : n < 29) (h4 : ¬ n % 5 = 4) (e : sgB (bt s n) < 0) : prB s = false ∧ prF s = fun _ => 0 := pr_no fun h => by
  have := h.2.1 n hn
  rw [if_neg h4] at this
  omega
theorem gd_rack {s : ByteArray} (e : rackB (prO s 29) = false) : prB s = false ∧ prF s = fun _ => 0 := pr_no fun h => by rw [e] at h; simp at h
/-! ### the parts -/
def cut5 (s : ByteArray) (m : Nat) : List ByteArray := (List.range m).map fun i => s.extract (i * 5) (i * 5 + 4)
theorem cut5_succ (s : ByteArray) (m : Nat) : cut5 s (m + 1) = cut5 s m ++ [s.extract (m * 5) (m * 5 + 4)] := by unfold cut5; rw [List.range_succ, List.map_append]; rfl
theorem split_good {s : ByteArray} (hz : s.size = 29) (hg : gdN s 29) : ∀ k, k ≤ 29 → splitTo s 47 k = (cut5 s (k / 5), k / 5 * 5)
  | 0, _ => splitTo_z s 47
  | k + 1, hk => by
    have ih := split_good hz hg k (by omega)
    have hgk := hg k (by omega)
    have hb := bt_at s k (by omega)
    by_cases h4 : k % 5 = 4
    · rw [if_pos h4] at hgk
      rw [splitTo_hit s 47 k (by omega) (by rw [hb, hgk]), ih]
      have e : (k + 1) / 5 = k / 5 + 1 := by omega
      rw [e, cut5_succ]
      have e1 : k / 5 * 5 + 4 = k := by omega
      have e2 : (k / 5 + 1) * 5 = k + 1 := by omega
      rw [e1, e2]
    · rw [if_neg h4] at hgk
      rw [splitTo_miss s 47 k (by omega) (fun c => by rw [hb] at c; rw [c, sgB_slash] at hgk; omega), ih]
      have e : (k + 1) / 5 = k / 5 := by omega
      rw [e]
theorem parts_good {s : ByteArray} (hz : s.size = 29) (hg : gdN s 29) : partsB s 47 = cut5 s 6 := by
  unfold partsB
  rw [hz, split_good hz hg 29 (Nat.le_refl _), cut5_succ s 5]
theorem cut5_len (s : ByteArray) (m : Nat) : (cut5 s m).length = m := by simp [cut5]
theorem cut5_get (s : ByteArray) (m i : Nat) (h : i < m) : (cut5 s m)[i]? = some (s.extract (i * 5) (i * 5 + 4)) := by simp [cut5, h]
theorem ext4_size {s : ByteArray} (hz : s.size = 29) {i : Nat} (h : i < 6) : (s.extract (i * 5) (i * 5 + 4)).size = 4 := by rw [ByteArray.size_extract]; omega
theorem ext4_bt {s : ByteArray} (i k : Nat) (hk : k < 4) : bt (s.extract (i * 5) (i * 5 + 4)) k = bt s (i * 5 + k) := by
  unfold bt
  rw [ext_list, List.getD_eq_getElem?_getD, List.getElem?_drop, List.getElem?_take, if_pos (by omega), List.getD_eq_getElem?_getD]
theorem pn_len {s : ByteArray} (h : ¬ (partsB s 47).length = 6) : prB s = false ∧ prF s = fun _ => 0 := pr_no fun e => h (by rw [parts_good e.1 e.2.1, cut5_len])
theorem pn_size {s : ByteArray} {i : Nat} (hi : i < 6) {x : ByteArray} (hx : (partsB s 47)[i]? = some x) (h : ¬ x.size = 4) : prB s = false ∧ prF s = fun _ => 0 := pr_no fun e => h (by
  rw [parts_good e.1 e.2.1, cut5_get _ _ _ hi] at hx
  rw [← Option.some.inj hx]
  exact ext4_size e.1 hi)
theorem pn_sign {s : ByteArray} {i k : Nat} (hi : i < 6) (hk : k < 4) {x : ByteArray} (hx : (partsB s 47)[i]? = some x) (h : sgB (bt x k) < 0) : prB s = false ∧ prF s = fun _ => 0 := pr_no fun e => by
  rw [parts_good e.1 e.2.1, cut5_get _ _ _ hi] at hx
  rw [← Option.some.inj hx, ext4_bt i k hk] at h
  have := e.2.1 (i * 5 + k) (by omega)
  rw [if_neg (by omega)] at this
  omega
theorem list4 {l : List UInt8} (h : l.length = 4) : ∃ a b c d, l = [a, b, c, d] := by
  match l, h with
  | [a, b, c, d], _ => exact ⟨a, b, c, d, rfl⟩
/-- Six parts of four bytes are a text of 29. -/
theorem parts_back {s : ByteArray} (h6 : (partsB s 47).length = 6) (h4 : ∀ (i : Nat) (x : ByteArray), (partsB s 47)[i]? = some x → x.size = 4) : s.size = 29 ∧ (∀ i, i < 5 → bt s (i * 5 + 4) = 47) ∧ ∀ (i : Nat) (x : ByteArray), (partsB s 47)[i]? = some x → ∀ k, k < 4 → bt s (i * 5 + k) = bt x k := by
  obtain ⟨hj, _, _⟩ := parts_join s 47
  generalize partsB s 47 = l at hj h6 h4
  match l, h6 with
  | [x0, x1, x2, x3, x4, x5], _ =>
    have g0 := h4 0 x0 rfl; have g1 := h4 1 x1 rfl; have g2 := h4 2 x2 rfl; have g3 := h4 3 x3 rfl; have g4 := h4 4 x4 rfl; have g5 := h4 5 x5 rfl
    rw [size_list] at g0 g1 g2 g3 g4 g5
    obtain ⟨a0, b0, c0, d0, e0⟩ := list4 g0
    obtain ⟨a1, b1, c1, d1, e1⟩ := list4 g1
    obtain ⟨a2, b2, c2, d2, e2⟩ := list4 g2
    obtain ⟨a3, b3, c3, d3, e3⟩ := list4 g3
    obtain ⟨a4, b4, c4, d4, e4⟩ := list4 g4
    obtain ⟨a5, b5, c5, d5, e5⟩ := list4 g5
    have hs : s.data.toList = [a0, b0, c0, d0, 47, a1, b1, c1, d1, 47, a2, b2, c2, d2, 47, a3, b3, c3, d3, 47, a4, b4, c4, d4, 47, a5, b5, c5, d5] := by
      rw [← hj]
      have k1 := jn_snoc [x0, x1, x2, x3, x4] x5 47
      have k2 := jn_snoc [x0, x1, x2, x3] x4 47
      have k3 := jn_snoc [x0, x1, x2] x3 47
      have k4 := jn_snoc [x0, x1] x2 47
      have k5 := jn_snoc [x0] x1 47
      have k6 := jn_snoc [] x0 47
      simp only [List.cons_append, List.nil_append, reduceCtorEq, if_false, if_true] at k1 k2 k3 k4 k5 k6
      rw [k1, k2, k3, k4, k5, k6, e0, e1, e2, e3, e4, e5]
      rfl
    have hsz : s.size = 29 := by rw [size_list, hs]; rfl
    have hbt : ∀ x : ByteArray, ∀ q k, x.data.toList = q → bt x k = q.getD k 0 := fun x q k h => by unfold bt; rw [h]
    refine ⟨hsz, fun i hi => ?_, fun i x hx k hk => ?_⟩
    · rw [hbt s _ _ hs]
      match i, hi with
      | 0, _ => rfl
      | 1, _ => rfl
      | 2, _ => rfl
      | 3, _ => rfl
      | 4, _ => rfl
    · rw [hbt s _ _ hs]
      have hi : i < 6 := by simpa using (List.getElem?_eq_some_iff.1 hx).1
      match i, hi, hx with
      | 0, _, hx => rw [← Option.some.inj hx, hbt x0 _ _ e0]; match k, hk with | 0, _ => rfl | 1, _ => rfl | 2, _ => rfl | 3, _ => rfl
      | 1, _, hx => rw [← Option.some.inj hx, hbt x1 _ _ e1]; match k, hk with | 0, _ => rfl | 1, _ => rfl | 2, _ => rfl | 3, _ => rfl
      | 2, _, hx => rw [← Option.some.inj hx, hbt x2 _ _ e2]; match k, hk with | 0, _ => rfl | 1, _ => rfl | 2, _ => rfl | 3, _ => rfl
      | 3, _, hx => rw [← Option.some.inj hx, hbt x3 _ _ e3]; match k, hk with | 0, _ => rfl | 1, _ => rfl | 2, _ => rfl | 3, _ => rfl
      | 4, _, hx => rw [← Option.some.inj hx, hbt x4 _ _ e4]; match k, hk with | 0, _ => rfl | 1, _ => rfl | 2, _ => rfl | 3, _ => rfl
      | 5, _, hx => rw [← Option.some.inj hx, hbt x5 _ _ e5]; match k, hk with | 0, _ => rfl | 1, _ => rfl | 2, _ => rfl | 3, _ => rfl
/-- The rack behind m bytes of the parts. -/
def lO (l : List ByteArray) (m : Nat) : Nat → Int := fun j => if j < m then sgB (bt (l.getD (j / 4) ⟨#[]⟩) (j % 4)) else 0
theorem lO_zero (l : List ByteArray) : lO l 0 = fun _ => 0 := by funext j; unfold lO; rw [if_neg (by omega)]
theorem lO_step (l : List ByteArray) (i k : Nat) (hk : k < 4) {x : ByteArray} (hx : l[i]? = some x) : lO l (i * 4 + k + 1) = upd (lO l (i * 4 + k)) (i * 4 + k) (sgB (bt x k)) := by
  funext j; unfold lO upd; (try dsimp only)
  by_cases c : j = i * 4 + k
  · subst c
    rw [if_pos rfl, if_pos (by omega)]
    have e1 : (i * 4 + k) / 4 = i := by omega
    have e2 : (i * 4 + k) % 4 = k := by omega
    rw [e1, e2, List.getD_eq_getElem?_getD, hx]; rfl
  · rw [if_neg c]
    by_cases c2 : j < i * 4 + k
    · rw [if_pos c2, if_pos (by omega)]
    · rw [if_neg c2, if_neg (by omega)]
theorem lO_dot (l : List ByteArray) (i k : Nat) (hk : k < 4) {x : ByteArray} (hx : l[i]? = some x) (h : sgB (bt x k) = 0) : lO l (i * 4 + k + 1) = lO l (i * 4 + k) := by
  rw [lO_step l i k hk hx, h]
  funext j; unfold upd; (try dsimp only)
  by_cases c : j = i * 4 + k
  · rw [if_pos c]; unfold lO; rw [if_neg (by omega)]
  · rw [if_neg c]
/-- The first m bytes of the parts are signs. -/
def okN (l : List ByteArray) (m : Nat) : Prop := ∀ j, j < m → 0 ≤ sgB (bt (l.getD (j / 4) ⟨#[]⟩) (j % 4))
theorem okN_zero (l : List ByteArray) : okN l 0 := fun j h => by omega
theorem okN_step {l : List ByteArray} {i k : Nat} (hk : k < 4) {x : ByteArray} (hx : l[i]? = some x) (h : okN l (i * 4 + k)) (e : 0 ≤ sgB (bt x k)) : okN l (i * 4 + k + 1) := fun j hj => by
  by_cases c : j = i * 4 + k
  · subst c
    have e1 : (i * 4 + k) / 4 = i := by omega
    have e2 : (i * 4 + k) % 4 = k := by omega
    rw [e1, e2, List.getD_eq_getElem?_getD, hx]; exact e
  · exact h j (by omega)
theorem parts_end {s : ByteArray} (h6 : (partsB s 47).length = 6) (h4 : ∀ (i : Nat) (x : ByteArray), (partsB s 47)[i]? = some x → x.size = 4) (ho : okN (partsB s 47) 24) : s.size = 29 ∧ gdN s 29 ∧ arr 24 (lO (partsB s 47) 24) = arr 24 (prO s 29) := by
  obtain ⟨hz, h47, hb⟩ := parts_back h6 h4
  have hget : ∀ i, i < 6 → (partsB s 47)[i]? = some ((partsB s 47).getD i ⟨#[]⟩) := fun i hi => by
    rw [List.getD_eq_getElem?_getD, List.getElem?_eq_getElem (by omega)]; rfl
  refine ⟨hz, fun n hn => ?_, arr_congr fun j hj => ?_⟩
  · by_cases c : n % 5 = 4
    · rw [if_pos c]
      have := h47 (n / 5) (by omega)
      rwa [show n / 5 * 5 + 4 = n by omega] at this
    · rw [if_neg c]
      have := hb (n / 5) _ (hget (n / 5) (by omega)) (n % 5) (by omega)
      rw [show n / 5 * 5 + n % 5 = n by omega] at this
      rw [this]
      have := ho (n / 5 * 4 + n % 5) (by omega)
      rwa [show (n / 5 * 4 + n % 5) / 4 = n / 5 by omega, show (n / 5 * 4 + n % 5) % 4 = n % 5 by omega] at this
  · unfold lO prO
    rw [if_pos hj, if_pos (by omega), hb (j / 4) _ (hget (j / 4) (by omega)) (j % 4) (by omega)]
end Go.Proofs.YtlbgmkengkgnfaaDoor
