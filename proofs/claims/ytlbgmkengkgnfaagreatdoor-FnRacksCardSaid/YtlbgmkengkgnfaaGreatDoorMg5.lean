/- A part (number 5) of the proof of the law FnRacks: what each of its sections proves stands in the section's own first remark. No conditions beside those that each theorem states. -/
import Derived.Test.YtlbgmkengkgnfaaGreatDoorMg4
import Derived.Test.YtlbgmkengkgnfaaGreatDoorMg3
import Derived.Test.YtlbgmkengkgnfaaGreatDoorMg1
section
/- All pours that are possible: the program's and the reference's, and the law. -/
namespace Go.Proofs.YtlbgmkengkgnfaaGreatDoor
set_option linter.unusedSimpArgs false
set_option linter.unusedVariables false
set_option maxRecDepth 20000
open Go.RowKit
theorem size28 : (Tryz.prog.info? 27).map (·.size) = some 24 := size24r
theorem agg28 : aggB Tryz.prog 27 = true := agg24r
/-- How many of the first q pairs of tubes are pours. -/
def poN (f : Nat → Int) : Nat → Nat
  | 0 => 0
  | q + 1 => if canF f (q / 6) (q % 6) = true then poN f q + 1 else poN f q
def poF (f : Nat → Int) : Nat → (Nat → Int)
  | 0 => fun _ => 0
  | q + 1 => if canF f (q / 6) (q % 6) = true then app (poF f q) (poN f q * 2) (fun j => if j = 0 then ((q / 6 : Nat) : Int) else ((q % 6 : Nat) : Int)) else poF f q
theorem poN_le (f : Nat → Int) : ∀ q, poN f q ≤ q
  | 0 => by simp [poN]
  | q + 1 => by have := poN_le f q; unfold poN; split <;> omega
theorem po_yes {f : Nat → Int} {q : Nat} (h : canF f (q / 6) (q % 6) = true) : poN f (q + 1) = poN f q + 1 ∧ poF f (q + 1) = app (poF f q) (poN f q * 2) (fun j => if j = 0 then ((q / 6 : Nat) : Int) else ((q % 6 : Nat) : Int)) := by
  constructor
  · rw [poN, if_pos h]
  · rw [poF, if_pos h]
theorem po_no {f : Nat → Int} {q : Nat} (h : canF f (q / 6) (q % 6) = false) : poN f (q + 1) = poN f q ∧ poF f (q + 1) = poF f q := by
  constructor
  · rw [poN, if_neg (by simp [h])]
  · rw [poF, if_neg (by simp [h])]
theorem l2Pours_any (f : Nat → Int) (hf : rackB f = true) (w : World) : Calls Tryz.prog 47 #[.agg (arr 24 f)] w (RetSl w 53 2 (poN f 36) (poF f 36)) := by
  have h0 : (w.alloc (.cells (arr 24 f) 27)).heap[w.heap.size]? = some (.cells (arr 24 f) 27 (0, 0)) := heap_new rfl
  have h1 := row_alloc (x := .cells #[] 53) h0
  have hbel : Below w.heap.size w ((w.alloc (.cells (arr 24 f) 27)).alloc (.cells #[] 53)) := ((Below.refl _ _).alloc (by simp) _).alloc (by simp) _
  have hS : Sl ((w.alloc (.cells (arr 24 f) 27)).alloc (.cells #[] 53)) (w.heap.size + 1) 53 2 (.slice (some ⟨w.heap.size + 1, 0, none⟩) 0 0) (poN f (0 * 6)) (poF f (0 * 6)) := by
    have := Sl.made (w := w.alloc (.cells (arr 24 f) 27)) (base := w.heap.size + 1) (e := 53) (s := 2) (f := poF f 0) (by simp)
    simpa [poN] using this
  go_enter Tryz.func47, Tryz.ntmps47
  go_wp2_with fail
  go_loopw [3, 4] (fun o i wr => ∃ n : Nat, ∃ v : Value, n ≤ 6 ∧ i = .int .i64 n ∧ o = v ∧ Sl wr (w.heap.size + 1) 53 2 v (poN f (n * 6)) (poF f (n * 6)) ∧ wr.heap[w.heap.size]? = some (.cells (arr 24 f) 27 (0, 0)) ∧ Below w.heap.size w wr) (fun _ i _ => 6 - (intOf i).toNat)
  case atStart => exact ⟨0, _, by omega, rfl, rfl, hS, h1, hbel⟩
  case round =>
    clear h0 h1 hbel hS
    obtain ⟨n, v, hn, rfl, rfl, hS, h1, hbel⟩ := hrel
    by_cases hlt : n < 6
    · have hlt' : (n : Int) < 6 := by omega
      go_wp2_with fail
      obtain ⟨wo, hwo⟩ : ∃ wo : World, wo = wr := ⟨_, rfl⟩
      rw [← hwo] at h1 hS hbel
      go_loopw [3, 5] (fun o i wq => ∃ m : Nat, ∃ v : Value, m ≤ 6 ∧ i = .int .i64 m ∧ o = v ∧ Sl wq (w.heap.size + 1) 53 2 v (poN f (n * 6 + m)) (poF f (n * 6 + m)) ∧ wq.heap[w.heap.size]? = some (.cells (arr 24 f) 27 (0, 0)) ∧ Below w.heap.size w wq) (fun _ i _ => 6 - (intOf i).toNat)
      case atStart => exact ⟨0, _, by omega, rfl, rfl, hwo ▸ hS, hwo ▸ h1, hwo ▸ hbel⟩
      case round =>
        clear h1 hbel hS hwo
        obtain ⟨m, v, hm6, rfl, rfl, hS, h1, hbel⟩ := hrel
        have hsz := row_lt h1
        have hN := poN_le f (n * 6 + m)
        by_cases hlt2 : m < 6
        · have hlt2' : (m : Int) < 6 := by omega
          have e1 : (n * 6 + m) / 6 = n := by omega
          have e2 : (n * 6 + m) % 6 = m := by omega
          cases hc : canF f n m with
          | true =>
            have HC : Hid _ := hc
            have HS : Hid (poN f (n * 6 + (m + 1)) = poN f (n * 6 + m) + 1 ∧ poF f (n * 6 + (m + 1)) = app (poF f (n * 6 + m)) (poN f (n * 6 + m) * 2) (fun j => if j = 0 then (n : Int) else m)) := by
              have := po_yes (f := f) (q := n * 6 + m) (by rw [e1, e2]; exact hc)
              rw [e1, e2] at this
              exact this
            have hB : ∀ W : World, (W.alloc (.cells #[.int .i64 n, .int .i64 m] 53)).heap[W.heap.size]? = some (.cells (arr 2 fun j => if j = 0 then (n : Int) else m) 53 (0, 0)) := fun W => by rw [arr_two]; exact heap_new rfl
            have HB : Hid _ := hB
            clear hc hB e1 e2
            go_wp2_with first
              | (with_reducible refine wpList_loadW rfl _ _ rfl _ rfl h1 agg28 size28 ?_)
              | (go_at_call 64; (with_reducible refine (l2Can_any f hf n m (by omega) (by omega) _).mono ?_); rw [HC.out]; rintro e w1 ⟨rfl, hb1⟩; replace hbel := hbel.trans (hb1.mono hbel.size); replace h1 := row_keep hb1 h1; replace hS := hS.keep hb1; have hz := row_lt h1; clear hb1)
              | ((with_reducible refine wpList_appendS slP (by omega) rfl _ _ rfl rfl (hS.keep ((Below.refl _ _).alloc (Nat.le_refl _) _)) rfl (HB.out _) (by omega) (by omega) (by unfold maxLen; omega) (by omega) (by simp; omega) ?_); intro v2 w2 hS2 hb2)
            go_roundw
            case rel =>
              refine ⟨m + 1, v2, by omega, by go_num, rfl, ?_, row_kept hb2 (row_alloc h1) (by omega), hbel.trans (((Below.refl _ _).alloc (Nat.le_of_lt hz) _).trans (hb2.mono (by omega)))⟩
              rw [HS.out.1, HS.out.2]
              exact hS2.congr rfl fun j hj => by simp only [Nat.zero_add]
            case measure => simp [intOf]; omega
          | false =>
            have HC : Hid _ := hc
            have HS : Hid (poN f (n * 6 + (m + 1)) = poN f (n * 6 + m) ∧ poF f (n * 6 + (m + 1)) = poF f (n * 6 + m)) := po_no (f := f) (q := n * 6 + m) (by rw [e1, e2]; exact hc)
            clear hc e1 e2
            go_wp2_with first
              | (with_reducible refine wpList_loadW rfl _ _ rfl _ rfl h1 agg28 size28 ?_)
              | (go_at_call 64; (with_reducible refine (l2Can_any f hf n m (by omega) (by omega) _).mono ?_); rw [HC.out]; rintro e w1 ⟨rfl, hb1⟩; replace hbel := hbel.trans (hb1.mono hbel.size); replace h1 := row_keep hb1 h1; replace hS := hS.keep hb1; clear hb1)
            go_roundw
            case rel => exact ⟨m + 1, _, by omega, by go_num, rfl, by rw [HS.out.1, HS.out.2]; exact hS, h1, hbel⟩
            case measure => simp [intOf]; omega
        · obtain rfl : m = 6 := by omega
          go_wp2_with fail
          go_roundw
          case rel => exact ⟨n + 1, _, by omega, by go_num, rfl, by rw [show (n + 1) * 6 = n * 6 + 6 by omega]; exact hS, h1, hbel⟩
          case measure => simp [intOf]; omega
    · obtain rfl : n = 6 := by omega
      go_wp2_with fail
      go_ret
      exact ⟨_, rfl, hS.lower (by omega), hbel⟩
def pofN (f : Nat → Int) : Nat := if rackB f = true then poN f 36 else 0
def pofF (f : Nat → Int) : Nat → Int := if rackB f = true then poF f 36 else fun _ => 0
theorem pofN_le (f : Nat → Int) : pofN f ≤ 1000000 := by
  unfold pofN
  split
  · have := poN_le f 36; omega
  · omega
end Go.Proofs.YtlbgmkengkgnfaaGreatDoor
end

section
/- Pours, in plain numbers. -/
namespace Go.Proofs.YtlbgmkengkgnfaaGreatDoor
set_option linter.unusedSimpArgs false
set_option linter.unusedVariables false
set_option maxRecDepth 20000
/-- k layers of i's top, put onto j. -/
def pS (f : Nat → Int) (i j : Nat) : Nat → (Nat → Int)
  | 0 => f
  | k + 1 => upd (upd (pS f i j k) (i * 4 + (nlay (tub f i) - 1 - k)) 0) (j * 4 + (nlay (tub f j) + k)) (tpF (tub f i)).1
/-- How many layers a pour moves. -/
def mvd (f : Nat → Int) (i j : Nat) : Nat := min (tpF (tub f i)).2.toNat (4 - nlay (tub f j))
def pourF (f : Nat → Int) (i j : Nat) : Nat → Int := pS f i j (mvd f i j)
theorem mvd_le {f : Nat → Int} {i j : Nat} (ht : tubeB (tub f i) = true) : mvd f i j ≤ nlay (tub f i) ∧ mvd f i j ≤ 4 - nlay (tub f j) ∧ mvd f i j ≤ 4 := by
  have := (tpF_sign ht).2.2.2.2
  have := nlay_le (tub f i)
  unfold mvd
  omega
theorem pS_at {f : Nat → Int} {i j : Nat} (hij : i ≠ j) : ∀ k, k ≤ nlay (tub f i) → nlay (tub f j) + k ≤ 4 → ∀ q, pS f i j k q =
    if j * 4 + nlay (tub f j) ≤ q ∧ q < j * 4 + nlay (tub f j) + k then (tpF (tub f i)).1 else if i * 4 + (nlay (tub f i) - k) ≤ q ∧ q < i * 4 + nlay (tub f i) then 0 else f q
  | 0, _, _, q => by
    rw [if_neg (by omega), if_neg (by omega)]; rfl
  | k + 1, h1, h2, q => by
    have ih := pS_at (f := f) hij k (by omega) (by omega) q
    have h4 := nlay_le (tub f i)
    show upd (upd (pS f i j k) _ _) _ _ q = _
    unfold upd
    by_cases e1 : q = j * 4 + (nlay (tub f j) + k)
    · rw [if_pos e1, if_pos (by omega)]
    · rw [if_neg e1]
      by_cases e2 : q = i * 4 + (nlay (tub f i) - 1 - k)
      · rw [if_pos e2, if_neg (by omega), if_pos (by omega)]
      · rw [if_neg e2, ih]
        by_cases e3 : j * 4 + nlay (tub f j) ≤ q ∧ q < j * 4 + nlay (tub f j) + k
        · rw [if_pos e3, if_pos (by omega)]
        · rw [if_neg e3, if_neg (show ¬ (j * 4 + nlay (tub f j) ≤ q ∧ q < j * 4 + nlay (tub f j) + (k + 1)) by omega)]
          by_cases e4 : i * 4 + (nlay (tub f i) - k) ≤ q ∧ q < i * 4 + nlay (tub f i)
          · rw [if_pos e4, if_pos (by omega)]
          · rw [if_neg e4, if_neg (by omega)]
/-- A tube by its shape. -/
theorem tube_shape {g : Nat → Int} {n : Nat} (hn : n ≤ 4) (h1 : ∀ k, k < n → 1 ≤ g k ∧ g k ≤ 5) (h0 : ∀ k, n ≤ k → k < 4 → g k = 0) : tubeB g = true ∧ nlay g = n := by
  unfold tubeB nlay
  rw [decide_eq_true_iff]
  match n, hn with
  | 0, _ =>
    have a := h0 0 (by omega) (by omega); have b := h0 1 (by omega) (by omega); have c := h0 2 (by omega) (by omega); have d := h0 3 (by omega) (by omega)
    simp [a, b, c, d]
  | 1, _ =>
    have a := h1 0 (by omega); have b := h0 1 (by omega) (by omega); have c := h0 2 (by omega) (by omega); have d := h0 3 (by omega) (by omega)
    have a' : ¬ g 0 = 0 := by omega
    simp [a', b, c, d]; omega
  | 2, _ =>
    have a := h1 0 (by omega); have b := h1 1 (by omega); have c := h0 2 (by omega) (by omega); have d := h0 3 (by omega) (by omega)
    have a' : ¬ g 0 = 0 := by omega
    have b' : ¬ g 1 = 0 := by omega
    simp [a', b', c, d]; omega
  | 3, _ =>
    have a := h1 0 (by omega); have b := h1 1 (by omega); have c := h1 2 (by omega); have d := h0 3 (by omega) (by omega)
    have a' : ¬ g 0 = 0 := by omega
    have b' : ¬ g 1 = 0 := by omega
    have c' : ¬ g 2 = 0 := by omega
    simp [a', b', c', d]; omega
  | 4, _ =>
    have a := h1 0 (by omega); have b := h1 1 (by omega); have c := h1 2 (by omega); have d := h1 3 (by omega)
    have a' : ¬ g 0 = 0 := by omega
    have b' : ¬ g 1 = 0 := by omega
    have c' : ¬ g 2 = 0 := by omega
    have d' : ¬ g 3 = 0 := by omega
    simp [a', b', c', d']; omega
theorem tube_zero {g : Nat → Int} (h : tubeB g = true) : ∀ k, nlay g ≤ k → k < 4 → g k = 0 := fun k h1 h2 => by
  have e := tubeB_layers g
  rw [h, Bool.and_eq_true, List.all_eq_true, List.all_eq_true] at e
  have := e.2 (k - nlay g) (List.mem_range.2 (by omega))
  rw [show nlay g + (k - nlay g) = k by omega] at this
  simpa using this
theorem pour_rack {f : Nat → Int} {i j : Nat} (hf : rackB f = true) (hi : i ≤ 5) (hj : j ≤ 5) (hc : canF f i j = true) : rackB (pourF f i j) = true := by
  have hc' := of_decide_eq_true hc
  obtain ⟨hij, hn, hm, _⟩ := hc'
  have ti := tube_of_rack hf hi
  have tj := tube_of_rack hf hj
  obtain ⟨l1, l2, _⟩ := mvd_le (j := j) ti
  have hs := tpF_sign ti
  have hat := pS_at hij (mvd f i j) l1 (by omega)
  have h4 := nlay_le (tub f i)
  have h4' := nlay_le (tub f j)
  refine (rackB_iff _).2 fun t ht => ?_
  have hc1 : 1 ≤ (tpF (tub f i)).1 := by have := hs.1.2 hn; omega
  by_cases e1 : t = i
  · subst e1
    refine (tube_shape (n := nlay (tub f t) - mvd f t j) (by omega) (fun k hk => ?_) fun k hk hk4 => ?_).1
    · show 1 ≤ pourF f t j (t * 4 + k) ∧ pourF f t j (t * 4 + k) ≤ 5
      unfold pourF
      rw [hat, if_neg (by omega), if_neg (by omega)]
      exact nlay_pos ti k (by omega)
    · show pourF f t j (t * 4 + k) = 0
      unfold pourF
      rw [hat, if_neg (by omega)]
      by_cases e : k < nlay (tub f t)
      · rw [if_pos (by omega)]
      · rw [if_neg (by omega)]
        exact tube_zero ti k (by omega) hk4
  · by_cases e2 : t = j
    · subst e2
      refine (tube_shape (n := nlay (tub f t) + mvd f i t) (by omega) (fun k hk => ?_) fun k hk hk4 => ?_).1
      · show 1 ≤ pourF f i t (t * 4 + k) ∧ pourF f i t (t * 4 + k) ≤ 5
        unfold pourF
        rw [hat]
        by_cases e : k < nlay (tub f t)
        · rw [if_neg (by omega), if_neg (by omega)]
          exact nlay_pos tj k e
        · rw [if_pos (by omega)]
          omega
      · show pourF f i t (t * 4 + k) = 0
        unfold pourF
        rw [hat, if_neg (by omega), if_neg (by omega)]
        exact tube_zero tj k (by omega) hk4
    · have e : ∀ k, k < 4 → tub (pourF f i j) t k = tub f t k := fun k hk => by
        show pourF f i j (t * 4 + k) = f (t * 4 + k)
        unfold pourF
        rw [hat, if_neg (by omega), if_neg (by omega)]
      have tt := tube_of_rack hf (show t ≤ 5 by omega)
      refine (tube_shape (n := nlay (tub f t)) (nlay_le _) (fun k hk => ?_) fun k hk hk4 => ?_).1
      · rw [e k (by have := nlay_le (tub f t); omega)]
        exact nlay_pos tt k hk
      · rw [e k hk4]
        exact tube_zero tt k hk hk4
end Go.Proofs.YtlbgmkengkgnfaaGreatDoor
end

section
/- Comparing rows of six ints. -/
namespace Go.Proofs.YtlbgmkengkgnfaaGreatDoor
set_option linter.unusedSimpArgs false
set_option linter.unusedVariables false
set_option maxRecDepth 20000
open Go.RowKit
end Go.Proofs.YtlbgmkengkgnfaaGreatDoor
end

section
/- CountColors: the program's and the reference's, and the law. -/
namespace Go.Proofs.YtlbgmkengkgnfaaGreatDoor
set_option linter.unusedSimpArgs false
set_option linter.unusedVariables false
set_option maxRecDepth 20000
open Go.RowKit
theorem cell_of_rack {f : Nat → Int} (h : rackB f = true) {i k : Nat} (hi : i < 6) (hk : k < 4) : 0 ≤ f (i * 4 + k) ∧ f (i * 4 + k) ≤ 5 := ((tubeB_iff f i).1 ((rackB_iff f).1 h i hi) k hk).1

def countsOf (f : Nat → Int) : (Nat → Int) × Bool := if rackB f = true then (tally f 24, true) else (fun _ => 0, false)
end Go.Proofs.YtlbgmkengkgnfaaGreatDoor
end

section
/- BottomCounts: the program's and the reference's, and the law. -/
namespace Go.Proofs.YtlbgmkengkgnfaaGreatDoor
set_option linter.unusedSimpArgs false
set_option linter.unusedVariables false
set_option maxRecDepth 20000
open Go.RowKit
def botsOf (f : Nat → Int) : (Nat → Int) × Bool := if rackB f = true then (tally (fun i => f (i * 4)) 6, true) else (fun _ => 0, false)
end Go.Proofs.YtlbgmkengkgnfaaGreatDoor
end

section
/- TakeLayer: the program's and the reference's, and the law. -/
namespace Go.Proofs.YtlbgmkengkgnfaaGreatDoor
set_option linter.unusedSimpArgs false
set_option linter.unusedVariables false
set_option maxRecDepth 20000
open Go.RowKit
def takeLayer (f : Nat → Int) (i : Int) : (Nat → Int) × Int × Bool := if rackB f = true ∧ (0 ≤ i ∧ i ≤ 5) ∧ nlay (tub f i.toNat) ≠ 0 then (upd f (i.toNat * 4 + (nlay (tub f i.toNat) - 1)) 0, f (i.toNat * 4 + (nlay (tub f i.toNat) - 1)), true) else (fun _ => 0, 0, false)
theorem takeLayer_bad {f : Nat → Int} {i : Int} (h : ¬ (rackB f = true ∧ (0 ≤ i ∧ i ≤ 5) ∧ nlay (tub f i.toNat) ≠ 0)) : takeLayer f i = (fun _ => 0, 0, false) := if_neg h

theorem specTake_any (f : Nat → Int) (i : Int) (w : World) : Calls Tryz.prog 18 #[.agg (arr 24 f), .int .i64 i] w fun e w' => e = .returned (.tuple #[.agg (arr 24 (takeLayer f i).1), .int .i64 (takeLayer f i).2.1, .bool (takeLayer f i).2.2]) ∧ Below w.heap.size w w' := by
  have h1 : ((w.alloc (.cells (arr 24 f) 27)).alloc (.cells (arr 24 fun _ => 0) 27)).heap[w.heap.size]? = some (.cells (arr 24 f) 27 (0, 0)) := by rw [heap_old (by simp), heap_new rfl]
  have h2 : ((w.alloc (.cells (arr 24 f) 27)).alloc (.cells (arr 24 fun _ => 0) 27)).heap[w.heap.size + 1]? = some (.cells (arr 24 fun _ => 0) 27 (0, 0)) := heap_new (by simp)
  have hbel : Below w.heap.size w ((w.alloc (.cells (arr 24 f) 27)).alloc (.cells (arr 24 fun _ => 0) 27)) := ((Below.refl _ _).alloc (by simp) _).alloc (by simp) _
  by_cases hok : rackB f = true ∧ (0 ≤ i ∧ i ≤ 5) ∧ nlay (tub f i.toNat) ≠ 0
  · obtain ⟨hf, hi, hn4⟩ := hok
    have HF : Hid _ := hf
    have HI : Hid _ := show (decide (0 ≤ i) && decide (i ≤ 5)) = true by simpa using hi
    obtain ⟨n, rfl⟩ : ∃ n : Nat, i = n := ⟨i.toNat, by omega⟩
    have hn : n ≤ 5 := by omega
    have ht := tube_of_rack hf hn
    rw [Int.toNat_natCast] at hn4
    obtain ⟨m, hm⟩ : ∃ m, nlay (fun j => f (n * 4 + j)) = m + 1 := ⟨nlay (tub f n) - 1, by unfold tub at *; omega⟩
    have hm4 : m < 4 := by have := nlay_le (fun j => f (n * 4 + j)); omega
    have e : takeLayer f n = (upd f (n * 4 + m) 0, f (n * 4 + m), true) := by
      unfold takeLayer
      rw [if_pos ⟨hf, hi, by simpa using hn4⟩, Int.toNat_natCast, show nlay (tub f n) = m + 1 from hm]
      rfl
    rw [e]
    have H4 : Hid (nlay (fun j => f (n * 4 + j)) = m + 1) := hm
    have hi1 : (0 : Int) ≤ (n : Int) := by omega
    have hi3 : (n : Int) < 6 := by omega
    have hm5 : (m : Int) < 4 := by omega
    clear hi e hf hm hn4
    go_enter Tryz.func18, Tryz.ntmps18
    go_wp2_with first
      | (with_reducible refine wpList_allocA rfl 27 rfl 24 zero24r ?_; (try simp only [size_al]))
      | (with_reducible refine wpList_loadW rfl _ _ rfl _ rfl h1 agg24r size24r ?_)
      | (with_reducible refine wpList_build0 rfl 27 rfl 24 zbuild24 ?_)
      | (with_reducible refine wpList_storeW rfl _ _ _ rfl _ rfl rfl h2 size24r ?_)
      | (go_at_call 34; (with_reducible refine (l2Rack_any _ _).mono ?_); rw [HF.out]; rintro e w1 ⟨rfl, hb1⟩; replace hbel := hbel.trans (hb1.mono hbel.size); replace h1 := row_keep hb1 h1; replace h2 := row_keep hb1 h2; clear hb1)
      | (go_at_call 35; (with_reducible refine (l2Place_any _ _).mono ?_); rw [HI.out]; rintro e w' ⟨rfl, rfl⟩)
      | (with_reducible refine wpList_loadI rfl _ _ rfl _ _ rfl h1 aggI undI (by omega) ?_)
      | (with_reducible refine wpList_loadAG rfl _ _ rfl _ _ rfl h1 4 agg4 size4 (by omega) ?_)
      | ((with_reducible refine wpList_storeI rfl 3 _ _ rfl _ _ rfl rfl h1 size1 (by omega) ?_); have h3 := setRow_heap _ _ _ (arr 24 (upd f (n * 4 + m) 0)) _ _ h1; have h4 := (setRow_other _ w.heap.size (w.heap.size + 1) (arr 24 (upd f (n * 4 + m) 0)) (by omega)).trans h2)
      | (with_reducible refine wpList_loadW rfl _ _ rfl _ rfl h3 agg24r size24r ?_)
      | (with_reducible refine wpList_storeW rfl _ _ _ rfl _ rfl rfl h4 size24r ?_)
      | (go_at_call 38; (with_reducible refine (l2Many_ok (fun j => f (n * 4 + j)) ht _).mono ?_); rw [H4.out]; rintro e w1 ⟨rfl, hb1⟩; replace hbel := hbel.trans (hb1.mono hbel.size); replace h1 := row_keep hb1 h1; replace h2 := row_keep hb1 h2; clear hb1)
    exact bodyPost_ret_by (results_ctt _ _ _ _ _ _ _ rfl rfl (setRow_heap _ _ _ _ _ _ h4) agg24r size24r) rfl ⟨rfl, below_setRow2 (below_setRow2 hbel (by omega) _) (by omega) _⟩
  · rw [takeLayer_bad hok]
    cases hf : rackB f with
    | false =>
      have HF : Hid _ := hf
      clear hf
      go_enter Tryz.func18, Tryz.ntmps18
      go_wp2_with first
        | (with_reducible refine wpList_allocA rfl 27 rfl 24 zero24r ?_; (try simp only [size_al]))
        | (with_reducible refine wpList_loadW rfl _ _ rfl _ rfl h1 agg24r size24r ?_)
        | (with_reducible refine wpList_build0 rfl 27 rfl 24 zbuild24 ?_)
        | (with_reducible refine wpList_storeW rfl _ _ _ rfl _ rfl rfl h2 size24r ?_)
        | (go_at_call 34; (with_reducible refine (l2Rack_any _ _).mono ?_); rw [HF.out]; rintro e w1 ⟨rfl, hb1⟩; replace hbel := hbel.trans (hb1.mono hbel.size); replace h1 := row_keep hb1 h1; replace h2 := row_keep hb1 h2; clear hb1)
        | (go_at_call 35; (with_reducible refine (l2Place_any _ _).mono ?_); rw [HI.out]; rintro e w' ⟨rfl, rfl⟩)
        | (with_reducible refine wpList_loadI rfl _ _ rfl _ _ rfl h1 aggI undI (by omega) ?_)
        | (with_reducible refine wpList_loadAG rfl _ _ rfl _ _ rfl h1 4 agg4 size4 (by omega) ?_)
        | ((with_reducible refine wpList_storeI rfl 3 _ _ rfl _ _ rfl rfl h1 size1 (by omega) ?_); have h3 := setRow_heap _ _ _ (arr 24 (upd f (n * 4 + m) 0)) _ _ h1; have h4 := (setRow_other _ w.heap.size (w.heap.size + 1) (arr 24 (upd f (n * 4 + m) 0)) (by omega)).trans h2)
        | (with_reducible refine wpList_loadW rfl _ _ rfl _ rfl h3 agg24r size24r ?_)
        | (with_reducible refine wpList_storeW rfl _ _ _ rfl _ rfl rfl h4 size24r ?_)
        | (go_at_call 38; (with_reducible refine (l2Many_ok (fun j => f (n * 4 + j)) ht _).mono ?_); rw [H4.out]; rintro e w1 ⟨rfl, hb1⟩; replace hbel := hbel.trans (hb1.mono hbel.size); replace h1 := row_keep hb1 h1; replace h2 := row_keep hb1 h2; clear hb1)
      exact bodyPost_ret_by (results_ctt _ _ _ _ _ _ _ rfl rfl (setRow_heap _ _ _ _ _ _ h2) agg24r size24r) rfl ⟨rfl, below_setRow2 hbel (by omega) _⟩
    | true =>
      have HF : Hid _ := hf
      by_cases hi : 0 ≤ i ∧ i ≤ 5
      · have HI : Hid _ := show (decide (0 ≤ i) && decide (i ≤ 5)) = true by simpa using hi
        obtain ⟨n, rfl⟩ : ∃ n : Nat, i = n := ⟨i.toNat, by omega⟩
        have hn : n ≤ 5 := by omega
        have ht := tube_of_rack hf hn
        have hi1 : (0 : Int) ≤ (n : Int) := by omega
        have hi3 : (n : Int) < 6 := by omega
        have h4 : nlay (fun j => f (n * 4 + j)) = 0 := by
          have h6 : ¬ nlay (tub f n) ≠ 0 := fun h7 => hok ⟨hf, hi, by simpa using h7⟩
          unfold tub at h6
          omega
        have H4 : Hid _ := h4
        clear hf hi hok h4
        go_enter Tryz.func18, Tryz.ntmps18
        go_wp2_with first
          | (with_reducible refine wpList_allocA rfl 27 rfl 24 zero24r ?_; (try simp only [size_al]))
          | (with_reducible refine wpList_loadW rfl _ _ rfl _ rfl h1 agg24r size24r ?_)
          | (with_reducible refine wpList_build0 rfl 27 rfl 24 zbuild24 ?_)
          | (with_reducible refine wpList_storeW rfl _ _ _ rfl _ rfl rfl h2 size24r ?_)
          | (go_at_call 34; (with_reducible refine (l2Rack_any _ _).mono ?_); rw [HF.out]; rintro e w1 ⟨rfl, hb1⟩; replace hbel := hbel.trans (hb1.mono hbel.size); replace h1 := row_keep hb1 h1; replace h2 := row_keep hb1 h2; clear hb1)
          | (go_at_call 35; (with_reducible refine (l2Place_any _ _).mono ?_); rw [HI.out]; rintro e w' ⟨rfl, rfl⟩)
          | (with_reducible refine wpList_loadI rfl _ _ rfl _ _ rfl h1 aggI undI (by omega) ?_)
          | (with_reducible refine wpList_loadAG rfl _ _ rfl _ _ rfl h1 4 agg4 size4 (by omega) ?_)
          | ((with_reducible refine wpList_storeI rfl 3 _ _ rfl _ _ rfl rfl h1 size1 (by omega) ?_); have h3 := setRow_heap _ _ _ (arr 24 (upd f (n * 4 + m) 0)) _ _ h1; have h4 := (setRow_other _ w.heap.size (w.heap.size + 1) (arr 24 (upd f (n * 4 + m) 0)) (by omega)).trans h2)
          | (with_reducible refine wpList_loadW rfl _ _ rfl _ rfl h3 agg24r size24r ?_)
          | (with_reducible refine wpList_storeW rfl _ _ _ rfl _ rfl rfl h4 size24r ?_)
          | (go_at_call 38; (with_reducible refine (l2Many_ok (fun j => f (n * 4 + j)) ht _).mono ?_); rw [H4.out]; rintro e w1 ⟨rfl, hb1⟩; replace hbel := hbel.trans (hb1.mono hbel.size); replace h1 := row_keep hb1 h1; replace h2 := row_keep hb1 h2; clear hb1)
        exact bodyPost_ret_by (results_ctt _ _ _ _ _ _ _ rfl rfl (setRow_heap _ _ _ _ _ _ h2) agg24r size24r) rfl ⟨rfl, below_setRow2 hbel (by omega) _⟩
      · have HI : Hid _ := show (decide (0 ≤ i) && decide (i ≤ 5)) = false by simpa using hi
        clear hf hi hok
        go_enter Tryz.func18, Tryz.ntmps18
        go_wp2_with first
          | (with_reducible refine wpList_allocA rfl 27 rfl 24 zero24r ?_; (try simp only [size_al]))
          | (with_reducible refine wpList_loadW rfl _ _ rfl _ rfl h1 agg24r size24r ?_)
          | (with_reducible refine wpList_build0 rfl 27 rfl 24 zbuild24 ?_)
          | (with_reducible refine wpList_storeW rfl _ _ _ rfl _ rfl rfl h2 size24r ?_)
          | (go_at_call 34; (with_reducible refine (l2Rack_any _ _).mono ?_); rw [HF.out]; rintro e w1 ⟨rfl, hb1⟩; replace hbel := hbel.trans (hb1.mono hbel.size); replace h1 := row_keep hb1 h1; replace h2 := row_keep hb1 h2; clear hb1)
          | (go_at_call 35; (with_reducible refine (l2Place_any _ _).mono ?_); rw [HI.out]; rintro e w' ⟨rfl, rfl⟩)
          | (with_reducible refine wpList_loadI rfl _ _ rfl _ _ rfl h1 aggI undI (by omega) ?_)
          | (with_reducible refine wpList_loadAG rfl _ _ rfl _ _ rfl h1 4 agg4 size4 (by omega) ?_)
          | ((with_reducible refine wpList_storeI rfl 3 _ _ rfl _ _ rfl rfl h1 size1 (by omega) ?_); have h3 := setRow_heap _ _ _ (arr 24 (upd f (n * 4 + m) 0)) _ _ h1; have h4 := (setRow_other _ w.heap.size (w.heap.size + 1) (arr 24 (upd f (n * 4 + m) 0)) (by omega)).trans h2)
          | (with_reducible refine wpList_loadW rfl _ _ rfl _ rfl h3 agg24r size24r ?_)
          | (with_reducible refine wpList_storeW rfl _ _ _ rfl _ rfl rfl h4 size24r ?_)
          | (go_at_call 38; (with_reducible refine (l2Many_ok (fun j => f (n * 4 + j)) ht _).mono ?_); rw [H4.out]; rintro e w1 ⟨rfl, hb1⟩; replace hbel := hbel.trans (hb1.mono hbel.size); replace h1 := row_keep hb1 h1; replace h2 := row_keep hb1 h2; clear hb1)
        exact bodyPost_ret_by (results_ctt _ _ _ _ _ _ _ rfl rfl (setRow_heap _ _ _ _ _ _ h2) agg24r size24r) rfl ⟨rfl, below_setRow2 hbel (by omega) _⟩

theorem implTake_any (f : Nat → Int) (i : Int) (w : World) : Calls Tryz.prog 17 #[.agg (arr 24 f), .int .i64 i] w fun e w' => e = .returned (.tuple #[.agg (arr 24 (takeLayer f i).1), .int .i64 (takeLayer f i).2.1, .bool (takeLayer f i).2.2]) ∧ Below w.heap.size w w' := by
  have h1 : ((w.alloc (.cells (arr 24 f) 27)).alloc (.cells (arr 24 fun _ => 0) 27)).heap[w.heap.size]? = some (.cells (arr 24 f) 27 (0, 0)) := by rw [heap_old (by simp), heap_new rfl]
  have h2 : ((w.alloc (.cells (arr 24 f) 27)).alloc (.cells (arr 24 fun _ => 0) 27)).heap[w.heap.size + 1]? = some (.cells (arr 24 fun _ => 0) 27 (0, 0)) := heap_new (by simp)
  have hbel : Below w.heap.size w ((w.alloc (.cells (arr 24 f) 27)).alloc (.cells (arr 24 fun _ => 0) 27)) := ((Below.refl _ _).alloc (by simp) _).alloc (by simp) _
  have h5 : (((w.alloc (.cells (arr 24 f) 27)).alloc (.cells (arr 24 fun _ => 0) 27)).alloc (.cells #[.int .i64 i] 3)).heap[w.heap.size + 1 + 1]? = some (.cells #[.int .i64 i] 3 (0, 0)) := heap_new (by simp)
  by_cases hok : rackB f = true ∧ (0 ≤ i ∧ i ≤ 5) ∧ nlay (tub f i.toNat) ≠ 0
  · obtain ⟨hf, hi, hn4⟩ := hok
    have HF : Hid _ := hf
    have HI : Hid _ := show (decide (0 ≤ i) && decide (i ≤ 5)) = true by simpa using hi
    obtain ⟨n, rfl⟩ : ∃ n : Nat, i = n := ⟨i.toNat, by omega⟩
    have hn : n ≤ 5 := by omega
    have ht := tube_of_rack hf hn
    rw [Int.toNat_natCast] at hn4
    obtain ⟨m, hm⟩ : ∃ m, nlay (fun j => f (n * 4 + j)) = m + 1 := ⟨nlay (tub f n) - 1, by unfold tub at *; omega⟩
    have hm4 : m < 4 := by have := nlay_le (fun j => f (n * 4 + j)); omega
    have e : takeLayer f n = (upd f (n * 4 + m) 0, f (n * 4 + m), true) := by
      unfold takeLayer
      rw [if_pos ⟨hf, hi, by simpa using hn4⟩, Int.toNat_natCast, show nlay (tub f n) = m + 1 from hm]
      rfl
    rw [e]
    have H4 : Hid (nlay (fun j => f (n * 4 + j)) = m + 1) := hm
    have hi1 : (0 : Int) ≤ (n : Int) := by omega
    have hi3 : (n : Int) < 6 := by omega
    have hm5 : (m : Int) < 4 := by omega
    clear hi e hf hm hn4
    go_enter Tryz.func17, Tryz.ntmps17
    go_wp2_with first
      | (with_reducible refine wpList_allocA rfl 27 rfl 24 zero24r ?_; (try simp only [size_al]))
      | (with_reducible refine wpList_loadW rfl _ _ rfl _ rfl h1 agg24r size24r ?_)
      | (with_reducible refine wpList_build0 rfl 27 rfl 24 zbuild24 ?_)
      | (with_reducible refine wpList_storeW rfl _ _ _ rfl _ rfl rfl h2 size24r ?_)
      | (go_at_call 32; (with_reducible refine (isAt_bad f HF.out _ _).mono ?_); rintro e w1 ⟨rfl, hb1⟩; replace hb1 := below_of_alloc hb1; replace hbel := hbel.trans (hb1.mono hbel.size); replace h1 := row_keep hb1 h1; replace h2 := row_keep hb1 h2; clear hb1)
      | (go_at_call 32; (with_reducible refine (isAt_one f HF.out _ _ h5).mono ?_); rw [HI.out]; rintro e w1 ⟨rfl, hb1⟩; replace hb1 := below_of_alloc hb1; replace hbel := hbel.trans (hb1.mono hbel.size); replace h1 := row_keep hb1 h1; replace h2 := row_keep hb1 h2; clear hb1)
      | (with_reducible refine wpList_loadI rfl _ _ rfl _ _ rfl h1 aggI undI (by omega) ?_)
      | (with_reducible refine wpList_loadAG rfl _ _ rfl _ _ rfl h1 4 agg4 size4 (by omega) ?_)
      | ((with_reducible refine wpList_storeI rfl 3 _ _ rfl _ _ rfl rfl h1 size1 (by omega) ?_); have h3 := setRow_heap _ _ _ (arr 24 (upd f (n * 4 + m) 0)) _ _ h1; have h4 := (setRow_other _ w.heap.size (w.heap.size + 1) (arr 24 (upd f (n * 4 + m) 0)) (by omega)).trans h2)
      | (with_reducible refine wpList_loadW rfl _ _ rfl _ rfl h3 agg24r size24r ?_)
      | (with_reducible refine wpList_storeW rfl _ _ _ rfl _ rfl rfl h4 size24r ?_)
      | (go_at_call 37; (with_reducible refine (layers_any _ _).mono ?_); rw [H4.out]; rintro e w1 ⟨rfl, hb1⟩; replace hbel := hbel.trans (hb1.mono hbel.size); replace h1 := row_keep hb1 h1; replace h2 := row_keep hb1 h2; clear hb1)
    exact bodyPost_ret_by (results_ctt _ _ _ _ _ _ _ rfl rfl (setRow_heap _ _ _ _ _ _ h4) agg24r size24r) rfl ⟨rfl, below_setRow2 (below_setRow2 hbel (by omega) _) (by omega) _⟩
  · rw [takeLayer_bad hok]
    cases hf : rackB f with
    | false =>
      have HF : Hid _ := hf
      clear hf
      go_enter Tryz.func17, Tryz.ntmps17
      go_wp2_with first
        | (with_reducible refine wpList_allocA rfl 27 rfl 24 zero24r ?_; (try simp only [size_al]))
        | (with_reducible refine wpList_loadW rfl _ _ rfl _ rfl h1 agg24r size24r ?_)
        | (with_reducible refine wpList_build0 rfl 27 rfl 24 zbuild24 ?_)
        | (with_reducible refine wpList_storeW rfl _ _ _ rfl _ rfl rfl h2 size24r ?_)
        | (go_at_call 32; (with_reducible refine (isAt_bad f HF.out _ _).mono ?_); rintro e w1 ⟨rfl, hb1⟩; replace hb1 := below_of_alloc hb1; replace hbel := hbel.trans (hb1.mono hbel.size); replace h1 := row_keep hb1 h1; replace h2 := row_keep hb1 h2; clear hb1)
        | (go_at_call 32; (with_reducible refine (isAt_one f HF.out _ _ h5).mono ?_); rw [HI.out]; rintro e w1 ⟨rfl, hb1⟩; replace hb1 := below_of_alloc hb1; replace hbel := hbel.trans (hb1.mono hbel.size); replace h1 := row_keep hb1 h1; replace h2 := row_keep hb1 h2; clear hb1)
        | (with_reducible refine wpList_loadI rfl _ _ rfl _ _ rfl h1 aggI undI (by omega) ?_)
        | (with_reducible refine wpList_loadAG rfl _ _ rfl _ _ rfl h1 4 agg4 size4 (by omega) ?_)
        | ((with_reducible refine wpList_storeI rfl 3 _ _ rfl _ _ rfl rfl h1 size1 (by omega) ?_); have h3 := setRow_heap _ _ _ (arr 24 (upd f (n * 4 + m) 0)) _ _ h1; have h4 := (setRow_other _ w.heap.size (w.heap.size + 1) (arr 24 (upd f (n * 4 + m) 0)) (by omega)).trans h2)
        | (with_reducible refine wpList_loadW rfl _ _ rfl _ rfl h3 agg24r size24r ?_)
        | (with_reducible refine wpList_storeW rfl _ _ _ rfl _ rfl rfl h4 size24r ?_)
        | (go_at_call 37; (with_reducible refine (layers_any _ _).mono ?_); rw [H4.out]; rintro e w1 ⟨rfl, hb1⟩; replace hbel := hbel.trans (hb1.mono hbel.size); replace h1 := row_keep hb1 h1; replace h2 := row_keep hb1 h2; clear hb1)
      exact bodyPost_ret_by (results_ctt _ _ _ _ _ _ _ rfl rfl (setRow_heap _ _ _ _ _ _ h2) agg24r size24r) rfl ⟨rfl, below_setRow2 hbel (by omega) _⟩
    | true =>
      have HF : Hid _ := hf
      by_cases hi : 0 ≤ i ∧ i ≤ 5
      · have HI : Hid _ := show (decide (0 ≤ i) && decide (i ≤ 5)) = true by simpa using hi
        obtain ⟨n, rfl⟩ : ∃ n : Nat, i = n := ⟨i.toNat, by omega⟩
        have hn : n ≤ 5 := by omega
        have ht := tube_of_rack hf hn
        have hi1 : (0 : Int) ≤ (n : Int) := by omega
        have hi3 : (n : Int) < 6 := by omega
        have h4 : nlay (fun j => f (n * 4 + j)) = 0 := by
          have h6 : ¬ nlay (tub f n) ≠ 0 := fun h7 => hok ⟨hf, hi, by simpa using h7⟩
          unfold tub at h6
          omega
        have H4 : Hid _ := h4
        clear hf hi hok h4
        go_enter Tryz.func17, Tryz.ntmps17
        go_wp2_with first
          | (with_reducible refine wpList_allocA rfl 27 rfl 24 zero24r ?_; (try simp only [size_al]))
          | (with_reducible refine wpList_loadW rfl _ _ rfl _ rfl h1 agg24r size24r ?_)
          | (with_reducible refine wpList_build0 rfl 27 rfl 24 zbuild24 ?_)
          | (with_reducible refine wpList_storeW rfl _ _ _ rfl _ rfl rfl h2 size24r ?_)
          | (go_at_call 32; (with_reducible refine (isAt_bad f HF.out _ _).mono ?_); rintro e w1 ⟨rfl, hb1⟩; replace hb1 := below_of_alloc hb1; replace hbel := hbel.trans (hb1.mono hbel.size); replace h1 := row_keep hb1 h1; replace h2 := row_keep hb1 h2; clear hb1)
          | (go_at_call 32; (with_reducible refine (isAt_one f HF.out _ _ h5).mono ?_); rw [HI.out]; rintro e w1 ⟨rfl, hb1⟩; replace hb1 := below_of_alloc hb1; replace hbel := hbel.trans (hb1.mono hbel.size); replace h1 := row_keep hb1 h1; replace h2 := row_keep hb1 h2; clear hb1)
          | (with_reducible refine wpList_loadI rfl _ _ rfl _ _ rfl h1 aggI undI (by omega) ?_)
          | (with_reducible refine wpList_loadAG rfl _ _ rfl _ _ rfl h1 4 agg4 size4 (by omega) ?_)
          | ((with_reducible refine wpList_storeI rfl 3 _ _ rfl _ _ rfl rfl h1 size1 (by omega) ?_); have h3 := setRow_heap _ _ _ (arr 24 (upd f (n * 4 + m) 0)) _ _ h1; have h4 := (setRow_other _ w.heap.size (w.heap.size + 1) (arr 24 (upd f (n * 4 + m) 0)) (by omega)).trans h2)
          | (with_reducible refine wpList_loadW rfl _ _ rfl _ rfl h3 agg24r size24r ?_)
          | (with_reducible refine wpList_storeW rfl _ _ _ rfl _ rfl rfl h4 size24r ?_)
          | (go_at_call 37; (with_reducible refine (layers_any _ _).mono ?_); rw [H4.out]; rintro e w1 ⟨rfl, hb1⟩; replace hbel := hbel.trans (hb1.mono hbel.size); replace h1 := row_keep hb1 h1; replace h2 := row_keep hb1 h2; clear hb1)
        exact bodyPost_ret_by (results_ctt _ _ _ _ _ _ _ rfl rfl (setRow_heap _ _ _ _ _ _ h2) agg24r size24r) rfl ⟨rfl, below_setRow2 hbel (by omega) _⟩
      · have HI : Hid _ := show (decide (0 ≤ i) && decide (i ≤ 5)) = false by simpa using hi
        clear hf hi hok
        go_enter Tryz.func17, Tryz.ntmps17
        go_wp2_with first
          | (with_reducible refine wpList_allocA rfl 27 rfl 24 zero24r ?_; (try simp only [size_al]))
          | (with_reducible refine wpList_loadW rfl _ _ rfl _ rfl h1 agg24r size24r ?_)
          | (with_reducible refine wpList_build0 rfl 27 rfl 24 zbuild24 ?_)
          | (with_reducible refine wpList_storeW rfl _ _ _ rfl _ rfl rfl h2 size24r ?_)
          | (go_at_call 32; (with_reducible refine (isAt_bad f HF.out _ _).mono ?_); rintro e w1 ⟨rfl, hb1⟩; replace hb1 := below_of_alloc hb1; replace hbel := hbel.trans (hb1.mono hbel.size); replace h1 := row_keep hb1 h1; replace h2 := row_keep hb1 h2; clear hb1)
          | (go_at_call 32; (with_reducible refine (isAt_one f HF.out _ _ h5).mono ?_); rw [HI.out]; rintro e w1 ⟨rfl, hb1⟩; replace hb1 := below_of_alloc hb1; replace hbel := hbel.trans (hb1.mono hbel.size); replace h1 := row_keep hb1 h1; replace h2 := row_keep hb1 h2; clear hb1)
          | (with_reducible refine wpList_loadI rfl _ _ rfl _ _ rfl h1 aggI undI (by omega) ?_)
          | (with_reducible refine wpList_loadAG rfl _ _ rfl _ _ rfl h1 4 agg4 size4 (by omega) ?_)
          | ((with_reducible refine wpList_storeI rfl 3 _ _ rfl _ _ rfl rfl h1 size1 (by omega) ?_); have h3 := setRow_heap _ _ _ (arr 24 (upd f (n * 4 + m) 0)) _ _ h1; have h4 := (setRow_other _ w.heap.size (w.heap.size + 1) (arr 24 (upd f (n * 4 + m) 0)) (by omega)).trans h2)
          | (with_reducible refine wpList_loadW rfl _ _ rfl _ rfl h3 agg24r size24r ?_)
          | (with_reducible refine wpList_storeW rfl _ _ _ rfl _ rfl rfl h4 size24r ?_)
          | (go_at_call 37; (with_reducible refine (layers_any _ _).mono ?_); rw [H4.out]; rintro e w1 ⟨rfl, hb1⟩; replace hbel := hbel.trans (hb1.mono hbel.size); replace h1 := row_keep hb1 h1; replace h2 := row_keep hb1 h2; clear hb1)
        exact bodyPost_ret_by (results_ctt _ _ _ _ _ _ _ rfl rfl (setRow_heap _ _ _ _ _ _ h2) agg24r size24r) rfl ⟨rfl, below_setRow2 hbel (by omega) _⟩

end Go.Proofs.YtlbgmkengkgnfaaGreatDoor
end

section
/- The form of a rack: its tubes in ascending order; two ways of sorting come to the same rack. -/
namespace Go.Proofs.YtlbgmkengkgnfaaGreatDoor
set_option linter.unusedSimpArgs false
set_option linter.unusedVariables false
set_option maxRecDepth 20000
/-- A tube as a number; the order of tubes is that of the numbers. -/
def cod (g : Nat → Int) : Int := g 0 * 216 + g 1 * 36 + g 2 * 6 + g 3
def cdl (f : Nat → Int) : List Int := [cod (tub f 0), cod (tub f 1), cod (tub f 2), cod (tub f 3), cod (tub f 4), cod (tub f 5)]
def cellB (f : Nat → Int) : Prop := ∀ j, j < 24 → 0 ≤ f j ∧ f j ≤ 5
theorem cellB_of_rack {f : Nat → Int} (h : rackB f = true) : cellB f := fun j hj => by
  have h1 := (tubeB_iff f (j / 4)).1 ((rackB_iff f).1 h (j / 4) (by omega)) (j % 4) (Nat.mod_lt _ (by omega))
  have h2 := h1.1
  rwa [show j / 4 * 4 + j % 4 = j by omega] at h2
/-- F has f's tubes, in some order. -/
def Rr (f F : Nat → Int) : Prop := (cdl F).Perm (cdl f) ∧ cellB F
theorem Rr.refl {f : Nat → Int} (h : cellB f) : Rr f f := ⟨.refl _, h⟩
theorem Rr.trans {f g h : Nat → Int} (h1 : Rr f g) (h2 : Rr g h) : Rr f h := ⟨h2.1.trans h1.1, h2.2⟩
/-- Neighbours changed. -/
def swp (F : Nat → Int) (k : Nat) : Nat → Int := updN (updN F (k * 4) 4 fun j => F ((k + 1) * 4 + j)) ((k + 1) * 4) 4 fun j => F (k * 4 + j)
theorem swp_at (F : Nat → Int) (k i j : Nat) (hj : j < 4) : swp F k (i * 4 + j) = if i = k then F ((k + 1) * 4 + j) else if i = k + 1 then F (k * 4 + j) else F (i * 4 + j) := by
  unfold swp updN
  by_cases h1 : i = k
  · subst h1
    rw [if_neg (by omega), if_pos (by omega), if_pos rfl]
    congr 1; omega
  · by_cases h2 : i = k + 1
    · subst h2
      rw [if_pos (by omega), if_neg h1, if_pos rfl]
      congr 1; omega
    · rw [if_neg (by omega), if_neg (by omega), if_neg h1, if_neg h2]
theorem cod_swp (F : Nat → Int) (k i : Nat) : cod (tub (swp F k) i) = if i = k then cod (tub F (k + 1)) else if i = k + 1 then cod (tub F k) else cod (tub F i) := by
  have h := fun j hj => swp_at F k i j hj
  have h0 := h 0 (by omega)
  have h1 := h 1 (by omega)
  have h2 := h 2 (by omega)
  have h3 := h 3 (by omega)
  unfold cod tub
  by_cases e1 : i = k
  · simp only [e1, if_true] at h0 h1 h2 h3 ⊢
    rw [h0, h1, h2, h3]
  · by_cases e2 : i = k + 1
    · have e3 : ¬ k + 1 = k := by omega
      simp only [e2, e3, if_true, if_false] at h0 h1 h2 h3 ⊢
      rw [h0, h1, h2, h3]
    · simp only [e1, e2, if_false] at h0 h1 h2 h3 ⊢
      rw [h0, h1, h2, h3]
theorem swp_cell {F : Nat → Int} (h : cellB F) {k : Nat} (hk : k < 5) : cellB (swp F k) := fun j hj => by
  have := swp_at F k (j / 4) (j % 4) (Nat.mod_lt _ (by omega))
  rw [show j / 4 * 4 + j % 4 = j by omega] at this
  rw [this]
  have hm := Nat.mod_lt j (show 0 < 4 by omega)
  split
  · exact h _ (by omega)
  · split
    · exact h _ (by omega)
    · exact h _ (by omega)
theorem swp_perm (F : Nat → Int) {k : Nat} (hk : k < 5) : (cdl (swp F k)).Perm (cdl F) := by
  unfold cdl
  simp only [cod_swp]
  match k, hk with
  | 0, _ => exact .swap _ _ _
  | 1, _ => exact .cons _ (.swap _ _ _)
  | 2, _ => exact .cons _ (.cons _ (.swap _ _ _))
  | 3, _ => exact .cons _ (.cons _ (.cons _ (.swap _ _ _)))
  | 4, _ => exact .cons _ (.cons _ (.cons _ (.cons _ (.swap _ _ _))))
theorem Rr.swp {f F : Nat → Int} (h : Rr f F) {k : Nat} (hk : k < 5) : Rr f (swp F k) := ⟨(swp_perm F hk).trans h.1, swp_cell h.2 hk⟩
def srt (F : Nat → Int) : Prop := ∀ a b, a < b → b < 6 → cod (tub F a) ≤ cod (tub F b)
theorem pw_of_srt {F : Nat → Int} (h : srt F) : (cdl F).Pairwise (· ≤ ·) := by
  unfold cdl
  simp only [List.pairwise_cons, List.mem_cons, List.not_mem_nil, or_false, List.Pairwise.nil, and_true, forall_eq_or_imp, forall_eq, false_implies, implies_true]
  refine ⟨⟨?_, ?_, ?_, ?_, ?_⟩, ⟨?_, ?_, ?_, ?_⟩, ⟨?_, ?_, ?_⟩, ⟨?_, ?_⟩, ?_⟩ <;> exact h _ _ (by omega) (by omega)
theorem cod_inj {g h : Nat → Int} (hg : ∀ k, k < 4 → 0 ≤ g k ∧ g k ≤ 5) (hh : ∀ k, k < 4 → 0 ≤ h k ∧ h k ≤ 5) (e : cod g = cod h) : ∀ k, k < 4 → g k = h k := by
  have a0 := hg 0 (by omega); have a1 := hg 1 (by omega); have a2 := hg 2 (by omega); have a3 := hg 3 (by omega)
  have b0 := hh 0 (by omega); have b1 := hh 1 (by omega); have b2 := hh 2 (by omega); have b3 := hh 3 (by omega)
  unfold cod at e
  intro k hk
  match k, hk with
  | 0, _ => omega
  | 1, _ => omega
  | 2, _ => omega
  | 3, _ => omega
theorem tub_cell {F : Nat → Int} (h : cellB F) {i : Nat} (hi : i < 6) : ∀ k, k < 4 → 0 ≤ tub F i k ∧ tub F i k ≤ 5 := fun k hk => h _ (by omega)
theorem arr_of_cdl {F G : Nat → Int} (hF : cellB F) (hG : cellB G) (e : cdl F = cdl G) : arr 24 F = arr 24 G := by
  unfold cdl at e
  simp only [List.cons.injEq, and_true] at e
  obtain ⟨e0, e1, e2, e3, e4, e5⟩ := e
  refine arr_congr fun j hj => ?_
  have h : ∀ i, i < 6 → cod (tub F i) = cod (tub G i) := fun i hi => by
    match i, hi with
    | 0, _ => exact e0
    | 1, _ => exact e1
    | 2, _ => exact e2
    | 3, _ => exact e3
    | 4, _ => exact e4
    | 5, _ => exact e5
  have := cod_inj (tub_cell hF (i := j / 4) (by omega)) (tub_cell hG (by omega)) (h (j / 4) (by omega)) (j % 4) (Nat.mod_lt _ (by omega))
  unfold tub at this
  rwa [show j / 4 * 4 + j % 4 = j by omega] at this
/-- F is f's form. -/
def IsForm (f F : Nat → Int) : Prop := Rr f F ∧ srt F
theorem form_uniq {f g F G : Nat → Int} (hF : IsForm f F) (hG : IsForm g G) (h : (cdl f).Perm (cdl g)) : arr 24 F = arr 24 G :=
  arr_of_cdl hF.1.2 hG.1.2 (List.Perm.eq_of_pairwise (le := (· ≤ ·)) (fun _ _ _ _ h1 h2 => Int.le_antisymm h1 h2) (pw_of_srt hF.2) (pw_of_srt hG.2) (hF.1.1.trans (h.trans hG.1.1.symm)))
open Classical in
noncomputable def formF (f : Nat → Int) : Nat → Int := if h : ∃ F, IsForm f F then h.choose else f
theorem form_arr {f F : Nat → Int} (h : IsForm f F) : arr 24 F = arr 24 (formF f) := by
  have hx : ∃ F, IsForm f F := ⟨F, h⟩
  have : formF f = hx.choose := dif_pos hx
  rw [this]
  exact form_uniq h hx.choose_spec (.refl _)
/-! ### sorting by neighbours, six times through -/
/-- Behind i times through and k steps more. -/
def bI (F : Nat → Int) (i k : Nat) : Prop := (∀ a b, a < b → b < 6 → 6 - i ≤ b → cod (tub F a) ≤ cod (tub F b)) ∧ (∀ a, a < min k (5 - i) → cod (tub F a) ≤ cod (tub F (min k (5 - i))))
def bS (F : Nat → Int) (k : Nat) : Nat → Int := if cod (tub F (k + 1)) < cod (tub F k) then swp F k else F
theorem bI_start (F : Nat → Int) : bI F 0 0 := ⟨fun a b _ _ h => by omega, fun a h => by omega⟩
theorem bI_next {F : Nat → Int} {i : Nat} (hi : i < 6) (h : bI F i 5) : bI F (i + 1) 0 := by
  refine ⟨fun a b hab hb h1 => ?_, fun a h => by omega⟩
  by_cases h2 : 6 - i ≤ b
  · exact h.1 a b hab hb h2
  · have : b = min 5 (5 - i) := by omega
    subst this
    exact h.2 a hab
theorem bI_step {F : Nat → Int} {i k : Nat} (hk : k < 5) (h : bI F i k) : bI (bS F k) i (k + 1) := by
  unfold bS
  by_cases hc : cod (tub F (k + 1)) < cod (tub F k)
  · rw [if_pos hc]
    have hk2 : k + 1 < 6 - i := by
      rcases Nat.lt_or_ge (k + 1) (6 - i) with h1 | h1
      · exact h1
      · have := h.1 k (k + 1) (by omega) (by omega) h1
        omega
    refine ⟨fun a b hab hb h1 => ?_, fun a ha => ?_⟩
    · rw [cod_swp, cod_swp, if_neg (show ¬ b = k by omega), if_neg (show ¬ b = k + 1 by omega)]
      split
      · exact h.1 _ b (by omega) hb h1
      · split
        · exact h.1 _ b (by omega) hb h1
        · exact h.1 a b hab hb h1
    · have e : min (k + 1) (5 - i) = k + 1 := by omega
      have e2 : min k (5 - i) = k := by omega
      rw [e] at ha ⊢
      have h2 := h.2
      rw [e2] at h2
      rw [cod_swp, cod_swp, if_neg (show ¬ k + 1 = k by omega), if_pos rfl]
      split
      · omega
      · rw [if_neg (by omega)]
        exact h2 a (by omega)
  · rw [if_neg hc]
    refine ⟨h.1, fun a ha => ?_⟩
    by_cases h1 : k < 5 - i
    · have e : min (k + 1) (5 - i) = k + 1 := by omega
      have e2 : min k (5 - i) = k := by omega
      have h2 := h.2
      rw [e] at ha ⊢
      rw [e2] at h2
      by_cases h3 : a = k
      · subst h3; omega
      · have := h2 a (by omega); omega
    · have e : min (k + 1) (5 - i) = min k (5 - i) := by omega
      rw [e] at ha ⊢
      exact h.2 a ha
theorem bI_done {F : Nat → Int} (h : bI F 6 0) : srt F := fun a b hab hb => h.1 a b hab hb (by omega)
/-! ### sorting by insertion -/
/-- Tubes 0 .. i are in order, but for the one at j, which is not above those behind it. -/
def iI (F : Nat → Int) (i j : Nat) : Prop := j ≤ i ∧ (∀ a b, a < b → b ≤ i → a ≠ j → b ≠ j → cod (tub F a) ≤ cod (tub F b)) ∧ (∀ b, j < b → b ≤ i → cod (tub F j) ≤ cod (tub F b))
theorem iI_start {F : Nat → Int} {i : Nat} (h : ∀ a b, a < b → b < i → cod (tub F a) ≤ cod (tub F b)) : iI F i i := ⟨Nat.le_refl _, fun a b hab hb h1 h2 => h a b hab (by omega), fun b h1 h2 => by omega⟩
theorem iI_step {F : Nat → Int} {i j : Nat} (h : iI F i (j + 1)) (hc : cod (tub F (j + 1)) < cod (tub F j)) : iI (swp F j) i j := by
  obtain ⟨h0, h1, h2⟩ := h
  refine ⟨by omega, fun a b hab hb ha hb2 => ?_, fun b h3 h4 => ?_⟩
  · rw [cod_swp, cod_swp, if_neg ha, if_neg hb2]
    by_cases e1 : a = j + 1
    · rw [if_pos e1, if_neg (by omega)]
      exact h1 j b (by omega) hb (by omega) (by omega)
    · rw [if_neg e1]
      by_cases e2 : b = j + 1
      · rw [if_pos e2]
        exact h1 a j (by omega) (by omega) (by omega) (by omega)
      · rw [if_neg e2]
        exact h1 a b hab hb e1 e2
  · rw [cod_swp, cod_swp, if_pos rfl, if_neg (show ¬ b = j by omega)]
    split
    · omega
    · exact h2 b (by omega) h4
theorem iI_done {F : Nat → Int} {i j : Nat} (h : iI F i j) (hc : j = 0 ∨ ¬ cod (tub F j) < cod (tub F (j - 1))) : ∀ a b, a < b → b < i + 1 → cod (tub F a) ≤ cod (tub F b) := by
  obtain ⟨h0, h1, h2⟩ := h
  intro a b hab hb
  by_cases e1 : a = j
  · subst e1; exact h2 b hab (by omega)
  · by_cases e2 : b = j
    · subst e2
      rcases hc with hc | hc
      · omega
      · by_cases e3 : a = b - 1
        · subst e3; omega
        · have := h1 a (b - 1) (by omega) (by omega) e1 (by omega); omega
    · exact h1 a b hab (by omega) e1 e2
/-! ### the order of tubes -/
/-- How two tubes compare, layer by layer. -/
def lexC (a b : Nat → Int) : Nat → Int
  | 0 => 0
  | k + 1 => if lexC a b k ≠ 0 then lexC a b k else if a k < b k then -1 else if b k < a k then 1 else 0
theorem lexC_cod {a b : Nat → Int} (ha : ∀ k, k < 4 → 0 ≤ a k ∧ a k ≤ 5) (hb : ∀ k, k < 4 → 0 ≤ b k ∧ b k ≤ 5) : (lexC a b 4 < 0 ↔ cod a < cod b) ∧ (lexC a b 4 = 0 ↔ cod a = cod b) := by
  have a0 := ha 0 (by omega); have a1 := ha 1 (by omega); have a2 := ha 2 (by omega); have a3 := ha 3 (by omega)
  have b0 := hb 0 (by omega); have b1 := hb 1 (by omega); have b2 := hb 2 (by omega); have b3 := hb 3 (by omega)
  unfold cod
  simp only [lexC]
  by_cases h0 : a 0 < b 0
  · simp [h0]; omega
  by_cases h0' : b 0 < a 0
  · simp [h0, h0']; omega
  by_cases h1 : a 1 < b 1
  · simp [h0, h0', h1]; omega
  by_cases h1' : b 1 < a 1
  · simp [h0, h0', h1, h1']; omega
  by_cases h2 : a 2 < b 2
  · simp [h0, h0', h1, h1', h2]; omega
  by_cases h2' : b 2 < a 2
  · simp [h0, h0', h1, h1', h2, h2']; omega
  by_cases h3 : a 3 < b 3
  · simp [h0, h0', h1, h1', h2, h2', h3]; omega
  by_cases h3' : b 3 < a 3
  · simp [h0, h0', h1, h1', h2, h2', h3, h3']; omega
  · simp [h0, h0', h1, h1', h2, h2', h3, h3']; omega
end Go.Proofs.YtlbgmkengkgnfaaGreatDoor
end

section
/- RunsOf: the program's and the reference's, and the law. -/
namespace Go.Proofs.YtlbgmkengkgnfaaGreatDoor
set_option linter.unusedSimpArgs false
set_option linter.unusedVariables false
set_option maxRecDepth 20000
open Go.RowKit
/-- The runs of a tube, asked for. -/
def roN (f : Nat → Int) (i : Int) : Nat := if rackB f = true ∧ (0 ≤ i ∧ i ≤ 5) then rN (tub f i.toNat) (nlay (tub f i.toNat)) else 0
def roF (f : Nat → Int) (i : Int) : Nat → Int := if rackB f = true ∧ (0 ≤ i ∧ i ≤ 5) then rF (tub f i.toNat) (nlay (tub f i.toNat)) else fun _ => 0
def roB (f : Nat → Int) (i : Int) : Bool := if rackB f = true ∧ (0 ≤ i ∧ i ≤ 5) then true else false
theorem ro_bad {f : Nat → Int} {i : Int} (h : ¬ (rackB f = true ∧ (0 ≤ i ∧ i ≤ 5))) : roN f i = 0 ∧ roF f i = (fun _ => 0) ∧ roB f i = false := ⟨if_neg h, if_neg h, if_neg h⟩
theorem ro_ok {f : Nat → Int} {n : Nat} (h : rackB f = true ∧ (0 ≤ (n : Int) ∧ (n : Int) ≤ 5)) : roN f n = rN (tub f n) (nlay (tub f n)) ∧ roF f n = rF (tub f n) (nlay (tub f n)) ∧ roB f n = true := ⟨if_pos h, if_pos h, if_pos h⟩
theorem roN_le (f : Nat → Int) (i : Int) : roN f i ≤ 1000000 := by
  unfold roN
  split
  · have := rN_le (tub f i.toNat) (nlay (tub f i.toNat)); have := nlay_le (tub f i.toNat); omega
  · omega
theorem specRunsOf_any (f : Nat → Int) (i : Int) (w : World) : Calls Tryz.prog 7 #[.agg (arr 24 f), .int .i64 i] w (RetSlB w 53 2 (roN f i) (roF f i) (roB f i)) := by
  have h1 : (w.alloc (.cells (arr 24 f) 27)).heap[w.heap.size]? = some (.cells (arr 24 f) 27 (0, 0))   := heap_new rfl
  have hbel : Below w.heap.size w (w.alloc (.cells (arr 24 f) 27)) := (Below.refl _ _).alloc (by simp) _
  cases hf : rackB f with
  | false =>
    obtain ⟨e1, e2, e3⟩ := ro_bad (f := f) (i := i) (by simp [hf])
    rw [e1, e2, e3]
    have HF : Hid _ := hf
    have HI : Hid (1 = 1) := rfl
    clear hf e1 e2 e3
    go_enter Tryz.func7, Tryz.ntmps7
    go_wp2_with first
      | (with_reducible refine wpList_loadW rfl _ _ rfl _ rfl h1 agg24r size24r ?_)
      | (go_at_call 34; (with_reducible refine (l2Rack_any _ _).mono ?_); rw [HF.out]; rintro e w1 ⟨rfl, hb1⟩; replace hbel := hbel.trans (hb1.mono hbel.size); replace h1 := row_keep hb1 h1; clear hb1)
      | (go_at_call 35; (with_reducible refine (l2Place_any _ _).mono ?_); rw [HI.out]; rintro e w' ⟨rfl, rfl⟩)
      | (with_reducible refine wpList_loadAG rfl _ _ rfl _ _ rfl h1 4 agg4 size4 (by omega) ?_)
      | (go_at_call 36; (with_reducible refine (l2Runs_any (tub f n) ht _).mono ?_); rintro e w1 ⟨v, rfl, hS, hb1⟩; have hz := hbel.size; replace hbel := hbel.trans (hb1.mono hbel.size))
    go_ret2
    first
      | exact ⟨_, rfl, hS.lower hz, hbel⟩
      | exact ⟨_, rfl, Sl.made hbel.size, hbel.alloc hbel.size _⟩
  | true =>
    have HF : Hid _ := hf
    by_cases hi : 0 ≤ i ∧ i ≤ 5
    · have HI : Hid _ := show (decide (0 ≤ i) && decide (i ≤ 5)) = true by simpa using hi
      obtain ⟨n, rfl⟩ : ∃ n : Nat, i = n := ⟨i.toNat, by omega⟩
      have hn : n ≤ 5 := by omega
      have ht := tube_of_rack hf hn
      have hi1 : (0 : Int) ≤ (n : Int) := by omega
      have hi3 : (n : Int) < 6 := by omega
      obtain ⟨e1, e2, e3⟩ := ro_ok ⟨hf, hi⟩
      rw [e1, e2, e3]
      clear hf hi e1 e2 e3
      go_enter Tryz.func7, Tryz.ntmps7
      go_wp2_with first
        | (with_reducible refine wpList_loadW rfl _ _ rfl _ rfl h1 agg24r size24r ?_)
        | (go_at_call 34; (with_reducible refine (l2Rack_any _ _).mono ?_); rw [HF.out]; rintro e w1 ⟨rfl, hb1⟩; replace hbel := hbel.trans (hb1.mono hbel.size); replace h1 := row_keep hb1 h1; clear hb1)
        | (go_at_call 35; (with_reducible refine (l2Place_any _ _).mono ?_); rw [HI.out]; rintro e w' ⟨rfl, rfl⟩)
        | (with_reducible refine wpList_loadAG rfl _ _ rfl _ _ rfl h1 4 agg4 size4 (by omega) ?_)
        | (go_at_call 36; (with_reducible refine (l2Runs_any (tub f n) ht _).mono ?_); rintro e w1 ⟨v, rfl, hS, hb1⟩; have hz := hbel.size; replace hbel := hbel.trans (hb1.mono hbel.size))
      go_ret2
      first
        | exact ⟨_, rfl, hS.lower hz, hbel⟩
        | exact ⟨_, rfl, Sl.made hbel.size, hbel.alloc hbel.size _⟩
    · obtain ⟨e1, e2, e3⟩ := ro_bad (f := f) (i := i) (by simp [hi])
      rw [e1, e2, e3]
      have HI : Hid _ := show (decide (0 ≤ i) && decide (i ≤ 5)) = false by simpa using hi
      clear hf hi e1 e2 e3
      go_enter Tryz.func7, Tryz.ntmps7
      go_wp2_with first
        | (with_reducible refine wpList_loadW rfl _ _ rfl _ rfl h1 agg24r size24r ?_)
        | (go_at_call 34; (with_reducible refine (l2Rack_any _ _).mono ?_); rw [HF.out]; rintro e w1 ⟨rfl, hb1⟩; replace hbel := hbel.trans (hb1.mono hbel.size); replace h1 := row_keep hb1 h1; clear hb1)
        | (go_at_call 35; (with_reducible refine (l2Place_any _ _).mono ?_); rw [HI.out]; rintro e w' ⟨rfl, rfl⟩)
        | (with_reducible refine wpList_loadAG rfl _ _ rfl _ _ rfl h1 4 agg4 size4 (by omega) ?_)
        | (go_at_call 36; (with_reducible refine (l2Runs_any (tub f n) ht _).mono ?_); rintro e w1 ⟨v, rfl, hS, hb1⟩; have hz := hbel.size; replace hbel := hbel.trans (hb1.mono hbel.size))
      go_ret2
      first
        | exact ⟨_, rfl, hS.lower hz, hbel⟩
        | exact ⟨_, rfl, Sl.made hbel.size, hbel.alloc hbel.size _⟩
theorem implRunsOf_any (f : Nat → Int) (i : Int) (w : World) : Calls Tryz.prog 6 #[.agg (arr 24 f), .int .i64 i] w (RetSlB w 53 2 (roN f i) (roF f i) (roB f i)) := by
  have h1 : (w.alloc (.cells (arr 24 f) 27)).heap[w.heap.size]? = some (.cells (arr 24 f) 27 (0, 0))   := heap_new rfl
  have hbel : Below w.heap.size w (w.alloc (.cells (arr 24 f) 27)) := (Below.refl _ _).alloc (by simp) _
  have h5 : ((w.alloc (.cells (arr 24 f) 27)).alloc (.cells #[.int .i64 i] 3)).heap[w.heap.size + 1]? = some (.cells #[.int .i64 i] 3 (0, 0)) := heap_new (by simp)
  cases hf : rackB f with
  | false =>
    obtain ⟨e1, e2, e3⟩ := ro_bad (f := f) (i := i) (by simp [hf])
    rw [e1, e2, e3]
    have HF : Hid _ := hf
    have HI : Hid (1 = 1) := rfl
    clear hf e1 e2 e3
    go_enter Tryz.func6, Tryz.ntmps6
    go_wp2_with first
      | (with_reducible refine wpList_loadW rfl _ _ rfl _ rfl h1 agg24r size24r ?_)
      | (go_at_call 32; (with_reducible refine (isAt_bad f HF.out _ _).mono ?_); rintro e w1 ⟨rfl, hb1⟩; replace hb1 := below_of_alloc hb1; replace hbel := hbel.trans (hb1.mono hbel.size); replace h1 := row_keep hb1 h1; clear hb1)
      | (go_at_call 32; (with_reducible refine (isAt_one f HF.out _ _ h5).mono ?_); rw [HI.out]; rintro e w1 ⟨rfl, hb1⟩; replace hb1 := below_of_alloc hb1; replace hbel := hbel.trans (hb1.mono hbel.size); replace h1 := row_keep hb1 h1; clear hb1)
      | (with_reducible refine wpList_loadAG rfl _ _ rfl _ _ rfl h1 4 agg4 size4 (by omega) ?_)
      | (go_at_call 33; (with_reducible refine (runs_any (tub f n) ht _).mono ?_); rintro e w1 ⟨v, rfl, hS, hb1⟩; have hz := hbel.size; replace hbel := hbel.trans (hb1.mono hbel.size))
    go_ret2
    first
      | exact ⟨_, rfl, hS.lower hz, hbel⟩
      | exact ⟨_, rfl, Sl.nil, hbel⟩
  | true =>
    have HF : Hid _ := hf
    by_cases hi : 0 ≤ i ∧ i ≤ 5
    · have HI : Hid _ := show (decide (0 ≤ i) && decide (i ≤ 5)) = true by simpa using hi
      obtain ⟨n, rfl⟩ : ∃ n : Nat, i = n := ⟨i.toNat, by omega⟩
      have hn : n ≤ 5 := by omega
      have ht := tube_of_rack hf hn
      have hi1 : (0 : Int) ≤ (n : Int) := by omega
      have hi3 : (n : Int) < 6 := by omega
      obtain ⟨e1, e2, e3⟩ := ro_ok ⟨hf, hi⟩
      rw [e1, e2, e3]
      clear hf hi e1 e2 e3
      go_enter Tryz.func6, Tryz.ntmps6
      go_wp2_with first
        | (with_reducible refine wpList_loadW rfl _ _ rfl _ rfl h1 agg24r size24r ?_)
        | (go_at_call 32; (with_reducible refine (isAt_bad f HF.out _ _).mono ?_); rintro e w1 ⟨rfl, hb1⟩; replace hb1 := below_of_alloc hb1; replace hbel := hbel.trans (hb1.mono hbel.size); replace h1 := row_keep hb1 h1; clear hb1)
        | (go_at_call 32; (with_reducible refine (isAt_one f HF.out _ _ h5).mono ?_); rw [HI.out]; rintro e w1 ⟨rfl, hb1⟩; replace hb1 := below_of_alloc hb1; replace hbel := hbel.trans (hb1.mono hbel.size); replace h1 := row_keep hb1 h1; clear hb1)
        | (with_reducible refine wpList_loadAG rfl _ _ rfl _ _ rfl h1 4 agg4 size4 (by omega) ?_)
        | (go_at_call 33; (with_reducible refine (runs_any (tub f n) ht _).mono ?_); rintro e w1 ⟨v, rfl, hS, hb1⟩; have hz := hbel.size; replace hbel := hbel.trans (hb1.mono hbel.size))
      go_ret2
      first
        | exact ⟨_, rfl, hS.lower hz, hbel⟩
        | exact ⟨_, rfl, Sl.nil, hbel⟩
    · obtain ⟨e1, e2, e3⟩ := ro_bad (f := f) (i := i) (by simp [hi])
      rw [e1, e2, e3]
      have HI : Hid _ := show (decide (0 ≤ i) && decide (i ≤ 5)) = false by simpa using hi
      clear hf hi e1 e2 e3
      go_enter Tryz.func6, Tryz.ntmps6
      go_wp2_with first
        | (with_reducible refine wpList_loadW rfl _ _ rfl _ rfl h1 agg24r size24r ?_)
        | (go_at_call 32; (with_reducible refine (isAt_bad f HF.out _ _).mono ?_); rintro e w1 ⟨rfl, hb1⟩; replace hb1 := below_of_alloc hb1; replace hbel := hbel.trans (hb1.mono hbel.size); replace h1 := row_keep hb1 h1; clear hb1)
        | (go_at_call 32; (with_reducible refine (isAt_one f HF.out _ _ h5).mono ?_); rw [HI.out]; rintro e w1 ⟨rfl, hb1⟩; replace hb1 := below_of_alloc hb1; replace hbel := hbel.trans (hb1.mono hbel.size); replace h1 := row_keep hb1 h1; clear hb1)
        | (with_reducible refine wpList_loadAG rfl _ _ rfl _ _ rfl h1 4 agg4 size4 (by omega) ?_)
        | (go_at_call 33; (with_reducible refine (runs_any (tub f n) ht _).mono ?_); rintro e w1 ⟨v, rfl, hS, hb1⟩; have hz := hbel.size; replace hbel := hbel.trans (hb1.mono hbel.size))
      go_ret2
      first
        | exact ⟨_, rfl, hS.lower hz, hbel⟩
        | exact ⟨_, rfl, Sl.nil, hbel⟩
end Go.Proofs.YtlbgmkengkgnfaaGreatDoor
end

section
/- LayersOf: the program's and the reference's, and the law. -/
namespace Go.Proofs.YtlbgmkengkgnfaaGreatDoor
set_option linter.unusedSimpArgs false
set_option linter.unusedVariables false
set_option maxRecDepth 20000
open Go.RowKit
def layersOf (f : Nat → Int) (i : Int) : Int × Bool := if rackB f = true ∧ 0 ≤ i ∧ i ≤ 5 then (nlay (tub f i.toNat), true) else (0, false)
theorem layersOf_bad {f : Nat → Int} {i : Int} (h : ¬ (rackB f = true ∧ 0 ≤ i ∧ i ≤ 5)) : layersOf f i = (0, false) := if_neg h
theorem layersOf_ok {f : Nat → Int} {n : Nat} (h : rackB f = true) (hn : n ≤ 5) : layersOf f n = ((nlay (tub f n) : Int), true) := by
  unfold layersOf; rw [if_pos ⟨h, by omega, by omega⟩]; rfl

theorem specLayersOf_any (f : Nat → Int) (i : Int) (w : World) : Calls Tryz.prog 10 #[.agg (arr 24 f), .int .i64 i] w fun e w' => e = .returned (.tuple #[.int .i64 (layersOf f i).1, .bool (layersOf f i).2]) ∧ Below w.heap.size w w' := by
  have h1 : (w.alloc (.cells (arr 24 f) 27)).heap[w.heap.size]? = some (.cells (arr 24 f) 27 (0, 0)) := heap_new rfl
  have hbel : Below w.heap.size w (w.alloc (.cells (arr 24 f) 27)) := (Below.refl _ _).alloc (by simp) _
  cases hf : rackB f with
  | false =>
    rw [layersOf_bad (by simp [hf])]
    go_enter Tryz.func10, Tryz.ntmps10
    go_wp2_with first
      | (with_reducible refine wpList_loadW rfl _ _ rfl _ rfl h1 agg24r size24r ?_)
      | (go_at_call 34; (with_reducible refine (l2Rack_any _ _).mono ?_); rw [hf]; rintro e w1 ⟨rfl, hb1⟩)
    go_ret2
    exact ⟨rfl, hbel.trans (hb1.mono hbel.size)⟩
  | true =>
    by_cases hi : 0 ≤ i ∧ i ≤ 5
    · obtain ⟨n, rfl⟩ : ∃ n : Nat, i = n := ⟨i.toNat, by omega⟩
      have hn : n ≤ 5 := by omega
      have ht := tube_of_rack hf hn
      have hi1 : (0 : Int) ≤ (n : Int) := by omega
      have hi2 : (n : Int) ≤ 5 := by omega
      have hi3 : (n : Int) < 6 := by omega
      rw [layersOf_ok hf hn]
      clear hi
      go_enter Tryz.func10, Tryz.ntmps10
      go_wp2_with first
        | (with_reducible refine wpList_loadW rfl _ _ rfl _ rfl h1 agg24r size24r ?_)
        | (go_at_call 34; (with_reducible refine (l2Rack_any _ _).mono ?_); rw [hf]; rintro e w1 ⟨rfl, hb1⟩; have h2 := row_keep hb1 h1)
        | (go_at_call 35; (with_reducible refine (l2Place_any _ _).mono ?_); rintro e w1 ⟨rfl, rfl⟩)
        | (with_reducible refine wpList_loadA rfl _ _ rfl _ _ rfl h2 4 agg4 size4 (by omega) ?_)
        | (go_at_call 38; (with_reducible refine (l2Many_ok (tub f n) ht _).mono ?_); rintro e w2 ⟨rfl, hb2⟩)
      go_ret2
      exact ⟨rfl, hbel.trans ((hb1.trans (hb2.mono hb1.size)).mono hbel.size)⟩
    · rw [layersOf_bad (by simp [hi])]
      have hbad : (decide (0 ≤ i) && decide (i ≤ 5)) = false := by simpa using hi
      clear hi
      go_enter Tryz.func10, Tryz.ntmps10
      go_wp2_with first
        | (with_reducible refine wpList_loadW rfl _ _ rfl _ rfl h1 agg24r size24r ?_)
        | (go_at_call 34; (with_reducible refine (l2Rack_any _ _).mono ?_); rw [hf]; rintro e w1 ⟨rfl, hb1⟩; have h2 := row_keep hb1 h1)
        | (go_at_call 35; (with_reducible refine (l2Place_any _ _).mono ?_); rw [hbad]; rintro e w1 ⟨rfl, rfl⟩)
      go_ret2
      exact ⟨rfl, hbel.trans (hb1.mono hbel.size)⟩

theorem implLayersOf_any (f : Nat → Int) (i : Int) (w : World) : Calls Tryz.prog 9 #[.agg (arr 24 f), .int .i64 i] w fun e w' => e = .returned (.tuple #[.int .i64 (layersOf f i).1, .bool (layersOf f i).2]) ∧ Below w.heap.size w w' := by
  have h1 : (w.alloc (.cells (arr 24 f) 27)).heap[w.heap.size]? = some (.cells (arr 24 f) 27 (0, 0)) := heap_new rfl
  have hbel : Below w.heap.size w (w.alloc (.cells (arr 24 f) 27)) := (Below.refl _ _).alloc (by simp) _
  cases hf : rackB f with
  | false =>
    rw [layersOf_bad (by simp [hf])]
    go_enter Tryz.func9, Tryz.ntmps9
    go_wp2_with first
      | (with_reducible refine wpList_loadW rfl _ _ rfl _ rfl h1 agg24r size24r ?_)
      | (go_at_call 32; (with_reducible refine (isAt_bad f hf _ _).mono ?_); rintro e w1 ⟨rfl, hb1⟩)
    go_ret2
    exact ⟨rfl, (hbel.alloc (by simp) _).trans (hb1.mono (by simp; omega))⟩
  | true =>
    have h2 : ((w.alloc (.cells (arr 24 f) 27)).alloc (.cells #[.int .i64 i] 3)).heap[w.heap.size + 1]? = some (.cells #[.int .i64 i] 3 (0, 0)) := heap_new (by simp)
    have hbel2 : Below w.heap.size w ((w.alloc (.cells (arr 24 f) 27)).alloc (.cells #[.int .i64 i] 3)) := hbel.alloc (by simp) _
    by_cases hi : 0 ≤ i ∧ i ≤ 5
    · have HG : Hid _ := show (decide (0 ≤ i) && decide (i ≤ 5)) = true by simpa using hi
      obtain ⟨n, rfl⟩ : ∃ n : Nat, i = n := ⟨i.toNat, by omega⟩
      have hn : n ≤ 5 := by omega
      have hi1 : (0 : Int) ≤ (n : Int) := by omega
      have hi3 : (n : Int) < 6 := by omega
      rw [layersOf_ok hf hn]
      clear hi
      have h1' := row_alloc (x := .cells #[.int .i64 n] 3) h1
      go_enter Tryz.func9, Tryz.ntmps9
      go_wp2_with first
        | (with_reducible refine wpList_loadW rfl _ _ rfl _ rfl h1 agg24r size24r ?_)
        | (go_at_call 32; (with_reducible refine (isAt_one f hf _ _ h2).mono ?_); rw [HG.out]; rintro e w1 ⟨rfl, hb1⟩; have h3 := row_keep hb1 h1')
        | (with_reducible refine wpList_loadA rfl _ _ rfl _ _ rfl h3 4 agg4 size4 (by omega) ?_)
        | (go_at_call 37; (with_reducible refine (layers_any _ _).mono ?_); rintro e w2 ⟨rfl, hb2⟩)
      go_ret2
      exact ⟨rfl, hbel2.trans ((hb1.trans (hb2.mono hb1.size)).mono hbel2.size)⟩
    · have HG : Hid _ := show (decide (0 ≤ i) && decide (i ≤ 5)) = false by simpa using hi
      rw [layersOf_bad (by simp [hi])]
      clear hi
      go_enter Tryz.func9, Tryz.ntmps9
      go_wp2_with first
        | (with_reducible refine wpList_loadW rfl _ _ rfl _ rfl h1 agg24r size24r ?_)
        | (go_at_call 32; (with_reducible refine (isAt_one f hf _ _ h2).mono ?_); rw [HG.out]; rintro e w1 ⟨rfl, hb1⟩)
      go_ret2
      exact ⟨rfl, hbel2.trans (hb1.mono hbel2.size)⟩

end Go.Proofs.YtlbgmkengkgnfaaGreatDoor
end

section
/- Rows of bools. -/
namespace Go.Proofs.YtlbgmkengkgnfaaGreatDoor
set_option linter.unusedSimpArgs false
set_option linter.unusedVariables false
set_option maxRecDepth 20000
open Go.RowKit
variable {P : Program}
/-- A row of n bools. -/
def brr (n : Nat) (s : Nat → Bool) : Array Value := Array.ofFn (n := n) fun j => .bool (s j)
theorem brr_size (n : Nat) (s : Nat → Bool) : (brr n s).size = n := by simp [brr]
theorem brr_get (n : Nat) (s : Nat → Bool) (i : Nat) : (brr n s)[i]? = if i < n then some (.bool (s i)) else none := by
  simp [brr, Array.getElem?_ofFn]
theorem brr_congr {n : Nat} {s t : Nat → Bool} (h : ∀ j, j < n → s j = t j) : brr n s = brr n t := by
  refine Array.ext_getElem? fun i => ?_
  rw [brr_get, brr_get]
  by_cases hi : i < n
  · rw [if_pos hi, if_pos hi, h i hi]
  · rw [if_neg hi, if_neg hi]
def bup (s : Nat → Bool) (i : Nat) (b : Bool) : Nat → Bool := fun j => if j = i then b else s j
theorem brr_set (n : Nat) (s : Nat → Bool) (i : Nat) (b : Bool) : (brr n s).setIfInBounds i (.bool b) = brr n (bup s i b) := by
  refine Array.ext_getElem? fun j => ?_
  rw [Array.getElem?_setIfInBounds, brr_get, brr_get, brr_size]
  unfold bup
  by_cases hj : i = j
  · subst hj; simp
  · have hj2 : ¬ j = i := fun h => hj h.symm
    simp only [hj, hj2, if_false]
attribute [irreducible] brr
theorem browcell {w : World} {B n : Nat} {s : Nat → Bool} {T : TypeId} {fr : Nat × Nat} (hg : w.heap[B]? = some (.cells (brr n s) T fr)) {i : Nat} (h : i < n) :
    w.cell? ⟨B, i, none⟩ = some (.bool (s i)) := by
  rw [cell_of_row w B i _ T fr hg, brr_get, if_pos h]
theorem wpList_loadB {ops : Array Oper} {rest : List Oper} {o : Oper} {a : Act} {w : World} {Q : Exit → Act → World → Prop} (hw : Region.wanted o (yielded ops a.tmps) = true) (ty : TypeId) (x : Operand) (ho : o.op = .load ty x)
    (B off : Nat) (hx : a.eval x = .pointer (some ⟨B, off, none⟩)) {T : TypeId} {fr : Nat × Nat} {n : Nat} {s : Nat → Bool} (hg : w.heap[B]? = some (.cells (brr n s) T fr)) (hd : aggB P ty = false) (hu : (P.underlying ty).isSome = true)
    (hle : off < n) (h : wpList P ops Q rest (a.put o.dst (.bool (s off))) w) : wpList P ops Q (o :: rest) a w :=
  wpList_step fun K hK => by
    rw [if_pos hw]
    have hagg : (isAgg ty).run P w = .ok false w := by
      unfold aggB at hd
      unfold isAgg
      cases hq : P.underlying ty with
      | none => simp [hq] at hu
      | some d =>
        rw [Sem.run_bind, run_underlying hq w]
        cases d <;> simp_all
    have hr : (loadVar ty ⟨B, off, none⟩).run P w = .ok (.bool (s off)) w := by
      simp only [loadVar, Sem.run_bind, Result.andThen_ok, hagg]
      simp [browcell hg hle]
    unfold Oper.wp execOp
    simp only [ho, hx, Instr.loadAt, Instr.sureAddr, Sem.run_bind, Sem.run_pure, Result.andThen_ok, hr]
    exact hK _ _ h
theorem wpList_storeB {ops : Array Oper} {rest : List Oper} {o : Oper} {a : Act} {w : World} {Q : Exit → Act → World → Prop} (hgd : o.guard = none) (ty : TypeId) (x y : Operand) (ho : o.op = .store ty x y)
    (B off : Nat) (hx : a.eval x = .pointer (some ⟨B, off, none⟩)) {b : Bool} (hy : a.eval y = .bool b) {T : TypeId} {n : Nat} {s : Nat → Bool} (hg : w.heap[B]? = some (.cells (brr n s) T (0, 0)))
    (hi : (P.info? ty).map (·.size) = some 1) (hle : off < n) (h : wpList P ops Q rest (a.put o.dst undef) (w.setRow B (brr n (bup s off b)))) : wpList P ops Q (o :: rest) a w :=
  wpList_plain hgd fun _ hK => by
    have hcell : w.cell? ⟨B, off, none⟩ = some (.bool (s off)) := browcell hg hle
    have hfro : w.frozen? ⟨B, off, none⟩ = false := by simp [World.frozen?, hg]
    have hst : (store ((⟨B, off, none⟩ : Addr).add 0) (.bool b)).run P w = .ok () (w.setRow B (brr n (bup s off b))) := by
      rw [add_off, Nat.add_zero, run_store P w _ _ _ rfl, hcell]
      simp [hfro, setCell_eq_setRow w B off _ T (0, 0) _ hg, brr_set]
    have hs : (storeVar ty ⟨B, off, none⟩ (.bool b)).run P w = .ok () (w.setRow B (brr n (bup s off b))) := by
      cases hq : P.info? ty with
      | none => simp [hq] at hi
      | some i =>
        have hs : i.size = 1 := by simpa [hq] using hi
        simp [storeVar, sizeOf, typeInfo, hq, Value.cells, hs, storeCells, hst]
    unfold Oper.wp execOp
    simp only [ho, hx, hy, Instr.storeAt, Instr.sureAddr, Sem.run_bind, Sem.run_pure, Result.andThen_ok, hs]
    exact hK _ _ h
/-- A new row of bools, by name. -/
theorem wpList_allocB {ops : Array Oper} {rest : List Oper} {o : Oper} {a : Act} {w : World} {Q : Exit → Act → World → Prop} (hgd : o.guard = none) (ty : TypeId) (ho : o.op = .alloc ty) (n : Nat)
    (hz : ((P.info? ty).bind (·.zero)).map (·.cells) = some (brr n fun _ => false))
    (h : ∀ B w', w.heap.size ≤ B → w'.heap[B]? = some (.cells (brr n fun _ => false) ty (0, 0)) → Below w.heap.size w w' → wpList P ops Q rest (a.put o.dst (.pointer (some ⟨B, 0, none⟩))) w') : wpList P ops Q (o :: rest) a w :=
  wpList_plain hgd fun _ hK => by
    have hr : (Instr.alloc ty true (.tuple #[])).run P w = .ok (.pointer (some ⟨w.heap.size, 0, none⟩)) (w.alloc (.cells (brr n fun _ => false) ty)) := by
      cases hq : P.info? ty with
      | none => simp [hq] at hz
      | some i =>
        cases hz2 : i.zero with
        | none => simp [hq, hz2] at hz
        | some z =>
          simp only [hq, hz2, Option.bind_some, Option.map_some, Option.some.injEq] at hz
          simp [Instr.alloc, zeroValue, typeInfo, hq, hz2, newVar, newRow, hz]
    unfold Oper.wp execOp
    simp only [ho, Sem.run_bind, hr, Result.andThen_ok, Sem.run_pure]
    exact hK _ _ (h _ _ (Nat.le_refl _) (heap_new rfl) ((Below.refl _ _).alloc (Nat.le_refl _) _))
end Go.Proofs.YtlbgmkengkgnfaaGreatDoor
end

section
/- Comparing rows, and loading bools, where a region draws its order; rows of bools laid anew. -/
namespace Go.Proofs.YtlbgmkengkgnfaaGreatDoor
set_option linter.unusedSimpArgs false
set_option linter.unusedVariables false
set_option maxRecDepth 20000
open Go.RowKit
variable {P : Program}
section
variable {ops : Array Oper} {C : World → Prop} {Q : Act → Prop} {a : Act} {o : Oper} {rest : List Oper}
theorem wpQuiet_eqlA {t : TypeId} {n k : Nat} (h : EqA P t n k) (hk : k ≤ 10000) (hm : P.eqGuardType P.depth t = false) (hw : Region.wanted o (yielded ops a.tmps) = true) (x y : Operand) (t2 : TypeId) (ho : o.op = .binOp .eql t x y t2)
    {f g : Nat → Int} (hx : a.eval x = .agg (arr n f)) (hy : a.eval y = .agg (arr n g)) (hc : wpQuiet P ops C Q rest (a.put o.dst (.bool (eqv n f g)))) : wpQuiet P ops C Q (o :: rest) a := by
  refine wpQuiet_value _ hw (fun w _ => ?_) hc
  have hr := run_eqlA h hk f g w
  have hg := run_eqGuard_agg (P := P) w .eql t x y (arr n f) (arr n g) hm
  unfold execOp
  simp only [ho, hx, hy, Sem.run_bind, hg, hr, Result.andThen_ok, Sem.run_pure]
theorem wpQuiet_neqA {t : TypeId} {n k : Nat} (h : EqA P t n k) (hk : k ≤ 10000) (hm : P.eqGuardType P.depth t = false) (hw : Region.wanted o (yielded ops a.tmps) = true) (x y : Operand) (t2 : TypeId) (ho : o.op = .binOp .neq t x y t2)
    {f g : Nat → Int} (hx : a.eval x = .agg (arr n f)) (hy : a.eval y = .agg (arr n g)) (hc : wpQuiet P ops C Q rest (a.put o.dst (.bool (!eqv n f g)))) : wpQuiet P ops C Q (o :: rest) a := by
  refine wpQuiet_value _ hw (fun w _ => ?_) hc
  have hr := run_neqA h hk f g w
  have hg := run_eqGuard_agg (P := P) w .neq t x y (arr n f) (arr n g) hm
  unfold execOp
  simp only [ho, hx, hy, Sem.run_bind, hg, hr, Result.andThen_ok, Sem.run_pure]
theorem wpQuiet_loadB (hw : Region.wanted o (yielded ops a.tmps) = true) (ty : TypeId) (x : Operand) (ho : o.op = .load ty x)
    (B off : Nat) (hx : a.eval x = .pointer (some ⟨B, off, none⟩)) {T : TypeId} {fr : Nat × Nat} {n : Nat} {s : Nat → Bool} (hg : ∀ w, C w → w.heap[B]? = some (.cells (brr n s) T fr)) (hd : aggB P ty = false) (hu : (P.underlying ty).isSome = true)
    (hle : off < n) (h : wpQuiet P ops C Q rest (a.put o.dst (.bool (s off)))) : wpQuiet P ops C Q (o :: rest) a := by
  refine wpQuiet_value _ hw (fun w hw => ?_) h
  have hagg : (isAgg ty).run P w = .ok false w := by
    unfold aggB at hd
    unfold isAgg
    cases hq : P.underlying ty with
    | none => simp [hq] at hu
    | some d =>
      rw [Sem.run_bind, run_underlying hq w]
      cases d <;> simp_all
  unfold execOp
  simp only [ho, hx, Instr.loadAt, Instr.sureAddr, loadVar, Sem.run_bind, Sem.run_pure, Result.andThen_ok, hagg]
  simp [browcell (hg w hw) hle]
end
section
variable {ops : Array Oper} {rest : List Oper} {o : Oper} {a : Act} {w : World} {Q : Exit → Act → World → Prop}
theorem wpList_neqA {t : TypeId} {n k : Nat} (h : EqA P t n k) (hk : k ≤ 10000) (hm : P.eqGuardType P.depth t = false) (hw : Region.wanted o (yielded ops a.tmps) = true) (x y : Operand) (t2 : TypeId) (ho : o.op = .binOp .neq t x y t2)
    {f g : Nat → Int} (hx : a.eval x = .agg (arr n f)) (hy : a.eval y = .agg (arr n g)) (hc : wpList P ops Q rest (a.put o.dst (.bool (!eqv n f g))) w) : wpList P ops Q (o :: rest) a w :=
  wpList_step fun K hK => by
    rw [if_pos hw]
    have hr := run_neqA h hk f g w
    have hg := run_eqGuard_agg (P := P) w .neq t x y (arr n f) (arr n g) hm
    unfold Oper.wp execOp
    simp only [ho, hx, hy, Sem.run_bind, hg, hr, Result.andThen_ok, Sem.run_pure]
    exact hK _ _ hc
theorem wpList_storeBN (hgd : o.guard = none) (ty : TypeId) (x y : Operand) (ho : o.op = .store ty x y)
    (B off : Nat) (hx : a.eval x = .pointer (some ⟨B, off, none⟩)) {b : Bool} (hy : a.eval y = .bool b) {T : TypeId} {n : Nat} {s : Nat → Bool} (hg : w.heap[B]? = some (.cells (brr n s) T (0, 0)))
    (hi : (P.info? ty).map (·.size) = some 1) (hle : off < n) {k : Nat} {w0 : World} (hb : Below k w0 w) (hk : k ≤ B)
    (h : ∀ w', w'.heap[B]? = some (.cells (brr n (bup s off b)) T (0, 0)) → (∀ B', B' ≠ B → w'.heap[B']? = w.heap[B']?) → Below k w0 w' → wpList P ops Q rest (a.put o.dst undef) w') : wpList P ops Q (o :: rest) a w :=
  wpList_storeB hgd ty x y ho B off hx hy hg hi hle (h _ (setRow_heap _ _ _ _ _ _ hg) (fun B' hB => setRow_other _ _ _ _ hB) (below_setRow2 hb hk _))
theorem brr_toList (n : Nat) (s : Nat → Bool) (j : Nat) : (brr n s).toList[j]? = if j < n then some (.bool (s j)) else none := by rw [Array.getElem?_toList, brr_get]
theorem run_storeCells_same {B n : Nat} {s : Nat → Bool} {T : TypeId} (hg : w.heap[B]? = some (.cells (brr n s) T (0, 0))) : ∀ (vs : List Value) (i : Nat), (∀ j, j < vs.length → vs[j]? = some (.bool (s (i + j)))) → i + vs.length ≤ n →
    (storeCells ⟨B, 0, none⟩ vs i).run P w = .ok () w
  | [], i, _, _ => rfl
  | v :: vs, i, h, hl => by
    simp only [List.length_cons] at hl
    have hv : v = .bool (s i) := by simpa using h 0 (by simp)
    subst hv
    have hcell : w.cell? ⟨B, i, none⟩ = some (.bool (s i)) := browcell hg (by omega)
    have hfro : w.frozen? ⟨B, i, none⟩ = false := by simp [World.frozen?, hg]
    have hbup : bup s i (s i) = s := funext fun j => by unfold bup; split <;> simp_all
    have hst : (store ((⟨B, 0, none⟩ : Addr).add i) (.bool (s i))).run P w = .ok () w := by
      rw [add_off, Nat.zero_add, run_store P w _ _ _ rfl, hcell]
      simp [hfro, setCell_eq_setRow w B i _ T (0, 0) _ hg, brr_set, hbup, setRow_self w B _ T (0, 0) hg]
    have ih := run_storeCells_same hg vs (i + 1) (fun j hj => by have := h (j + 1) (by simp; omega); simpa [Nat.add_assoc, Nat.add_comm 1 j] using this) (by omega)
    simp only [storeCells, Sem.run_bind, hst, Result.andThen_ok, ih]
/-- A row of bools is overwritten by what it holds. -/
theorem wpList_storeSB (hgd : o.guard = none) (ty : TypeId) (x y : Operand) (ho : o.op = .store ty x y)
    (B : Nat) (hx : a.eval x = .pointer (some ⟨B, 0, none⟩)) {n : Nat} {s : Nat → Bool} (hy : a.eval y = .agg (brr n s)) {T : TypeId} (hg : w.heap[B]? = some (.cells (brr n s) T (0, 0)))
    (hi : (P.info? ty).map (·.size) = some n) (h : wpList P ops Q rest (a.put o.dst undef) w) : wpList P ops Q (o :: rest) a w :=
  wpList_plain hgd fun _ hK => by
    have hs : (storeVar ty ⟨B, 0, none⟩ (.agg (brr n s))).run P w = .ok () w := by
      cases hq : P.info? ty with
      | none => simp [hq] at hi
      | some i =>
        have hs : i.size = n := by simpa [hq] using hi
        have hr := run_storeCells_same (P := P) hg (brr n s).toList 0 (fun j hj => by
          rw [brr_toList, if_pos (by simpa [brr_size] using hj), Nat.zero_add]) (by simp [brr_size])
        simp [storeVar, sizeOf, typeInfo, hq, Value.cells, hs, brr_size, hr]
    unfold Oper.wp execOp
    simp only [ho, hx, hy, Instr.storeAt, Instr.sureAddr, Sem.run_bind, Sem.run_pure, Result.andThen_ok, hs]
    exact hK _ _ h
theorem wpList_build0B (hgd : o.guard = none) (ty : TypeId) (ho : o.op = .build ty #[]) (n : Nat)
    (hz : P.built ty [] = some (brr n fun _ => false))
    (h : wpList P ops Q rest (a.put o.dst (.agg (brr n fun _ => false))) w) : wpList P ops Q (o :: rest) a w :=
  wpList_build hgd ty #[] ho (by simp [hz]) (by simpa [hz] using h)
end
end Go.Proofs.YtlbgmkengkgnfaaGreatDoor
end

section
/- The law on racks: equal pairs. -/
namespace Go.Proofs.YtlbgmkengkgnfaaGreatDoor
set_option linter.unusedSimpArgs false
set_option linter.unusedVariables false
set_option maxRecDepth 20000
open Go.RowKit
theorem eqP2 : EqA Tryz.prog 53 2 2 := EqA.ints pairA pairS Tryz.underlying53 Tryz.underlying3 size1 (by kernel_rfl)
theorem gdP2 : Tryz.prog.eqGuardType Tryz.prog.depth 53 = false := by kernel_rfl
theorem eqv_me (n : Nat) (f : Nat → Int) : (!eqv n f f) = false := by rw [eqv_iff.2 fun _ _ => rfl]; rfl
theorem rPairs_same {n : Nat} {f : Nat → Int} {b1 b2 : Nat} {v1 v2 : Value} (hn : n ≤ 1000000) (w : World) (hS1 : Sl w b1 53 2 v1 n f) (hS2 : Sl w b2 53 2 v2 n f) : Calls Tryz.prog 8 #[v1, v2] w fun e w' => e = .returned (.bool true) ∧ Below w.heap.size w w' := by
  have hbel := Below.refl w.heap.size w
  by_cases h0 : n = 0
  · subst h0
    go_enter Tryz.func8, Tryz.ntmps8
    go_wp2_with first
      | (with_reducible refine wpList_lenS slP.ht rfl _ rfl rfl hS1 ?_)
      | (with_reducible refine wpList_lenS slP.ht rfl _ rfl rfl hS2 ?_)
    go_loopw [5] (fun i wr => i = .int .i64 0 ∧ Below w.heap.size w wr) (fun i _ => 0)
    case atStart => exact ⟨rfl, hbel⟩
    case round =>
      clear hbel
      obtain ⟨rfl, hbel⟩ := hrel
      go_wp2_with first
        | (with_reducible refine wpList_lenS slP.ht rfl _ rfl rfl hS1 ?_)
      go_ret
      exact ⟨rfl, hbel⟩
  · obtain ⟨q1, c1, F1, rfl, _, g1, d1, e1, z1⟩ := hS1.blk (by omega)
    obtain ⟨q2, c2, F2, rfl, _, g2, d2, e2, z2⟩ := hS2.blk (by omega)
    have Z1 : Hid _ := z1
    have Z2 : Hid _ := z2
    clear z1 z2 hS1 hS2
    go_enter Tryz.func8, Tryz.ntmps8
    go_wp2_with fail
    go_loopw [5] (fun i wr => ∃ k : Nat, k ≤ n ∧ i = .int .i64 k ∧ wr.heap[q1]? = some (.cells (arr (c1 * 2) F1) 53 (0, 0)) ∧ wr.heap[q2]? = some (.cells (arr (c2 * 2) F2) 53 (0, 0)) ∧ Below w.heap.size w wr) (fun i _ => n - (intOf i).toNat)
    case atStart => exact ⟨0, by omega, rfl, g1, g2, hbel⟩
    case round =>
      clear g1 g2 hbel
      obtain ⟨k, hk, rfl, g1, g2, hbel⟩ := hrel
      by_cases hlt : k < n
      · have hlt' : (k : Int) < (n : Int) := by omega
        have y1 : arr 2 (fun j => F1 (k * 2 + j)) = arr 2 (fun j => f (k * 2 + j)) := arr_congr fun j hj => Z1.out _ (by omega)
        have y2 : arr 2 (fun j => F2 (k * 2 + j)) = arr 2 (fun j => f (k * 2 + j)) := arr_congr fun j hj => Z2.out _ (by omega)
        have Y1 : Hid _ := y1
        have Y2 : Hid _ := y2
        clear y1 y2
        go_wp2_with fail
        refine wp_region_held 9 (Cls wr []) (by kernel_rfl) (by kernel_rfl) (Cls.zero (Below.refl _ _)) ?_; simp only [List.take_succ_cons, List.take_zero, List.drop_succ_cons, List.drop_zero]
        repeat (first
          | (with_reducible refine wpQuiet_loadX rfl _ _ rfl _ _ rfl (fun _ h => h.kp g1) 2 pairA pairS (by omega) Y1.out ?_)
          | (with_reducible refine wpQuiet_loadX rfl _ _ rfl _ _ rfl (fun _ h => h.kp g2) 2 pairA pairS (by omega) Y2.out ?_)
          | ((with_reducible refine wpQuiet_neqA eqP2 (by decide) gdP2 rfl _ _ _ rfl rfl rfl ?_); rw [eqv_me])
          | ((with_reducible refine wpQuiet_step (fun K hK => ?_)); go_simp; (first | (refine ⟨_, fun _ _ => rfl, hK _ ?_⟩) | (refine ⟨_, fun _ _ => ⟨rfl, rfl⟩, hK _ ?_⟩) | (refine hK _ ?_)); clear hK K))
        refine wpQuiet_nil ?_; intro wt hCt; replace hCt := hCt.2; replace hbel := hbel.trans (hCt.mono hbel.size); replace g1 := row_keep hCt g1; replace g2 := row_keep hCt g2; clear hCt
        go_wp2_with fail
        go_roundw
        case rel => exact ⟨k + 1, by omega, by go_num, g1, g2, hbel⟩
        case measure => simp [intOf]; omega
      · obtain rfl : k = n := by omega
        go_wp2_with fail
        go_ret
        exact ⟨rfl, hbel⟩
end Go.Proofs.YtlbgmkengkgnfaaGreatDoor
end
