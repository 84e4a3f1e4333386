/- All pours that are possible: the program's and the reference's, and the law. -/
import Derived.Test.YtbiplciklmagoaaCanP
import Derived.Test.YtbiplciklmagoaaSlaw
namespace Go.Proofs.Ytbiplciklmagoaa
set_option linter.unusedSimpArgs false
set_option linter.unusedVariables false
set_option maxRecDepth 20000
open Go.RowKit
theorem size28 : (Try.prog.info? 28).map (·.size) = some 24 := size24r
theorem agg28 : aggB Try.prog 28 = true := agg24r
/-- How many of the first q pairs of tubes are pours. -/
def poN (f : Nat → Int) : Nat → Nat
  | 0 => 0
  | q + 1 => if canF f (q / 6) (q % 6) = true then poN f q + 1 else poN f q
def poF (f : Nat → Int) : Nat → (Nat → Int)
  | 0 => fun _ => 0
  | q + 1 => if canF f (q / 6) (q % 6) = true then app (poF f q) (poN f q * 2) (fun j => if j = 0 then ((q / 6 : Nat) : Int) else ((q % 6 : Nat) : Int)) else poF f q
theorem poN_le (f : Nat → Int) : ∀ q, poN f q ≤ q
  | 0 => by simp [poN]
  | q + 1 => by have := poN_le f q; unfold poN; split <;> omega
theorem po_yes {f : Nat → Int} {q : Nat} (h : canF f (q / 6) (q % 6) = true) : poN f (q + 1) = poN f q + 1 ∧ poF f (q + 1) = app (poF f q) (poN f q * 2) (fun j => if j = 0 then ((q / 6 : Nat) : Int) else ((q % 6 : Nat) : Int)) := by
  constructor
  · rw [poN, if_pos h]
  · rw [poF, if_pos h]
theorem po_no {f : Nat → Int} {q : Nat} (h : canF f (q / 6) (q % 6) = false) : poN f (q + 1) = poN f q ∧ poF f (q + 1) = poF f q := by
  constructor
  · rw [poN, if_neg (by simp [h])]
  · rw [poF, if_neg (by simp [h])]
theorem pours_any (f : Nat → Int) (hf : rackB f = true) (w : World) : Calls Try.prog 59 #[.agg (arr 24 f)] w (RetSl w 51 2 (poN f 36) (poF f 36)) := by
  have h1 : (w.alloc (.cells (arr 24 f) 28)).heap[w.heap.size]? = some (.cells (arr 24 f) 28 (0, 0))   := heap_new rfl
  have hbel : Below w.heap.size w (w.alloc (.cells (arr 24 f) 28)) := (Below.refl _ _).alloc (by simp) _
  go_enter Try.func59, Try.ntmps59
  go_wp2_with fail
  go_loopw [3, 6] (fun o i wr => ∃ n : Nat, ∃ v : Value, n ≤ 6 ∧ i = .int .i64 n ∧ o = v ∧ Sl wr (w.heap.size + 1) 51 2 v (poN f (n * 6)) (poF f (n * 6)) ∧ wr.heap[w.heap.size]? = some (.cells (arr 24 f) 28 (0, 0)) ∧ Below w.heap.size w wr) (fun _ i _ => 6 - (intOf i).toNat)
  case atStart => exact ⟨0, _, by omega, rfl, rfl, Sl.nil, h1, hbel⟩
  case round =>
    clear h1 hbel
    obtain ⟨n, v, hn, rfl, rfl, hS, h1, hbel⟩ := hrel
    by_cases hlt : n < 6
    · have hlt' : (n : Int) < 6 := by omega
      go_wp2_with fail
      obtain ⟨wo, hwo⟩ : ∃ wo : World, wo = wr := ⟨_, rfl⟩
      rw [← hwo] at h1 hS hbel
      go_loopw [3, 9] (fun o i wq => ∃ m : Nat, ∃ v : Value, m ≤ 6 ∧ i = .int .i64 m ∧ o = v ∧ Sl wq (w.heap.size + 1) 51 2 v (poN f (n * 6 + m)) (poF f (n * 6 + m)) ∧ wq.heap[w.heap.size]? = some (.cells (arr 24 f) 28 (0, 0)) ∧ Below w.heap.size w wq) (fun _ i _ => 6 - (intOf i).toNat)
      case atStart => exact ⟨0, _, by omega, rfl, rfl, hwo ▸ hS, hwo ▸ h1, hwo ▸ hbel⟩
      case round =>
        clear h1 hbel hS hwo
        obtain ⟨m, v, hm6, rfl, rfl, hS, h1, hbel⟩ := hrel
        have hsz := row_lt h1
        have hN := poN_le f (n * 6 + m)
        by_cases hlt2 : m < 6
        · have hlt2' : (m : Int) < 6 := by omega
          have e1 : (n * 6 + m) / 6 = n := by omega
          have e2 : (n * 6 + m) % 6 = m := by omega
          cases hc : canF f n m with
          | true =>
            have HC : Hid _ := hc
            have HS : Hid (poN f (n * 6 + (m + 1)) = poN f (n * 6 + m) + 1 ∧ poF f (n * 6 + (m + 1)) = app (poF f (n * 6 + m)) (poN f (n * 6 + m) * 2) (fun j => if j = 0 then (n : Int) else m)) := by
              have := po_yes (f := f) (q := n * 6 + m) (by rw [e1, e2]; exact hc)
              rw [e1, e2] at this
              exact this
            have hB : ∀ W : World, (W.alloc (.cells #[.int .i64 n, .int .i64 m] 51)).heap[W.heap.size]? = some (.cells (arr 2 fun j => if j = 0 then (n : Int) else m) 51 (0, 0)) := fun W => by rw [arr_two]; exact heap_new rfl
            have HB : Hid _ := hB
            clear hc hB e1 e2
            go_wp2_with first
              | (with_reducible refine wpList_loadW rfl _ _ rfl _ rfl h1 agg28 size28 ?_)
              | (go_at_call 55; (with_reducible refine (canPour_any f hf n m (by omega) (by omega) _).mono ?_); rw [HC.out]; rintro e w1 ⟨rfl, hb1⟩; replace hbel := hbel.trans (hb1.mono hbel.size); replace h1 := row_keep hb1 h1; replace hS := hS.keep hb1; have hz := row_lt h1; clear hb1)
              | ((with_reducible refine wpList_appendS slP (by omega) rfl _ _ rfl rfl (hS.keep ((Below.refl _ _).alloc (Nat.le_refl _) _)) rfl (HB.out _) (by omega) (by omega) (by unfold maxLen; omega) (by omega) (by simp; omega) ?_); intro v2 w2 hS2 hb2)
            go_roundw
            case rel =>
              refine ⟨m + 1, v2, by omega, by go_num, rfl, ?_, row_kept hb2 (row_alloc h1) (by omega), hbel.trans (((Below.refl _ _).alloc (Nat.le_of_lt hz) _).trans (hb2.mono (by omega)))⟩
              rw [HS.out.1, HS.out.2]
              exact hS2.congr rfl fun j hj => by simp only [Nat.zero_add]
            case measure => simp [intOf]; omega
          | false =>
            have HC : Hid _ := hc
            have HS : Hid (poN f (n * 6 + (m + 1)) = poN f (n * 6 + m) ∧ poF f (n * 6 + (m + 1)) = poF f (n * 6 + m)) := po_no (f := f) (q := n * 6 + m) (by rw [e1, e2]; exact hc)
            clear hc e1 e2
            go_wp2_with first
              | (with_reducible refine wpList_loadW rfl _ _ rfl _ rfl h1 agg28 size28 ?_)
              | (go_at_call 55; (with_reducible refine (canPour_any f hf n m (by omega) (by omega) _).mono ?_); rw [HC.out]; rintro e w1 ⟨rfl, hb1⟩; replace hbel := hbel.trans (hb1.mono hbel.size); replace h1 := row_keep hb1 h1; replace hS := hS.keep hb1; clear hb1)
            go_roundw
            case rel => exact ⟨m + 1, _, by omega, by go_num, rfl, by rw [HS.out.1, HS.out.2]; exact hS, h1, hbel⟩
            case measure => simp [intOf]; omega
        · obtain rfl : m = 6 := by omega
          go_wp2_with fail
          go_roundw
          case rel => exact ⟨n + 1, _, by omega, by go_num, rfl, by rw [show (n + 1) * 6 = n * 6 + 6 by omega]; exact hS, h1, hbel⟩
          case measure => simp [intOf]; omega
    · obtain rfl : n = 6 := by omega
      go_wp2_with fail
      go_ret
      exact ⟨_, rfl, hS.lower (by omega), hbel⟩
theorem l2Pours_any (f : Nat → Int) (hf : rackB f = true) (w : World) : Calls Try.prog 58 #[.agg (arr 24 f)] w (RetSl w 51 2 (poN f 36) (poF f 36)) := by
  have h0 : (w.alloc (.cells (arr 24 f) 28)).heap[w.heap.size]? = some (.cells (arr 24 f) 28 (0, 0)) := heap_new rfl
  have h1 := row_alloc (x := .cells #[] 51) h0
  have hbel : Below w.heap.size w ((w.alloc (.cells (arr 24 f) 28)).alloc (.cells #[] 51)) := ((Below.refl _ _).alloc (by simp) _).alloc (by simp) _
  have hS : Sl ((w.alloc (.cells (arr 24 f) 28)).alloc (.cells #[] 51)) (w.heap.size + 1) 51 2 (.slice (some ⟨w.heap.size + 1, 0, none⟩) 0 0) (poN f (0 * 6)) (poF f (0 * 6)) := by
    have := Sl.made (w := w.alloc (.cells (arr 24 f) 28)) (base := w.heap.size + 1) (e := 51) (s := 2) (f := poF f 0) (by simp)
    simpa [poN] using this
  go_enter Try.func58, Try.ntmps58
  go_wp2_with fail
  go_loopw [3, 4] (fun o i wr => ∃ n : Nat, ∃ v : Value, n ≤ 6 ∧ i = .int .i64 n ∧ o = v ∧ Sl wr (w.heap.size + 1) 51 2 v (poN f (n * 6)) (poF f (n * 6)) ∧ wr.heap[w.heap.size]? = some (.cells (arr 24 f) 28 (0, 0)) ∧ Below w.heap.size w wr) (fun _ i _ => 6 - (intOf i).toNat)
  case atStart => exact ⟨0, _, by omega, rfl, rfl, hS, h1, hbel⟩
  case round =>
    clear h0 h1 hbel hS
    obtain ⟨n, v, hn, rfl, rfl, hS, h1, hbel⟩ := hrel
    by_cases hlt : n < 6
    · have hlt' : (n : Int) < 6 := by omega
      go_wp2_with fail
      obtain ⟨wo, hwo⟩ : ∃ wo : World, wo = wr := ⟨_, rfl⟩
      rw [← hwo] at h1 hS hbel
      go_loopw [3, 5] (fun o i wq => ∃ m : Nat, ∃ v : Value, m ≤ 6 ∧ i = .int .i64 m ∧ o = v ∧ Sl wq (w.heap.size + 1) 51 2 v (poN f (n * 6 + m)) (poF f (n * 6 + m)) ∧ wq.heap[w.heap.size]? = some (.cells (arr 24 f) 28 (0, 0)) ∧ Below w.heap.size w wq) (fun _ i _ => 6 - (intOf i).toNat)
      case atStart => exact ⟨0, _, by omega, rfl, rfl, hwo ▸ hS, hwo ▸ h1, hwo ▸ hbel⟩
      case round =>
        clear h1 hbel hS hwo
        obtain ⟨m, v, hm6, rfl, rfl, hS, h1, hbel⟩ := hrel
        have hsz := row_lt h1
        have hN := poN_le f (n * 6 + m)
        by_cases hlt2 : m < 6
        · have hlt2' : (m : Int) < 6 := by omega
          have e1 : (n * 6 + m) / 6 = n := by omega
          have e2 : (n * 6 + m) % 6 = m := by omega
          cases hc : canF f n m with
          | true =>
            have HC : Hid _ := hc
            have HS : Hid (poN f (n * 6 + (m + 1)) = poN f (n * 6 + m) + 1 ∧ poF f (n * 6 + (m + 1)) = app (poF f (n * 6 + m)) (poN f (n * 6 + m) * 2) (fun j => if j = 0 then (n : Int) else m)) := by
              have := po_yes (f := f) (q := n * 6 + m) (by rw [e1, e2]; exact hc)
              rw [e1, e2] at this
              exact this
            have hB : ∀ W : World, (W.alloc (.cells #[.int .i64 n, .int .i64 m] 51)).heap[W.heap.size]? = some (.cells (arr 2 fun j => if j = 0 then (n : Int) else m) 51 (0, 0)) := fun W => by rw [arr_two]; exact heap_new rfl
            have HB : Hid _ := hB
            clear hc hB e1 e2
            go_wp2_with first
              | (with_reducible refine wpList_loadW rfl _ _ rfl _ rfl h1 agg28 size28 ?_)
              | (go_at_call 53; (with_reducible refine (l2Can_any f hf n m (by omega) (by omega) _).mono ?_); rw [HC.out]; rintro e w1 ⟨rfl, hb1⟩; replace hbel := hbel.trans (hb1.mono hbel.size); replace h1 := row_keep hb1 h1; replace hS := hS.keep hb1; have hz := row_lt h1; clear hb1)
              | ((with_reducible refine wpList_appendS slP (by omega) rfl _ _ rfl rfl (hS.keep ((Below.refl _ _).alloc (Nat.le_refl _) _)) rfl (HB.out _) (by omega) (by omega) (by unfold maxLen; omega) (by omega) (by simp; omega) ?_); intro v2 w2 hS2 hb2)
            go_roundw
            case rel =>
              refine ⟨m + 1, v2, by omega, by go_num, rfl, ?_, row_kept hb2 (row_alloc h1) (by omega), hbel.trans (((Below.refl _ _).alloc (Nat.le_of_lt hz) _).trans (hb2.mono (by omega)))⟩
              rw [HS.out.1, HS.out.2]
              exact hS2.congr rfl fun j hj => by simp only [Nat.zero_add]
            case measure => simp [intOf]; omega
          | false =>
            have HC : Hid _ := hc
            have HS : Hid (poN f (n * 6 + (m + 1)) = poN f (n * 6 + m) ∧ poF f (n * 6 + (m + 1)) = poF f (n * 6 + m)) := po_no (f := f) (q := n * 6 + m) (by rw [e1, e2]; exact hc)
            clear hc e1 e2
            go_wp2_with first
              | (with_reducible refine wpList_loadW rfl _ _ rfl _ rfl h1 agg28 size28 ?_)
              | (go_at_call 53; (with_reducible refine (l2Can_any f hf n m (by omega) (by omega) _).mono ?_); rw [HC.out]; rintro e w1 ⟨rfl, hb1⟩; replace hbel := hbel.trans (hb1.mono hbel.size); replace h1 := row_keep hb1 h1; replace hS := hS.keep hb1; clear hb1)
            go_roundw
            case rel => exact ⟨m + 1, _, by omega, by go_num, rfl, by rw [HS.out.1, HS.out.2]; exact hS, h1, hbel⟩
            case measure => simp [intOf]; omega
        · obtain rfl : m = 6 := by omega
          go_wp2_with fail
          go_roundw
          case rel => exact ⟨n + 1, _, by omega, by go_num, rfl, by rw [show (n + 1) * 6 = n * 6 + 6 by omega]; exact hS, h1, hbel⟩
          case measure => simp [intOf]; omega
    · obtain rfl : n = 6 := by omega
      go_wp2_with fail
      go_ret
      exact ⟨_, rfl, hS.lower (by omega), hbel⟩
def pofN (f : Nat → Int) : Nat := if rackB f = true then poN f 36 else 0
def pofF (f : Nat → Int) : Nat → Int := if rackB f = true then poF f 36 else fun _ => 0
theorem pofN_le (f : Nat → Int) : pofN f ≤ 1000000 := by
  unfold pofN
  split
  · have := poN_le f 36; omega
  · omega
theorem specPoursOf_any (f : Nat → Int) (w : World) : Calls Try.prog 21 #[.agg (arr 24 f)] w (RetSlB w 51 2 (pofN f) (pofF f) (rackB f)) := by
  have h1 : (w.alloc (.cells (arr 24 f) 28)).heap[w.heap.size]? = some (.cells (arr 24 f) 28 (0, 0))   := heap_new rfl
  have hbel : Below w.heap.size w (w.alloc (.cells (arr 24 f) 28)) := (Below.refl _ _).alloc (by simp) _
  cases hf : rackB f with
  | false =>
    have HF : Hid _ := hf
    rw [show pofN f = 0 from if_neg (by simp [hf]), show pofF f = (fun _ => 0) from if_neg (by simp [hf])]
    clear hf
    go_enter Try.func21, Try.ntmps21
    go_wp2_with first
      | (with_reducible refine wpList_loadW rfl _ _ rfl _ rfl h1 agg24r size24r ?_)
      | (go_at_call 43; (with_reducible refine (l2Rack_any _ _).mono ?_); rw [HF.out]; rintro e w1 ⟨rfl, hb1⟩; replace hbel := hbel.trans (hb1.mono hbel.size); replace h1 := row_keep hb1 h1; clear hb1)
      | (go_at_call 58; (with_reducible refine (l2Pours_any f HF.out _).mono ?_); rintro e w1 ⟨v, rfl, hS, hb1⟩; have hz := hbel.size; replace hbel := hbel.trans (hb1.mono hbel.size))
    go_ret2
    first
      | exact ⟨_, rfl, hS.lower hz, hbel⟩
      | exact ⟨_, rfl, Sl.made hbel.size, hbel.alloc hbel.size _⟩
  | true =>
    have HF : Hid _ := hf
    rw [show pofN f = poN f 36 from if_pos hf, show pofF f = poF f 36 from if_pos hf]
    clear hf
    go_enter Try.func21, Try.ntmps21
    go_wp2_with first
      | (with_reducible refine wpList_loadW rfl _ _ rfl _ rfl h1 agg24r size24r ?_)
      | (go_at_call 43; (with_reducible refine (l2Rack_any _ _).mono ?_); rw [HF.out]; rintro e w1 ⟨rfl, hb1⟩; replace hbel := hbel.trans (hb1.mono hbel.size); replace h1 := row_keep hb1 h1; clear hb1)
      | (go_at_call 58; (with_reducible refine (l2Pours_any f HF.out _).mono ?_); rintro e w1 ⟨v, rfl, hS, hb1⟩; have hz := hbel.size; replace hbel := hbel.trans (hb1.mono hbel.size))
    go_ret2
    first
      | exact ⟨_, rfl, hS.lower hz, hbel⟩
      | exact ⟨_, rfl, Sl.made hbel.size, hbel.alloc hbel.size _⟩
theorem implPoursOf_any (f : Nat → Int) (w : World) : Calls Try.prog 22 #[.agg (arr 24 f)] w (RetSlB w 51 2 (pofN f) (pofF f) (rackB f)) := by
  have h1 : (w.alloc (.cells (arr 24 f) 28)).heap[w.heap.size]? = some (.cells (arr 24 f) 28 (0, 0))   := heap_new rfl
  have hbel : Below w.heap.size w (w.alloc (.cells (arr 24 f) 28)) := (Below.refl _ _).alloc (by simp) _
  cases hf : rackB f with
  | false =>
    have HF : Hid _ := hf
    rw [show pofN f = 0 from if_neg (by simp [hf]), show pofF f = (fun _ => 0) from if_neg (by simp [hf])]
    clear hf
    go_enter Try.func22, Try.ntmps22
    go_wp2_with first
      | (with_reducible refine wpList_loadW rfl _ _ rfl _ rfl h1 agg24r size24r ?_)
      | (go_at_call 51; (with_reducible refine (IsRack_any _ _).mono ?_); rw [HF.out]; rintro e w1 ⟨rfl, hb1⟩; replace hbel := hbel.trans (hb1.mono hbel.size); replace h1 := row_keep hb1 h1; clear hb1)
      | (go_at_call 59; (with_reducible refine (pours_any f HF.out _).mono ?_); rintro e w1 ⟨v, rfl, hS, hb1⟩; have hz := hbel.size; replace hbel := hbel.trans (hb1.mono hbel.size))
    go_ret2
    first
      | exact ⟨_, rfl, hS.lower hz, hbel⟩
      | exact ⟨_, rfl, Sl.nil, hbel⟩
  | true =>
    have HF : Hid _ := hf
    rw [show pofN f = poN f 36 from if_pos hf, show pofF f = poF f 36 from if_pos hf]
    clear hf
    go_enter Try.func22, Try.ntmps22
    go_wp2_with first
      | (with_reducible refine wpList_loadW rfl _ _ rfl _ rfl h1 agg24r size24r ?_)
      | (go_at_call 51; (with_reducible refine (IsRack_any _ _).mono ?_); rw [HF.out]; rintro e w1 ⟨rfl, hb1⟩; replace hbel := hbel.trans (hb1.mono hbel.size); replace h1 := row_keep hb1 h1; clear hb1)
      | (go_at_call 59; (with_reducible refine (pours_any f HF.out _).mono ?_); rintro e w1 ⟨v, rfl, hS, hb1⟩; have hz := hbel.size; replace hbel := hbel.trans (hb1.mono hbel.size))
    go_ret2
    first
      | exact ⟨_, rfl, hS.lower hz, hbel⟩
      | exact ⟨_, rfl, Sl.nil, hbel⟩
set_option linter.unusedVariables false in
set_option maxHeartbeats 1000000 in
theorem FnExactPoursOf_walk (x0 : Nat → Int) (hx0 : ∀ j, I64 (x0 j)) (w : World) : Calls Try.prog 6 #[.agg (arr 24 x0)] w fun e w' => e = .returned (.bool true) ∧ Below w.heap.size w w' := by
  have hr : (w.alloc (.cells (arr 24 x0) 25)).heap[w.heap.size]? = some (.cells (arr 24 x0) 25 (0, 0)) := heap_new rfl
  have hbel : Below w.heap.size w (w.alloc (.cells (arr 24 x0) 25)) := (Below.refl _ _).alloc (by simp) _
  have tok_S : True := trivial
  have tok_G : True := trivial
  have tok_M : True := trivial
  have hnb := pofN_le x0
  have HNB : Hid _ := hnb
  clear hnb
  go_enter Try.func6, Try.ntmps6
  go_wp2_with first
    | (with_reducible refine wpList_loadW rfl _ _ rfl _ rfl hr agg24l size24l ?_)
    | (go_at_call 14; (with_reducible refine (toRack_any _ _).mono ?_); (rintro e w1 ⟨rfl, hb1⟩; replace hbel := hbel.trans (hb1.mono hbel.size); replace hr := row_keep hb1 hr; (try replace hbS := hbS.trans (hb1.mono hbS.size)); (try replace hSG := hSG.keep hb1); (try replace hz3 := Nat.le_trans hz3 hb1.size); clear hb1))
    | (have _t := tok_S; (go_at_call 21; (with_reducible refine (specPoursOf_any _ _).mono ?_); (rintro e w1 ⟨v0, rfl, hS0, hb1⟩; replace hbel := hbel.trans (hb1.mono hbel.size); replace hr := row_keep hb1 hr; (try replace hbS := hbS.trans (hb1.mono hbS.size)); (try replace hSG := hSG.keep hb1); (try replace hz3 := Nat.le_trans hz3 hb1.size); have hbS := Below.refl w1.heap.size w1; clear hb1 _t tok_S)))
    | (have _t := tok_G; (go_at_call 22; (with_reducible refine (implPoursOf_any _ _).mono ?_); (rintro e w1 ⟨vG, rfl, hSG, hb1⟩; have hz0 := row_lt hr; have hz1 := hbel.size; have hz2 := hbS.size; replace hbel := hbel.trans (hb1.mono hbel.size); replace hr := row_keep hb1 hr; (try replace hbS := hbS.trans (hb1.mono hbS.size)); (try replace hSG := hSG.keep hb1); (try replace hz3 := Nat.le_trans hz3 hb1.size); have hz3 := hb1.size; clear hb1 _t tok_G)))
    | (go_at_call 22; (with_reducible refine (implPoursOf_any _ _).mono ?_); (rintro e w1 ⟨vH, rfl, hSH, hb1⟩; replace hbel := hbel.trans (hb1.mono hbel.size); replace hr := row_keep hb1 hr; (try replace hbS := hbS.trans (hb1.mono hbS.size)); (try replace hSG := hSG.keep hb1); (try replace hz3 := Nat.le_trans hz3 hb1.size); clear hb1))
    | (have _t := tok_M; (go_at_call 23; (with_reducible refine (eqP_same HNB.out _ hSG (hS0.keep hbS)).mono ?_); (rintro e w1 ⟨rfl, hb1⟩; replace hbel := hbel.trans (hb1.mono hbel.size); replace hr := row_keep hb1 hr; (try replace hbS := hbS.trans (hb1.mono hbS.size)); (try replace hSG := hSG.keep hb1); (try replace hz3 := Nat.le_trans hz3 hb1.size); clear hb1)))
    | (go_at_call 23; (with_reducible refine (eqP_same HNB.out _ hSH (hS0.keep hbS)).mono ?_); (rintro e w1 ⟨rfl, hb1⟩; replace hbel := hbel.trans (hb1.mono hbel.size); replace hr := row_keep hb1 hr; (try replace hbS := hbS.trans (hb1.mono hbS.size)); (try replace hSG := hSG.keep hb1); (try replace hz3 := Nat.le_trans hz3 hb1.size); clear hb1))
    | (have _t := tok_M; (go_at_call 24; (with_reducible refine (markP1 HNB.out _ hSG hz3).mono ?_); (rintro e w1 ⟨rfl, hSM, hb1⟩; clear hSG; have hSG := hSM; replace hbel := hbel.trans (hb1.mono hz1); replace hr := row_kept hb1 hr (by omega); replace hbS := hbS.trans (hb1.mono hz2); clear hb1 hSM _t tok_M)))
    | (go_at_call 25; (with_reducible refine (heldP1 HNB.out _ hSG).mono ?_); rintro e w1 ⟨rfl, rfl⟩)
  go_ret
  exact ⟨rfl, hbel⟩
end Go.Proofs.Ytbiplciklmagoaa
