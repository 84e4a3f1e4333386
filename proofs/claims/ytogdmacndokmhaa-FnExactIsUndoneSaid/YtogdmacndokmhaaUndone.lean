/- IsUndone and Pour: the program's and the reference's, and the laws. -/
import Derived.Test.YtogdmacndokmhaaPour
namespace Go.Proofs.Ytogdmacndokmhaa
set_option linter.unusedSimpArgs false
set_option linter.unusedVariables false
set_option maxRecDepth 20000
open Go.RowKit
def undR (f : Nat → Int) (i k : Int) : Bool × Bool := if rackB f = true ∧ (0 ≤ i ∧ i ≤ 5) ∧ (0 ≤ k ∧ k ≤ 5) ∧ canF f i.toNat k.toNat = true then (undF f i.toNat k.toNat, true) else (false, false)
theorem undR_bad {f : Nat → Int} {i k : Int} (h : ¬ (rackB f = true ∧ (0 ≤ i ∧ i ≤ 5) ∧ (0 ≤ k ∧ k ≤ 5) ∧ canF f i.toNat k.toNat = true)) : undR f i k = (false, false) := if_neg h
theorem undR_ok {f : Nat → Int} {i k : Int} (h : rackB f = true ∧ (0 ≤ i ∧ i ≤ 5) ∧ (0 ≤ k ∧ k ≤ 5) ∧ canF f i.toNat k.toNat = true) : undR f i k = (undF f i.toNat k.toNat, true) := if_pos h
theorem specUnd_any (f : Nat → Int) (i k : Int) (w : World) : Calls Try.prog 39 #[.agg (arr 24 f), .int .i64 i, .int .i64 k] w fun e w' => e = .returned (.tuple #[.bool (undR f i k).1, .bool (undR f i k).2]) ∧ Below w.heap.size w w' := by
  have h1 : (w.alloc (.cells (arr 24 f) 38)).heap[w.heap.size]? = some (.cells (arr 24 f) 38 (0, 0))   := heap_new rfl
  have hbel : Below w.heap.size w (w.alloc (.cells (arr 24 f) 38)) := (Below.refl _ _).alloc (by simp) _
  cases hf : rackB f with
  | false =>
    rw [undR_bad (by simp [hf])]
    have HF : Hid _ := hf
    have HI : Hid (1 = 1) := rfl
    have HK : Hid (1 = 1) := rfl
    have HC : Hid (1 = 1) := rfl
    clear hf
    go_enter Try.func39, Try.ntmps39
    go_wp2_with first
      | (with_reducible refine wpList_loadW rfl _ _ rfl _ rfl h1 agg24r size24r ?_)
      | (with_reducible refine wpList_loadWG rfl _ _ rfl _ rfl h1 agg24r size24r ?_)
      | (go_at_call 57; (with_reducible refine (l2Rack_any _ _).mono ?_); rw [HF.out]; rintro e w1 ⟨rfl, hb1⟩; replace hbel := hbel.trans (hb1.mono hbel.size); replace h1 := row_keep hb1 h1; clear hb1)
      | (go_at_call 47; (with_reducible refine (l2Place_any _ _).mono ?_); (first | rw [HI.out] | rw [HK.out]); rintro e w' ⟨rfl, rfl⟩)
      | (go_at_call 58; (with_reducible refine (l2Can_any f HF.out n m hn hm _).mono ?_); rw [HC.out]; rintro e w1 ⟨rfl, hb1⟩; replace hbel := hbel.trans (hb1.mono hbel.size); replace h1 := row_keep hb1 h1; clear hb1)
      | (go_at_call 80; (with_reducible refine (l5Undone_any f HF.out n m hn hm HC.out _).mono ?_); rintro e w1 ⟨rfl, hb1⟩; replace hbel := hbel.trans (hb1.mono hbel.size); replace h1 := row_keep hb1 h1; clear hb1)
    go_ret2
    exact ⟨rfl, hbel⟩
  | true =>
    have HF : Hid _ := hf
    by_cases hi : 0 ≤ i ∧ i ≤ 5
    · have HI : Hid _ := show (decide (0 ≤ i) && decide (i ≤ 5)) = true by simpa using hi
      by_cases hk : 0 ≤ k ∧ k ≤ 5
      · have HK : Hid _ := show (decide (0 ≤ k) && decide (k ≤ 5)) = true by simpa using hk
        obtain ⟨n, rfl⟩ : ∃ n : Nat, i = n := ⟨i.toNat, by omega⟩
        obtain ⟨m, rfl⟩ : ∃ m : Nat, k = m := ⟨k.toNat, by omega⟩
        have hn : n ≤ 5 := by omega
        have hm : m ≤ 5 := by omega
        cases hc : canF f n m with
        | false =>
          rw [undR_bad (by simp [hc])]
          have HC : Hid _ := hc
          clear hf hi hk hc
          go_enter Try.func39, Try.ntmps39
          go_wp2_with first
            | (with_reducible refine wpList_loadW rfl _ _ rfl _ rfl h1 agg24r size24r ?_)
            | (with_reducible refine wpList_loadWG rfl _ _ rfl _ rfl h1 agg24r size24r ?_)
            | (go_at_call 57; (with_reducible refine (l2Rack_any _ _).mono ?_); rw [HF.out]; rintro e w1 ⟨rfl, hb1⟩; replace hbel := hbel.trans (hb1.mono hbel.size); replace h1 := row_keep hb1 h1; clear hb1)
            | (go_at_call 47; (with_reducible refine (l2Place_any _ _).mono ?_); (first | rw [HI.out] | rw [HK.out]); rintro e w' ⟨rfl, rfl⟩)
            | (go_at_call 58; (with_reducible refine (l2Can_any f HF.out n m hn hm _).mono ?_); rw [HC.out]; rintro e w1 ⟨rfl, hb1⟩; replace hbel := hbel.trans (hb1.mono hbel.size); replace h1 := row_keep hb1 h1; clear hb1)
            | (go_at_call 80; (with_reducible refine (l5Undone_any f HF.out n m hn hm HC.out _).mono ?_); rintro e w1 ⟨rfl, hb1⟩; replace hbel := hbel.trans (hb1.mono hbel.size); replace h1 := row_keep hb1 h1; clear hb1)
          go_ret2
          exact ⟨rfl, hbel⟩
        | true =>
          rw [undR_ok (by simp [hf, hi, hk, hc])]
          simp only [Int.toNat_natCast]
          have HC : Hid _ := hc
          have hnm := (of_decide_eq_true hc).1
          clear hf hi hk hc
          go_enter Try.func39, Try.ntmps39
          go_wp2_with first
            | (with_reducible refine wpList_loadW rfl _ _ rfl _ rfl h1 agg24r size24r ?_)
            | (with_reducible refine wpList_loadWG rfl _ _ rfl _ rfl h1 agg24r size24r ?_)
            | (go_at_call 57; (with_reducible refine (l2Rack_any _ _).mono ?_); rw [HF.out]; rintro e w1 ⟨rfl, hb1⟩; replace hbel := hbel.trans (hb1.mono hbel.size); replace h1 := row_keep hb1 h1; clear hb1)
            | (go_at_call 47; (with_reducible refine (l2Place_any _ _).mono ?_); (first | rw [HI.out] | rw [HK.out]); rintro e w' ⟨rfl, rfl⟩)
            | (go_at_call 58; (with_reducible refine (l2Can_any f HF.out n m hn hm _).mono ?_); rw [HC.out]; rintro e w1 ⟨rfl, hb1⟩; replace hbel := hbel.trans (hb1.mono hbel.size); replace h1 := row_keep hb1 h1; clear hb1)
            | (go_at_call 80; (with_reducible refine (l5Undone_any f HF.out n m hn hm HC.out _).mono ?_); rintro e w1 ⟨rfl, hb1⟩; replace hbel := hbel.trans (hb1.mono hbel.size); replace h1 := row_keep hb1 h1; clear hb1)
          go_ret2
          exact ⟨rfl, hbel⟩
      · rw [undR_bad (by simp [hk])]
        have HK : Hid _ := show (decide (0 ≤ k) && decide (k ≤ 5)) = false by simpa using hk
        have HC : Hid (1 = 1) := rfl
        clear hf hi hk
        go_enter Try.func39, Try.ntmps39
        go_wp2_with first
          | (with_reducible refine wpList_loadW rfl _ _ rfl _ rfl h1 agg24r size24r ?_)
          | (with_reducible refine wpList_loadWG rfl _ _ rfl _ rfl h1 agg24r size24r ?_)
          | (go_at_call 57; (with_reducible refine (l2Rack_any _ _).mono ?_); rw [HF.out]; rintro e w1 ⟨rfl, hb1⟩; replace hbel := hbel.trans (hb1.mono hbel.size); replace h1 := row_keep hb1 h1; clear hb1)
          | (go_at_call 47; (with_reducible refine (l2Place_any _ _).mono ?_); (first | rw [HI.out] | rw [HK.out]); rintro e w' ⟨rfl, rfl⟩)
          | (go_at_call 58; (with_reducible refine (l2Can_any f HF.out n m hn hm _).mono ?_); rw [HC.out]; rintro e w1 ⟨rfl, hb1⟩; replace hbel := hbel.trans (hb1.mono hbel.size); replace h1 := row_keep hb1 h1; clear hb1)
          | (go_at_call 80; (with_reducible refine (l5Undone_any f HF.out n m hn hm HC.out _).mono ?_); rintro e w1 ⟨rfl, hb1⟩; replace hbel := hbel.trans (hb1.mono hbel.size); replace h1 := row_keep hb1 h1; clear hb1)
        go_ret2
        exact ⟨rfl, hbel⟩
    · rw [undR_bad (by simp [hi])]
      have HI : Hid _ := show (decide (0 ≤ i) && decide (i ≤ 5)) = false by simpa using hi
      obtain ⟨b, hb⟩ : ∃ b, (decide (0 ≤ k) && decide (k ≤ 5)) = b := ⟨_, rfl⟩
      have HK : Hid _ := hb
      have HC : Hid (1 = 1) := rfl
      clear hf hi hb
      go_enter Try.func39, Try.ntmps39
      go_wp2_with first
        | (with_reducible refine wpList_loadW rfl _ _ rfl _ rfl h1 agg24r size24r ?_)
        | (with_reducible refine wpList_loadWG rfl _ _ rfl _ rfl h1 agg24r size24r ?_)
        | (go_at_call 57; (with_reducible refine (l2Rack_any _ _).mono ?_); rw [HF.out]; rintro e w1 ⟨rfl, hb1⟩; replace hbel := hbel.trans (hb1.mono hbel.size); replace h1 := row_keep hb1 h1; clear hb1)
        | (go_at_call 47; (with_reducible refine (l2Place_any _ _).mono ?_); (first | rw [HI.out] | rw [HK.out]); rintro e w' ⟨rfl, rfl⟩)
        | (go_at_call 58; (with_reducible refine (l2Can_any f HF.out n m hn hm _).mono ?_); rw [HC.out]; rintro e w1 ⟨rfl, hb1⟩; replace hbel := hbel.trans (hb1.mono hbel.size); replace h1 := row_keep hb1 h1; clear hb1)
        | (go_at_call 80; (with_reducible refine (l5Undone_any f HF.out n m hn hm HC.out _).mono ?_); rintro e w1 ⟨rfl, hb1⟩; replace hbel := hbel.trans (hb1.mono hbel.size); replace h1 := row_keep hb1 h1; clear hb1)
      go_ret2
      exact ⟨rfl, hbel⟩
theorem implUnd_any (f : Nat → Int) (i k : Int) (w : World) : Calls Try.prog 40 #[.agg (arr 24 f), .int .i64 i, .int .i64 k] w fun e w' => e = .returned (.tuple #[.bool (undR f i k).1, .bool (undR f i k).2]) ∧ Below w.heap.size w w' := by
  have h1 : (w.alloc (.cells (arr 24 f) 38)).heap[w.heap.size]? = some (.cells (arr 24 f) 38 (0, 0))   := heap_new rfl
  have hbel : Below w.heap.size w (w.alloc (.cells (arr 24 f) 38)) := (Below.refl _ _).alloc (by simp) _
  have h5 : ((w.alloc (.cells (arr 24 f) 38)).alloc (.cells #[.int .i64 i, .int .i64 k] 3)).heap[w.heap.size + 1]? = some (.cells #[.int .i64 i, .int .i64 k] 3 (0, 0)) := heap_new (by simp)
  cases hf : rackB f with
  | false =>
    rw [undR_bad (by simp [hf])]
    have HF : Hid _ := hf
    have HI : Hid (1 = 1) := rfl
    have HK : Hid (1 = 1) := rfl
    have HC : Hid (1 = 1) := rfl
    clear hf
    go_enter Try.func40, Try.ntmps40
    go_wp2_with first
      | (with_reducible refine wpList_loadW rfl _ _ rfl _ rfl h1 agg24r size24r ?_)
      | (with_reducible refine wpList_loadWG rfl _ _ rfl _ rfl h1 agg24r size24r ?_)
      | (go_at_call 60; (with_reducible refine (isAt_bad f HF.out _ _).mono ?_); rintro e w1 ⟨rfl, hb1⟩; replace hb1 := below_of_alloc hb1; replace hbel := hbel.trans (hb1.mono hbel.size); replace h1 := row_keep hb1 h1; clear hb1)
      | (go_at_call 60; (with_reducible refine (isAt_two f HF.out _ _ _ h5).mono ?_); rw [HI.out, HK.out]; rintro e w1 ⟨rfl, hb1⟩; replace hb1 := below_of_alloc hb1; replace hbel := hbel.trans (hb1.mono hbel.size); replace h1 := row_keep hb1 h1; clear hb1)
      | (go_at_call 61; (with_reducible refine (canPour_any f HF.out n m hn hm _).mono ?_); rw [HC.out]; rintro e w1 ⟨rfl, hb1⟩; replace hbel := hbel.trans (hb1.mono hbel.size); replace h1 := row_keep hb1 h1; clear hb1)
      | (go_at_call 81; (with_reducible refine (isUndone_any f HF.out n m hn hm HC.out _).mono ?_); rintro e w1 ⟨rfl, hb1⟩; replace hbel := hbel.trans (hb1.mono hbel.size); replace h1 := row_keep hb1 h1; clear hb1)
    go_ret2
    exact ⟨rfl, hbel⟩
  | true =>
    have HF : Hid _ := hf
    by_cases hi : 0 ≤ i ∧ i ≤ 5
    · have HI : Hid _ := show (decide (0 ≤ i) && decide (i ≤ 5)) = true by simpa using hi
      by_cases hk : 0 ≤ k ∧ k ≤ 5
      · have HK : Hid _ := show (decide (0 ≤ k) && decide (k ≤ 5)) = true by simpa using hk
        obtain ⟨n, rfl⟩ : ∃ n : Nat, i = n := ⟨i.toNat, by omega⟩
        obtain ⟨m, rfl⟩ : ∃ m : Nat, k = m := ⟨k.toNat, by omega⟩
        have hn : n ≤ 5 := by omega
        have hm : m ≤ 5 := by omega
        cases hc : canF f n m with
        | false =>
          rw [undR_bad (by simp [hc])]
          have HC : Hid _ := hc
          clear hf hi hk hc
          go_enter Try.func40, Try.ntmps40
          go_wp2_with first
            | (with_reducible refine wpList_loadW rfl _ _ rfl _ rfl h1 agg24r size24r ?_)
            | (with_reducible refine wpList_loadWG rfl _ _ rfl _ rfl h1 agg24r size24r ?_)
            | (go_at_call 60; (with_reducible refine (isAt_bad f HF.out _ _).mono ?_); rintro e w1 ⟨rfl, hb1⟩; replace hb1 := below_of_alloc hb1; replace hbel := hbel.trans (hb1.mono hbel.size); replace h1 := row_keep hb1 h1; clear hb1)
            | (go_at_call 60; (with_reducible refine (isAt_two f HF.out _ _ _ h5).mono ?_); rw [HI.out, HK.out]; rintro e w1 ⟨rfl, hb1⟩; replace hb1 := below_of_alloc hb1; replace hbel := hbel.trans (hb1.mono hbel.size); replace h1 := row_keep hb1 h1; clear hb1)
            | (go_at_call 61; (with_reducible refine (canPour_any f HF.out n m hn hm _).mono ?_); rw [HC.out]; rintro e w1 ⟨rfl, hb1⟩; replace hbel := hbel.trans (hb1.mono hbel.size); replace h1 := row_keep hb1 h1; clear hb1)
            | (go_at_call 81; (with_reducible refine (isUndone_any f HF.out n m hn hm HC.out _).mono ?_); rintro e w1 ⟨rfl, hb1⟩; replace hbel := hbel.trans (hb1.mono hbel.size); replace h1 := row_keep hb1 h1; clear hb1)
          go_ret2
          exact ⟨rfl, hbel⟩
        | true =>
          rw [undR_ok (by simp [hf, hi, hk, hc])]
          simp only [Int.toNat_natCast]
          have HC : Hid _ := hc
          have hnm := (of_decide_eq_true hc).1
          clear hf hi hk hc
          go_enter Try.func40, Try.ntmps40
          go_wp2_with first
            | (with_reducible refine wpList_loadW rfl _ _ rfl _ rfl h1 agg24r size24r ?_)
            | (with_reducible refine wpList_loadWG rfl _ _ rfl _ rfl h1 agg24r size24r ?_)
            | (go_at_call 60; (with_reducible refine (isAt_bad f HF.out _ _).mono ?_); rintro e w1 ⟨rfl, hb1⟩; replace hb1 := below_of_alloc hb1; replace hbel := hbel.trans (hb1.mono hbel.size); replace h1 := row_keep hb1 h1; clear hb1)
            | (go_at_call 60; (with_reducible refine (isAt_two f HF.out _ _ _ h5).mono ?_); rw [HI.out, HK.out]; rintro e w1 ⟨rfl, hb1⟩; replace hb1 := below_of_alloc hb1; replace hbel := hbel.trans (hb1.mono hbel.size); replace h1 := row_keep hb1 h1; clear hb1)
            | (go_at_call 61; (with_reducible refine (canPour_any f HF.out n m hn hm _).mono ?_); rw [HC.out]; rintro e w1 ⟨rfl, hb1⟩; replace hbel := hbel.trans (hb1.mono hbel.size); replace h1 := row_keep hb1 h1; clear hb1)
            | (go_at_call 81; (with_reducible refine (isUndone_any f HF.out n m hn hm HC.out _).mono ?_); rintro e w1 ⟨rfl, hb1⟩; replace hbel := hbel.trans (hb1.mono hbel.size); replace h1 := row_keep hb1 h1; clear hb1)
          go_ret2
          exact ⟨rfl, hbel⟩
      · rw [undR_bad (by simp [hk])]
        have HK : Hid _ := show (decide (0 ≤ k) && decide (k ≤ 5)) = false by simpa using hk
        have HC : Hid (1 = 1) := rfl
        clear hf hi hk
        go_enter Try.func40, Try.ntmps40
        go_wp2_with first
          | (with_reducible refine wpList_loadW rfl _ _ rfl _ rfl h1 agg24r size24r ?_)
          | (with_reducible refine wpList_loadWG rfl _ _ rfl _ rfl h1 agg24r size24r ?_)
          | (go_at_call 60; (with_reducible refine (isAt_bad f HF.out _ _).mono ?_); rintro e w1 ⟨rfl, hb1⟩; replace hb1 := below_of_alloc hb1; replace hbel := hbel.trans (hb1.mono hbel.size); replace h1 := row_keep hb1 h1; clear hb1)
          | (go_at_call 60; (with_reducible refine (isAt_two f HF.out _ _ _ h5).mono ?_); rw [HI.out, HK.out]; rintro e w1 ⟨rfl, hb1⟩; replace hb1 := below_of_alloc hb1; replace hbel := hbel.trans (hb1.mono hbel.size); replace h1 := row_keep hb1 h1; clear hb1)
          | (go_at_call 61; (with_reducible refine (canPour_any f HF.out n m hn hm _).mono ?_); rw [HC.out]; rintro e w1 ⟨rfl, hb1⟩; replace hbel := hbel.trans (hb1.mono hbel.size); replace h1 := row_keep hb1 h1; clear hb1)
          | (go_at_call 81; (with_reducible refine (isUndone_any f HF.out n m hn hm HC.out _).mono ?_); rintro e w1 ⟨rfl, hb1⟩; replace hbel := hbel.trans (hb1.mono hbel.size); replace h1 := row_keep hb1 h1; clear hb1)
        go_ret2
        exact ⟨rfl, hbel⟩
    · rw [undR_bad (by simp [hi])]
      have HI : Hid _ := show (decide (0 ≤ i) && decide (i ≤ 5)) = false by simpa using hi
      obtain ⟨b, hb⟩ : ∃ b, (decide (0 ≤ k) && decide (k ≤ 5)) = b := ⟨_, rfl⟩
      have HK : Hid _ := hb
      have HC : Hid (1 = 1) := rfl
      clear hf hi hb
      go_enter Try.func40, Try.ntmps40
      go_wp2_with first
        | (with_reducible refine wpList_loadW rfl _ _ rfl _ rfl h1 agg24r size24r ?_)
        | (with_reducible refine wpList_loadWG rfl _ _ rfl _ rfl h1 agg24r size24r ?_)
        | (go_at_call 60; (with_reducible refine (isAt_bad f HF.out _ _).mono ?_); rintro e w1 ⟨rfl, hb1⟩; replace hb1 := below_of_alloc hb1; replace hbel := hbel.trans (hb1.mono hbel.size); replace h1 := row_keep hb1 h1; clear hb1)
        | (go_at_call 60; (with_reducible refine (isAt_two f HF.out _ _ _ h5).mono ?_); rw [HI.out, HK.out]; rintro e w1 ⟨rfl, hb1⟩; replace hb1 := below_of_alloc hb1; replace hbel := hbel.trans (hb1.mono hbel.size); replace h1 := row_keep hb1 h1; clear hb1)
        | (go_at_call 61; (with_reducible refine (canPour_any f HF.out n m hn hm _).mono ?_); rw [HC.out]; rintro e w1 ⟨rfl, hb1⟩; replace hbel := hbel.trans (hb1.mono hbel.size); replace h1 := row_keep hb1 h1; clear hb1)
        | (go_at_call 81; (with_reducible refine (isUndone_any f HF.out n m hn hm HC.out _).mono ?_); rintro e w1 ⟨rfl, hb1⟩; replace hbel := hbel.trans (hb1.mono hbel.size); replace h1 := row_keep hb1 h1; clear hb1)
      go_ret2
      exact ⟨rfl, hbel⟩
set_option linter.unusedVariables false in
theorem FnExactIsUndone_walk (x0 : Nat → Int) (hx0 : ∀ j, I64 (x0 j)) (x1 : Int) (hx1 : I64 x1) (x2 : Int) (hx2 : I64 x2) (w : World) : Calls Try.prog 12 #[.agg (arr 24 x0), .int .i64 x1, .int .i64 x2] w fun e w' => e = .returned (.bool true) ∧ Below w.heap.size w w' := by
  have hr0 : (w.alloc (.cells (arr 24 x0) 35)).heap[w.heap.size]? = some (.cells (arr 24 x0) 35 (0, 0)) := by rw [heap_new (by simp)]
  have hbel : Below w.heap.size w (w.alloc (.cells (arr 24 x0) 35)) := ((Below.refl _ _).alloc (by simp) _)
  go_enter Try.func12, Try.ntmps12
  go_wp2_with first
    | (with_reducible refine wpList_loadW rfl _ _ rfl _ rfl hr0 agg24l size24l ?_)
    | (go_at_call 20; (with_reducible refine (toRack_any _ _).mono ?_); (rintro e w1 ⟨rfl, hb1⟩; replace hbel := hbel.trans (hb1.mono hbel.size); replace hr0 := row_keep hb1 hr0; clear hb1))
    | (go_at_call 39; (with_reducible refine (specUnd_any _ _ _ _).mono ?_); (rintro e w1 ⟨rfl, hb1⟩; replace hbel := hbel.trans (hb1.mono hbel.size); replace hr0 := row_keep hb1 hr0; clear hb1))
    | (go_at_call 40; (with_reducible refine (implUnd_any _ _ _ _).mono ?_); (rintro e w1 ⟨rfl, hb1⟩; replace hbel := hbel.trans (hb1.mono hbel.size); replace hr0 := row_keep hb1 hr0; clear hb1))
  go_ret
  exact ⟨rfl, hbel⟩
/-! ### Pour -/
def pouR (f : Nat → Int) (i k : Int) : (Nat → Int) × Int × Bool := if rackB f = true ∧ (0 ≤ i ∧ i ≤ 5) ∧ (0 ≤ k ∧ k ≤ 5) ∧ canF f i.toNat k.toNat = true then (pourF f i.toNat k.toNat, ((mvd f i.toNat k.toNat : Nat) : Int), true) else (fun _ => 0, 0, false)
theorem pouR_bad {f : Nat → Int} {i k : Int} (h : ¬ (rackB f = true ∧ (0 ≤ i ∧ i ≤ 5) ∧ (0 ≤ k ∧ k ≤ 5) ∧ canF f i.toNat k.toNat = true)) : pouR f i k = (fun _ => 0, 0, false) := if_neg h
theorem pouR_ok {f : Nat → Int} {i k : Int} (h : rackB f = true ∧ (0 ≤ i ∧ i ≤ 5) ∧ (0 ≤ k ∧ k ≤ 5) ∧ canF f i.toNat k.toNat = true) : pouR f i k = (pourF f i.toNat k.toNat, ((mvd f i.toNat k.toNat : Nat) : Int), true) := if_pos h
end Go.Proofs.Ytogdmacndokmhaa
