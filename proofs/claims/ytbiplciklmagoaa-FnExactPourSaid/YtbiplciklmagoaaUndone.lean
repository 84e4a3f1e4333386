/- IsUndone and Pour: the program's and the reference's, and the laws. -/
import Derived.Test.YtbiplciklmagoaaPour
namespace Go.Proofs.Ytbiplciklmagoaa
set_option linter.unusedSimpArgs false
set_option linter.unusedVariables false
set_option maxRecDepth 20000
open Go.RowKit
def undR (f : Nat → Int) (i k : Int) : Bool × Bool := if rackB f = true ∧ (0 ≤ i ∧ i ≤ 5) ∧ (0 ≤ k ∧ k ≤ 5) ∧ canF f i.toNat k.toNat = true then (undF f i.toNat k.toNat, true) else (false, false)
theorem undR_bad {f : Nat → Int} {i k : Int} (h : ¬ (rackB f = true ∧ (0 ≤ i ∧ i ≤ 5) ∧ (0 ≤ k ∧ k ≤ 5) ∧ canF f i.toNat k.toNat = true)) : undR f i k = (false, false) := if_neg h
theorem undR_ok {f : Nat → Int} {i k : Int} (h : rackB f = true ∧ (0 ≤ i ∧ i ≤ 5) ∧ (0 ≤ k ∧ k ≤ 5) ∧ canF f i.toNat k.toNat = true) : undR f i k = (undF f i.toNat k.toNat, true) := if_pos h
def pouR (f : Nat → Int) (i k : Int) : (Nat → Int) × Int × Bool := if rackB f = true ∧ (0 ≤ i ∧ i ≤ 5) ∧ (0 ≤ k ∧ k ≤ 5) ∧ canF f i.toNat k.toNat = true then (pourF f i.toNat k.toNat, ((mvd f i.toNat k.toNat : Nat) : Int), true) else (fun _ => 0, 0, false)
theorem pouR_bad {f : Nat → Int} {i k : Int} (h : ¬ (rackB f = true ∧ (0 ≤ i ∧ i ≤ 5) ∧ (0 ≤ k ∧ k ≤ 5) ∧ canF f i.toNat k.toNat = true)) : pouR f i k = (fun _ => 0, 0, false) := if_neg h
theorem pouR_ok {f : Nat → Int} {i k : Int} (h : rackB f = true ∧ (0 ≤ i ∧ i ≤ 5) ∧ (0 ≤ k ∧ k ≤ 5) ∧ canF f i.toNat k.toNat = true) : pouR f i k = (pourF f i.toNat k.toNat, ((mvd f i.toNat k.toNat : Nat) : Int), true) := if_pos h
theorem specPour_any (f : Nat → Int) (i k : Int) (w : World) : Calls Try.prog 18 #[.agg (arr 24 f), .int .i64 i, .int .i64 k] w fun e w' => e = .returned (.tuple #[.agg (arr 24 (pouR f i k).1), .int .i64 (pouR f i k).2.1, .bool (pouR f i k).2.2]) ∧ Below w.heap.size w w' := by
  have h1 : ((w.alloc (.cells (arr 24 f) 28)).alloc (.cells (arr 24 fun _ => 0) 28)).heap[w.heap.size]? = some (.cells (arr 24 f) 28 (0, 0)) := by rw [heap_old (by simp), heap_new rfl]
  have h2 : ((w.alloc (.cells (arr 24 f) 28)).alloc (.cells (arr 24 fun _ => 0) 28)).heap[w.heap.size + 1]? = some (.cells (arr 24 fun _ => 0) 28 (0, 0)) := heap_new (by simp)
  have hbel : Below w.heap.size w ((w.alloc (.cells (arr 24 f) 28)).alloc (.cells (arr 24 fun _ => 0) 28)) := ((Below.refl _ _).alloc (by simp) _).alloc (by simp) _
  cases hf : rackB f with
  | false =>
    rw [pouR_bad (by simp [hf])]
    have HF : Hid _ := hf
    have HI : Hid (1 = 1) := rfl
    have HK : Hid (1 = 1) := rfl
    have HC : Hid (1 = 1) := rfl
    clear hf
    go_enter Try.func18, Try.ntmps18
    go_wp2_with first
      | (with_reducible refine wpList_allocA rfl 28 rfl 24 zero24r ?_; (try simp only [size_al]))
      | (with_reducible refine wpList_loadW rfl _ _ rfl _ rfl h1 agg24r size24r ?_)
      | (with_reducible refine wpList_loadWG rfl _ _ rfl _ rfl h1 agg24r size24r ?_)
      | (with_reducible refine wpList_build0 rfl 28 rfl 24 zbuild24 ?_)
      | (with_reducible refine wpList_storeW rfl _ _ _ rfl _ rfl rfl h2 size24r ?_)
      | (go_at_call 43; (with_reducible refine (l2Rack_any _ _).mono ?_); rw [HF.out]; rintro e w1 ⟨rfl, hb1⟩; replace hbel := hbel.trans (hb1.mono hbel.size); replace h1 := row_keep hb1 h1; replace h2 := row_keep hb1 h2; clear hb1)
      | (go_at_call 44; (with_reducible refine (l2Place_any _ _).mono ?_); (first | rw [HI.out] | rw [HK.out]); rintro e w' ⟨rfl, rfl⟩)
      | (go_at_call 53; (with_reducible refine (l2Can_any f HF.out n m hn hm _).mono ?_); rw [HC.out]; rintro e w1 ⟨rfl, hb1⟩; replace hbel := hbel.trans (hb1.mono hbel.size); replace h1 := row_keep hb1 h1; replace h2 := row_keep hb1 h2; clear hb1)
    exact bodyPost_ret_by (results_ctt _ _ _ _ _ _ _ rfl rfl (setRow_heap _ _ _ _ _ _ h2) agg24r size24r) rfl ⟨rfl, below_setRow2 hbel (by omega) _⟩
  | true =>
    have HF : Hid _ := hf
    by_cases hi : 0 ≤ i ∧ i ≤ 5
    · have HI : Hid _ := show (decide (0 ≤ i) && decide (i ≤ 5)) = true by simpa using hi
      by_cases hk : 0 ≤ k ∧ k ≤ 5
      · have HK : Hid _ := show (decide (0 ≤ k) && decide (k ≤ 5)) = true by simpa using hk
        obtain ⟨n, rfl⟩ : ∃ n : Nat, i = n := ⟨i.toNat, by omega⟩
        obtain ⟨m, rfl⟩ : ∃ m : Nat, k = m := ⟨k.toNat, by omega⟩
        have hn : n ≤ 5 := by omega
        have hm : m ≤ 5 := by omega
        cases hc : canF f n m with
        | false =>
          rw [pouR_bad (by simp [hc])]
          have HC : Hid _ := hc
          clear hf hi hk hc
          go_enter Try.func18, Try.ntmps18
          go_wp2_with first
            | (with_reducible refine wpList_allocA rfl 28 rfl 24 zero24r ?_; (try simp only [size_al]))
            | (with_reducible refine wpList_loadW rfl _ _ rfl _ rfl h1 agg24r size24r ?_)
            | (with_reducible refine wpList_loadWG rfl _ _ rfl _ rfl h1 agg24r size24r ?_)
            | (with_reducible refine wpList_build0 rfl 28 rfl 24 zbuild24 ?_)
            | (with_reducible refine wpList_storeW rfl _ _ _ rfl _ rfl rfl h2 size24r ?_)
            | (go_at_call 43; (with_reducible refine (l2Rack_any _ _).mono ?_); rw [HF.out]; rintro e w1 ⟨rfl, hb1⟩; replace hbel := hbel.trans (hb1.mono hbel.size); replace h1 := row_keep hb1 h1; replace h2 := row_keep hb1 h2; clear hb1)
            | (go_at_call 44; (with_reducible refine (l2Place_any _ _).mono ?_); (first | rw [HI.out] | rw [HK.out]); rintro e w' ⟨rfl, rfl⟩)
            | (go_at_call 53; (with_reducible refine (l2Can_any f HF.out n m hn hm _).mono ?_); rw [HC.out]; rintro e w1 ⟨rfl, hb1⟩; replace hbel := hbel.trans (hb1.mono hbel.size); replace h1 := row_keep hb1 h1; replace h2 := row_keep hb1 h2; clear hb1)
          exact bodyPost_ret_by (results_ctt _ _ _ _ _ _ _ rfl rfl (setRow_heap _ _ _ _ _ _ h2) agg24r size24r) rfl ⟨rfl, below_setRow2 hbel (by omega) _⟩
        | true =>
          rw [pouR_ok (by simp [hf, hi, hk, hc])]
          simp only [Int.toNat_natCast]
          have HC : Hid _ := hc
          have hnm := (of_decide_eq_true hc).1
          clear hf hi hk hc
          have tok_h3 : True := trivial
          have hw2 : w.heap.size ≤ w.heap.size + 1 := by omega
          go_enter Try.func18, Try.ntmps18
          go_wp2_with first
            | (with_reducible refine wpList_loadW rfl _ _ rfl _ rfl h1 agg24r size24r ?_)
            | (with_reducible refine wpList_loadWG rfl _ _ rfl _ rfl h1 agg24r size24r ?_)
            | (go_at_call 43; (with_reducible refine (l2Rack_any _ _).mono ?_); rw [HF.out]; rintro e w1 ⟨rfl, hb1⟩; replace hbel := hbel.trans (hb1.mono hbel.size); replace h1 := row_keep hb1 h1; replace h2 := row_keep hb1 h2; clear hb1)
            | (go_at_call 44; (with_reducible refine (l2Place_any _ _).mono ?_); (first | rw [HI.out] | rw [HK.out]); rintro e w' ⟨rfl, rfl⟩)
            | (go_at_call 53; (with_reducible refine (l2Can_any f HF.out n m hn hm _).mono ?_); rw [HC.out]; rintro e w1 ⟨rfl, hb1⟩; replace hbel := hbel.trans (hb1.mono hbel.size); replace h1 := row_keep hb1 h1; replace h2 := row_keep hb1 h2; clear hb1)
            | (go_at_call 54; (with_reducible refine (l2Pour_any f HF.out n m hn hm hnm _).mono ?_); rintro e w1 ⟨rfl, hb1⟩; replace hbel := hbel.trans (hb1.mono hbel.size); replace h1 := row_keep hb1 h1; replace h2 := row_keep hb1 h2; clear hb1)
            | (have _t := tok_h3; with_reducible refine wpList_allocN rfl 28 rfl 24 zero24r ?_; intro Bh3 w1 hBh3 h3 hb1; have hWh3 := Nat.le_trans hbel.size hBh3; have hLh1h3 := Nat.lt_of_lt_of_le (row_lt h1) hBh3; have hLh2h3 := Nat.lt_of_lt_of_le (row_lt h2) hBh3; replace hbel := hbel.trans (hb1.mono hbel.size); replace h1 := row_keep hb1 h1; replace h2 := row_keep hb1 h2; clear hb1 _t tok_h3)
            | (with_reducible refine wpList_allocA rfl 28 rfl 24 zero24r ?_; (try simp only [size_al]))
            | (with_reducible refine wpList_storeWN rfl _ _ _ rfl _ rfl rfl h3 size24r hbel hWh3 ?_; intro w1 g3 ho g4; replace h1 := (ho _ (by omega)).trans h1; replace h2 := (ho _ (by omega)).trans h2; clear h3 hbel; have h3 := g3; have hbel := g4; clear g3 g4 ho)
            | (with_reducible refine wpList_loadW rfl _ _ rfl _ rfl h3 agg24r size24r ?_)
            | (with_reducible refine wpList_storeW rfl _ _ _ rfl _ rfl rfl h2 size24r ?_)
          exact bodyPost_ret_by (results_ctt _ _ _ _ _ _ _ rfl rfl (setRow_heap _ _ _ _ _ _ h2) agg24r size24r) rfl ⟨rfl, below_setRow2 hbel (by omega) _⟩
      · rw [pouR_bad (by simp [hk])]
        have HK : Hid _ := show (decide (0 ≤ k) && decide (k ≤ 5)) = false by simpa using hk
        have HC : Hid (1 = 1) := rfl
        clear hf hi hk
        go_enter Try.func18, Try.ntmps18
        go_wp2_with first
          | (with_reducible refine wpList_allocA rfl 28 rfl 24 zero24r ?_; (try simp only [size_al]))
          | (with_reducible refine wpList_loadW rfl _ _ rfl _ rfl h1 agg24r size24r ?_)
          | (with_reducible refine wpList_loadWG rfl _ _ rfl _ rfl h1 agg24r size24r ?_)
          | (with_reducible refine wpList_build0 rfl 28 rfl 24 zbuild24 ?_)
          | (with_reducible refine wpList_storeW rfl _ _ _ rfl _ rfl rfl h2 size24r ?_)
          | (go_at_call 43; (with_reducible refine (l2Rack_any _ _).mono ?_); rw [HF.out]; rintro e w1 ⟨rfl, hb1⟩; replace hbel := hbel.trans (hb1.mono hbel.size); replace h1 := row_keep hb1 h1; replace h2 := row_keep hb1 h2; clear hb1)
          | (go_at_call 44; (with_reducible refine (l2Place_any _ _).mono ?_); (first | rw [HI.out] | rw [HK.out]); rintro e w' ⟨rfl, rfl⟩)
          | (go_at_call 53; (with_reducible refine (l2Can_any f HF.out n m hn hm _).mono ?_); rw [HC.out]; rintro e w1 ⟨rfl, hb1⟩; replace hbel := hbel.trans (hb1.mono hbel.size); replace h1 := row_keep hb1 h1; replace h2 := row_keep hb1 h2; clear hb1)
        exact bodyPost_ret_by (results_ctt _ _ _ _ _ _ _ rfl rfl (setRow_heap _ _ _ _ _ _ h2) agg24r size24r) rfl ⟨rfl, below_setRow2 hbel (by omega) _⟩
    · rw [pouR_bad (by simp [hi])]
      have HI : Hid _ := show (decide (0 ≤ i) && decide (i ≤ 5)) = false by simpa using hi
      obtain ⟨b, hb⟩ : ∃ b, (decide (0 ≤ k) && decide (k ≤ 5)) = b := ⟨_, rfl⟩
      have HK : Hid _ := hb
      have HC : Hid (1 = 1) := rfl
      clear hf hi hb
      go_enter Try.func18, Try.ntmps18
      go_wp2_with first
        | (with_reducible refine wpList_allocA rfl 28 rfl 24 zero24r ?_; (try simp only [size_al]))
        | (with_reducible refine wpList_loadW rfl _ _ rfl _ rfl h1 agg24r size24r ?_)
        | (with_reducible refine wpList_loadWG rfl _ _ rfl _ rfl h1 agg24r size24r ?_)
        | (with_reducible refine wpList_build0 rfl 28 rfl 24 zbuild24 ?_)
        | (with_reducible refine wpList_storeW rfl _ _ _ rfl _ rfl rfl h2 size24r ?_)
        | (go_at_call 43; (with_reducible refine (l2Rack_any _ _).mono ?_); rw [HF.out]; rintro e w1 ⟨rfl, hb1⟩; replace hbel := hbel.trans (hb1.mono hbel.size); replace h1 := row_keep hb1 h1; replace h2 := row_keep hb1 h2; clear hb1)
        | (go_at_call 44; (with_reducible refine (l2Place_any _ _).mono ?_); (first | rw [HI.out] | rw [HK.out]); rintro e w' ⟨rfl, rfl⟩)
        | (go_at_call 53; (with_reducible refine (l2Can_any f HF.out n m hn hm _).mono ?_); rw [HC.out]; rintro e w1 ⟨rfl, hb1⟩; replace hbel := hbel.trans (hb1.mono hbel.size); replace h1 := row_keep hb1 h1; replace h2 := row_keep hb1 h2; clear hb1)
      exact bodyPost_ret_by (results_ctt _ _ _ _ _ _ _ rfl rfl (setRow_heap _ _ _ _ _ _ h2) agg24r size24r) rfl ⟨rfl, below_setRow2 hbel (by omega) _⟩
theorem implPour_any (f : Nat → Int) (i k : Int) (w : World) : Calls Try.prog 19 #[.agg (arr 24 f), .int .i64 i, .int .i64 k] w fun e w' => e = .returned (.tuple #[.agg (arr 24 (pouR f i k).1), .int .i64 (pouR f i k).2.1, .bool (pouR f i k).2.2]) ∧ Below w.heap.size w w' := by
  have h1 : ((w.alloc (.cells (arr 24 f) 28)).alloc (.cells (arr 24 fun _ => 0) 28)).heap[w.heap.size]? = some (.cells (arr 24 f) 28 (0, 0)) := by rw [heap_old (by simp), heap_new rfl]
  have h2 : ((w.alloc (.cells (arr 24 f) 28)).alloc (.cells (arr 24 fun _ => 0) 28)).heap[w.heap.size + 1]? = some (.cells (arr 24 fun _ => 0) 28 (0, 0)) := heap_new (by simp)
  have hbel : Below w.heap.size w ((w.alloc (.cells (arr 24 f) 28)).alloc (.cells (arr 24 fun _ => 0) 28)) := ((Below.refl _ _).alloc (by simp) _).alloc (by simp) _
  have h5 : (((w.alloc (.cells (arr 24 f) 28)).alloc (.cells (arr 24 fun _ => 0) 28)).alloc (.cells #[.int .i64 i, .int .i64 k] 3)).heap[w.heap.size + 1 + 1]? = some (.cells #[.int .i64 i, .int .i64 k] 3 (0, 0)) := heap_new (by simp)
  cases hf : rackB f with
  | false =>
    rw [pouR_bad (by simp [hf])]
    have HF : Hid _ := hf
    have HI : Hid (1 = 1) := rfl
    have HK : Hid (1 = 1) := rfl
    have HC : Hid (1 = 1) := rfl
    clear hf
    go_enter Try.func19, Try.ntmps19
    go_wp2_with first
      | (with_reducible refine wpList_allocA rfl 28 rfl 24 zero24r ?_; (try simp only [size_al]))
      | (with_reducible refine wpList_loadW rfl _ _ rfl _ rfl h1 agg24r size24r ?_)
      | (with_reducible refine wpList_loadWG rfl _ _ rfl _ rfl h1 agg24r size24r ?_)
      | (with_reducible refine wpList_build0 rfl 28 rfl 24 zbuild24 ?_)
      | (with_reducible refine wpList_storeW rfl _ _ _ rfl _ rfl rfl h2 size24r ?_)
      | (go_at_call 47; (with_reducible refine (isAt_bad f HF.out _ _).mono ?_); rintro e w1 ⟨rfl, hb1⟩; replace hb1 := below_of_alloc hb1; replace hbel := hbel.trans (hb1.mono hbel.size); replace h1 := row_keep hb1 h1; replace h2 := row_keep hb1 h2; clear hb1)
      | (go_at_call 47; (with_reducible refine (isAt_two f HF.out _ _ _ h5).mono ?_); rw [HI.out, HK.out]; rintro e w1 ⟨rfl, hb1⟩; replace hb1 := below_of_alloc hb1; replace hbel := hbel.trans (hb1.mono hbel.size); replace h1 := row_keep hb1 h1; replace h2 := row_keep hb1 h2; clear hb1)
      | (go_at_call 55; (with_reducible refine (canPour_any f HF.out n m hn hm _).mono ?_); rw [HC.out]; rintro e w1 ⟨rfl, hb1⟩; replace hbel := hbel.trans (hb1.mono hbel.size); replace h1 := row_keep hb1 h1; replace h2 := row_keep hb1 h2; clear hb1)
    exact bodyPost_ret_by (results_ctt _ _ _ _ _ _ _ rfl rfl (setRow_heap _ _ _ _ _ _ h2) agg24r size24r) rfl ⟨rfl, below_setRow2 hbel (by omega) _⟩
  | true =>
    have HF : Hid _ := hf
    by_cases hi : 0 ≤ i ∧ i ≤ 5
    · have HI : Hid _ := show (decide (0 ≤ i) && decide (i ≤ 5)) = true by simpa using hi
      by_cases hk : 0 ≤ k ∧ k ≤ 5
      · have HK : Hid _ := show (decide (0 ≤ k) && decide (k ≤ 5)) = true by simpa using hk
        obtain ⟨n, rfl⟩ : ∃ n : Nat, i = n := ⟨i.toNat, by omega⟩
        obtain ⟨m, rfl⟩ : ∃ m : Nat, k = m := ⟨k.toNat, by omega⟩
        have hn : n ≤ 5 := by omega
        have hm : m ≤ 5 := by omega
        cases hc : canF f n m with
        | false =>
          rw [pouR_bad (by simp [hc])]
          have HC : Hid _ := hc
          clear hf hi hk hc
          go_enter Try.func19, Try.ntmps19
          go_wp2_with first
            | (with_reducible refine wpList_allocA rfl 28 rfl 24 zero24r ?_; (try simp only [size_al]))
            | (with_reducible refine wpList_loadW rfl _ _ rfl _ rfl h1 agg24r size24r ?_)
            | (with_reducible refine wpList_loadWG rfl _ _ rfl _ rfl h1 agg24r size24r ?_)
            | (with_reducible refine wpList_build0 rfl 28 rfl 24 zbuild24 ?_)
            | (with_reducible refine wpList_storeW rfl _ _ _ rfl _ rfl rfl h2 size24r ?_)
            | (go_at_call 47; (with_reducible refine (isAt_bad f HF.out _ _).mono ?_); rintro e w1 ⟨rfl, hb1⟩; replace hb1 := below_of_alloc hb1; replace hbel := hbel.trans (hb1.mono hbel.size); replace h1 := row_keep hb1 h1; replace h2 := row_keep hb1 h2; clear hb1)
            | (go_at_call 47; (with_reducible refine (isAt_two f HF.out _ _ _ h5).mono ?_); rw [HI.out, HK.out]; rintro e w1 ⟨rfl, hb1⟩; replace hb1 := below_of_alloc hb1; replace hbel := hbel.trans (hb1.mono hbel.size); replace h1 := row_keep hb1 h1; replace h2 := row_keep hb1 h2; clear hb1)
            | (go_at_call 55; (with_reducible refine (canPour_any f HF.out n m hn hm _).mono ?_); rw [HC.out]; rintro e w1 ⟨rfl, hb1⟩; replace hbel := hbel.trans (hb1.mono hbel.size); replace h1 := row_keep hb1 h1; replace h2 := row_keep hb1 h2; clear hb1)
          exact bodyPost_ret_by (results_ctt _ _ _ _ _ _ _ rfl rfl (setRow_heap _ _ _ _ _ _ h2) agg24r size24r) rfl ⟨rfl, below_setRow2 hbel (by omega) _⟩
        | true =>
          rw [pouR_ok (by simp [hf, hi, hk, hc])]
          simp only [Int.toNat_natCast]
          have HC : Hid _ := hc
          have hnm := (of_decide_eq_true hc).1
          clear hf hi hk hc
          have tok_h3 : True := trivial
          go_enter Try.func19, Try.ntmps19
          go_wp2_with first
            | (with_reducible refine wpList_loadW rfl _ _ rfl _ rfl h1 agg24r size24r ?_)
            | (with_reducible refine wpList_loadWG rfl _ _ rfl _ rfl h1 agg24r size24r ?_)
            | (go_at_call 47; (with_reducible refine (isAt_two f HF.out _ _ _ h5).mono ?_); rw [HI.out, HK.out]; rintro e w1 ⟨rfl, hb1⟩; replace hb1 := below_of_alloc hb1; replace hbel := hbel.trans (hb1.mono hbel.size); replace h1 := row_keep hb1 h1; replace h2 := row_keep hb1 h2; clear hb1)
            | (go_at_call 55; (with_reducible refine (canPour_any f HF.out n m hn hm _).mono ?_); rw [HC.out]; rintro e w1 ⟨rfl, hb1⟩; replace hbel := hbel.trans (hb1.mono hbel.size); replace h1 := row_keep hb1 h1; replace h2 := row_keep hb1 h2; clear hb1)
            | (go_at_call 56; (with_reducible refine (pour_any f HF.out n m hn hm hnm _).mono ?_); rintro e w1 ⟨rfl, hb1⟩; replace hbel := hbel.trans (hb1.mono hbel.size); replace h1 := row_keep hb1 h1; replace h2 := row_keep hb1 h2; clear hb1)
            | (have _t := tok_h3; with_reducible refine wpList_allocN rfl 28 rfl 24 zero24r ?_; intro Bh3 w1 hBh3 h3 hb1; have hWh3 := Nat.le_trans hbel.size hBh3; have hLh1h3 := Nat.lt_of_lt_of_le (row_lt h1) hBh3; have hLh2h3 := Nat.lt_of_lt_of_le (row_lt h2) hBh3; replace hbel := hbel.trans (hb1.mono hbel.size); replace h1 := row_keep hb1 h1; replace h2 := row_keep hb1 h2; clear hb1 _t tok_h3)
            | (with_reducible refine wpList_allocA rfl 28 rfl 24 zero24r ?_; (try simp only [size_al]))
            | (with_reducible refine wpList_storeWN rfl _ _ _ rfl _ rfl rfl h3 size24r hbel hWh3 ?_; intro w1 g3 ho g4; replace h1 := (ho _ (by omega)).trans h1; replace h2 := (ho _ (by omega)).trans h2; clear h3 hbel; have h3 := g3; have hbel := g4; clear g3 g4 ho)
            | (with_reducible refine wpList_loadW rfl _ _ rfl _ rfl h3 agg24r size24r ?_)
            | (with_reducible refine wpList_storeW rfl _ _ _ rfl _ rfl rfl h2 size24r ?_)
          exact bodyPost_ret_by (results_ctt _ _ _ _ _ _ _ rfl rfl (setRow_heap _ _ _ _ _ _ h2) agg24r size24r) rfl ⟨rfl, below_setRow2 hbel (by omega) _⟩
      · rw [pouR_bad (by simp [hk])]
        have HK : Hid _ := show (decide (0 ≤ k) && decide (k ≤ 5)) = false by simpa using hk
        have HC : Hid (1 = 1) := rfl
        clear hf hi hk
        go_enter Try.func19, Try.ntmps19
        go_wp2_with first
          | (with_reducible refine wpList_allocA rfl 28 rfl 24 zero24r ?_; (try simp only [size_al]))
          | (with_reducible refine wpList_loadW rfl _ _ rfl _ rfl h1 agg24r size24r ?_)
          | (with_reducible refine wpList_loadWG rfl _ _ rfl _ rfl h1 agg24r size24r ?_)
          | (with_reducible refine wpList_build0 rfl 28 rfl 24 zbuild24 ?_)
          | (with_reducible refine wpList_storeW rfl _ _ _ rfl _ rfl rfl h2 size24r ?_)
          | (go_at_call 47; (with_reducible refine (isAt_bad f HF.out _ _).mono ?_); rintro e w1 ⟨rfl, hb1⟩; replace hb1 := below_of_alloc hb1; replace hbel := hbel.trans (hb1.mono hbel.size); replace h1 := row_keep hb1 h1; replace h2 := row_keep hb1 h2; clear hb1)
          | (go_at_call 47; (with_reducible refine (isAt_two f HF.out _ _ _ h5).mono ?_); rw [HI.out, HK.out]; rintro e w1 ⟨rfl, hb1⟩; replace hb1 := below_of_alloc hb1; replace hbel := hbel.trans (hb1.mono hbel.size); replace h1 := row_keep hb1 h1; replace h2 := row_keep hb1 h2; clear hb1)
          | (go_at_call 55; (with_reducible refine (canPour_any f HF.out n m hn hm _).mono ?_); rw [HC.out]; rintro e w1 ⟨rfl, hb1⟩; replace hbel := hbel.trans (hb1.mono hbel.size); replace h1 := row_keep hb1 h1; replace h2 := row_keep hb1 h2; clear hb1)
        exact bodyPost_ret_by (results_ctt _ _ _ _ _ _ _ rfl rfl (setRow_heap _ _ _ _ _ _ h2) agg24r size24r) rfl ⟨rfl, below_setRow2 hbel (by omega) _⟩
    · rw [pouR_bad (by simp [hi])]
      have HI : Hid _ := show (decide (0 ≤ i) && decide (i ≤ 5)) = false by simpa using hi
      obtain ⟨b, hb⟩ : ∃ b, (decide (0 ≤ k) && decide (k ≤ 5)) = b := ⟨_, rfl⟩
      have HK : Hid _ := hb
      have HC : Hid (1 = 1) := rfl
      clear hf hi hb
      go_enter Try.func19, Try.ntmps19
      go_wp2_with first
        | (with_reducible refine wpList_allocA rfl 28 rfl 24 zero24r ?_; (try simp only [size_al]))
        | (with_reducible refine wpList_loadW rfl _ _ rfl _ rfl h1 agg24r size24r ?_)
        | (with_reducible refine wpList_loadWG rfl _ _ rfl _ rfl h1 agg24r size24r ?_)
        | (with_reducible refine wpList_build0 rfl 28 rfl 24 zbuild24 ?_)
        | (with_reducible refine wpList_storeW rfl _ _ _ rfl _ rfl rfl h2 size24r ?_)
        | (go_at_call 47; (with_reducible refine (isAt_bad f HF.out _ _).mono ?_); rintro e w1 ⟨rfl, hb1⟩; replace hb1 := below_of_alloc hb1; replace hbel := hbel.trans (hb1.mono hbel.size); replace h1 := row_keep hb1 h1; replace h2 := row_keep hb1 h2; clear hb1)
        | (go_at_call 47; (with_reducible refine (isAt_two f HF.out _ _ _ h5).mono ?_); rw [HI.out, HK.out]; rintro e w1 ⟨rfl, hb1⟩; replace hb1 := below_of_alloc hb1; replace hbel := hbel.trans (hb1.mono hbel.size); replace h1 := row_keep hb1 h1; replace h2 := row_keep hb1 h2; clear hb1)
        | (go_at_call 55; (with_reducible refine (canPour_any f HF.out n m hn hm _).mono ?_); rw [HC.out]; rintro e w1 ⟨rfl, hb1⟩; replace hbel := hbel.trans (hb1.mono hbel.size); replace h1 := row_keep hb1 h1; replace h2 := row_keep hb1 h2; clear hb1)
      exact bodyPost_ret_by (results_ctt _ _ _ _ _ _ _ rfl rfl (setRow_heap _ _ _ _ _ _ h2) agg24r size24r) rfl ⟨rfl, below_setRow2 hbel (by omega) _⟩
set_option linter.unusedVariables false in
theorem FnExactPour_walk (x0 : Nat → Int) (hx0 : ∀ j, I64 (x0 j)) (x1 : Int) (hx1 : I64 x1) (x2 : Int) (hx2 : I64 x2) (w : World) : Calls Try.prog 5 #[.agg (arr 24 x0), .int .i64 x1, .int .i64 x2] w fun e w' => e = .returned (.bool true) ∧ Below w.heap.size w w' := by
  have hr0 : (w.alloc (.cells (arr 24 x0) 25)).heap[w.heap.size]? = some (.cells (arr 24 x0) 25 (0, 0)) := by rw [heap_new (by simp)]
  have hbel : Below w.heap.size w (w.alloc (.cells (arr 24 x0) 25)) := ((Below.refl _ _).alloc (by simp) _)
  have tok_hA0 : True := trivial
  have tok_hB0 : True := trivial
  go_enter Try.func5, Try.ntmps5
  go_wp2_with first
    | (with_reducible refine wpList_loadW rfl _ _ rfl _ rfl hr0 agg24l size24l ?_)
    | (go_at_call 14; (with_reducible refine (toRack_any _ _).mono ?_); (rintro e w1 ⟨rfl, hb1⟩; replace hbel := hbel.trans (hb1.mono hbel.size); replace hr0 := row_keep hb1 hr0; (try replace hA0 := row_keep hb1 hA0); (try replace hB0 := row_keep hb1 hB0); clear hb1))
    | (go_at_call 18; (with_reducible refine (specPour_any _ _ _ _).mono ?_); (rintro e w1 ⟨rfl, hb1⟩; replace hbel := hbel.trans (hb1.mono hbel.size); replace hr0 := row_keep hb1 hr0; (try replace hA0 := row_keep hb1 hA0); (try replace hB0 := row_keep hb1 hB0); clear hb1))
    | (go_at_call 19; (with_reducible refine (implPour_any _ _ _ _).mono ?_); (rintro e w1 ⟨rfl, hb1⟩; replace hbel := hbel.trans (hb1.mono hbel.size); replace hr0 := row_keep hb1 hr0; (try replace hA0 := row_keep hb1 hA0); (try replace hB0 := row_keep hb1 hB0); clear hb1))
    | (with_reducible refine wpList_allocA rfl 28 rfl 24 zero24r ?_; (try simp only [size_al]))
    | (go_at_call 20; (with_reducible refine (eqRack_same _ _).mono ?_); (rintro e w1 ⟨rfl, hb1⟩; replace hbel := hbel.trans (hb1.mono hbel.size); replace hr0 := row_keep hb1 hr0; (try replace hA0 := row_keep hb1 hA0); (try replace hB0 := row_keep hb1 hB0); clear hb1))
    | (have _t := tok_hA0; with_reducible refine wpList_storeN rfl _ _ _ rfl rfl rfl size24r ?_; intro w1 hA0 hb1; replace hbel := hbel.trans (hb1.mono hbel.size); replace hr0 := row_keep hb1 hr0; clear hb1 _t tok_hA0)
    | (with_reducible refine wpList_loadWG rfl _ _ rfl _ rfl hA0 agg24r size24r ?_)
    | (have _t := tok_hB0; with_reducible refine wpList_storeN rfl _ _ _ rfl rfl rfl size24r ?_; intro w1 hB0 hb1; replace hbel := hbel.trans (hb1.mono hbel.size); replace hr0 := row_keep hb1 hr0; replace hA0 := row_keep hb1 hA0; clear hb1 _t tok_hB0)
    | (with_reducible refine wpList_loadWG rfl _ _ rfl _ rfl hB0 agg24r size24r ?_)
  go_ret
  exact ⟨rfl, hbel⟩
end Go.Proofs.Ytbiplciklmagoaa
