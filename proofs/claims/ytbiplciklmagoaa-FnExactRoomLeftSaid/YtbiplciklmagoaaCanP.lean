/- Whether one can pour: the program's and the reference's, and the law. -/
import Derived.Test.YtbiplciklmagoaaTop
namespace Go.Proofs.Ytbiplciklmagoaa
set_option linter.unusedSimpArgs false
set_option linter.unusedVariables false
set_option maxRecDepth 20000
open Go.RowKit
theorem tpF_sign {g : Nat → Int} (hg : tubeB g = true) : (0 < (tpF g).1 ↔ 0 < nlay g) ∧ (0 < (tpF g).2 ↔ 0 < nlay g) ∧ 0 ≤ (tpF g).1 ∧ (tpF g).1 ≤ 5 ∧ 0 ≤ (tpF g).2 ∧ (tpF g).2 ≤ nlay g := by
  by_cases h0 : nlay g = 0
  · rw [tpF_zero h0, h0]; simp
  · have h1 := nlay_pos hg (nlay g - 1) (by omega)
    obtain ⟨R, r1, r2, r3, _⟩ := rT_spec g (nlay g) (by omega)
    rw [tpF_pos (by omega)]
    show (0 < g (nlay g - 1) ↔ _) ∧ (0 < rT g (nlay g) ↔ _) ∧ 0 ≤ g (nlay g - 1) ∧ g (nlay g - 1) ≤ 5 ∧ 0 ≤ rT g (nlay g) ∧ rT g (nlay g) ≤ _
    rw [r1]
    omega
def canF (f : Nat → Int) (i k : Nat) : Bool := decide (i ≠ k ∧ 0 < nlay (tub f i) ∧ nlay (tub f k) < 4 ∧ ((tpF (tub f k)).1 = 0 ∨ (tpF (tub f k)).1 = (tpF (tub f i)).1))
theorem tub_eq (f : Nat → Int) (i : Nat) : (fun j => f (i * 4 + j)) = tub f i := rfl
theorem canPour_any (f : Nat → Int) (hf : rackB f = true) (n m : Nat) (hn : n ≤ 5) (hm : m ≤ 5) (w : World) : Calls Try.prog 55 #[.agg (arr 24 f), .int .i64 n, .int .i64 m] w fun e w' => e = .returned (.bool (canF f n m)) ∧ Below w.heap.size w w' := by
  have h1 : (w.alloc (.cells (arr 24 f) 28)).heap[w.heap.size]? = some (.cells (arr 24 f) 28 (0, 0))   := heap_new rfl
  have hbel : Below w.heap.size w (w.alloc (.cells (arr 24 f) 28)) := (Below.refl _ _).alloc (by simp) _
  have t1 := tube_of_rack hf hn
  have t2 := tube_of_rack hf hm
  have HT1 : Hid _ := tpF_sign t1
  have HT2 : Hid _ := tpF_sign t2
  have n1 : (n : Int) < 6 := by omega
  have n2 : (m : Int) < 6 := by omega
  by_cases hne : n = m
  · have hq : ((n : Int) != (m : Int)) = false := by simp [hne]
    go_enter Try.func55, Try.ntmps55
    go_wp2_with first
      | (with_reducible refine wpList_loadAG rfl _ _ rfl _ _ rfl h1 4 agg4 size4 (by omega) ?_)
      | (go_at_call 49; (with_reducible refine (top_any (tub f n) t1 _).mono ?_); rintro e w1 ⟨rfl, hb1⟩; replace hbel := hbel.trans (hb1.mono hbel.size); replace h1 := row_keep hb1 h1; clear hb1)
      | (go_at_call 49; (with_reducible refine (top_any (tub f m) t2 _).mono ?_); rintro e w1 ⟨rfl, hb1⟩; replace hbel := hbel.trans (hb1.mono hbel.size); replace h1 := row_keep hb1 h1; clear hb1)
      | (go_at_call 48; (with_reducible refine (layers_any (tub f m) _).mono ?_); rintro e w1 ⟨rfl, hb1⟩; replace hbel := hbel.trans (hb1.mono hbel.size); replace h1 := row_keep hb1 h1; clear hb1)
    all_goals
      go_ret
      refine ⟨ret_bool ?_, hbel⟩
      have e1 := HT1.out
      have e2 := HT2.out
      unfold canF
      first
        | exact (decide_eq_true (by omega)).symm
        | exact (decide_eq_false (by omega)).symm
        | (rw [Bool.eq_iff_iff]; simp only [Bool.or_eq_true, beq_iff_eq, decide_eq_true_eq]; omega)
  · have hq : ((n : Int) != (m : Int)) = true := by simp; omega
    by_cases hp : 0 < (tpF (tub f n)).1
    · have hpd : decide (0 < (tpF (tub f n)).1) = true := decide_eq_true hp
      go_enter Try.func55, Try.ntmps55
      go_wp2_with first
        | (with_reducible refine wpList_loadAG rfl _ _ rfl _ _ rfl h1 4 agg4 size4 (by omega) ?_)
        | (go_at_call 49; (with_reducible refine (top_any (tub f n) t1 _).mono ?_); rintro e w1 ⟨rfl, hb1⟩; replace hbel := hbel.trans (hb1.mono hbel.size); replace h1 := row_keep hb1 h1; clear hb1)
        | (go_at_call 49; (with_reducible refine (top_any (tub f m) t2 _).mono ?_); rintro e w1 ⟨rfl, hb1⟩; replace hbel := hbel.trans (hb1.mono hbel.size); replace h1 := row_keep hb1 h1; clear hb1)
        | (go_at_call 48; (with_reducible refine (layers_any (tub f m) _).mono ?_); rintro e w1 ⟨rfl, hb1⟩; replace hbel := hbel.trans (hb1.mono hbel.size); replace h1 := row_keep hb1 h1; clear hb1)
      all_goals
        go_ret
        refine ⟨ret_bool ?_, hbel⟩
        have e1 := HT1.out
        have e2 := HT2.out
        unfold canF
        first
          | exact (decide_eq_true (by omega)).symm
          | exact (decide_eq_false (by omega)).symm
          | (rw [Bool.eq_iff_iff]; simp only [Bool.or_eq_true, beq_iff_eq, decide_eq_true_eq]; omega)
    · have hpd : decide (0 < (tpF (tub f n)).1) = false := decide_eq_false hp
      go_enter Try.func55, Try.ntmps55
      go_wp2_with first
        | (with_reducible refine wpList_loadAG rfl _ _ rfl _ _ rfl h1 4 agg4 size4 (by omega) ?_)
        | (go_at_call 49; (with_reducible refine (top_any (tub f n) t1 _).mono ?_); rintro e w1 ⟨rfl, hb1⟩; replace hbel := hbel.trans (hb1.mono hbel.size); replace h1 := row_keep hb1 h1; clear hb1)
        | (go_at_call 49; (with_reducible refine (top_any (tub f m) t2 _).mono ?_); rintro e w1 ⟨rfl, hb1⟩; replace hbel := hbel.trans (hb1.mono hbel.size); replace h1 := row_keep hb1 h1; clear hb1)
        | (go_at_call 48; (with_reducible refine (layers_any (tub f m) _).mono ?_); rintro e w1 ⟨rfl, hb1⟩; replace hbel := hbel.trans (hb1.mono hbel.size); replace h1 := row_keep hb1 h1; clear hb1)
      all_goals
        go_ret
        refine ⟨ret_bool ?_, hbel⟩
        have e1 := HT1.out
        have e2 := HT2.out
        unfold canF
        first
          | exact (decide_eq_true (by omega)).symm
          | exact (decide_eq_false (by omega)).symm
          | (rw [Bool.eq_iff_iff]; simp only [Bool.or_eq_true, beq_iff_eq, decide_eq_true_eq]; omega)
theorem l2Can_any (f : Nat → Int) (hf : rackB f = true) (n m : Nat) (hn : n ≤ 5) (hm : m ≤ 5) (w : World) : Calls Try.prog 53 #[.agg (arr 24 f), .int .i64 n, .int .i64 m] w fun e w' => e = .returned (.bool (canF f n m)) ∧ Below w.heap.size w w' := by
  have h1 : (w.alloc (.cells (arr 24 f) 28)).heap[w.heap.size]? = some (.cells (arr 24 f) 28 (0, 0))   := heap_new rfl
  have hbel : Below w.heap.size w (w.alloc (.cells (arr 24 f) 28)) := (Below.refl _ _).alloc (by simp) _
  have t1 := tube_of_rack hf hn
  have t2 := tube_of_rack hf hm
  have HT1 : Hid _ := tpF_sign t1
  have HT2 : Hid _ := tpF_sign t2
  have n1 : (n : Int) < 6 := by omega
  have n2 : (m : Int) < 6 := by omega
  by_cases hne : n = m
  · have hq : ((n : Int) != (m : Int)) = false := by simp [hne]
    go_enter Try.func53, Try.ntmps53
    go_wp2_with first
      | (with_reducible refine wpList_loadAG rfl _ _ rfl _ _ rfl h1 4 agg4 size4 (by omega) ?_)
      | (go_at_call 45; (with_reducible refine (l2Top_any (tub f n) t1 _).mono ?_); rintro e w1 ⟨rfl, hb1⟩; replace hbel := hbel.trans (hb1.mono hbel.size); replace h1 := row_keep hb1 h1; clear hb1)
      | (go_at_call 45; (with_reducible refine (l2Top_any (tub f m) t2 _).mono ?_); rintro e w1 ⟨rfl, hb1⟩; replace hbel := hbel.trans (hb1.mono hbel.size); replace h1 := row_keep hb1 h1; clear hb1)
      | (go_at_call 79; (with_reducible refine (l2Many_ok (tub f m) t2 _).mono ?_); rintro e w1 ⟨rfl, hb1⟩; replace hbel := hbel.trans (hb1.mono hbel.size); replace h1 := row_keep hb1 h1; clear hb1)
    all_goals
      go_ret
      refine ⟨ret_bool ?_, hbel⟩
      have e1 := HT1.out
      have e2 := HT2.out
      unfold canF
      first
        | exact (decide_eq_true (by omega)).symm
        | exact (decide_eq_false (by omega)).symm
        | (rw [Bool.eq_iff_iff]; simp only [Bool.or_eq_true, beq_iff_eq, decide_eq_true_eq]; omega)
  · have hq : ((n : Int) != (m : Int)) = true := by simp; omega
    by_cases hp : 0 < (tpF (tub f n)).2
    · have hpd : decide (0 < (tpF (tub f n)).2) = true := decide_eq_true hp
      go_enter Try.func53, Try.ntmps53
      go_wp2_with first
        | (with_reducible refine wpList_loadAG rfl _ _ rfl _ _ rfl h1 4 agg4 size4 (by omega) ?_)
        | (go_at_call 45; (with_reducible refine (l2Top_any (tub f n) t1 _).mono ?_); rintro e w1 ⟨rfl, hb1⟩; replace hbel := hbel.trans (hb1.mono hbel.size); replace h1 := row_keep hb1 h1; clear hb1)
        | (go_at_call 45; (with_reducible refine (l2Top_any (tub f m) t2 _).mono ?_); rintro e w1 ⟨rfl, hb1⟩; replace hbel := hbel.trans (hb1.mono hbel.size); replace h1 := row_keep hb1 h1; clear hb1)
        | (go_at_call 79; (with_reducible refine (l2Many_ok (tub f m) t2 _).mono ?_); rintro e w1 ⟨rfl, hb1⟩; replace hbel := hbel.trans (hb1.mono hbel.size); replace h1 := row_keep hb1 h1; clear hb1)
      all_goals
        go_ret
        refine ⟨ret_bool ?_, hbel⟩
        have e1 := HT1.out
        have e2 := HT2.out
        unfold canF
        first
          | exact (decide_eq_true (by omega)).symm
          | exact (decide_eq_false (by omega)).symm
          | (rw [Bool.eq_iff_iff]; simp only [Bool.or_eq_true, beq_iff_eq, decide_eq_true_eq]; omega)
    · have hpd : decide (0 < (tpF (tub f n)).2) = false := decide_eq_false hp
      go_enter Try.func53, Try.ntmps53
      go_wp2_with first
        | (with_reducible refine wpList_loadAG rfl _ _ rfl _ _ rfl h1 4 agg4 size4 (by omega) ?_)
        | (go_at_call 45; (with_reducible refine (l2Top_any (tub f n) t1 _).mono ?_); rintro e w1 ⟨rfl, hb1⟩; replace hbel := hbel.trans (hb1.mono hbel.size); replace h1 := row_keep hb1 h1; clear hb1)
        | (go_at_call 45; (with_reducible refine (l2Top_any (tub f m) t2 _).mono ?_); rintro e w1 ⟨rfl, hb1⟩; replace hbel := hbel.trans (hb1.mono hbel.size); replace h1 := row_keep hb1 h1; clear hb1)
        | (go_at_call 79; (with_reducible refine (l2Many_ok (tub f m) t2 _).mono ?_); rintro e w1 ⟨rfl, hb1⟩; replace hbel := hbel.trans (hb1.mono hbel.size); replace h1 := row_keep hb1 h1; clear hb1)
      all_goals
        go_ret
        refine ⟨ret_bool ?_, hbel⟩
        have e1 := HT1.out
        have e2 := HT2.out
        unfold canF
        first
          | exact (decide_eq_true (by omega)).symm
          | exact (decide_eq_false (by omega)).symm
          | (rw [Bool.eq_iff_iff]; simp only [Bool.or_eq_true, beq_iff_eq, decide_eq_true_eq]; omega)
/-! ### the laws -/
def canR (f : Nat → Int) (i k : Int) : Bool × Bool := if rackB f = true ∧ (0 ≤ i ∧ i ≤ 5) ∧ (0 ≤ k ∧ k ≤ 5) ∧ ¬ i = k then (canF f i.toNat k.toNat, true) else (false, false)
theorem canR_bad {f : Nat → Int} {i k : Int} (h : ¬ (rackB f = true ∧ (0 ≤ i ∧ i ≤ 5) ∧ (0 ≤ k ∧ k ≤ 5) ∧ ¬ i = k)) : canR f i k = (false, false) := if_neg h
/-- The top of a tube, asked for. -/
def topR (f : Nat → Int) (i : Int) : Int × Int × Bool := if rackB f = true ∧ (0 ≤ i ∧ i ≤ 5) ∧ 0 < nlay (tub f i.toNat) then ((tpF (tub f i.toNat)).1, (tpF (tub f i.toNat)).2, true) else (0, 0, false)
theorem topR_bad {f : Nat → Int} {i : Int} (h : ¬ (rackB f = true ∧ (0 ≤ i ∧ i ≤ 5) ∧ 0 < nlay (tub f i.toNat))) : topR f i = (0, 0, false) := if_neg h
theorem specTopOf_any (f : Nat → Int) (i : Int) (w : World) : Calls Try.prog 13 #[.agg (arr 24 f), .int .i64 i] w fun e w' => e = .returned (.tuple #[.int .i64 (topR f i).1, .int .i64 (topR f i).2.1, .bool (topR f i).2.2]) ∧ Below w.heap.size w w' := by
  have h1 : (w.alloc (.cells (arr 24 f) 28)).heap[w.heap.size]? = some (.cells (arr 24 f) 28 (0, 0))   := heap_new rfl
  have hbel : Below w.heap.size w (w.alloc (.cells (arr 24 f) 28)) := (Below.refl _ _).alloc (by simp) _
  cases hf : rackB f with
  | false =>
    rw [topR_bad (by simp [hf])]
    have HF : Hid _ := hf
    have HI : Hid (1 = 1) := rfl
    have HT : Hid (1 = 1) := rfl
    have HL : Hid (1 = 1) := rfl
    clear hf
    go_enter Try.func13, Try.ntmps13
    go_wp2_with first
      | (with_reducible refine wpList_loadW rfl _ _ rfl _ rfl h1 agg24r size24r ?_)
      | (go_at_call 43; (with_reducible refine (l2Rack_any _ _).mono ?_); rw [HF.out]; rintro e w1 ⟨rfl, hb1⟩; replace hbel := hbel.trans (hb1.mono hbel.size); replace h1 := row_keep hb1 h1; clear hb1)
      | (go_at_call 44; (with_reducible refine (l2Place_any _ _).mono ?_); rw [HI.out]; rintro e w' ⟨rfl, rfl⟩)
      | (with_reducible refine wpList_loadAG rfl _ _ rfl _ _ rfl h1 4 agg4 size4 (by omega) ?_)
      | (go_at_call 45; (with_reducible refine (l2Top_any (tub f n) ht _).mono ?_); (try rw [HT.out.1, HT.out.2]); rintro e w1 ⟨rfl, hb1⟩; replace hbel := hbel.trans (hb1.mono hbel.size); replace h1 := row_keep hb1 h1; clear hb1)
    go_ret3
    exact ⟨rfl, hbel⟩
  | true =>
    have HF : Hid _ := hf
    by_cases hi : 0 ≤ i ∧ i ≤ 5
    · have HI : Hid _ := show (decide (0 ≤ i) && decide (i ≤ 5)) = true by simpa using hi
      obtain ⟨n, rfl⟩ : ∃ n : Nat, i = n := ⟨i.toNat, by omega⟩
      have hn : n ≤ 5 := by omega
      have ht := tube_of_rack hf hn
      have hi1 : (0 : Int) ≤ (n : Int) := by omega
      have hi3 : (n : Int) < 6 := by omega
      by_cases h0 : nlay (tub f n) = 0
      · rw [topR_bad (by simp [h0])]
        have HL : Hid _ := h0
        have HT : Hid ((tpF (tub f n)).1 = 0 ∧ (tpF (tub f n)).2 = 0) := by rw [tpF_zero h0]; exact ⟨rfl, rfl⟩
        clear hf hi h0
        go_enter Try.func13, Try.ntmps13
        go_wp2_with first
          | (with_reducible refine wpList_loadW rfl _ _ rfl _ rfl h1 agg24r size24r ?_)
          | (go_at_call 43; (with_reducible refine (l2Rack_any _ _).mono ?_); rw [HF.out]; rintro e w1 ⟨rfl, hb1⟩; replace hbel := hbel.trans (hb1.mono hbel.size); replace h1 := row_keep hb1 h1; clear hb1)
          | (go_at_call 44; (with_reducible refine (l2Place_any _ _).mono ?_); rw [HI.out]; rintro e w' ⟨rfl, rfl⟩)
          | (with_reducible refine wpList_loadAG rfl _ _ rfl _ _ rfl h1 4 agg4 size4 (by omega) ?_)
          | (go_at_call 45; (with_reducible refine (l2Top_any (tub f n) ht _).mono ?_); (try rw [HT.out.1, HT.out.2]); rintro e w1 ⟨rfl, hb1⟩; replace hbel := hbel.trans (hb1.mono hbel.size); replace h1 := row_keep hb1 h1; clear hb1)
        go_ret3
        exact ⟨rfl, hbel⟩
      · obtain ⟨L, hL⟩ : ∃ L, nlay (tub f n) = L + 1 := ⟨nlay (tub f n) - 1, by omega⟩
        have e : topR f n = ((tpF (tub f n)).1, (tpF (tub f n)).2, true) := if_pos ⟨hf, hi, by rw [Int.toNat_natCast]; omega⟩
        have hs := (tpF_sign ht).2.1.2 (by omega)
        have HL : Hid _ := hL
        have HT : Hid (1 = 1) := rfl
        have hsd : decide (0 < (tpF (tub f n)).2) = true := decide_eq_true hs
        have hL0 : ((L : Int) + 1 == 0) = false := by simp; omega
        rw [e]
        clear hf hi h0 e hL hs
        go_enter Try.func13, Try.ntmps13
        go_wp2_with first
          | (with_reducible refine wpList_loadW rfl _ _ rfl _ rfl h1 agg24r size24r ?_)
          | (go_at_call 43; (with_reducible refine (l2Rack_any _ _).mono ?_); rw [HF.out]; rintro e w1 ⟨rfl, hb1⟩; replace hbel := hbel.trans (hb1.mono hbel.size); replace h1 := row_keep hb1 h1; clear hb1)
          | (go_at_call 44; (with_reducible refine (l2Place_any _ _).mono ?_); rw [HI.out]; rintro e w' ⟨rfl, rfl⟩)
          | (with_reducible refine wpList_loadAG rfl _ _ rfl _ _ rfl h1 4 agg4 size4 (by omega) ?_)
          | (go_at_call 45; (with_reducible refine (l2Top_any (tub f n) ht _).mono ?_); (try rw [HT.out.1, HT.out.2]); rintro e w1 ⟨rfl, hb1⟩; replace hbel := hbel.trans (hb1.mono hbel.size); replace h1 := row_keep hb1 h1; clear hb1)
        go_ret3
        exact ⟨rfl, hbel⟩
    · rw [topR_bad (by simp [hi])]
      have HI : Hid _ := show (decide (0 ≤ i) && decide (i ≤ 5)) = false by simpa using hi
      have HT : Hid (1 = 1) := rfl
      have HL : Hid (1 = 1) := rfl
      clear hf hi
      go_enter Try.func13, Try.ntmps13
      go_wp2_with first
        | (with_reducible refine wpList_loadW rfl _ _ rfl _ rfl h1 agg24r size24r ?_)
        | (go_at_call 43; (with_reducible refine (l2Rack_any _ _).mono ?_); rw [HF.out]; rintro e w1 ⟨rfl, hb1⟩; replace hbel := hbel.trans (hb1.mono hbel.size); replace h1 := row_keep hb1 h1; clear hb1)
        | (go_at_call 44; (with_reducible refine (l2Place_any _ _).mono ?_); rw [HI.out]; rintro e w' ⟨rfl, rfl⟩)
        | (with_reducible refine wpList_loadAG rfl _ _ rfl _ _ rfl h1 4 agg4 size4 (by omega) ?_)
        | (go_at_call 45; (with_reducible refine (l2Top_any (tub f n) ht _).mono ?_); (try rw [HT.out.1, HT.out.2]); rintro e w1 ⟨rfl, hb1⟩; replace hbel := hbel.trans (hb1.mono hbel.size); replace h1 := row_keep hb1 h1; clear hb1)
      go_ret3
      exact ⟨rfl, hbel⟩
theorem implTopOf_any (f : Nat → Int) (i : Int) (w : World) : Calls Try.prog 15 #[.agg (arr 24 f), .int .i64 i] w fun e w' => e = .returned (.tuple #[.int .i64 (topR f i).1, .int .i64 (topR f i).2.1, .bool (topR f i).2.2]) ∧ Below w.heap.size w w' := by
  have h1 : (w.alloc (.cells (arr 24 f) 28)).heap[w.heap.size]? = some (.cells (arr 24 f) 28 (0, 0))   := heap_new rfl
  have hbel : Below w.heap.size w (w.alloc (.cells (arr 24 f) 28)) := (Below.refl _ _).alloc (by simp) _
  have h5 : ((w.alloc (.cells (arr 24 f) 28)).alloc (.cells #[.int .i64 i] 3)).heap[w.heap.size + 1]? = some (.cells #[.int .i64 i] 3 (0, 0)) := heap_new (by simp)
  cases hf : rackB f with
  | false =>
    rw [topR_bad (by simp [hf])]
    have HF : Hid _ := hf
    have HI : Hid (1 = 1) := rfl
    have HT : Hid (1 = 1) := rfl
    have HL : Hid (1 = 1) := rfl
    clear hf
    go_enter Try.func15, Try.ntmps15
    go_wp2_with first
      | (with_reducible refine wpList_loadW rfl _ _ rfl _ rfl h1 agg24r size24r ?_)
      | (go_at_call 47; (with_reducible refine (isAt_bad f HF.out _ _).mono ?_); rintro e w1 ⟨rfl, hb1⟩; replace hb1 := below_of_alloc hb1; replace hbel := hbel.trans (hb1.mono hbel.size); replace h1 := row_keep hb1 h1; clear hb1)
      | (go_at_call 47; (with_reducible refine (isAt_one f HF.out _ _ h5).mono ?_); rw [HI.out]; rintro e w1 ⟨rfl, hb1⟩; replace hb1 := below_of_alloc hb1; replace hbel := hbel.trans (hb1.mono hbel.size); replace h1 := row_keep hb1 h1; clear hb1)
      | (with_reducible refine wpList_loadAG rfl _ _ rfl _ _ rfl h1 4 agg4 size4 (by omega) ?_)
      | (go_at_call 48; (with_reducible refine (layers_any (tub f n) _).mono ?_); rw [HL.out]; rintro e w1 ⟨rfl, hb1⟩; replace hbel := hbel.trans (hb1.mono hbel.size); replace h1 := row_keep hb1 h1; clear hb1)
      | (go_at_call 49; (with_reducible refine (top_any (tub f n) ht _).mono ?_); (try rw [HT.out.1, HT.out.2]); rintro e w1 ⟨rfl, hb1⟩; replace hbel := hbel.trans (hb1.mono hbel.size); replace h1 := row_keep hb1 h1; clear hb1)
    go_ret3
    exact ⟨rfl, hbel⟩
  | true =>
    have HF : Hid _ := hf
    by_cases hi : 0 ≤ i ∧ i ≤ 5
    · have HI : Hid _ := show (decide (0 ≤ i) && decide (i ≤ 5)) = true by simpa using hi
      obtain ⟨n, rfl⟩ : ∃ n : Nat, i = n := ⟨i.toNat, by omega⟩
      have hn : n ≤ 5 := by omega
      have ht := tube_of_rack hf hn
      have hi1 : (0 : Int) ≤ (n : Int) := by omega
      have hi3 : (n : Int) < 6 := by omega
      by_cases h0 : nlay (tub f n) = 0
      · rw [topR_bad (by simp [h0])]
        have HL : Hid _ := h0
        have HT : Hid ((tpF (tub f n)).1 = 0 ∧ (tpF (tub f n)).2 = 0) := by rw [tpF_zero h0]; exact ⟨rfl, rfl⟩
        clear hf hi h0
        go_enter Try.func15, Try.ntmps15
        go_wp2_with first
          | (with_reducible refine wpList_loadW rfl _ _ rfl _ rfl h1 agg24r size24r ?_)
          | (go_at_call 47; (with_reducible refine (isAt_bad f HF.out _ _).mono ?_); rintro e w1 ⟨rfl, hb1⟩; replace hb1 := below_of_alloc hb1; replace hbel := hbel.trans (hb1.mono hbel.size); replace h1 := row_keep hb1 h1; clear hb1)
          | (go_at_call 47; (with_reducible refine (isAt_one f HF.out _ _ h5).mono ?_); rw [HI.out]; rintro e w1 ⟨rfl, hb1⟩; replace hb1 := below_of_alloc hb1; replace hbel := hbel.trans (hb1.mono hbel.size); replace h1 := row_keep hb1 h1; clear hb1)
          | (with_reducible refine wpList_loadAG rfl _ _ rfl _ _ rfl h1 4 agg4 size4 (by omega) ?_)
          | (go_at_call 48; (with_reducible refine (layers_any (tub f n) _).mono ?_); rw [HL.out]; rintro e w1 ⟨rfl, hb1⟩; replace hbel := hbel.trans (hb1.mono hbel.size); replace h1 := row_keep hb1 h1; clear hb1)
          | (go_at_call 49; (with_reducible refine (top_any (tub f n) ht _).mono ?_); (try rw [HT.out.1, HT.out.2]); rintro e w1 ⟨rfl, hb1⟩; replace hbel := hbel.trans (hb1.mono hbel.size); replace h1 := row_keep hb1 h1; clear hb1)
        go_ret3
        exact ⟨rfl, hbel⟩
      · obtain ⟨L, hL⟩ : ∃ L, nlay (tub f n) = L + 1 := ⟨nlay (tub f n) - 1, by omega⟩
        have e : topR f n = ((tpF (tub f n)).1, (tpF (tub f n)).2, true) := if_pos ⟨hf, hi, by rw [Int.toNat_natCast]; omega⟩
        have hs := (tpF_sign ht).2.1.2 (by omega)
        have HL : Hid _ := hL
        have HT : Hid (1 = 1) := rfl
        have hsd : decide (0 < (tpF (tub f n)).2) = true := decide_eq_true hs
        have hL0 : ((L : Int) + 1 == 0) = false := by simp; omega
        rw [e]
        clear hf hi h0 e hL hs
        go_enter Try.func15, Try.ntmps15
        go_wp2_with first
          | (with_reducible refine wpList_loadW rfl _ _ rfl _ rfl h1 agg24r size24r ?_)
          | (go_at_call 47; (with_reducible refine (isAt_bad f HF.out _ _).mono ?_); rintro e w1 ⟨rfl, hb1⟩; replace hb1 := below_of_alloc hb1; replace hbel := hbel.trans (hb1.mono hbel.size); replace h1 := row_keep hb1 h1; clear hb1)
          | (go_at_call 47; (with_reducible refine (isAt_one f HF.out _ _ h5).mono ?_); rw [HI.out]; rintro e w1 ⟨rfl, hb1⟩; replace hb1 := below_of_alloc hb1; replace hbel := hbel.trans (hb1.mono hbel.size); replace h1 := row_keep hb1 h1; clear hb1)
          | (with_reducible refine wpList_loadAG rfl _ _ rfl _ _ rfl h1 4 agg4 size4 (by omega) ?_)
          | (go_at_call 48; (with_reducible refine (layers_any (tub f n) _).mono ?_); rw [HL.out]; rintro e w1 ⟨rfl, hb1⟩; replace hbel := hbel.trans (hb1.mono hbel.size); replace h1 := row_keep hb1 h1; clear hb1)
          | (go_at_call 49; (with_reducible refine (top_any (tub f n) ht _).mono ?_); (try rw [HT.out.1, HT.out.2]); rintro e w1 ⟨rfl, hb1⟩; replace hbel := hbel.trans (hb1.mono hbel.size); replace h1 := row_keep hb1 h1; clear hb1)
        go_ret3
        exact ⟨rfl, hbel⟩
    · rw [topR_bad (by simp [hi])]
      have HI : Hid _ := show (decide (0 ≤ i) && decide (i ≤ 5)) = false by simpa using hi
      have HT : Hid (1 = 1) := rfl
      have HL : Hid (1 = 1) := rfl
      clear hf hi
      go_enter Try.func15, Try.ntmps15
      go_wp2_with first
        | (with_reducible refine wpList_loadW rfl _ _ rfl _ rfl h1 agg24r size24r ?_)
        | (go_at_call 47; (with_reducible refine (isAt_bad f HF.out _ _).mono ?_); rintro e w1 ⟨rfl, hb1⟩; replace hb1 := below_of_alloc hb1; replace hbel := hbel.trans (hb1.mono hbel.size); replace h1 := row_keep hb1 h1; clear hb1)
        | (go_at_call 47; (with_reducible refine (isAt_one f HF.out _ _ h5).mono ?_); rw [HI.out]; rintro e w1 ⟨rfl, hb1⟩; replace hb1 := below_of_alloc hb1; replace hbel := hbel.trans (hb1.mono hbel.size); replace h1 := row_keep hb1 h1; clear hb1)
        | (with_reducible refine wpList_loadAG rfl _ _ rfl _ _ rfl h1 4 agg4 size4 (by omega) ?_)
        | (go_at_call 48; (with_reducible refine (layers_any (tub f n) _).mono ?_); rw [HL.out]; rintro e w1 ⟨rfl, hb1⟩; replace hbel := hbel.trans (hb1.mono hbel.size); replace h1 := row_keep hb1 h1; clear hb1)
        | (go_at_call 49; (with_reducible refine (top_any (tub f n) ht _).mono ?_); (try rw [HT.out.1, HT.out.2]); rintro e w1 ⟨rfl, hb1⟩; replace hbel := hbel.trans (hb1.mono hbel.size); replace h1 := row_keep hb1 h1; clear hb1)
      go_ret3
      exact ⟨rfl, hbel⟩
set_option linter.unusedVariables false in
theorem FnExactTopOf_walk (x0 : Nat → Int) (hx0 : ∀ j, I64 (x0 j)) (x1 : Int) (hx1 : I64 x1) (w : World) : Calls Try.prog 3 #[.agg (arr 24 x0), .int .i64 x1] w fun e w' => e = .returned (.bool true) ∧ Below w.heap.size w w' := by
  have hr0 : (w.alloc (.cells (arr 24 x0) 25)).heap[w.heap.size]? = some (.cells (arr 24 x0) 25 (0, 0)) := by rw [heap_new (by simp)]
  have hbel : Below w.heap.size w (w.alloc (.cells (arr 24 x0) 25)) := ((Below.refl _ _).alloc (by simp) _)
  go_enter Try.func3, Try.ntmps3
  go_wp2_with first
    | (with_reducible refine wpList_loadW rfl _ _ rfl _ rfl hr0 agg24l size24l ?_)
    | (go_at_call 14; (with_reducible refine (toRack_any _ _).mono ?_); (rintro e w1 ⟨rfl, hb1⟩; replace hbel := hbel.trans (hb1.mono hbel.size); replace hr0 := row_keep hb1 hr0; clear hb1))
    | (go_at_call 13; (with_reducible refine (specTopOf_any _ _ _).mono ?_); (rintro e w1 ⟨rfl, hb1⟩; replace hbel := hbel.trans (hb1.mono hbel.size); replace hr0 := row_keep hb1 hr0; clear hb1))
    | (go_at_call 15; (with_reducible refine (implTopOf_any _ _ _).mono ?_); (rintro e w1 ⟨rfl, hb1⟩; replace hbel := hbel.trans (hb1.mono hbel.size); replace hr0 := row_keep hb1 hr0; clear hb1))
  go_ret
  exact ⟨rfl, hbel⟩
end Go.Proofs.Ytbiplciklmagoaa
