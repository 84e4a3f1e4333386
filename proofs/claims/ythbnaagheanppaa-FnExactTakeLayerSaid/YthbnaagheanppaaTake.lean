/- TakeLayer: the program's and the reference's, and the law. -/
import Derived.Test.YthbnaagheanppaaPut
namespace Go.Proofs.Ythbnaagheanppaa
open Go.RowKit
def takeLayer (f : Nat → Int) (i : Int) : (Nat → Int) × Int × Bool := if rackB f = true ∧ (0 ≤ i ∧ i ≤ 5) ∧ nlay (tub f i.toNat) ≠ 0 then (upd f (i.toNat * 4 + (nlay (tub f i.toNat) - 1)) 0, f (i.toNat * 4 + (nlay (tub f i.toNat) - 1)), true) else (fun _ => 0, 0, false)
theorem takeLayer_bad {f : Nat → Int} {i : Int} (h : ¬ (rackB f = true ∧ (0 ≤ i ∧ i ≤ 5) ∧ nlay (tub f i.toNat) ≠ 0)) : takeLayer f i = (fun _ => 0, 0, false) := if_neg h

theorem specTake_any (f : Nat → Int) (i : Int) (w : World) : Calls Try.prog 35 #[.agg (arr 24 f), .int .i64 i] w fun e w' => e = .returned (.tuple #[.agg (arr 24 (takeLayer f i).1), .int .i64 (takeLayer f i).2.1, .bool (takeLayer f i).2.2]) ∧ Below w.heap.size w w' := by
  have h1 : ((w.alloc (.cells (arr 24 f) 29)).alloc (.cells (arr 24 fun _ => 0) 29)).heap[w.heap.size]? = some (.cells (arr 24 f) 29 (0, 0)) := by rw [heap_old (by simp), heap_new rfl]
  have h2 : ((w.alloc (.cells (arr 24 f) 29)).alloc (.cells (arr 24 fun _ => 0) 29)).heap[w.heap.size + 1]? = some (.cells (arr 24 fun _ => 0) 29 (0, 0)) := heap_new (by simp)
  have hbel : Below w.heap.size w ((w.alloc (.cells (arr 24 f) 29)).alloc (.cells (arr 24 fun _ => 0) 29)) := ((Below.refl _ _).alloc (by simp) _).alloc (by simp) _
  by_cases hok : rackB f = true ∧ (0 ≤ i ∧ i ≤ 5) ∧ nlay (tub f i.toNat) ≠ 0
  · obtain ⟨hf, hi, hn4⟩ := hok
    have HF : Hid _ := hf
    have HI : Hid _ := show (decide (0 ≤ i) && decide (i ≤ 5)) = true by simpa using hi
    obtain ⟨n, rfl⟩ : ∃ n : Nat, i = n := ⟨i.toNat, by omega⟩
    have hn : n ≤ 5 := by omega
    have ht := tube_of_rack hf hn
    rw [Int.toNat_natCast] at hn4
    obtain ⟨m, hm⟩ : ∃ m, nlay (fun j => f (n * 4 + j)) = m + 1 := ⟨nlay (tub f n) - 1, by unfold tub at *; omega⟩
    have hm4 : m < 4 := by have := nlay_le (fun j => f (n * 4 + j)); omega
    have e : takeLayer f n = (upd f (n * 4 + m) 0, f (n * 4 + m), true) := by
      unfold takeLayer
      rw [if_pos ⟨hf, hi, by simpa using hn4⟩, Int.toNat_natCast, show nlay (tub f n) = m + 1 from hm]
      rfl
    rw [e]
    have H4 : Hid (nlay (fun j => f (n * 4 + j)) = m + 1) := hm
    have hi1 : (0 : Int) ≤ (n : Int) := by omega
    have hi3 : (n : Int) < 6 := by omega
    have hm5 : (m : Int) < 4 := by omega
    clear hi e hf hm hn4
    go_enter Try.func35, Try.ntmps35
    go_wp2_with first
      | (with_reducible refine wpList_allocA rfl 29 rfl 24 zero24r ?_)
      | (with_reducible refine wpList_loadW rfl _ _ rfl _ rfl h1 agg24r size24r ?_)
      | (with_reducible refine wpList_build0 rfl 29 rfl 24 zbuild24 ?_)
      | (with_reducible refine wpList_storeW rfl _ _ _ rfl _ rfl rfl h2 size24r ?_)
      | (go_at_call 43; (with_reducible refine (l2Rack_any _ _).mono ?_); rw [HF.out]; rintro e w1 ⟨rfl, hb1⟩; replace hbel := hbel.trans (hb1.mono hbel.size); replace h1 := row_keep hb1 h1; replace h2 := row_keep hb1 h2; clear hb1)
      | (go_at_call 49; (with_reducible refine (l2Place_any _ _).mono ?_); rw [HI.out]; rintro e w' ⟨rfl, rfl⟩)
      | (with_reducible refine wpList_loadI rfl _ _ rfl _ _ rfl h1 aggI undI (by omega) ?_)
      | (with_reducible refine wpList_loadAG rfl _ _ rfl _ _ rfl h1 4 agg4 size4 (by omega) ?_)
      | ((with_reducible refine wpList_storeI rfl 3 _ _ rfl _ _ rfl rfl h1 size1 (by omega) ?_); have h3 := setRow_heap _ _ _ (arr 24 (upd f (n * 4 + m) 0)) _ _ h1; have h4 := (setRow_other _ w.heap.size (w.heap.size + 1) (arr 24 (upd f (n * 4 + m) 0)) (by omega)).trans h2)
      | (with_reducible refine wpList_loadW rfl _ _ rfl _ rfl h3 agg24r size24r ?_)
      | (with_reducible refine wpList_storeW rfl _ _ _ rfl _ rfl rfl h4 size24r ?_)
      | (go_at_call 66; (with_reducible refine (l2Many_ok (fun j => f (n * 4 + j)) ht _).mono ?_); rw [H4.out]; rintro e w1 ⟨rfl, hb1⟩; replace hbel := hbel.trans (hb1.mono hbel.size); replace h1 := row_keep hb1 h1; replace h2 := row_keep hb1 h2; clear hb1)
    exact bodyPost_ret_by (results_ctt _ _ _ _ _ _ _ rfl rfl (setRow_heap _ _ _ _ _ _ h4) agg24r size24r) rfl ⟨rfl, below_setRow2 (below_setRow2 hbel (by omega) _) (by omega) _⟩
  · rw [takeLayer_bad hok]
    cases hf : rackB f with
    | false =>
      have HF : Hid _ := hf
      clear hf
      go_enter Try.func35, Try.ntmps35
      go_wp2_with first
        | (with_reducible refine wpList_allocA rfl 29 rfl 24 zero24r ?_)
        | (with_reducible refine wpList_loadW rfl _ _ rfl _ rfl h1 agg24r size24r ?_)
        | (with_reducible refine wpList_build0 rfl 29 rfl 24 zbuild24 ?_)
        | (with_reducible refine wpList_storeW rfl _ _ _ rfl _ rfl rfl h2 size24r ?_)
        | (go_at_call 43; (with_reducible refine (l2Rack_any _ _).mono ?_); rw [HF.out]; rintro e w1 ⟨rfl, hb1⟩; replace hbel := hbel.trans (hb1.mono hbel.size); replace h1 := row_keep hb1 h1; replace h2 := row_keep hb1 h2; clear hb1)
        | (go_at_call 49; (with_reducible refine (l2Place_any _ _).mono ?_); rw [HI.out]; rintro e w' ⟨rfl, rfl⟩)
        | (with_reducible refine wpList_loadI rfl _ _ rfl _ _ rfl h1 aggI undI (by omega) ?_)
        | (with_reducible refine wpList_loadAG rfl _ _ rfl _ _ rfl h1 4 agg4 size4 (by omega) ?_)
        | ((with_reducible refine wpList_storeI rfl 3 _ _ rfl _ _ rfl rfl h1 size1 (by omega) ?_); have h3 := setRow_heap _ _ _ (arr 24 (upd f (n * 4 + m) 0)) _ _ h1; have h4 := (setRow_other _ w.heap.size (w.heap.size + 1) (arr 24 (upd f (n * 4 + m) 0)) (by omega)).trans h2)
        | (with_reducible refine wpList_loadW rfl _ _ rfl _ rfl h3 agg24r size24r ?_)
        | (with_reducible refine wpList_storeW rfl _ _ _ rfl _ rfl rfl h4 size24r ?_)
        | (go_at_call 66; (with_reducible refine (l2Many_ok (fun j => f (n * 4 + j)) ht _).mono ?_); rw [H4.out]; rintro e w1 ⟨rfl, hb1⟩; replace hbel := hbel.trans (hb1.mono hbel.size); replace h1 := row_keep hb1 h1; replace h2 := row_keep hb1 h2; clear hb1)
      exact bodyPost_ret_by (results_ctt _ _ _ _ _ _ _ rfl rfl (setRow_heap _ _ _ _ _ _ h2) agg24r size24r) rfl ⟨rfl, below_setRow2 hbel (by omega) _⟩
    | true =>
      have HF : Hid _ := hf
      by_cases hi : 0 ≤ i ∧ i ≤ 5
      · have HI : Hid _ := show (decide (0 ≤ i) && decide (i ≤ 5)) = true by simpa using hi
        obtain ⟨n, rfl⟩ : ∃ n : Nat, i = n := ⟨i.toNat, by omega⟩
        have hn : n ≤ 5 := by omega
        have ht := tube_of_rack hf hn
        have hi1 : (0 : Int) ≤ (n : Int) := by omega
        have hi3 : (n : Int) < 6 := by omega
        have h4 : nlay (fun j => f (n * 4 + j)) = 0 := by
          have h6 : ¬ nlay (tub f n) ≠ 0 := fun h7 => hok ⟨hf, hi, by simpa using h7⟩
          unfold tub at h6
          omega
        have H4 : Hid _ := h4
        clear hf hi hok h4
        go_enter Try.func35, Try.ntmps35
        go_wp2_with first
          | (with_reducible refine wpList_allocA rfl 29 rfl 24 zero24r ?_)
          | (with_reducible refine wpList_loadW rfl _ _ rfl _ rfl h1 agg24r size24r ?_)
          | (with_reducible refine wpList_build0 rfl 29 rfl 24 zbuild24 ?_)
          | (with_reducible refine wpList_storeW rfl _ _ _ rfl _ rfl rfl h2 size24r ?_)
          | (go_at_call 43; (with_reducible refine (l2Rack_any _ _).mono ?_); rw [HF.out]; rintro e w1 ⟨rfl, hb1⟩; replace hbel := hbel.trans (hb1.mono hbel.size); replace h1 := row_keep hb1 h1; replace h2 := row_keep hb1 h2; clear hb1)
          | (go_at_call 49; (with_reducible refine (l2Place_any _ _).mono ?_); rw [HI.out]; rintro e w' ⟨rfl, rfl⟩)
          | (with_reducible refine wpList_loadI rfl _ _ rfl _ _ rfl h1 aggI undI (by omega) ?_)
          | (with_reducible refine wpList_loadAG rfl _ _ rfl _ _ rfl h1 4 agg4 size4 (by omega) ?_)
          | ((with_reducible refine wpList_storeI rfl 3 _ _ rfl _ _ rfl rfl h1 size1 (by omega) ?_); have h3 := setRow_heap _ _ _ (arr 24 (upd f (n * 4 + m) 0)) _ _ h1; have h4 := (setRow_other _ w.heap.size (w.heap.size + 1) (arr 24 (upd f (n * 4 + m) 0)) (by omega)).trans h2)
          | (with_reducible refine wpList_loadW rfl _ _ rfl _ rfl h3 agg24r size24r ?_)
          | (with_reducible refine wpList_storeW rfl _ _ _ rfl _ rfl rfl h4 size24r ?_)
          | (go_at_call 66; (with_reducible refine (l2Many_ok (fun j => f (n * 4 + j)) ht _).mono ?_); rw [H4.out]; rintro e w1 ⟨rfl, hb1⟩; replace hbel := hbel.trans (hb1.mono hbel.size); replace h1 := row_keep hb1 h1; replace h2 := row_keep hb1 h2; clear hb1)
        exact bodyPost_ret_by (results_ctt _ _ _ _ _ _ _ rfl rfl (setRow_heap _ _ _ _ _ _ h2) agg24r size24r) rfl ⟨rfl, below_setRow2 hbel (by omega) _⟩
      · have HI : Hid _ := show (decide (0 ≤ i) && decide (i ≤ 5)) = false by simpa using hi
        clear hf hi hok
        go_enter Try.func35, Try.ntmps35
        go_wp2_with first
          | (with_reducible refine wpList_allocA rfl 29 rfl 24 zero24r ?_)
          | (with_reducible refine wpList_loadW rfl _ _ rfl _ rfl h1 agg24r size24r ?_)
          | (with_reducible refine wpList_build0 rfl 29 rfl 24 zbuild24 ?_)
          | (with_reducible refine wpList_storeW rfl _ _ _ rfl _ rfl rfl h2 size24r ?_)
          | (go_at_call 43; (with_reducible refine (l2Rack_any _ _).mono ?_); rw [HF.out]; rintro e w1 ⟨rfl, hb1⟩; replace hbel := hbel.trans (hb1.mono hbel.size); replace h1 := row_keep hb1 h1; replace h2 := row_keep hb1 h2; clear hb1)
          | (go_at_call 49; (with_reducible refine (l2Place_any _ _).mono ?_); rw [HI.out]; rintro e w' ⟨rfl, rfl⟩)
          | (with_reducible refine wpList_loadI rfl _ _ rfl _ _ rfl h1 aggI undI (by omega) ?_)
          | (with_reducible refine wpList_loadAG rfl _ _ rfl _ _ rfl h1 4 agg4 size4 (by omega) ?_)
          | ((with_reducible refine wpList_storeI rfl 3 _ _ rfl _ _ rfl rfl h1 size1 (by omega) ?_); have h3 := setRow_heap _ _ _ (arr 24 (upd f (n * 4 + m) 0)) _ _ h1; have h4 := (setRow_other _ w.heap.size (w.heap.size + 1) (arr 24 (upd f (n * 4 + m) 0)) (by omega)).trans h2)
          | (with_reducible refine wpList_loadW rfl _ _ rfl _ rfl h3 agg24r size24r ?_)
          | (with_reducible refine wpList_storeW rfl _ _ _ rfl _ rfl rfl h4 size24r ?_)
          | (go_at_call 66; (with_reducible refine (l2Many_ok (fun j => f (n * 4 + j)) ht _).mono ?_); rw [H4.out]; rintro e w1 ⟨rfl, hb1⟩; replace hbel := hbel.trans (hb1.mono hbel.size); replace h1 := row_keep hb1 h1; replace h2 := row_keep hb1 h2; clear hb1)
        exact bodyPost_ret_by (results_ctt _ _ _ _ _ _ _ rfl rfl (setRow_heap _ _ _ _ _ _ h2) agg24r size24r) rfl ⟨rfl, below_setRow2 hbel (by omega) _⟩

theorem implTake_any (f : Nat → Int) (i : Int) (w : World) : Calls Try.prog 36 #[.agg (arr 24 f), .int .i64 i] w fun e w' => e = .returned (.tuple #[.agg (arr 24 (takeLayer f i).1), .int .i64 (takeLayer f i).2.1, .bool (takeLayer f i).2.2]) ∧ Below w.heap.size w w' := by
  have h1 : ((w.alloc (.cells (arr 24 f) 29)).alloc (.cells (arr 24 fun _ => 0) 29)).heap[w.heap.size]? = some (.cells (arr 24 f) 29 (0, 0)) := by rw [heap_old (by simp), heap_new rfl]
  have h2 : ((w.alloc (.cells (arr 24 f) 29)).alloc (.cells (arr 24 fun _ => 0) 29)).heap[w.heap.size + 1]? = some (.cells (arr 24 fun _ => 0) 29 (0, 0)) := heap_new (by simp)
  have hbel : Below w.heap.size w ((w.alloc (.cells (arr 24 f) 29)).alloc (.cells (arr 24 fun _ => 0) 29)) := ((Below.refl _ _).alloc (by simp) _).alloc (by simp) _
  have h5 : (((w.alloc (.cells (arr 24 f) 29)).alloc (.cells (arr 24 fun _ => 0) 29)).alloc (.cells #[.int .i64 i] 3)).heap[w.heap.size + 1 + 1]? = some (.cells #[.int .i64 i] 3 (0, 0)) := heap_new (by simp)
  by_cases hok : rackB f = true ∧ (0 ≤ i ∧ i ≤ 5) ∧ nlay (tub f i.toNat) ≠ 0
  · obtain ⟨hf, hi, hn4⟩ := hok
    have HF : Hid _ := hf
    have HI : Hid _ := show (decide (0 ≤ i) && decide (i ≤ 5)) = true by simpa using hi
    obtain ⟨n, rfl⟩ : ∃ n : Nat, i = n := ⟨i.toNat, by omega⟩
    have hn : n ≤ 5 := by omega
    have ht := tube_of_rack hf hn
    rw [Int.toNat_natCast] at hn4
    obtain ⟨m, hm⟩ : ∃ m, nlay (fun j => f (n * 4 + j)) = m + 1 := ⟨nlay (tub f n) - 1, by unfold tub at *; omega⟩
    have hm4 : m < 4 := by have := nlay_le (fun j => f (n * 4 + j)); omega
    have e : takeLayer f n = (upd f (n * 4 + m) 0, f (n * 4 + m), true) := by
      unfold takeLayer
      rw [if_pos ⟨hf, hi, by simpa using hn4⟩, Int.toNat_natCast, show nlay (tub f n) = m + 1 from hm]
      rfl
    rw [e]
    have H4 : Hid (nlay (fun j => f (n * 4 + j)) = m + 1) := hm
    have hi1 : (0 : Int) ≤ (n : Int) := by omega
    have hi3 : (n : Int) < 6 := by omega
    have hm5 : (m : Int) < 4 := by omega
    clear hi e hf hm hn4
    go_enter Try.func36, Try.ntmps36
    go_wp2_with first
      | (with_reducible refine wpList_allocA rfl 29 rfl 24 zero24r ?_)
      | (with_reducible refine wpList_loadW rfl _ _ rfl _ rfl h1 agg24r size24r ?_)
      | (with_reducible refine wpList_build0 rfl 29 rfl 24 zbuild24 ?_)
      | (with_reducible refine wpList_storeW rfl _ _ _ rfl _ rfl rfl h2 size24r ?_)
      | (go_at_call 60; (with_reducible refine (isAt_bad f HF.out _ _).mono ?_); rintro e w1 ⟨rfl, hb1⟩; replace hb1 := below_of_alloc hb1; replace hbel := hbel.trans (hb1.mono hbel.size); replace h1 := row_keep hb1 h1; replace h2 := row_keep hb1 h2; clear hb1)
      | (go_at_call 60; (with_reducible refine (isAt_one f HF.out _ _ h5).mono ?_); rw [HI.out]; rintro e w1 ⟨rfl, hb1⟩; replace hb1 := below_of_alloc hb1; replace hbel := hbel.trans (hb1.mono hbel.size); replace h1 := row_keep hb1 h1; replace h2 := row_keep hb1 h2; clear hb1)
      | (with_reducible refine wpList_loadI rfl _ _ rfl _ _ rfl h1 aggI undI (by omega) ?_)
      | (with_reducible refine wpList_loadAG rfl _ _ rfl _ _ rfl h1 4 agg4 size4 (by omega) ?_)
      | ((with_reducible refine wpList_storeI rfl 3 _ _ rfl _ _ rfl rfl h1 size1 (by omega) ?_); have h3 := setRow_heap _ _ _ (arr 24 (upd f (n * 4 + m) 0)) _ _ h1; have h4 := (setRow_other _ w.heap.size (w.heap.size + 1) (arr 24 (upd f (n * 4 + m) 0)) (by omega)).trans h2)
      | (with_reducible refine wpList_loadW rfl _ _ rfl _ rfl h3 agg24r size24r ?_)
      | (with_reducible refine wpList_storeW rfl _ _ _ rfl _ rfl rfl h4 size24r ?_)
      | (go_at_call 68; (with_reducible refine (layers_any _ _).mono ?_); rw [H4.out]; rintro e w1 ⟨rfl, hb1⟩; replace hbel := hbel.trans (hb1.mono hbel.size); replace h1 := row_keep hb1 h1; replace h2 := row_keep hb1 h2; clear hb1)
    exact bodyPost_ret_by (results_ctt _ _ _ _ _ _ _ rfl rfl (setRow_heap _ _ _ _ _ _ h4) agg24r size24r) rfl ⟨rfl, below_setRow2 (below_setRow2 hbel (by omega) _) (by omega) _⟩
  · rw [takeLayer_bad hok]
    cases hf : rackB f with
    | false =>
      have HF : Hid _ := hf
      clear hf
      go_enter Try.func36, Try.ntmps36
      go_wp2_with first
        | (with_reducible refine wpList_allocA rfl 29 rfl 24 zero24r ?_)
        | (with_reducible refine wpList_loadW rfl _ _ rfl _ rfl h1 agg24r size24r ?_)
        | (with_reducible refine wpList_build0 rfl 29 rfl 24 zbuild24 ?_)
        | (with_reducible refine wpList_storeW rfl _ _ _ rfl _ rfl rfl h2 size24r ?_)
        | (go_at_call 60; (with_reducible refine (isAt_bad f HF.out _ _).mono ?_); rintro e w1 ⟨rfl, hb1⟩; replace hb1 := below_of_alloc hb1; replace hbel := hbel.trans (hb1.mono hbel.size); replace h1 := row_keep hb1 h1; replace h2 := row_keep hb1 h2; clear hb1)
        | (go_at_call 60; (with_reducible refine (isAt_one f HF.out _ _ h5).mono ?_); rw [HI.out]; rintro e w1 ⟨rfl, hb1⟩; replace hb1 := below_of_alloc hb1; replace hbel := hbel.trans (hb1.mono hbel.size); replace h1 := row_keep hb1 h1; replace h2 := row_keep hb1 h2; clear hb1)
        | (with_reducible refine wpList_loadI rfl _ _ rfl _ _ rfl h1 aggI undI (by omega) ?_)
        | (with_reducible refine wpList_loadAG rfl _ _ rfl _ _ rfl h1 4 agg4 size4 (by omega) ?_)
        | ((with_reducible refine wpList_storeI rfl 3 _ _ rfl _ _ rfl rfl h1 size1 (by omega) ?_); have h3 := setRow_heap _ _ _ (arr 24 (upd f (n * 4 + m) 0)) _ _ h1; have h4 := (setRow_other _ w.heap.size (w.heap.size + 1) (arr 24 (upd f (n * 4 + m) 0)) (by omega)).trans h2)
        | (with_reducible refine wpList_loadW rfl _ _ rfl _ rfl h3 agg24r size24r ?_)
        | (with_reducible refine wpList_storeW rfl _ _ _ rfl _ rfl rfl h4 size24r ?_)
        | (go_at_call 68; (with_reducible refine (layers_any _ _).mono ?_); rw [H4.out]; rintro e w1 ⟨rfl, hb1⟩; replace hbel := hbel.trans (hb1.mono hbel.size); replace h1 := row_keep hb1 h1; replace h2 := row_keep hb1 h2; clear hb1)
      exact bodyPost_ret_by (results_ctt _ _ _ _ _ _ _ rfl rfl (setRow_heap _ _ _ _ _ _ h2) agg24r size24r) rfl ⟨rfl, below_setRow2 hbel (by omega) _⟩
    | true =>
      have HF : Hid _ := hf
      by_cases hi : 0 ≤ i ∧ i ≤ 5
      · have HI : Hid _ := show (decide (0 ≤ i) && decide (i ≤ 5)) = true by simpa using hi
        obtain ⟨n, rfl⟩ : ∃ n : Nat, i = n := ⟨i.toNat, by omega⟩
        have hn : n ≤ 5 := by omega
        have ht := tube_of_rack hf hn
        have hi1 : (0 : Int) ≤ (n : Int) := by omega
        have hi3 : (n : Int) < 6 := by omega
        have h4 : nlay (fun j => f (n * 4 + j)) = 0 := by
          have h6 : ¬ nlay (tub f n) ≠ 0 := fun h7 => hok ⟨hf, hi, by simpa using h7⟩
          unfold tub at h6
          omega
        have H4 : Hid _ := h4
        clear hf hi hok h4
        go_enter Try.func36, Try.ntmps36
        go_wp2_with first
          | (with_reducible refine wpList_allocA rfl 29 rfl 24 zero24r ?_)
          | (with_reducible refine wpList_loadW rfl _ _ rfl _ rfl h1 agg24r size24r ?_)
          | (with_reducible refine wpList_build0 rfl 29 rfl 24 zbuild24 ?_)
          | (with_reducible refine wpList_storeW rfl _ _ _ rfl _ rfl rfl h2 size24r ?_)
          | (go_at_call 60; (with_reducible refine (isAt_bad f HF.out _ _).mono ?_); rintro e w1 ⟨rfl, hb1⟩; replace hb1 := below_of_alloc hb1; replace hbel := hbel.trans (hb1.mono hbel.size); replace h1 := row_keep hb1 h1; replace h2 := row_keep hb1 h2; clear hb1)
          | (go_at_call 60; (with_reducible refine (isAt_one f HF.out _ _ h5).mono ?_); rw [HI.out]; rintro e w1 ⟨rfl, hb1⟩; replace hb1 := below_of_alloc hb1; replace hbel := hbel.trans (hb1.mono hbel.size); replace h1 := row_keep hb1 h1; replace h2 := row_keep hb1 h2; clear hb1)
          | (with_reducible refine wpList_loadI rfl _ _ rfl _ _ rfl h1 aggI undI (by omega) ?_)
          | (with_reducible refine wpList_loadAG rfl _ _ rfl _ _ rfl h1 4 agg4 size4 (by omega) ?_)
          | ((with_reducible refine wpList_storeI rfl 3 _ _ rfl _ _ rfl rfl h1 size1 (by omega) ?_); have h3 := setRow_heap _ _ _ (arr 24 (upd f (n * 4 + m) 0)) _ _ h1; have h4 := (setRow_other _ w.heap.size (w.heap.size + 1) (arr 24 (upd f (n * 4 + m) 0)) (by omega)).trans h2)
          | (with_reducible refine wpList_loadW rfl _ _ rfl _ rfl h3 agg24r size24r ?_)
          | (with_reducible refine wpList_storeW rfl _ _ _ rfl _ rfl rfl h4 size24r ?_)
          | (go_at_call 68; (with_reducible refine (layers_any _ _).mono ?_); rw [H4.out]; rintro e w1 ⟨rfl, hb1⟩; replace hbel := hbel.trans (hb1.mono hbel.size); replace h1 := row_keep hb1 h1; replace h2 := row_keep hb1 h2; clear hb1)
        exact bodyPost_ret_by (results_ctt _ _ _ _ _ _ _ rfl rfl (setRow_heap _ _ _ _ _ _ h2) agg24r size24r) rfl ⟨rfl, below_setRow2 hbel (by omega) _⟩
      · have HI : Hid _ := show (decide (0 ≤ i) && decide (i ≤ 5)) = false by simpa using hi
        clear hf hi hok
        go_enter Try.func36, Try.ntmps36
        go_wp2_with first
          | (with_reducible refine wpList_allocA rfl 29 rfl 24 zero24r ?_)
          | (with_reducible refine wpList_loadW rfl _ _ rfl _ rfl h1 agg24r size24r ?_)
          | (with_reducible refine wpList_build0 rfl 29 rfl 24 zbuild24 ?_)
          | (with_reducible refine wpList_storeW rfl _ _ _ rfl _ rfl rfl h2 size24r ?_)
          | (go_at_call 60; (with_reducible refine (isAt_bad f HF.out _ _).mono ?_); rintro e w1 ⟨rfl, hb1⟩; replace hb1 := below_of_alloc hb1; replace hbel := hbel.trans (hb1.mono hbel.size); replace h1 := row_keep hb1 h1; replace h2 := row_keep hb1 h2; clear hb1)
          | (go_at_call 60; (with_reducible refine (isAt_one f HF.out _ _ h5).mono ?_); rw [HI.out]; rintro e w1 ⟨rfl, hb1⟩; replace hb1 := below_of_alloc hb1; replace hbel := hbel.trans (hb1.mono hbel.size); replace h1 := row_keep hb1 h1; replace h2 := row_keep hb1 h2; clear hb1)
          | (with_reducible refine wpList_loadI rfl _ _ rfl _ _ rfl h1 aggI undI (by omega) ?_)
          | (with_reducible refine wpList_loadAG rfl _ _ rfl _ _ rfl h1 4 agg4 size4 (by omega) ?_)
          | ((with_reducible refine wpList_storeI rfl 3 _ _ rfl _ _ rfl rfl h1 size1 (by omega) ?_); have h3 := setRow_heap _ _ _ (arr 24 (upd f (n * 4 + m) 0)) _ _ h1; have h4 := (setRow_other _ w.heap.size (w.heap.size + 1) (arr 24 (upd f (n * 4 + m) 0)) (by omega)).trans h2)
          | (with_reducible refine wpList_loadW rfl _ _ rfl _ rfl h3 agg24r size24r ?_)
          | (with_reducible refine wpList_storeW rfl _ _ _ rfl _ rfl rfl h4 size24r ?_)
          | (go_at_call 68; (with_reducible refine (layers_any _ _).mono ?_); rw [H4.out]; rintro e w1 ⟨rfl, hb1⟩; replace hbel := hbel.trans (hb1.mono hbel.size); replace h1 := row_keep hb1 h1; replace h2 := row_keep hb1 h2; clear hb1)
        exact bodyPost_ret_by (results_ctt _ _ _ _ _ _ _ rfl rfl (setRow_heap _ _ _ _ _ _ h2) agg24r size24r) rfl ⟨rfl, below_setRow2 hbel (by omega) _⟩

set_option linter.unusedVariables false in
theorem FnExactTakeLayer_walk (x0 : Nat → Int) (hx0 : ∀ j, I64 (x0 j)) (x1 : Int) (hx1 : I64 x1) (w : World) : Calls Try.prog 11 #[.agg (arr 24 x0), .int .i64 x1] w fun e w' => e = .returned (.bool true) ∧ Below w.heap.size w w' := by
  have hr0 : (w.alloc (.cells (arr 24 x0) 25)).heap[w.heap.size]? = some (.cells (arr 24 x0) 25 (0, 0)) := by rw [heap_new (by simp)]
  have hbel : Below w.heap.size w (w.alloc (.cells (arr 24 x0) 25)) := ((Below.refl _ _).alloc (by simp) _)
  have tok_hA0 : True := trivial
  have tok_hB0 : True := trivial
  go_enter Try.func11, Try.ntmps11
  go_wp2_with first
    | (with_reducible refine wpList_loadW rfl _ _ rfl _ rfl hr0 agg24l size24l ?_)
    | (go_at_call 16; (with_reducible refine (toRack_any _ _).mono ?_); (rintro e w1 ⟨rfl, hb1⟩; replace hbel := hbel.trans (hb1.mono hbel.size); replace hr0 := row_keep hb1 hr0; (try replace hA0 := row_keep hb1 hA0); (try replace hB0 := row_keep hb1 hB0); clear hb1))
    | (go_at_call 35; (with_reducible refine (specTake_any _ _ _).mono ?_); (rintro e w1 ⟨rfl, hb1⟩; replace hbel := hbel.trans (hb1.mono hbel.size); replace hr0 := row_keep hb1 hr0; (try replace hA0 := row_keep hb1 hA0); (try replace hB0 := row_keep hb1 hB0); clear hb1))
    | (go_at_call 36; (with_reducible refine (implTake_any _ _ _).mono ?_); (rintro e w1 ⟨rfl, hb1⟩; replace hbel := hbel.trans (hb1.mono hbel.size); replace hr0 := row_keep hb1 hr0; (try replace hA0 := row_keep hb1 hA0); (try replace hB0 := row_keep hb1 hB0); clear hb1))
    | (with_reducible refine wpList_allocA rfl 29 rfl 24 zero24r ?_)
    | (go_at_call 28; (with_reducible refine (eqRack_same _ _).mono ?_); (rintro e w1 ⟨rfl, hb1⟩; replace hbel := hbel.trans (hb1.mono hbel.size); replace hr0 := row_keep hb1 hr0; (try replace hA0 := row_keep hb1 hA0); (try replace hB0 := row_keep hb1 hB0); clear hb1))
    | (have _t := tok_hA0; with_reducible refine wpList_storeN rfl _ _ _ rfl rfl rfl size24r ?_; intro w1 hA0 hb1; replace hbel := hbel.trans (hb1.mono hbel.size); replace hr0 := row_keep hb1 hr0; clear hb1 _t tok_hA0)
    | (with_reducible refine wpList_loadWG rfl _ _ rfl _ rfl hA0 agg24r size24r ?_)
    | (have _t := tok_hB0; with_reducible refine wpList_storeN rfl _ _ _ rfl rfl rfl size24r ?_; intro w1 hB0 hb1; replace hbel := hbel.trans (hb1.mono hbel.size); replace hr0 := row_keep hb1 hr0; replace hA0 := row_keep hb1 hA0; clear hb1 _t tok_hB0)
    | (with_reducible refine wpList_loadWG rfl _ _ rfl _ rfl hB0 agg24r size24r ?_)
  go_ret
  exact ⟨rfl, hbel⟩
end Go.Proofs.Ythbnaagheanppaa
