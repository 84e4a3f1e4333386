/- PutLayer, TakeLayer, SwapTubes: the program's and the reference's, and the laws. -/
import Derived.Test.YthbnaagheanppaaRackD
import Derived.Test.YthbnaagheanppaaMem2
import Derived.Test.YthbnaagheanppaaHeld
namespace Go.Proofs.Ythbnaagheanppaa
set_option linter.unusedSimpArgs false
set_option linter.unusedVariables false
open Go.RowKit
theorem size24l : (Try.prog.info? 25).map (·.size) = some 24 := by kernel_rfl
theorem agg24l : aggB Try.prog 25 = true := by kernel_rfl
theorem zbuild24 : Try.prog.built 29 [] = some (arr 24 fun _ => 0) := by kernel_rfl
theorem tube_of_rack {f : Nat → Int} (h : rackB f = true) {n : Nat} (hn : n ≤ 5) : tubeB (tub f n) = true := (rackB_iff f).1 h n (by omega)

theorem isColor_any (x : Int) (w : World) : Calls Try.prog 67 #[.int .i64 x] w fun e w' => e = .returned (.bool (decide (1 ≤ x) && decide (x ≤ 5))) ∧ Below w.heap.size w w' := isColor_pred.2 x w

def putLayer (f : Nat → Int) (i c : Int) : (Nat → Int) × Bool := if rackB f = true ∧ (0 ≤ i ∧ i ≤ 5) ∧ (1 ≤ c ∧ c ≤ 5) ∧ nlay (tub f i.toNat) < 4 then (upd f (i.toNat * 4 + nlay (tub f i.toNat)) c, true) else (fun _ => 0, false)
theorem putLayer_bad {f : Nat → Int} {i c : Int} (h : ¬ (rackB f = true ∧ (0 ≤ i ∧ i ≤ 5) ∧ (1 ≤ c ∧ c ≤ 5) ∧ nlay (tub f i.toNat) < 4)) : putLayer f i c = (fun _ => 0, false) := if_neg h

theorem specPut_any (f : Nat → Int) (i c : Int) (w : World) : Calls Try.prog 33 #[.agg (arr 24 f), .int .i64 i, .int .i64 c] w fun e w' => e = .returned (.tuple #[.agg (arr 24 (putLayer f i c).1), .bool (putLayer f i c).2]) ∧ Below w.heap.size w w' := by
  have h1 : ((w.alloc (.cells (arr 24 f) 29)).alloc (.cells (arr 24 fun _ => 0) 29)).heap[w.heap.size]? = some (.cells (arr 24 f) 29 (0, 0)) := by rw [heap_old (by simp), heap_new rfl]
  have h2 : ((w.alloc (.cells (arr 24 f) 29)).alloc (.cells (arr 24 fun _ => 0) 29)).heap[w.heap.size + 1]? = some (.cells (arr 24 fun _ => 0) 29 (0, 0)) := heap_new (by simp)
  have hbel : Below w.heap.size w ((w.alloc (.cells (arr 24 f) 29)).alloc (.cells (arr 24 fun _ => 0) 29)) := ((Below.refl _ _).alloc (by simp) _).alloc (by simp) _
  by_cases hok : rackB f = true ∧ (0 ≤ i ∧ i ≤ 5) ∧ (1 ≤ c ∧ c ≤ 5) ∧ nlay (tub f i.toNat) < 4
  · obtain ⟨hf, hi, hc, hn4⟩ := hok
    obtain ⟨n, rfl⟩ : ∃ n : Nat, i = n := ⟨i.toNat, by omega⟩
    have hn : n ≤ 5 := by omega
    rw [Int.toNat_natCast] at hn4
    have e : putLayer f n c = (upd f (n * 4 + nlay (tub f n)) c, true) := by
      unfold putLayer; rw [if_pos ⟨hf, hi, hc, by simpa using hn4⟩]; rfl
    rw [e]
    have ht := tube_of_rack hf hn
    have hi1 : (0 : Int) ≤ (n : Int) := by omega
    have hi2 : (n : Int) ≤ 5 := by omega
    have hi3 : (n : Int) < 6 := by omega
    obtain ⟨hc1, hc2⟩ := hc
    have hm : ((nlay fun j => f (n * 4 + j) : Nat) : Int) < 4 := by have := hn4; unfold tub at this; omega
    clear hi e
    go_enter Try.func33, Try.ntmps33
    go_wp2_with first
      | (with_reducible refine wpList_allocA rfl 29 rfl 24 zero24r ?_; (try simp only [size_al]))
      | (with_reducible refine wpList_loadW rfl _ _ rfl _ rfl h1 agg24r size24r ?_)
      | (go_at_call 43; (with_reducible refine (l2Rack_any _ _).mono ?_); rw [hf]; rintro e w1 ⟨rfl, hb1⟩; replace hbel := hbel.trans (hb1.mono hbel.size); replace h1 := row_keep hb1 h1; replace h2 := row_keep hb1 h2; clear hb1)
      | (go_at_call 49; (with_reducible refine (l2Place_any _ _).mono ?_); rintro e w' ⟨rfl, rfl⟩)
      | (go_at_call 65; (with_reducible refine (l1In_any _ _ _ _).mono ?_); rintro e w' ⟨rfl, rfl⟩)
      | (with_reducible refine wpList_loadAG rfl _ _ rfl _ _ rfl h1 4 agg4 size4 (by omega) ?_)
      | (go_at_call 66; (with_reducible refine (l2Many_ok (fun j => f (n * 4 + j)) ht _).mono ?_); rintro e w1 ⟨rfl, hb1⟩; replace hbel := hbel.trans (hb1.mono hbel.size); replace h1 := row_keep hb1 h1; replace h2 := row_keep hb1 h2; clear hb1)
    refine wp_region_held 10 (Cls w _) (by kernel_rfl) (by kernel_rfl) (Cls.two h1 h2 hbel) ?_; simp only [List.take_succ_cons, List.take_zero, List.drop_succ_cons, List.drop_zero]
    repeat (first
      | (with_reducible refine wpQuiet_loadA rfl _ _ rfl _ _ rfl (fun _ h => h.r1) 4 agg4 size4 (by omega) ?_)
      | ((with_reducible refine wpQuiet_call rfl 66 _ _ rfl (.int .i64 (nlay fun j => f (n * 4 + j))) ?_ ?_ ?_); (exact enters_of Try.func66 (by kernel_rfl) rfl); (intro w' h'; exact (l2Many_ok (fun j => f (n * 4 + j)) ht w').mono fun _ _ ⟨he, hb⟩ => ⟨he, h'.keep hb⟩))
      | (refine wpQuiet_step (fun K hK => ?_); go_simp; (first | (refine ⟨_, fun _ _ => rfl, hK _ ?_⟩) | (refine ⟨_, fun _ _ => ⟨rfl, rfl⟩, hK _ ?_⟩) | (refine hK _ ?_)); clear hK K))
    refine wpQuiet_nil ?_
    intro wt hCt
    have h1 := hCt.r1
    have h2 := hCt.r2
    have hbel := hCt.2
    have h3 := setRow_heap wt _ _ (arr 24 (upd f (n * 4 + nlay fun j => f (n * 4 + j)) c)) _ _ h1
    have h4 := (setRow_other wt w.heap.size (w.heap.size + 1) (arr 24 (upd f (n * 4 + nlay fun j => f (n * 4 + j)) c)) (by omega)).trans h2
    go_wp2_with first
      | (with_reducible refine wpList_storeI rfl 3 _ _ rfl _ _ rfl rfl h1 size1 (by unfold tub at hn4; omega) ?_)
      | (with_reducible refine wpList_loadW rfl _ _ rfl _ rfl h3 agg24r size24r ?_)
      | (with_reducible refine wpList_storeW rfl _ _ _ rfl _ rfl rfl h4 size24r ?_)
    exact bodyPost_ret_by (results_ct _ _ _ _ _ _ _ rfl rfl (setRow_heap _ _ _ _ _ _ h4) agg24r size24r) rfl ⟨rfl, below_setRow2 (below_setRow2 hbel (by omega) _) (by omega) _⟩
  · rw [putLayer_bad hok]
    cases hf : rackB f with
    | false =>
      have HF : Hid _ := hf
      clear hf
      go_enter Try.func33, Try.ntmps33
      go_wp2_with first
        | (with_reducible refine wpList_allocA rfl 29 rfl 24 zero24r ?_; (try simp only [size_al]))
        | (with_reducible refine wpList_loadW rfl _ _ rfl _ rfl h1 agg24r size24r ?_)
        | (with_reducible refine wpList_build0 rfl 29 rfl 24 zbuild24 ?_)
        | (with_reducible refine wpList_storeW rfl _ _ _ rfl _ rfl rfl h2 size24r ?_)
        | (go_at_call 43; (with_reducible refine (l2Rack_any _ _).mono ?_); rw [HF.out]; rintro e w1 ⟨rfl, hb1⟩; replace hbel := hbel.trans (hb1.mono hbel.size); replace h1 := row_keep hb1 h1; replace h2 := row_keep hb1 h2; clear hb1)
        | (go_at_call 49; (with_reducible refine (l2Place_any _ _).mono ?_); rw [HI.out]; rintro e w' ⟨rfl, rfl⟩)
        | (go_at_call 65; (with_reducible refine (l1In_any _ _ _ _).mono ?_); rw [HC.out]; rintro e w' ⟨rfl, rfl⟩)
        | (with_reducible refine wpList_loadAG rfl _ _ rfl _ _ rfl h1 4 agg4 size4 (by omega) ?_)
        | (go_at_call 66; (with_reducible refine (l2Many_ok (fun j => f (n * 4 + j)) ht _).mono ?_); rw [H4.out]; rintro e w1 ⟨rfl, hb1⟩; replace hbel := hbel.trans (hb1.mono hbel.size); replace h1 := row_keep hb1 h1; replace h2 := row_keep hb1 h2; clear hb1)
      exact bodyPost_ret_by (results_ct _ _ _ _ _ _ _ rfl rfl (setRow_heap _ _ _ _ _ _ h2) agg24r size24r) rfl ⟨rfl, below_setRow2 hbel (by omega) _⟩
    | true =>
      have HF : Hid _ := hf
      by_cases hi : 0 ≤ i ∧ i ≤ 5
      · have HI : Hid _ := show (decide (0 ≤ i) && decide (i ≤ 5)) = true by simpa using hi
        obtain ⟨n, rfl⟩ : ∃ n : Nat, i = n := ⟨i.toNat, by omega⟩
        have hn : n ≤ 5 := by omega
        have ht := tube_of_rack hf hn
        have hi1 : (0 : Int) ≤ (n : Int) := by omega
        have hi3 : (n : Int) < 6 := by omega
        by_cases hc : 1 ≤ c ∧ c ≤ 5
        · have HC : Hid _ := show decide (1 ≤ c ∧ c ≤ 5) = true by simpa using hc
          have h4 : nlay (fun j => f (n * 4 + j)) = 4 := by
            have h5 := nlay_le (fun j => f (n * 4 + j))
            have h6 : ¬ nlay (tub f n) < 4 := fun h7 => hok ⟨hf, hi, hc, by simpa using h7⟩
            unfold tub at h6
            omega
          have H4 : Hid _ := h4
          clear hf hi hok hc h4
          go_enter Try.func33, Try.ntmps33
          go_wp2_with first
            | (with_reducible refine wpList_allocA rfl 29 rfl 24 zero24r ?_; (try simp only [size_al]))
            | (with_reducible refine wpList_loadW rfl _ _ rfl _ rfl h1 agg24r size24r ?_)
            | (with_reducible refine wpList_build0 rfl 29 rfl 24 zbuild24 ?_)
            | (with_reducible refine wpList_storeW rfl _ _ _ rfl _ rfl rfl h2 size24r ?_)
            | (go_at_call 43; (with_reducible refine (l2Rack_any _ _).mono ?_); rw [HF.out]; rintro e w1 ⟨rfl, hb1⟩; replace hbel := hbel.trans (hb1.mono hbel.size); replace h1 := row_keep hb1 h1; replace h2 := row_keep hb1 h2; clear hb1)
            | (go_at_call 49; (with_reducible refine (l2Place_any _ _).mono ?_); rw [HI.out]; rintro e w' ⟨rfl, rfl⟩)
            | (go_at_call 65; (with_reducible refine (l1In_any _ _ _ _).mono ?_); rw [HC.out]; rintro e w' ⟨rfl, rfl⟩)
            | (with_reducible refine wpList_loadAG rfl _ _ rfl _ _ rfl h1 4 agg4 size4 (by omega) ?_)
            | (go_at_call 66; (with_reducible refine (l2Many_ok (fun j => f (n * 4 + j)) ht _).mono ?_); rw [H4.out]; rintro e w1 ⟨rfl, hb1⟩; replace hbel := hbel.trans (hb1.mono hbel.size); replace h1 := row_keep hb1 h1; replace h2 := row_keep hb1 h2; clear hb1)
          exact bodyPost_ret_by (results_ct _ _ _ _ _ _ _ rfl rfl (setRow_heap _ _ _ _ _ _ h2) agg24r size24r) rfl ⟨rfl, below_setRow2 hbel (by omega) _⟩
        · have HC : Hid _ := show decide (1 ≤ c ∧ c ≤ 5) = false by simpa using hc
          clear hf hi hok hc
          go_enter Try.func33, Try.ntmps33
          go_wp2_with first
            | (with_reducible refine wpList_allocA rfl 29 rfl 24 zero24r ?_; (try simp only [size_al]))
            | (with_reducible refine wpList_loadW rfl _ _ rfl _ rfl h1 agg24r size24r ?_)
            | (with_reducible refine wpList_build0 rfl 29 rfl 24 zbuild24 ?_)
            | (with_reducible refine wpList_storeW rfl _ _ _ rfl _ rfl rfl h2 size24r ?_)
            | (go_at_call 43; (with_reducible refine (l2Rack_any _ _).mono ?_); rw [HF.out]; rintro e w1 ⟨rfl, hb1⟩; replace hbel := hbel.trans (hb1.mono hbel.size); replace h1 := row_keep hb1 h1; replace h2 := row_keep hb1 h2; clear hb1)
            | (go_at_call 49; (with_reducible refine (l2Place_any _ _).mono ?_); rw [HI.out]; rintro e w' ⟨rfl, rfl⟩)
            | (go_at_call 65; (with_reducible refine (l1In_any _ _ _ _).mono ?_); rw [HC.out]; rintro e w' ⟨rfl, rfl⟩)
            | (with_reducible refine wpList_loadAG rfl _ _ rfl _ _ rfl h1 4 agg4 size4 (by omega) ?_)
            | (go_at_call 66; (with_reducible refine (l2Many_ok (fun j => f (n * 4 + j)) ht _).mono ?_); rw [H4.out]; rintro e w1 ⟨rfl, hb1⟩; replace hbel := hbel.trans (hb1.mono hbel.size); replace h1 := row_keep hb1 h1; replace h2 := row_keep hb1 h2; clear hb1)
          exact bodyPost_ret_by (results_ct _ _ _ _ _ _ _ rfl rfl (setRow_heap _ _ _ _ _ _ h2) agg24r size24r) rfl ⟨rfl, below_setRow2 hbel (by omega) _⟩
      · have HI : Hid _ := show (decide (0 ≤ i) && decide (i ≤ 5)) = false by simpa using hi
        clear hf hi hok
        go_enter Try.func33, Try.ntmps33
        go_wp2_with first
          | (with_reducible refine wpList_allocA rfl 29 rfl 24 zero24r ?_; (try simp only [size_al]))
          | (with_reducible refine wpList_loadW rfl _ _ rfl _ rfl h1 agg24r size24r ?_)
          | (with_reducible refine wpList_build0 rfl 29 rfl 24 zbuild24 ?_)
          | (with_reducible refine wpList_storeW rfl _ _ _ rfl _ rfl rfl h2 size24r ?_)
          | (go_at_call 43; (with_reducible refine (l2Rack_any _ _).mono ?_); rw [HF.out]; rintro e w1 ⟨rfl, hb1⟩; replace hbel := hbel.trans (hb1.mono hbel.size); replace h1 := row_keep hb1 h1; replace h2 := row_keep hb1 h2; clear hb1)
          | (go_at_call 49; (with_reducible refine (l2Place_any _ _).mono ?_); rw [HI.out]; rintro e w' ⟨rfl, rfl⟩)
          | (go_at_call 65; (with_reducible refine (l1In_any _ _ _ _).mono ?_); rw [HC.out]; rintro e w' ⟨rfl, rfl⟩)
          | (with_reducible refine wpList_loadAG rfl _ _ rfl _ _ rfl h1 4 agg4 size4 (by omega) ?_)
          | (go_at_call 66; (with_reducible refine (l2Many_ok (fun j => f (n * 4 + j)) ht _).mono ?_); rw [H4.out]; rintro e w1 ⟨rfl, hb1⟩; replace hbel := hbel.trans (hb1.mono hbel.size); replace h1 := row_keep hb1 h1; replace h2 := row_keep hb1 h2; clear hb1)
        exact bodyPost_ret_by (results_ct _ _ _ _ _ _ _ rfl rfl (setRow_heap _ _ _ _ _ _ h2) agg24r size24r) rfl ⟨rfl, below_setRow2 hbel (by omega) _⟩

theorem implPut_any (f : Nat → Int) (i c : Int) (w : World) : Calls Try.prog 34 #[.agg (arr 24 f), .int .i64 i, .int .i64 c] w fun e w' => e = .returned (.tuple #[.agg (arr 24 (putLayer f i c).1), .bool (putLayer f i c).2]) ∧ Below w.heap.size w w' := by
  have h1 : ((w.alloc (.cells (arr 24 f) 29)).alloc (.cells (arr 24 fun _ => 0) 29)).heap[w.heap.size]? = some (.cells (arr 24 f) 29 (0, 0)) := by rw [heap_old (by simp), heap_new rfl]
  have h2 : ((w.alloc (.cells (arr 24 f) 29)).alloc (.cells (arr 24 fun _ => 0) 29)).heap[w.heap.size + 1]? = some (.cells (arr 24 fun _ => 0) 29 (0, 0)) := heap_new (by simp)
  have hbel : Below w.heap.size w ((w.alloc (.cells (arr 24 f) 29)).alloc (.cells (arr 24 fun _ => 0) 29)) := ((Below.refl _ _).alloc (by simp) _).alloc (by simp) _
  have h5 : (((w.alloc (.cells (arr 24 f) 29)).alloc (.cells (arr 24 fun _ => 0) 29)).alloc (.cells #[.int .i64 i] 3)).heap[w.heap.size + 1 + 1]? = some (.cells #[.int .i64 i] 3 (0, 0)) := heap_new (by simp)
  by_cases hok : rackB f = true ∧ (0 ≤ i ∧ i ≤ 5) ∧ (1 ≤ c ∧ c ≤ 5) ∧ nlay (tub f i.toNat) < 4
  · obtain ⟨hf, hi, hc, hn4⟩ := hok
    have HF : Hid _ := hf
    have HI : Hid _ := show (decide (0 ≤ i) && decide (i ≤ 5)) = true by simpa using hi
    have HC : Hid _ := show (decide (1 ≤ c) && decide (c ≤ 5)) = true by simpa using hc
    obtain ⟨n, rfl⟩ : ∃ n : Nat, i = n := ⟨i.toNat, by omega⟩
    have hn : n ≤ 5 := by omega
    rw [Int.toNat_natCast] at hn4
    have e : putLayer f n c = (upd f (n * 4 + nlay (tub f n)) c, true) := by
      unfold putLayer; rw [if_pos ⟨hf, hi, hc, by simpa using hn4⟩]; rfl
    rw [e]
    have hi1 : (0 : Int) ≤ (n : Int) := by omega
    have hi3 : (n : Int) < 6 := by omega
    have hm : ((nlay fun j => f (n * 4 + j) : Nat) : Int) < 4 := by have := hn4; unfold tub at this; omega
    obtain ⟨m, H4⟩ : ∃ m, Hid ((nlay fun j => f (n * 4 + j)) = m) := ⟨_, rfl⟩
    have hm4 : m < 4 := by have := H4.out; omega
    have em : upd f (n * 4 + nlay (tub f n)) c = upd f (n * 4 + m) c := by have := H4.out; unfold tub; rw [this]
    rw [em]
    have hm5 : (m : Int) < 4 := by omega
    clear hi e hf hc hm em
    go_enter Try.func34, Try.ntmps34
    go_wp2_with first
      | (with_reducible refine wpList_allocA rfl 29 rfl 24 zero24r ?_; (try simp only [size_al]))
      | (with_reducible refine wpList_loadW rfl _ _ rfl _ rfl h1 agg24r size24r ?_)
      | (with_reducible refine wpList_build0 rfl 29 rfl 24 zbuild24 ?_)
      | (with_reducible refine wpList_storeW rfl _ _ _ rfl _ rfl rfl h2 size24r ?_)
      | (go_at_call 60; (with_reducible refine (isAt_bad f HF.out _ _).mono ?_); rintro e w1 ⟨rfl, hb1⟩; replace hb1 := below_of_alloc hb1; replace hbel := hbel.trans (hb1.mono hbel.size); replace h1 := row_keep hb1 h1; replace h2 := row_keep hb1 h2; clear hb1)
      | (go_at_call 60; (with_reducible refine (isAt_one f HF.out _ _ h5).mono ?_); rw [HI.out]; rintro e w1 ⟨rfl, hb1⟩; replace hb1 := below_of_alloc hb1; replace hbel := hbel.trans (hb1.mono hbel.size); replace h1 := row_keep hb1 h1; replace h2 := row_keep hb1 h2; clear hb1)
      | (go_at_call 67; (with_reducible refine (isColor_any _ _).mono ?_); rw [HC.out]; rintro e w1 ⟨rfl, hb1⟩; replace hbel := hbel.trans (hb1.mono hbel.size); replace h1 := row_keep hb1 h1; replace h2 := row_keep hb1 h2; clear hb1)
      | (with_reducible refine wpList_loadAG rfl _ _ rfl _ _ rfl h1 4 agg4 size4 (by omega) ?_)
      | (go_at_call 68; (with_reducible refine (layers_any _ _).mono ?_); rw [H4.out]; rintro e w1 ⟨rfl, hb1⟩; replace hbel := hbel.trans (hb1.mono hbel.size); replace h1 := row_keep hb1 h1; replace h2 := row_keep hb1 h2; clear hb1)
    refine wp_region_held 10 (Cls w _) (by kernel_rfl) (by kernel_rfl) (Cls.two h1 h2 hbel) ?_; simp only [List.take_succ_cons, List.take_zero, List.drop_succ_cons, List.drop_zero]
    repeat (first
      | (with_reducible refine wpQuiet_loadA rfl _ _ rfl _ _ rfl (fun _ h => h.r1) 4 agg4 size4 (by omega) ?_)
      | ((with_reducible refine wpQuiet_call rfl 68 _ _ rfl (.int .i64 m) ?_ ?_ ?_); (exact enters_of Try.func68 (by kernel_rfl) rfl); (intro w' h'; exact (H4.out ▸ layers_any (fun j => f (n * 4 + j)) w').mono fun _ _ ⟨he, hb⟩ => ⟨he, h'.keep hb⟩))
      | (refine wpQuiet_step (fun K hK => ?_); go_simp; (first | (refine ⟨_, fun _ _ => rfl, hK _ ?_⟩) | (refine ⟨_, fun _ _ => ⟨rfl, rfl⟩, hK _ ?_⟩) | (refine hK _ ?_)); clear hK K))
    refine wpQuiet_nil ?_
    intro wt hCt
    have h1 := hCt.r1
    have h2 := hCt.r2
    have hbel := hCt.2
    have h3 := setRow_heap wt _ _ (arr 24 (upd f (n * 4 + m) c)) _ _ h1
    have h4 := (setRow_other wt w.heap.size (w.heap.size + 1) (arr 24 (upd f (n * 4 + m) c)) (by omega)).trans h2
    go_wp2_with first
      | (with_reducible refine wpList_storeI rfl 3 _ _ rfl _ _ rfl rfl h1 size1 (by omega) ?_)
      | (with_reducible refine wpList_loadW rfl _ _ rfl _ rfl h3 agg24r size24r ?_)
      | (with_reducible refine wpList_storeW rfl _ _ _ rfl _ rfl rfl h4 size24r ?_)
    exact bodyPost_ret_by (results_ct _ _ _ _ _ _ _ rfl rfl (setRow_heap _ _ _ _ _ _ h4) agg24r size24r) rfl ⟨rfl, below_setRow2 (below_setRow2 hbel (by omega) _) (by omega) _⟩
  · rw [putLayer_bad hok]
    cases hf : rackB f with
    | false =>
      have HF : Hid _ := hf
      clear hf
      go_enter Try.func34, Try.ntmps34
      go_wp2_with first
        | (with_reducible refine wpList_allocA rfl 29 rfl 24 zero24r ?_; (try simp only [size_al]))
        | (with_reducible refine wpList_loadW rfl _ _ rfl _ rfl h1 agg24r size24r ?_)
        | (with_reducible refine wpList_build0 rfl 29 rfl 24 zbuild24 ?_)
        | (with_reducible refine wpList_storeW rfl _ _ _ rfl _ rfl rfl h2 size24r ?_)
        | (go_at_call 60; (with_reducible refine (isAt_bad f HF.out _ _).mono ?_); rintro e w1 ⟨rfl, hb1⟩; replace hb1 := below_of_alloc hb1; replace hbel := hbel.trans (hb1.mono hbel.size); replace h1 := row_keep hb1 h1; replace h2 := row_keep hb1 h2; clear hb1)
        | (go_at_call 60; (with_reducible refine (isAt_one f HF.out _ _ h5).mono ?_); rw [HI.out]; rintro e w1 ⟨rfl, hb1⟩; replace hb1 := below_of_alloc hb1; replace hbel := hbel.trans (hb1.mono hbel.size); replace h1 := row_keep hb1 h1; replace h2 := row_keep hb1 h2; clear hb1)
        | (go_at_call 67; (with_reducible refine (isColor_any _ _).mono ?_); rw [HC.out]; rintro e w1 ⟨rfl, hb1⟩; replace hbel := hbel.trans (hb1.mono hbel.size); replace h1 := row_keep hb1 h1; replace h2 := row_keep hb1 h2; clear hb1)
        | (with_reducible refine wpList_loadAG rfl _ _ rfl _ _ rfl h1 4 agg4 size4 (by omega) ?_)
        | (go_at_call 68; (with_reducible refine (layers_any _ _).mono ?_); rw [H4.out]; rintro e w1 ⟨rfl, hb1⟩; replace hbel := hbel.trans (hb1.mono hbel.size); replace h1 := row_keep hb1 h1; replace h2 := row_keep hb1 h2; clear hb1)
      exact bodyPost_ret_by (results_ct _ _ _ _ _ _ _ rfl rfl (setRow_heap _ _ _ _ _ _ h2) agg24r size24r) rfl ⟨rfl, below_setRow2 hbel (by omega) _⟩
    | true =>
      have HF : Hid _ := hf
      by_cases hi : 0 ≤ i ∧ i ≤ 5
      · have HI : Hid _ := show (decide (0 ≤ i) && decide (i ≤ 5)) = true by simpa using hi
        obtain ⟨n, rfl⟩ : ∃ n : Nat, i = n := ⟨i.toNat, by omega⟩
        have hn : n ≤ 5 := by omega
        have hi1 : (0 : Int) ≤ (n : Int) := by omega
        have hi3 : (n : Int) < 6 := by omega
        by_cases hc : 1 ≤ c ∧ c ≤ 5
        · have HC : Hid _ := show (decide (1 ≤ c) && decide (c ≤ 5)) = true by simpa using hc
          have h4 : nlay (fun j => f (n * 4 + j)) = 4 := by
            have h5 := nlay_le (fun j => f (n * 4 + j))
            have h6 : ¬ nlay (tub f n) < 4 := fun h7 => hok ⟨hf, hi, hc, by simpa using h7⟩
            unfold tub at h6
            omega
          have H4 : Hid _ := h4
          clear hf hi hok hc h4
          go_enter Try.func34, Try.ntmps34
          go_wp2_with first
            | (with_reducible refine wpList_allocA rfl 29 rfl 24 zero24r ?_; (try simp only [size_al]))
            | (with_reducible refine wpList_loadW rfl _ _ rfl _ rfl h1 agg24r size24r ?_)
            | (with_reducible refine wpList_build0 rfl 29 rfl 24 zbuild24 ?_)
            | (with_reducible refine wpList_storeW rfl _ _ _ rfl _ rfl rfl h2 size24r ?_)
            | (go_at_call 60; (with_reducible refine (isAt_bad f HF.out _ _).mono ?_); rintro e w1 ⟨rfl, hb1⟩; replace hb1 := below_of_alloc hb1; replace hbel := hbel.trans (hb1.mono hbel.size); replace h1 := row_keep hb1 h1; replace h2 := row_keep hb1 h2; clear hb1)
            | (go_at_call 60; (with_reducible refine (isAt_one f HF.out _ _ h5).mono ?_); rw [HI.out]; rintro e w1 ⟨rfl, hb1⟩; replace hb1 := below_of_alloc hb1; replace hbel := hbel.trans (hb1.mono hbel.size); replace h1 := row_keep hb1 h1; replace h2 := row_keep hb1 h2; clear hb1)
            | (go_at_call 67; (with_reducible refine (isColor_any _ _).mono ?_); rw [HC.out]; rintro e w1 ⟨rfl, hb1⟩; replace hbel := hbel.trans (hb1.mono hbel.size); replace h1 := row_keep hb1 h1; replace h2 := row_keep hb1 h2; clear hb1)
            | (with_reducible refine wpList_loadAG rfl _ _ rfl _ _ rfl h1 4 agg4 size4 (by omega) ?_)
            | (go_at_call 68; (with_reducible refine (layers_any _ _).mono ?_); rw [H4.out]; rintro e w1 ⟨rfl, hb1⟩; replace hbel := hbel.trans (hb1.mono hbel.size); replace h1 := row_keep hb1 h1; replace h2 := row_keep hb1 h2; clear hb1)
          exact bodyPost_ret_by (results_ct _ _ _ _ _ _ _ rfl rfl (setRow_heap _ _ _ _ _ _ h2) agg24r size24r) rfl ⟨rfl, below_setRow2 hbel (by omega) _⟩
        · have HC : Hid _ := show (decide (1 ≤ c) && decide (c ≤ 5)) = false by simpa using hc
          clear hf hi hok hc
          go_enter Try.func34, Try.ntmps34
          go_wp2_with first
            | (with_reducible refine wpList_allocA rfl 29 rfl 24 zero24r ?_; (try simp only [size_al]))
            | (with_reducible refine wpList_loadW rfl _ _ rfl _ rfl h1 agg24r size24r ?_)
            | (with_reducible refine wpList_build0 rfl 29 rfl 24 zbuild24 ?_)
            | (with_reducible refine wpList_storeW rfl _ _ _ rfl _ rfl rfl h2 size24r ?_)
            | (go_at_call 60; (with_reducible refine (isAt_bad f HF.out _ _).mono ?_); rintro e w1 ⟨rfl, hb1⟩; replace hb1 := below_of_alloc hb1; replace hbel := hbel.trans (hb1.mono hbel.size); replace h1 := row_keep hb1 h1; replace h2 := row_keep hb1 h2; clear hb1)
            | (go_at_call 60; (with_reducible refine (isAt_one f HF.out _ _ h5).mono ?_); rw [HI.out]; rintro e w1 ⟨rfl, hb1⟩; replace hb1 := below_of_alloc hb1; replace hbel := hbel.trans (hb1.mono hbel.size); replace h1 := row_keep hb1 h1; replace h2 := row_keep hb1 h2; clear hb1)
            | (go_at_call 67; (with_reducible refine (isColor_any _ _).mono ?_); rw [HC.out]; rintro e w1 ⟨rfl, hb1⟩; replace hbel := hbel.trans (hb1.mono hbel.size); replace h1 := row_keep hb1 h1; replace h2 := row_keep hb1 h2; clear hb1)
            | (with_reducible refine wpList_loadAG rfl _ _ rfl _ _ rfl h1 4 agg4 size4 (by omega) ?_)
            | (go_at_call 68; (with_reducible refine (layers_any _ _).mono ?_); rw [H4.out]; rintro e w1 ⟨rfl, hb1⟩; replace hbel := hbel.trans (hb1.mono hbel.size); replace h1 := row_keep hb1 h1; replace h2 := row_keep hb1 h2; clear hb1)
          exact bodyPost_ret_by (results_ct _ _ _ _ _ _ _ rfl rfl (setRow_heap _ _ _ _ _ _ h2) agg24r size24r) rfl ⟨rfl, below_setRow2 hbel (by omega) _⟩
      · have HI : Hid _ := show (decide (0 ≤ i) && decide (i ≤ 5)) = false by simpa using hi
        clear hf hi hok
        go_enter Try.func34, Try.ntmps34
        go_wp2_with first
          | (with_reducible refine wpList_allocA rfl 29 rfl 24 zero24r ?_; (try simp only [size_al]))
          | (with_reducible refine wpList_loadW rfl _ _ rfl _ rfl h1 agg24r size24r ?_)
          | (with_reducible refine wpList_build0 rfl 29 rfl 24 zbuild24 ?_)
          | (with_reducible refine wpList_storeW rfl _ _ _ rfl _ rfl rfl h2 size24r ?_)
          | (go_at_call 60; (with_reducible refine (isAt_bad f HF.out _ _).mono ?_); rintro e w1 ⟨rfl, hb1⟩; replace hb1 := below_of_alloc hb1; replace hbel := hbel.trans (hb1.mono hbel.size); replace h1 := row_keep hb1 h1; replace h2 := row_keep hb1 h2; clear hb1)
          | (go_at_call 60; (with_reducible refine (isAt_one f HF.out _ _ h5).mono ?_); rw [HI.out]; rintro e w1 ⟨rfl, hb1⟩; replace hb1 := below_of_alloc hb1; replace hbel := hbel.trans (hb1.mono hbel.size); replace h1 := row_keep hb1 h1; replace h2 := row_keep hb1 h2; clear hb1)
          | (go_at_call 67; (with_reducible refine (isColor_any _ _).mono ?_); rw [HC.out]; rintro e w1 ⟨rfl, hb1⟩; replace hbel := hbel.trans (hb1.mono hbel.size); replace h1 := row_keep hb1 h1; replace h2 := row_keep hb1 h2; clear hb1)
          | (with_reducible refine wpList_loadAG rfl _ _ rfl _ _ rfl h1 4 agg4 size4 (by omega) ?_)
          | (go_at_call 68; (with_reducible refine (layers_any _ _).mono ?_); rw [H4.out]; rintro e w1 ⟨rfl, hb1⟩; replace hbel := hbel.trans (hb1.mono hbel.size); replace h1 := row_keep hb1 h1; replace h2 := row_keep hb1 h2; clear hb1)
        exact bodyPost_ret_by (results_ct _ _ _ _ _ _ _ rfl rfl (setRow_heap _ _ _ _ _ _ h2) agg24r size24r) rfl ⟨rfl, below_setRow2 hbel (by omega) _⟩

set_option linter.unusedVariables false in
theorem FnExactPutLayer_walk (x0 : Nat → Int) (hx0 : ∀ j, I64 (x0 j)) (x1 : Int) (hx1 : I64 x1) (x2 : Int) (hx2 : I64 x2) (w : World) : Calls Try.prog 10 #[.agg (arr 24 x0), .int .i64 x1, .int .i64 x2] w fun e w' => e = .returned (.bool true) ∧ Below w.heap.size w w' := by
  have hr0 : (w.alloc (.cells (arr 24 x0) 25)).heap[w.heap.size]? = some (.cells (arr 24 x0) 25 (0, 0)) := by rw [heap_new (by simp)]
  have hbel : Below w.heap.size w (w.alloc (.cells (arr 24 x0) 25)) := ((Below.refl _ _).alloc (by simp) _)
  have tok_hA0 : True := trivial
  have tok_hB0 : True := trivial
  go_enter Try.func10, Try.ntmps10
  go_wp2_with first
    | (with_reducible refine wpList_loadW rfl _ _ rfl _ rfl hr0 agg24l size24l ?_)
    | (go_at_call 16; (with_reducible refine (toRack_any _ _).mono ?_); (rintro e w1 ⟨rfl, hb1⟩; replace hbel := hbel.trans (hb1.mono hbel.size); replace hr0 := row_keep hb1 hr0; (try replace hA0 := row_keep hb1 hA0); (try replace hB0 := row_keep hb1 hB0); clear hb1))
    | (go_at_call 33; (with_reducible refine (specPut_any _ _ _ _).mono ?_); (rintro e w1 ⟨rfl, hb1⟩; replace hbel := hbel.trans (hb1.mono hbel.size); replace hr0 := row_keep hb1 hr0; (try replace hA0 := row_keep hb1 hA0); (try replace hB0 := row_keep hb1 hB0); clear hb1))
    | (go_at_call 34; (with_reducible refine (implPut_any _ _ _ _).mono ?_); (rintro e w1 ⟨rfl, hb1⟩; replace hbel := hbel.trans (hb1.mono hbel.size); replace hr0 := row_keep hb1 hr0; (try replace hA0 := row_keep hb1 hA0); (try replace hB0 := row_keep hb1 hB0); clear hb1))
    | (with_reducible refine wpList_allocA rfl 29 rfl 24 zero24r ?_; (try simp only [size_al]))
    | (go_at_call 28; (with_reducible refine (eqRack_same _ _).mono ?_); (rintro e w1 ⟨rfl, hb1⟩; replace hbel := hbel.trans (hb1.mono hbel.size); replace hr0 := row_keep hb1 hr0; (try replace hA0 := row_keep hb1 hA0); (try replace hB0 := row_keep hb1 hB0); clear hb1))
    | (have _t := tok_hA0; with_reducible refine wpList_storeN rfl _ _ _ rfl rfl rfl size24r ?_; intro w1 hA0 hb1; replace hbel := hbel.trans (hb1.mono hbel.size); replace hr0 := row_keep hb1 hr0; clear hb1 _t tok_hA0)
    | (with_reducible refine wpList_loadWG rfl _ _ rfl _ rfl hA0 agg24r size24r ?_)
    | (have _t := tok_hB0; with_reducible refine wpList_storeN rfl _ _ _ rfl rfl rfl size24r ?_; intro w1 hB0 hb1; replace hbel := hbel.trans (hb1.mono hbel.size); replace hr0 := row_keep hb1 hr0; replace hA0 := row_keep hb1 hA0; clear hb1 _t tok_hB0)
    | (with_reducible refine wpList_loadWG rfl _ _ rfl _ rfl hB0 agg24r size24r ?_)
  go_ret
  exact ⟨rfl, hbel⟩
end Go.Proofs.Ythbnaagheanppaa
