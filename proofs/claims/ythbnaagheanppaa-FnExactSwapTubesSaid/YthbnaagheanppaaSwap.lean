/- SwapTubes: the program's and the reference's, and the law. -/
import Derived.Test.YthbnaagheanppaaPut
import Derived.Test.YthbnaagheanppaaFork
namespace Go.Proofs.Ythbnaagheanppaa
set_option linter.unusedSimpArgs false
set_option linter.unusedVariables false
open Go.RowKit
def swapF (f : Nat → Int) (i k : Nat) : Nat → Int := updN (updN f (i * 4) 4 (fun j => f (k * 4 + j))) (k * 4) 4 (fun j => f (i * 4 + j))
def swapT (f : Nat → Int) (i k : Int) : (Nat → Int) × Bool := if rackB f = true ∧ (0 ≤ i ∧ i ≤ 5) ∧ (0 ≤ k ∧ k ≤ 5) then (swapF f i.toNat k.toNat, true) else (fun _ => 0, false)
theorem swap_bad {f : Nat → Int} {i k : Int} (h : ¬ (rackB f = true ∧ (0 ≤ i ∧ i ≤ 5) ∧ (0 ≤ k ∧ k ≤ 5))) : swapT f i k = (fun _ => 0, false) := if_neg h
theorem implSwap_any (f : Nat → Int) (i k : Int) (w : World) : Calls Try.prog 27 #[.agg (arr 24 f), .int .i64 i, .int .i64 k] w fun e w' => e = .returned (.tuple #[.agg (arr 24 (swapT f i k).1), .bool (swapT f i k).2]) ∧ Below w.heap.size w w' := by
  have h1 : ((w.alloc (.cells (arr 24 f) 29)).alloc (.cells (arr 24 fun _ => 0) 29)).heap[w.heap.size]? = some (.cells (arr 24 f) 29 (0, 0)) := by rw [heap_old (by simp), heap_new rfl]
  have h2 : ((w.alloc (.cells (arr 24 f) 29)).alloc (.cells (arr 24 fun _ => 0) 29)).heap[w.heap.size + 1]? = some (.cells (arr 24 fun _ => 0) 29 (0, 0)) := heap_new (by simp)
  have hbel : Below w.heap.size w ((w.alloc (.cells (arr 24 f) 29)).alloc (.cells (arr 24 fun _ => 0) 29)) := ((Below.refl _ _).alloc (by simp) _).alloc (by simp) _
  have h5 : (((w.alloc (.cells (arr 24 f) 29)).alloc (.cells (arr 24 fun _ => 0) 29)).alloc (.cells #[.int .i64 i, .int .i64 k] 3)).heap[w.heap.size + 1 + 1]? = some (.cells #[.int .i64 i, .int .i64 k] 3 (0, 0)) := heap_new (by simp)
  by_cases hok : rackB f = true ∧ (0 ≤ i ∧ i ≤ 5) ∧ (0 ≤ k ∧ k ≤ 5)
  · obtain ⟨hf, hi, hk⟩ := hok
    have HF : Hid _ := hf
    have HI : Hid _ := show (decide (0 ≤ i) && decide (i ≤ 5)) = true by simpa using hi
    have HK : Hid _ := show (decide (0 ≤ k) && decide (k ≤ 5)) = true by simpa using hk
    obtain ⟨n, rfl⟩ : ∃ n : Nat, i = n := ⟨i.toNat, by omega⟩
    obtain ⟨m, rfl⟩ : ∃ m : Nat, k = m := ⟨k.toNat, by omega⟩
    have hn : n ≤ 5 := by omega
    have hm : m ≤ 5 := by omega
    have hn6 : (n : Int) < 6 := by omega
    have hm6 : (m : Int) < 6 := by omega
    have e : swapT f n m = (swapF f n m, true) := if_pos ⟨hf, hi, hk⟩
    rw [e]
    clear hf hi hk e
    go_enter Try.func27, Try.ntmps27
    go_wp2_with first
      | (with_reducible refine wpList_allocA rfl 29 rfl 24 zero24r ?_; (try simp only [size_al]))
      | (with_reducible refine wpList_loadW rfl _ _ rfl _ rfl h1 agg24r size24r ?_)
      | (with_reducible refine wpList_build0 rfl 29 rfl 24 zbuild24 ?_)
      | (with_reducible refine wpList_storeW rfl _ _ _ rfl _ rfl rfl h2 size24r ?_)
      | (go_at_call 60; (with_reducible refine (isAt_bad f HF.out _ _).mono ?_); rintro e w1 ⟨rfl, hb1⟩; replace hb1 := below_of_alloc hb1; replace hbel := hbel.trans (hb1.mono hbel.size); replace h1 := row_keep hb1 h1; replace h2 := row_keep hb1 h2; clear hb1)
      | (go_at_call 60; (with_reducible refine (isAt_two f HF.out _ _ _ h5).mono ?_); rw [HI.out, HK.out]; rintro e w1 ⟨rfl, hb1⟩; replace hb1 := below_of_alloc hb1; replace hbel := hbel.trans (hb1.mono hbel.size); replace h1 := row_keep hb1 h1; replace h2 := row_keep hb1 h2; clear hb1)
    refine wp_region_fork [0, 1, 2, 3, 4, 6, 7, 8, 10, 13] [5, 9, 11] [] 3 (fun l => l.take 5 ++ (l.drop 6).take 3 ++ (l.drop 10).take 1 ++ (l.drop 13).take 1) (fun l => (l.drop 5).take 1 ++ (l.drop 9).take 1 ++ (l.drop 11).take 1) (Cls w _) (by kernel_rfl) (by kernel_rfl) (by kernel_rfl) (by kernel_rfl) trivial (Cls.two h1 h2 hbel) ?_; simp only [List.take_succ_cons, List.take_zero, List.drop_succ_cons, List.drop_zero, List.singleton_append, List.cons_append, List.nil_append]
    repeat (first
      | ((with_reducible refine wpCalm_step (fun K hK => ?_)); go_simp; (first | (refine ⟨_, fun _ _ => rfl, hK _ ?_⟩) | (refine hK _ ?_)); clear hK K))
    refine wpCalm_nil ?_
    repeat (first
      | (with_reducible refine wpCalm_loadA rfl _ _ rfl _ _ rfl (fun _ h => h.r1) 4 agg4 size4 (by omega) ?_)
      | ((with_reducible refine wpCalm_step (fun K hK => ?_)); go_simp; (first | (refine ⟨_, fun _ _ => rfl, hK _ ?_⟩) | (refine hK _ ?_)); clear hK K))
    refine wpCalm_nil ?_
    have hCt := Cls.two h1 h2 hbel
    obtain ⟨wt, hwt⟩ : ∃ wt : World, wt = { w1 with drawn := w1.drawn + 1 } := ⟨_, rfl⟩
    rw [← hwt] at hCt ⊢
    clear hwt
    replace h1 := hCt.r1
    replace h2 := hCt.r2
    replace hbel := hCt.2
    refine wpAny_fork1 12 (by kernel_rfl) rfl ?_
    go_wp2_with first
      | (with_reducible refine wpList_storePN rfl _ _ _ rfl _ _ rfl rfl h1 size4 (by omega) hbel (by omega) ?_; intro w1 g3 ho g4; replace h2 := (ho _ (by omega)).trans h2; (try replace hp := (ho _ (by omega)).trans hp); (try replace hq := (ho _ (by omega)).trans hq); clear h1 hbel; have h1 := g3; have hbel := g4; clear g3 g4 ho)
    refine QN.intro ?_
    refine wpAny_fork1 14 (by kernel_rfl) rfl ?_
    go_wp2_with first
      | fail
    refine QN.intro ?_
    refine wpAny_fork1 15 (by kernel_rfl) rfl ?_
    go_wp2_with first
      | (with_reducible refine wpList_storePN rfl _ _ _ rfl _ _ rfl rfl h1 size4 (by omega) hbel (by omega) ?_; intro w1 g3 ho g4; replace h2 := (ho _ (by omega)).trans h2; (try replace hp := (ho _ (by omega)).trans hp); (try replace hq := (ho _ (by omega)).trans hq); clear h1 hbel; have h1 := g3; have hbel := g4; clear g3 g4 ho)
    refine QN.intro ?_
    refine wpAny_end (by kernel_rfl) ?_
    go_wp2_with first
      | (with_reducible refine wpList_loadW rfl _ _ rfl _ rfl h1 agg24r size24r ?_)
      | (with_reducible refine wpList_storeW rfl _ _ _ rfl _ rfl rfl h2 size24r ?_)
    exact bodyPost_ret_by (results_ct _ _ _ _ _ _ _ rfl rfl (setRow_heap _ _ _ _ _ _ h2) agg24r size24r) rfl ⟨rfl, below_setRow2 hbel (by omega) _⟩
  · rw [swap_bad hok]
    cases hf : rackB f with
    | false =>
      have HF : Hid _ := hf
      have HI : Hid (1 = 1) := rfl
      have HK : Hid (1 = 1) := rfl
      clear hf hok
      go_enter Try.func27, Try.ntmps27
      go_wp2_with first
        | (with_reducible refine wpList_allocA rfl 29 rfl 24 zero24r ?_; (try simp only [size_al]))
        | (with_reducible refine wpList_loadW rfl _ _ rfl _ rfl h1 agg24r size24r ?_)
        | (with_reducible refine wpList_build0 rfl 29 rfl 24 zbuild24 ?_)
        | (with_reducible refine wpList_storeW rfl _ _ _ rfl _ rfl rfl h2 size24r ?_)
        | (go_at_call 60; (with_reducible refine (isAt_bad f HF.out _ _).mono ?_); rintro e w1 ⟨rfl, hb1⟩; replace hb1 := below_of_alloc hb1; replace hbel := hbel.trans (hb1.mono hbel.size); replace h1 := row_keep hb1 h1; replace h2 := row_keep hb1 h2; clear hb1)
        | (go_at_call 60; (with_reducible refine (isAt_two f HF.out _ _ _ h5).mono ?_); rw [HI.out, HK.out]; rintro e w1 ⟨rfl, hb1⟩; replace hb1 := below_of_alloc hb1; replace hbel := hbel.trans (hb1.mono hbel.size); replace h1 := row_keep hb1 h1; replace h2 := row_keep hb1 h2; clear hb1)
      exact bodyPost_ret_by (results_ct _ _ _ _ _ _ _ rfl rfl (setRow_heap _ _ _ _ _ _ h2) agg24r size24r) rfl ⟨rfl, below_setRow2 hbel (by omega) _⟩
    | true =>
      have HF : Hid _ := hf
      by_cases hi : 0 ≤ i ∧ i ≤ 5
      · have HI : Hid _ := show (decide (0 ≤ i) && decide (i ≤ 5)) = true by simpa using hi
        have HK : Hid _ := show (decide (0 ≤ k) && decide (k ≤ 5)) = false by simpa using fun h => fun h2 => hok ⟨hf, hi, h, h2⟩
        clear hf hi hok
        go_enter Try.func27, Try.ntmps27
        go_wp2_with first
          | (with_reducible refine wpList_allocA rfl 29 rfl 24 zero24r ?_; (try simp only [size_al]))
          | (with_reducible refine wpList_loadW rfl _ _ rfl _ rfl h1 agg24r size24r ?_)
          | (with_reducible refine wpList_build0 rfl 29 rfl 24 zbuild24 ?_)
          | (with_reducible refine wpList_storeW rfl _ _ _ rfl _ rfl rfl h2 size24r ?_)
          | (go_at_call 60; (with_reducible refine (isAt_bad f HF.out _ _).mono ?_); rintro e w1 ⟨rfl, hb1⟩; replace hb1 := below_of_alloc hb1; replace hbel := hbel.trans (hb1.mono hbel.size); replace h1 := row_keep hb1 h1; replace h2 := row_keep hb1 h2; clear hb1)
          | (go_at_call 60; (with_reducible refine (isAt_two f HF.out _ _ _ h5).mono ?_); rw [HI.out, HK.out]; rintro e w1 ⟨rfl, hb1⟩; replace hb1 := below_of_alloc hb1; replace hbel := hbel.trans (hb1.mono hbel.size); replace h1 := row_keep hb1 h1; replace h2 := row_keep hb1 h2; clear hb1)
        exact bodyPost_ret_by (results_ct _ _ _ _ _ _ _ rfl rfl (setRow_heap _ _ _ _ _ _ h2) agg24r size24r) rfl ⟨rfl, below_setRow2 hbel (by omega) _⟩
      · have HI : Hid _ := show (decide (0 ≤ i) && decide (i ≤ 5)) = false by simpa using hi
        obtain ⟨b, hb⟩ : ∃ b, (decide (0 ≤ k) && decide (k ≤ 5)) = b := ⟨_, rfl⟩
        have HK : Hid _ := hb
        clear hf hi hok hb
        go_enter Try.func27, Try.ntmps27
        go_wp2_with first
          | (with_reducible refine wpList_allocA rfl 29 rfl 24 zero24r ?_; (try simp only [size_al]))
          | (with_reducible refine wpList_loadW rfl _ _ rfl _ rfl h1 agg24r size24r ?_)
          | (with_reducible refine wpList_build0 rfl 29 rfl 24 zbuild24 ?_)
          | (with_reducible refine wpList_storeW rfl _ _ _ rfl _ rfl rfl h2 size24r ?_)
          | (go_at_call 60; (with_reducible refine (isAt_bad f HF.out _ _).mono ?_); rintro e w1 ⟨rfl, hb1⟩; replace hb1 := below_of_alloc hb1; replace hbel := hbel.trans (hb1.mono hbel.size); replace h1 := row_keep hb1 h1; replace h2 := row_keep hb1 h2; clear hb1)
          | (go_at_call 60; (with_reducible refine (isAt_two f HF.out _ _ _ h5).mono ?_); rw [HI.out, HK.out]; rintro e w1 ⟨rfl, hb1⟩; replace hb1 := below_of_alloc hb1; replace hbel := hbel.trans (hb1.mono hbel.size); replace h1 := row_keep hb1 h1; replace h2 := row_keep hb1 h2; clear hb1)
        exact bodyPost_ret_by (results_ct _ _ _ _ _ _ _ rfl rfl (setRow_heap _ _ _ _ _ _ h2) agg24r size24r) rfl ⟨rfl, below_setRow2 hbel (by omega) _⟩
set_option maxHeartbeats 2000000 in
theorem specSwap_any (f : Nat → Int) (i k : Int) (w : World) : Calls Try.prog 26 #[.agg (arr 24 f), .int .i64 i, .int .i64 k] w fun e w' => e = .returned (.tuple #[.agg (arr 24 (swapT f i k).1), .bool (swapT f i k).2]) ∧ Below w.heap.size w w' := by
  have h1 : ((w.alloc (.cells (arr 24 f) 29)).alloc (.cells (arr 24 fun _ => 0) 29)).heap[w.heap.size]? = some (.cells (arr 24 f) 29 (0, 0)) := by rw [heap_old (by simp), heap_new rfl]
  have h2 : ((w.alloc (.cells (arr 24 f) 29)).alloc (.cells (arr 24 fun _ => 0) 29)).heap[w.heap.size + 1]? = some (.cells (arr 24 fun _ => 0) 29 (0, 0)) := heap_new (by simp)
  have hbel : Below w.heap.size w ((w.alloc (.cells (arr 24 f) 29)).alloc (.cells (arr 24 fun _ => 0) 29)) := ((Below.refl _ _).alloc (by simp) _).alloc (by simp) _
  by_cases hok : rackB f = true ∧ (0 ≤ i ∧ i ≤ 5) ∧ (0 ≤ k ∧ k ≤ 5)
  · obtain ⟨hf, hi, hk⟩ := hok
    have HF : Hid _ := hf
    have HI : Hid _ := show (decide (0 ≤ i) && decide (i ≤ 5)) = true by simpa using hi
    have HK : Hid _ := show (decide (0 ≤ k) && decide (k ≤ 5)) = true by simpa using hk
    obtain ⟨n, rfl⟩ : ∃ n : Nat, i = n := ⟨i.toNat, by omega⟩
    obtain ⟨m, rfl⟩ : ∃ m : Nat, k = m := ⟨k.toNat, by omega⟩
    have hn : n ≤ 5 := by omega
    have hm : m ≤ 5 := by omega
    have hn6 : (n : Int) < 6 := by omega
    have hm6 : (m : Int) < 6 := by omega
    have e : swapT f n m = (swapF f n m, true) := if_pos ⟨hf, hi, hk⟩
    rw [e]
    clear hf hi hk e
    go_enter Try.func26, Try.ntmps26
    go_wp2_with first
      | (with_reducible refine wpList_allocA rfl 29 rfl 24 zero24r ?_; (try simp only [size_al]))
      | (with_reducible refine wpList_loadW rfl _ _ rfl _ rfl h1 agg24r size24r ?_)
      | (with_reducible refine wpList_build0 rfl 29 rfl 24 zbuild24 ?_)
      | (with_reducible refine wpList_storeW rfl _ _ _ rfl _ rfl rfl h2 size24r ?_)
      | (go_at_call 43; (with_reducible refine (l2Rack_any _ _).mono ?_); rw [HF.out]; rintro e w1 ⟨rfl, hb1⟩; replace hbel := hbel.trans (hb1.mono hbel.size); replace h1 := row_keep hb1 h1; replace h2 := row_keep hb1 h2; clear hb1)
      | (go_at_call 49; (with_reducible refine (l2Place_any _ _).mono ?_); (first | rw [HI.out] | rw [HK.out]); rintro e w' ⟨rfl, rfl⟩)
    refine wp_region_fork [0, 1, 2, 4, 5, 6] [3] [7, 8, 9] 5 (fun l => l.take 3 ++ (l.drop 4).take 3) (fun l => (l.drop 3).take 1) (Cls w _) (by kernel_rfl) (by kernel_rfl) (by kernel_rfl) (by kernel_rfl) ⟨Pres.load _ _ rfl, Pres.alloc _ rfl 4 zero4, Pres.alloc _ rfl 4 zero4, trivial⟩ (Cls.two h1 h2 hbel) ?_; simp only [List.take_succ_cons, List.take_zero, List.drop_succ_cons, List.drop_zero, List.singleton_append, List.cons_append, List.nil_append]
    repeat (first
      | ((with_reducible refine wpCalm_step (fun K hK => ?_)); go_simp; (first | (refine ⟨_, fun _ _ => rfl, hK _ ?_⟩) | (refine hK _ ?_)); clear hK K))
    refine wpCalm_nil ?_
    repeat (first
      | (with_reducible refine wpCalm_loadA rfl _ _ rfl _ _ rfl (fun _ h => h.r1) 4 agg4 size4 (by omega) ?_)
      | ((with_reducible refine wpCalm_step (fun K hK => ?_)); go_simp; (first | (refine ⟨_, fun _ _ => rfl, hK _ ?_⟩) | (refine hK _ ?_)); clear hK K))
    refine wpCalm_nil ?_
    have hCt := Cls.two h1 h2 hbel
    obtain ⟨wt, hwt⟩ : ∃ wt : World, wt = { w1 with drawn := w1.drawn + 1 } := ⟨_, rfl⟩
    rw [← hwt] at hCt ⊢
    clear hwt
    replace h1 := hCt.r1
    replace h2 := hCt.r2
    replace hbel := hCt.2
    refine wpAny_fork3 7 8 9 (by kernel_rfl) rfl rfl rfl ?_ ?_ ?_
    · go_wp2_with first
        | (with_reducible refine wpList_loadA rfl _ _ rfl _ _ rfl h1 4 agg4 size4 (by omega) ?_)
      refine QN.intro ?_
      refine wpAny_fork2 8 9 (by kernel_rfl) rfl rfl ?_ ?_
      · go_wp2_with first
          | (with_reducible refine wpList_allocN rfl 22 rfl 4 zero4 ?_; intro p w1 hp0 hp hb1; have hpl := Nat.lt_of_lt_of_le (Array.getElem?_eq_some_iff.1 h2).1 hp0; (try have hpq := Nat.lt_of_lt_of_le (Array.getElem?_eq_some_iff.1 hq).1 hp0); replace hbel := hbel.trans (hb1.mono hbel.size); replace h1 := row_keep hb1 h1; replace h2 := row_keep hb1 h2; (try replace hq := row_keep hb1 hq); clear hb1 hp0)
        refine QN.intro ?_
        refine wpAny_fork1 9 (by kernel_rfl) rfl ?_
        go_wp2_with first
          | (with_reducible refine wpList_allocN rfl 22 rfl 4 zero4 ?_; intro q w1 hq0 hq hb1; have hql := Nat.lt_of_lt_of_le (Array.getElem?_eq_some_iff.1 h2).1 hq0; (try have hpq := Nat.lt_of_lt_of_le (Array.getElem?_eq_some_iff.1 hp).1 hq0); replace hbel := hbel.trans (hb1.mono hbel.size); replace h1 := row_keep hb1 h1; replace h2 := row_keep hb1 h2; (try replace hp := row_keep hb1 hp); clear hb1 hq0)
        refine QN.intro ?_
        refine wpAny_fork1 10 (by kernel_rfl) rfl ?_
        go_wp2_with first
          | (with_reducible refine wpList_storeWN rfl _ _ _ rfl _ rfl rfl hp size4 hbel (by omega) ?_; intro w1 g3 ho g4; replace h1 := (ho _ (by omega)).trans h1; replace h2 := (ho _ (by omega)).trans h2; replace hq := (ho _ (by omega)).trans hq; clear hp hbel; have hp := g3; have hbel := g4; clear g3 g4 ho)
        refine QN.intro ?_
        refine wpAny_fork1 11 (by kernel_rfl) rfl ?_
        go_wp2_with first
          | (with_reducible refine wpList_storeWN rfl _ _ _ rfl _ rfl rfl hq size4 hbel (by omega) ?_; intro w1 g3 ho g4; replace h1 := (ho _ (by omega)).trans h1; replace h2 := (ho _ (by omega)).trans h2; replace hp := (ho _ (by omega)).trans hp; clear hq hbel; have hq := g3; have hbel := g4; clear g3 g4 ho)
        refine QN.intro ?_
        refine wpAny_end (by kernel_rfl) ?_
        go_wp2_with first
          | (with_reducible refine wpList_loadW rfl _ _ rfl _ rfl hq agg4 size4 ?_)
          | (with_reducible refine wpList_loadW rfl _ _ rfl _ rfl hp agg4 size4 ?_)
          | (with_reducible refine wpList_storePN rfl _ _ _ rfl _ _ rfl rfl h1 size4 (by omega) hbel (by omega) ?_; intro w1 g3 ho g4; replace h2 := (ho _ (by omega)).trans h2; (try replace hp := (ho _ (by omega)).trans hp); (try replace hq := (ho _ (by omega)).trans hq); clear h1 hbel; have h1 := g3; have hbel := g4; clear g3 g4 ho)
          | (with_reducible refine wpList_loadW rfl _ _ rfl _ rfl h1 agg24r size24r ?_)
          | (with_reducible refine wpList_storeW rfl _ _ _ rfl _ rfl rfl h2 size24r ?_)
        exact bodyPost_ret_by (results_ct _ _ _ _ _ _ _ rfl rfl (setRow_heap _ _ _ _ _ _ h2) agg24r size24r) rfl ⟨rfl, below_setRow2 hbel (by omega) _⟩
      · go_wp2_with first
          | (with_reducible refine wpList_allocN rfl 22 rfl 4 zero4 ?_; intro q w1 hq0 hq hb1; have hql := Nat.lt_of_lt_of_le (Array.getElem?_eq_some_iff.1 h2).1 hq0; (try have hpq := Nat.lt_of_lt_of_le (Array.getElem?_eq_some_iff.1 hp).1 hq0); replace hbel := hbel.trans (hb1.mono hbel.size); replace h1 := row_keep hb1 h1; replace h2 := row_keep hb1 h2; (try replace hp := row_keep hb1 hp); clear hb1 hq0)
        refine QN.intro ?_
        refine wpAny_fork1 8 (by kernel_rfl) rfl ?_
        go_wp2_with first
          | (with_reducible refine wpList_allocN rfl 22 rfl 4 zero4 ?_; intro p w1 hp0 hp hb1; have hpl := Nat.lt_of_lt_of_le (Array.getElem?_eq_some_iff.1 h2).1 hp0; (try have hpq := Nat.lt_of_lt_of_le (Array.getElem?_eq_some_iff.1 hq).1 hp0); replace hbel := hbel.trans (hb1.mono hbel.size); replace h1 := row_keep hb1 h1; replace h2 := row_keep hb1 h2; (try replace hq := row_keep hb1 hq); clear hb1 hp0)
        refine QN.intro ?_
        refine wpAny_fork1 10 (by kernel_rfl) rfl ?_
        go_wp2_with first
          | (with_reducible refine wpList_storeWN rfl _ _ _ rfl _ rfl rfl hp size4 hbel (by omega) ?_; intro w1 g3 ho g4; replace h1 := (ho _ (by omega)).trans h1; replace h2 := (ho _ (by omega)).trans h2; replace hq := (ho _ (by omega)).trans hq; clear hp hbel; have hp := g3; have hbel := g4; clear g3 g4 ho)
        refine QN.intro ?_
        refine wpAny_fork1 11 (by kernel_rfl) rfl ?_
        go_wp2_with first
          | (with_reducible refine wpList_storeWN rfl _ _ _ rfl _ rfl rfl hq size4 hbel (by omega) ?_; intro w1 g3 ho g4; replace h1 := (ho _ (by omega)).trans h1; replace h2 := (ho _ (by omega)).trans h2; replace hp := (ho _ (by omega)).trans hp; clear hq hbel; have hq := g3; have hbel := g4; clear g3 g4 ho)
        refine QN.intro ?_
        refine wpAny_end (by kernel_rfl) ?_
        go_wp2_with first
          | (with_reducible refine wpList_loadW rfl _ _ rfl _ rfl hq agg4 size4 ?_)
          | (with_reducible refine wpList_loadW rfl _ _ rfl _ rfl hp agg4 size4 ?_)
          | (with_reducible refine wpList_storePN rfl _ _ _ rfl _ _ rfl rfl h1 size4 (by omega) hbel (by omega) ?_; intro w1 g3 ho g4; replace h2 := (ho _ (by omega)).trans h2; (try replace hp := (ho _ (by omega)).trans hp); (try replace hq := (ho _ (by omega)).trans hq); clear h1 hbel; have h1 := g3; have hbel := g4; clear g3 g4 ho)
          | (with_reducible refine wpList_loadW rfl _ _ rfl _ rfl h1 agg24r size24r ?_)
          | (with_reducible refine wpList_storeW rfl _ _ _ rfl _ rfl rfl h2 size24r ?_)
        exact bodyPost_ret_by (results_ct _ _ _ _ _ _ _ rfl rfl (setRow_heap _ _ _ _ _ _ h2) agg24r size24r) rfl ⟨rfl, below_setRow2 hbel (by omega) _⟩
    · go_wp2_with first
        | (with_reducible refine wpList_allocN rfl 22 rfl 4 zero4 ?_; intro p w1 hp0 hp hb1; have hpl := Nat.lt_of_lt_of_le (Array.getElem?_eq_some_iff.1 h2).1 hp0; (try have hpq := Nat.lt_of_lt_of_le (Array.getElem?_eq_some_iff.1 hq).1 hp0); replace hbel := hbel.trans (hb1.mono hbel.size); replace h1 := row_keep hb1 h1; replace h2 := row_keep hb1 h2; (try replace hq := row_keep hb1 hq); clear hb1 hp0)
      refine QN.intro ?_
      refine wpAny_fork2 7 9 (by kernel_rfl) rfl rfl ?_ ?_
      · go_wp2_with first
          | (with_reducible refine wpList_loadA rfl _ _ rfl _ _ rfl h1 4 agg4 size4 (by omega) ?_)
        refine QN.intro ?_
        refine wpAny_fork1 9 (by kernel_rfl) rfl ?_
        go_wp2_with first
          | (with_reducible refine wpList_allocN rfl 22 rfl 4 zero4 ?_; intro q w1 hq0 hq hb1; have hql := Nat.lt_of_lt_of_le (Array.getElem?_eq_some_iff.1 h2).1 hq0; (try have hpq := Nat.lt_of_lt_of_le (Array.getElem?_eq_some_iff.1 hp).1 hq0); replace hbel := hbel.trans (hb1.mono hbel.size); replace h1 := row_keep hb1 h1; replace h2 := row_keep hb1 h2; (try replace hp := row_keep hb1 hp); clear hb1 hq0)
        refine QN.intro ?_
        refine wpAny_fork1 10 (by kernel_rfl) rfl ?_
        go_wp2_with first
          | (with_reducible refine wpList_storeWN rfl _ _ _ rfl _ rfl rfl hp size4 hbel (by omega) ?_; intro w1 g3 ho g4; replace h1 := (ho _ (by omega)).trans h1; replace h2 := (ho _ (by omega)).trans h2; replace hq := (ho _ (by omega)).trans hq; clear hp hbel; have hp := g3; have hbel := g4; clear g3 g4 ho)
        refine QN.intro ?_
        refine wpAny_fork1 11 (by kernel_rfl) rfl ?_
        go_wp2_with first
          | (with_reducible refine wpList_storeWN rfl _ _ _ rfl _ rfl rfl hq size4 hbel (by omega) ?_; intro w1 g3 ho g4; replace h1 := (ho _ (by omega)).trans h1; replace h2 := (ho _ (by omega)).trans h2; replace hp := (ho _ (by omega)).trans hp; clear hq hbel; have hq := g3; have hbel := g4; clear g3 g4 ho)
        refine QN.intro ?_
        refine wpAny_end (by kernel_rfl) ?_
        go_wp2_with first
          | (with_reducible refine wpList_loadW rfl _ _ rfl _ rfl hq agg4 size4 ?_)
          | (with_reducible refine wpList_loadW rfl _ _ rfl _ rfl hp agg4 size4 ?_)
          | (with_reducible refine wpList_storePN rfl _ _ _ rfl _ _ rfl rfl h1 size4 (by omega) hbel (by omega) ?_; intro w1 g3 ho g4; replace h2 := (ho _ (by omega)).trans h2; (try replace hp := (ho _ (by omega)).trans hp); (try replace hq := (ho _ (by omega)).trans hq); clear h1 hbel; have h1 := g3; have hbel := g4; clear g3 g4 ho)
          | (with_reducible refine wpList_loadW rfl _ _ rfl _ rfl h1 agg24r size24r ?_)
          | (with_reducible refine wpList_storeW rfl _ _ _ rfl _ rfl rfl h2 size24r ?_)
        exact bodyPost_ret_by (results_ct _ _ _ _ _ _ _ rfl rfl (setRow_heap _ _ _ _ _ _ h2) agg24r size24r) rfl ⟨rfl, below_setRow2 hbel (by omega) _⟩
      · go_wp2_with first
          | (with_reducible refine wpList_allocN rfl 22 rfl 4 zero4 ?_; intro q w1 hq0 hq hb1; have hql := Nat.lt_of_lt_of_le (Array.getElem?_eq_some_iff.1 h2).1 hq0; (try have hpq := Nat.lt_of_lt_of_le (Array.getElem?_eq_some_iff.1 hp).1 hq0); replace hbel := hbel.trans (hb1.mono hbel.size); replace h1 := row_keep hb1 h1; replace h2 := row_keep hb1 h2; (try replace hp := row_keep hb1 hp); clear hb1 hq0)
        refine QN.intro ?_
        refine wpAny_fork2 7 10 (by kernel_rfl) rfl rfl ?_ ?_
        · go_wp2_with first
            | (with_reducible refine wpList_loadA rfl _ _ rfl _ _ rfl h1 4 agg4 size4 (by omega) ?_)
          refine QN.intro ?_
          refine wpAny_fork1 10 (by kernel_rfl) rfl ?_
          go_wp2_with first
            | (with_reducible refine wpList_storeWN rfl _ _ _ rfl _ rfl rfl hp size4 hbel (by omega) ?_; intro w1 g3 ho g4; replace h1 := (ho _ (by omega)).trans h1; replace h2 := (ho _ (by omega)).trans h2; replace hq := (ho _ (by omega)).trans hq; clear hp hbel; have hp := g3; have hbel := g4; clear g3 g4 ho)
          refine QN.intro ?_
          refine wpAny_fork1 11 (by kernel_rfl) rfl ?_
          go_wp2_with first
            | (with_reducible refine wpList_storeWN rfl _ _ _ rfl _ rfl rfl hq size4 hbel (by omega) ?_; intro w1 g3 ho g4; replace h1 := (ho _ (by omega)).trans h1; replace h2 := (ho _ (by omega)).trans h2; replace hp := (ho _ (by omega)).trans hp; clear hq hbel; have hq := g3; have hbel := g4; clear g3 g4 ho)
          refine QN.intro ?_
          refine wpAny_end (by kernel_rfl) ?_
          go_wp2_with first
            | (with_reducible refine wpList_loadW rfl _ _ rfl _ rfl hq agg4 size4 ?_)
            | (with_reducible refine wpList_loadW rfl _ _ rfl _ rfl hp agg4 size4 ?_)
            | (with_reducible refine wpList_storePN rfl _ _ _ rfl _ _ rfl rfl h1 size4 (by omega) hbel (by omega) ?_; intro w1 g3 ho g4; replace h2 := (ho _ (by omega)).trans h2; (try replace hp := (ho _ (by omega)).trans hp); (try replace hq := (ho _ (by omega)).trans hq); clear h1 hbel; have h1 := g3; have hbel := g4; clear g3 g4 ho)
            | (with_reducible refine wpList_loadW rfl _ _ rfl _ rfl h1 agg24r size24r ?_)
            | (with_reducible refine wpList_storeW rfl _ _ _ rfl _ rfl rfl h2 size24r ?_)
          exact bodyPost_ret_by (results_ct _ _ _ _ _ _ _ rfl rfl (setRow_heap _ _ _ _ _ _ h2) agg24r size24r) rfl ⟨rfl, below_setRow2 hbel (by omega) _⟩
        · go_wp2_with first
            | (with_reducible refine wpList_storeWN rfl _ _ _ rfl _ rfl rfl hp size4 hbel (by omega) ?_; intro w1 g3 ho g4; replace h1 := (ho _ (by omega)).trans h1; replace h2 := (ho _ (by omega)).trans h2; replace hq := (ho _ (by omega)).trans hq; clear hp hbel; have hp := g3; have hbel := g4; clear g3 g4 ho)
          refine QN.intro ?_
          refine wpAny_fork1 7 (by kernel_rfl) rfl ?_
          go_wp2_with first
            | (with_reducible refine wpList_loadA rfl _ _ rfl _ _ rfl h1 4 agg4 size4 (by omega) ?_)
          refine QN.intro ?_
          refine wpAny_fork1 11 (by kernel_rfl) rfl ?_
          go_wp2_with first
            | (with_reducible refine wpList_storeWN rfl _ _ _ rfl _ rfl rfl hq size4 hbel (by omega) ?_; intro w1 g3 ho g4; replace h1 := (ho _ (by omega)).trans h1; replace h2 := (ho _ (by omega)).trans h2; replace hp := (ho _ (by omega)).trans hp; clear hq hbel; have hq := g3; have hbel := g4; clear g3 g4 ho)
          refine QN.intro ?_
          refine wpAny_end (by kernel_rfl) ?_
          go_wp2_with first
            | (with_reducible refine wpList_loadW rfl _ _ rfl _ rfl hq agg4 size4 ?_)
            | (with_reducible refine wpList_loadW rfl _ _ rfl _ rfl hp agg4 size4 ?_)
            | (with_reducible refine wpList_storePN rfl _ _ _ rfl _ _ rfl rfl h1 size4 (by omega) hbel (by omega) ?_; intro w1 g3 ho g4; replace h2 := (ho _ (by omega)).trans h2; (try replace hp := (ho _ (by omega)).trans hp); (try replace hq := (ho _ (by omega)).trans hq); clear h1 hbel; have h1 := g3; have hbel := g4; clear g3 g4 ho)
            | (with_reducible refine wpList_loadW rfl _ _ rfl _ rfl h1 agg24r size24r ?_)
            | (with_reducible refine wpList_storeW rfl _ _ _ rfl _ rfl rfl h2 size24r ?_)
          exact bodyPost_ret_by (results_ct _ _ _ _ _ _ _ rfl rfl (setRow_heap _ _ _ _ _ _ h2) agg24r size24r) rfl ⟨rfl, below_setRow2 hbel (by omega) _⟩
    · go_wp2_with first
        | (with_reducible refine wpList_allocN rfl 22 rfl 4 zero4 ?_; intro q w1 hq0 hq hb1; have hql := Nat.lt_of_lt_of_le (Array.getElem?_eq_some_iff.1 h2).1 hq0; (try have hpq := Nat.lt_of_lt_of_le (Array.getElem?_eq_some_iff.1 hp).1 hq0); replace hbel := hbel.trans (hb1.mono hbel.size); replace h1 := row_keep hb1 h1; replace h2 := row_keep hb1 h2; (try replace hp := row_keep hb1 hp); clear hb1 hq0)
      refine QN.intro ?_
      refine wpAny_fork2 7 8 (by kernel_rfl) rfl rfl ?_ ?_
      · go_wp2_with first
          | (with_reducible refine wpList_loadA rfl _ _ rfl _ _ rfl h1 4 agg4 size4 (by omega) ?_)
        refine QN.intro ?_
        refine wpAny_fork1 8 (by kernel_rfl) rfl ?_
        go_wp2_with first
          | (with_reducible refine wpList_allocN rfl 22 rfl 4 zero4 ?_; intro p w1 hp0 hp hb1; have hpl := Nat.lt_of_lt_of_le (Array.getElem?_eq_some_iff.1 h2).1 hp0; (try have hpq := Nat.lt_of_lt_of_le (Array.getElem?_eq_some_iff.1 hq).1 hp0); replace hbel := hbel.trans (hb1.mono hbel.size); replace h1 := row_keep hb1 h1; replace h2 := row_keep hb1 h2; (try replace hq := row_keep hb1 hq); clear hb1 hp0)
        refine QN.intro ?_
        refine wpAny_fork1 10 (by kernel_rfl) rfl ?_
        go_wp2_with first
          | (with_reducible refine wpList_storeWN rfl _ _ _ rfl _ rfl rfl hp size4 hbel (by omega) ?_; intro w1 g3 ho g4; replace h1 := (ho _ (by omega)).trans h1; replace h2 := (ho _ (by omega)).trans h2; replace hq := (ho _ (by omega)).trans hq; clear hp hbel; have hp := g3; have hbel := g4; clear g3 g4 ho)
        refine QN.intro ?_
        refine wpAny_fork1 11 (by kernel_rfl) rfl ?_
        go_wp2_with first
          | (with_reducible refine wpList_storeWN rfl _ _ _ rfl _ rfl rfl hq size4 hbel (by omega) ?_; intro w1 g3 ho g4; replace h1 := (ho _ (by omega)).trans h1; replace h2 := (ho _ (by omega)).trans h2; replace hp := (ho _ (by omega)).trans hp; clear hq hbel; have hq := g3; have hbel := g4; clear g3 g4 ho)
        refine QN.intro ?_
        refine wpAny_end (by kernel_rfl) ?_
        go_wp2_with first
          | (with_reducible refine wpList_loadW rfl _ _ rfl _ rfl hq agg4 size4 ?_)
          | (with_reducible refine wpList_loadW rfl _ _ rfl _ rfl hp agg4 size4 ?_)
          | (with_reducible refine wpList_storePN rfl _ _ _ rfl _ _ rfl rfl h1 size4 (by omega) hbel (by omega) ?_; intro w1 g3 ho g4; replace h2 := (ho _ (by omega)).trans h2; (try replace hp := (ho _ (by omega)).trans hp); (try replace hq := (ho _ (by omega)).trans hq); clear h1 hbel; have h1 := g3; have hbel := g4; clear g3 g4 ho)
          | (with_reducible refine wpList_loadW rfl _ _ rfl _ rfl h1 agg24r size24r ?_)
          | (with_reducible refine wpList_storeW rfl _ _ _ rfl _ rfl rfl h2 size24r ?_)
        exact bodyPost_ret_by (results_ct _ _ _ _ _ _ _ rfl rfl (setRow_heap _ _ _ _ _ _ h2) agg24r size24r) rfl ⟨rfl, below_setRow2 hbel (by omega) _⟩
      · go_wp2_with first
          | (with_reducible refine wpList_allocN rfl 22 rfl 4 zero4 ?_; intro p w1 hp0 hp hb1; have hpl := Nat.lt_of_lt_of_le (Array.getElem?_eq_some_iff.1 h2).1 hp0; (try have hpq := Nat.lt_of_lt_of_le (Array.getElem?_eq_some_iff.1 hq).1 hp0); replace hbel := hbel.trans (hb1.mono hbel.size); replace h1 := row_keep hb1 h1; replace h2 := row_keep hb1 h2; (try replace hq := row_keep hb1 hq); clear hb1 hp0)
        refine QN.intro ?_
        refine wpAny_fork2 7 10 (by kernel_rfl) rfl rfl ?_ ?_
        · go_wp2_with first
            | (with_reducible refine wpList_loadA rfl _ _ rfl _ _ rfl h1 4 agg4 size4 (by omega) ?_)
          refine QN.intro ?_
          refine wpAny_fork1 10 (by kernel_rfl) rfl ?_
          go_wp2_with first
            | (with_reducible refine wpList_storeWN rfl _ _ _ rfl _ rfl rfl hp size4 hbel (by omega) ?_; intro w1 g3 ho g4; replace h1 := (ho _ (by omega)).trans h1; replace h2 := (ho _ (by omega)).trans h2; replace hq := (ho _ (by omega)).trans hq; clear hp hbel; have hp := g3; have hbel := g4; clear g3 g4 ho)
          refine QN.intro ?_
          refine wpAny_fork1 11 (by kernel_rfl) rfl ?_
          go_wp2_with first
            | (with_reducible refine wpList_storeWN rfl _ _ _ rfl _ rfl rfl hq size4 hbel (by omega) ?_; intro w1 g3 ho g4; replace h1 := (ho _ (by omega)).trans h1; replace h2 := (ho _ (by omega)).trans h2; replace hp := (ho _ (by omega)).trans hp; clear hq hbel; have hq := g3; have hbel := g4; clear g3 g4 ho)
          refine QN.intro ?_
          refine wpAny_end (by kernel_rfl) ?_
          go_wp2_with first
            | (with_reducible refine wpList_loadW rfl _ _ rfl _ rfl hq agg4 size4 ?_)
            | (with_reducible refine wpList_loadW rfl _ _ rfl _ rfl hp agg4 size4 ?_)
            | (with_reducible refine wpList_storePN rfl _ _ _ rfl _ _ rfl rfl h1 size4 (by omega) hbel (by omega) ?_; intro w1 g3 ho g4; replace h2 := (ho _ (by omega)).trans h2; (try replace hp := (ho _ (by omega)).trans hp); (try replace hq := (ho _ (by omega)).trans hq); clear h1 hbel; have h1 := g3; have hbel := g4; clear g3 g4 ho)
            | (with_reducible refine wpList_loadW rfl _ _ rfl _ rfl h1 agg24r size24r ?_)
            | (with_reducible refine wpList_storeW rfl _ _ _ rfl _ rfl rfl h2 size24r ?_)
          exact bodyPost_ret_by (results_ct _ _ _ _ _ _ _ rfl rfl (setRow_heap _ _ _ _ _ _ h2) agg24r size24r) rfl ⟨rfl, below_setRow2 hbel (by omega) _⟩
        · go_wp2_with first
            | (with_reducible refine wpList_storeWN rfl _ _ _ rfl _ rfl rfl hp size4 hbel (by omega) ?_; intro w1 g3 ho g4; replace h1 := (ho _ (by omega)).trans h1; replace h2 := (ho _ (by omega)).trans h2; replace hq := (ho _ (by omega)).trans hq; clear hp hbel; have hp := g3; have hbel := g4; clear g3 g4 ho)
          refine QN.intro ?_
          refine wpAny_fork1 7 (by kernel_rfl) rfl ?_
          go_wp2_with first
            | (with_reducible refine wpList_loadA rfl _ _ rfl _ _ rfl h1 4 agg4 size4 (by omega) ?_)
          refine QN.intro ?_
          refine wpAny_fork1 11 (by kernel_rfl) rfl ?_
          go_wp2_with first
            | (with_reducible refine wpList_storeWN rfl _ _ _ rfl _ rfl rfl hq size4 hbel (by omega) ?_; intro w1 g3 ho g4; replace h1 := (ho _ (by omega)).trans h1; replace h2 := (ho _ (by omega)).trans h2; replace hp := (ho _ (by omega)).trans hp; clear hq hbel; have hq := g3; have hbel := g4; clear g3 g4 ho)
          refine QN.intro ?_
          refine wpAny_end (by kernel_rfl) ?_
          go_wp2_with first
            | (with_reducible refine wpList_loadW rfl _ _ rfl _ rfl hq agg4 size4 ?_)
            | (with_reducible refine wpList_loadW rfl _ _ rfl _ rfl hp agg4 size4 ?_)
            | (with_reducible refine wpList_storePN rfl _ _ _ rfl _ _ rfl rfl h1 size4 (by omega) hbel (by omega) ?_; intro w1 g3 ho g4; replace h2 := (ho _ (by omega)).trans h2; (try replace hp := (ho _ (by omega)).trans hp); (try replace hq := (ho _ (by omega)).trans hq); clear h1 hbel; have h1 := g3; have hbel := g4; clear g3 g4 ho)
            | (with_reducible refine wpList_loadW rfl _ _ rfl _ rfl h1 agg24r size24r ?_)
            | (with_reducible refine wpList_storeW rfl _ _ _ rfl _ rfl rfl h2 size24r ?_)
          exact bodyPost_ret_by (results_ct _ _ _ _ _ _ _ rfl rfl (setRow_heap _ _ _ _ _ _ h2) agg24r size24r) rfl ⟨rfl, below_setRow2 hbel (by omega) _⟩
  · rw [swap_bad hok]
    cases hf : rackB f with
    | false =>
      have HF : Hid _ := hf
      have HI : Hid (1 = 1) := rfl
      have HK : Hid (1 = 1) := rfl
      clear hf hok
      go_enter Try.func26, Try.ntmps26
      go_wp2_with first
        | (with_reducible refine wpList_allocA rfl 29 rfl 24 zero24r ?_; (try simp only [size_al]))
        | (with_reducible refine wpList_loadW rfl _ _ rfl _ rfl h1 agg24r size24r ?_)
        | (with_reducible refine wpList_build0 rfl 29 rfl 24 zbuild24 ?_)
        | (with_reducible refine wpList_storeW rfl _ _ _ rfl _ rfl rfl h2 size24r ?_)
        | (go_at_call 43; (with_reducible refine (l2Rack_any _ _).mono ?_); rw [HF.out]; rintro e w1 ⟨rfl, hb1⟩; replace hbel := hbel.trans (hb1.mono hbel.size); replace h1 := row_keep hb1 h1; replace h2 := row_keep hb1 h2; clear hb1)
        | (go_at_call 49; (with_reducible refine (l2Place_any _ _).mono ?_); (first | rw [HI.out] | rw [HK.out]); rintro e w' ⟨rfl, rfl⟩)
      exact bodyPost_ret_by (results_ct _ _ _ _ _ _ _ rfl rfl (setRow_heap _ _ _ _ _ _ h2) agg24r size24r) rfl ⟨rfl, below_setRow2 hbel (by omega) _⟩
    | true =>
      have HF : Hid _ := hf
      by_cases hi : 0 ≤ i ∧ i ≤ 5
      · have HI : Hid _ := show (decide (0 ≤ i) && decide (i ≤ 5)) = true by simpa using hi
        have HK : Hid _ := show (decide (0 ≤ k) && decide (k ≤ 5)) = false by simpa using fun h => fun h2 => hok ⟨hf, hi, h, h2⟩
        clear hf hi hok
        go_enter Try.func26, Try.ntmps26
        go_wp2_with first
          | (with_reducible refine wpList_allocA rfl 29 rfl 24 zero24r ?_; (try simp only [size_al]))
          | (with_reducible refine wpList_loadW rfl _ _ rfl _ rfl h1 agg24r size24r ?_)
          | (with_reducible refine wpList_build0 rfl 29 rfl 24 zbuild24 ?_)
          | (with_reducible refine wpList_storeW rfl _ _ _ rfl _ rfl rfl h2 size24r ?_)
          | (go_at_call 43; (with_reducible refine (l2Rack_any _ _).mono ?_); rw [HF.out]; rintro e w1 ⟨rfl, hb1⟩; replace hbel := hbel.trans (hb1.mono hbel.size); replace h1 := row_keep hb1 h1; replace h2 := row_keep hb1 h2; clear hb1)
          | (go_at_call 49; (with_reducible refine (l2Place_any _ _).mono ?_); (first | rw [HI.out] | rw [HK.out]); rintro e w' ⟨rfl, rfl⟩)
        exact bodyPost_ret_by (results_ct _ _ _ _ _ _ _ rfl rfl (setRow_heap _ _ _ _ _ _ h2) agg24r size24r) rfl ⟨rfl, below_setRow2 hbel (by omega) _⟩
      · have HI : Hid _ := show (decide (0 ≤ i) && decide (i ≤ 5)) = false by simpa using hi
        obtain ⟨b, hb⟩ : ∃ b, (decide (0 ≤ k) && decide (k ≤ 5)) = b := ⟨_, rfl⟩
        have HK : Hid _ := hb
        clear hf hi hok hb
        go_enter Try.func26, Try.ntmps26
        go_wp2_with first
          | (with_reducible refine wpList_allocA rfl 29 rfl 24 zero24r ?_; (try simp only [size_al]))
          | (with_reducible refine wpList_loadW rfl _ _ rfl _ rfl h1 agg24r size24r ?_)
          | (with_reducible refine wpList_build0 rfl 29 rfl 24 zbuild24 ?_)
          | (with_reducible refine wpList_storeW rfl _ _ _ rfl _ rfl rfl h2 size24r ?_)
          | (go_at_call 43; (with_reducible refine (l2Rack_any _ _).mono ?_); rw [HF.out]; rintro e w1 ⟨rfl, hb1⟩; replace hbel := hbel.trans (hb1.mono hbel.size); replace h1 := row_keep hb1 h1; replace h2 := row_keep hb1 h2; clear hb1)
          | (go_at_call 49; (with_reducible refine (l2Place_any _ _).mono ?_); (first | rw [HI.out] | rw [HK.out]); rintro e w' ⟨rfl, rfl⟩)
        exact bodyPost_ret_by (results_ct _ _ _ _ _ _ _ rfl rfl (setRow_heap _ _ _ _ _ _ h2) agg24r size24r) rfl ⟨rfl, below_setRow2 hbel (by omega) _⟩
set_option linter.unusedVariables false in
theorem FnExactSwapTubes_walk (x0 : Nat → Int) (hx0 : ∀ j, I64 (x0 j)) (x1 : Int) (hx1 : I64 x1) (x2 : Int) (hx2 : I64 x2) (w : World) : Calls Try.prog 7 #[.agg (arr 24 x0), .int .i64 x1, .int .i64 x2] w fun e w' => e = .returned (.bool true) ∧ Below w.heap.size w w' := by
  have hr0 : (w.alloc (.cells (arr 24 x0) 25)).heap[w.heap.size]? = some (.cells (arr 24 x0) 25 (0, 0)) := by rw [heap_new (by simp)]
  have hbel : Below w.heap.size w (w.alloc (.cells (arr 24 x0) 25)) := ((Below.refl _ _).alloc (by simp) _)
  have tok_hA0 : True := trivial
  have tok_hB0 : True := trivial
  go_enter Try.func7, Try.ntmps7
  go_wp2_with first
    | (with_reducible refine wpList_loadW rfl _ _ rfl _ rfl hr0 agg24l size24l ?_)
    | (go_at_call 16; (with_reducible refine (toRack_any _ _).mono ?_); (rintro e w1 ⟨rfl, hb1⟩; replace hbel := hbel.trans (hb1.mono hbel.size); replace hr0 := row_keep hb1 hr0; (try replace hA0 := row_keep hb1 hA0); (try replace hB0 := row_keep hb1 hB0); clear hb1))
    | (go_at_call 26; (with_reducible refine (specSwap_any _ _ _ _).mono ?_); (rintro e w1 ⟨rfl, hb1⟩; replace hbel := hbel.trans (hb1.mono hbel.size); replace hr0 := row_keep hb1 hr0; (try replace hA0 := row_keep hb1 hA0); (try replace hB0 := row_keep hb1 hB0); clear hb1))
    | (go_at_call 27; (with_reducible refine (implSwap_any _ _ _ _).mono ?_); (rintro e w1 ⟨rfl, hb1⟩; replace hbel := hbel.trans (hb1.mono hbel.size); replace hr0 := row_keep hb1 hr0; (try replace hA0 := row_keep hb1 hA0); (try replace hB0 := row_keep hb1 hB0); clear hb1))
    | (with_reducible refine wpList_allocA rfl 29 rfl 24 zero24r ?_; (try simp only [size_al]))
    | (go_at_call 28; (with_reducible refine (eqRack_same _ _).mono ?_); (rintro e w1 ⟨rfl, hb1⟩; replace hbel := hbel.trans (hb1.mono hbel.size); replace hr0 := row_keep hb1 hr0; (try replace hA0 := row_keep hb1 hA0); (try replace hB0 := row_keep hb1 hB0); clear hb1))
    | (have _t := tok_hA0; with_reducible refine wpList_storeN rfl _ _ _ rfl rfl rfl size24r ?_; intro w1 hA0 hb1; replace hbel := hbel.trans (hb1.mono hbel.size); replace hr0 := row_keep hb1 hr0; clear hb1 _t tok_hA0)
    | (with_reducible refine wpList_loadWG rfl _ _ rfl _ rfl hA0 agg24r size24r ?_)
    | (have _t := tok_hB0; with_reducible refine wpList_storeN rfl _ _ _ rfl rfl rfl size24r ?_; intro w1 hB0 hb1; replace hbel := hbel.trans (hb1.mono hbel.size); replace hr0 := row_keep hb1 hr0; replace hA0 := row_keep hb1 hA0; clear hb1 _t tok_hB0)
    | (with_reducible refine wpList_loadWG rfl _ _ rfl _ rfl hB0 agg24r size24r ?_)
  go_ret
  exact ⟨rfl, hbel⟩
end Go.Proofs.Ythbnaagheanppaa
