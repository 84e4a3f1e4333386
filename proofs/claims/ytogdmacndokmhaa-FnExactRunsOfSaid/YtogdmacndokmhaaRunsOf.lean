/- RunsOf: the program's and the reference's, and the law. -/
import Derived.Test.YtogdmacndokmhaaSlaw
import Derived.Test.YtogdmacndokmhaaCanP
namespace Go.Proofs.Ytogdmacndokmhaa
set_option linter.unusedSimpArgs false
set_option linter.unusedVariables false
set_option maxRecDepth 20000
open Go.RowKit
/-- The runs of a tube, asked for. -/
def roN (f : Nat → Int) (i : Int) : Nat := if rackB f = true ∧ (0 ≤ i ∧ i ≤ 5) then rN (tub f i.toNat) (nlay (tub f i.toNat)) else 0
def roF (f : Nat → Int) (i : Int) : Nat → Int := if rackB f = true ∧ (0 ≤ i ∧ i ≤ 5) then rF (tub f i.toNat) (nlay (tub f i.toNat)) else fun _ => 0
def roB (f : Nat → Int) (i : Int) : Bool := if rackB f = true ∧ (0 ≤ i ∧ i ≤ 5) then true else false
theorem ro_bad {f : Nat → Int} {i : Int} (h : ¬ (rackB f = true ∧ (0 ≤ i ∧ i ≤ 5))) : roN f i = 0 ∧ roF f i = (fun _ => 0) ∧ roB f i = false := ⟨if_neg h, if_neg h, if_neg h⟩
theorem ro_ok {f : Nat → Int} {n : Nat} (h : rackB f = true ∧ (0 ≤ (n : Int) ∧ (n : Int) ≤ 5)) : roN f n = rN (tub f n) (nlay (tub f n)) ∧ roF f n = rF (tub f n) (nlay (tub f n)) ∧ roB f n = true := ⟨if_pos h, if_pos h, if_pos h⟩
theorem roN_le (f : Nat → Int) (i : Int) : roN f i ≤ 1000000 := by
  unfold roN
  split
  · have := rN_le (tub f i.toNat) (nlay (tub f i.toNat)); have := nlay_le (tub f i.toNat); omega
  · omega
theorem specRunsOf_any (f : Nat → Int) (i : Int) (w : World) : Calls Try.prog 28 #[.agg (arr 24 f), .int .i64 i] w (RetSlB w 25 2 (roN f i) (roF f i) (roB f i)) := by
  have h1 : (w.alloc (.cells (arr 24 f) 38)).heap[w.heap.size]? = some (.cells (arr 24 f) 38 (0, 0))   := heap_new rfl
  have hbel : Below w.heap.size w (w.alloc (.cells (arr 24 f) 38)) := (Below.refl _ _).alloc (by simp) _
  cases hf : rackB f with
  | false =>
    obtain ⟨e1, e2, e3⟩ := ro_bad (f := f) (i := i) (by simp [hf])
    rw [e1, e2, e3]
    have HF : Hid _ := hf
    have HI : Hid (1 = 1) := rfl
    clear hf e1 e2 e3
    go_enter Try.func28, Try.ntmps28
    go_wp2_with first
      | (with_reducible refine wpList_loadW rfl _ _ rfl _ rfl h1 agg24r size24r ?_)
      | (go_at_call 57; (with_reducible refine (l2Rack_any _ _).mono ?_); rw [HF.out]; rintro e w1 ⟨rfl, hb1⟩; replace hbel := hbel.trans (hb1.mono hbel.size); replace h1 := row_keep hb1 h1; clear hb1)
      | (go_at_call 47; (with_reducible refine (l2Place_any _ _).mono ?_); rw [HI.out]; rintro e w' ⟨rfl, rfl⟩)
      | (with_reducible refine wpList_loadAG rfl _ _ rfl _ _ rfl h1 4 agg4 size4 (by omega) ?_)
      | (go_at_call 69; (with_reducible refine (l2Runs_any (tub f n) ht _).mono ?_); rintro e w1 ⟨v, rfl, hS, hb1⟩; have hz := hbel.size; replace hbel := hbel.trans (hb1.mono hbel.size))
    go_ret2
    first
      | exact ⟨_, rfl, hS.lower hz, hbel⟩
      | exact ⟨_, rfl, Sl.made hbel.size, hbel.alloc hbel.size _⟩
  | true =>
    have HF : Hid _ := hf
    by_cases hi : 0 ≤ i ∧ i ≤ 5
    · have HI : Hid _ := show (decide (0 ≤ i) && decide (i ≤ 5)) = true by simpa using hi
      obtain ⟨n, rfl⟩ : ∃ n : Nat, i = n := ⟨i.toNat, by omega⟩
      have hn : n ≤ 5 := by omega
      have ht := tube_of_rack hf hn
      have hi1 : (0 : Int) ≤ (n : Int) := by omega
      have hi3 : (n : Int) < 6 := by omega
      obtain ⟨e1, e2, e3⟩ := ro_ok ⟨hf, hi⟩
      rw [e1, e2, e3]
      clear hf hi e1 e2 e3
      go_enter Try.func28, Try.ntmps28
      go_wp2_with first
        | (with_reducible refine wpList_loadW rfl _ _ rfl _ rfl h1 agg24r size24r ?_)
        | (go_at_call 57; (with_reducible refine (l2Rack_any _ _).mono ?_); rw [HF.out]; rintro e w1 ⟨rfl, hb1⟩; replace hbel := hbel.trans (hb1.mono hbel.size); replace h1 := row_keep hb1 h1; clear hb1)
        | (go_at_call 47; (with_reducible refine (l2Place_any _ _).mono ?_); rw [HI.out]; rintro e w' ⟨rfl, rfl⟩)
        | (with_reducible refine wpList_loadAG rfl _ _ rfl _ _ rfl h1 4 agg4 size4 (by omega) ?_)
        | (go_at_call 69; (with_reducible refine (l2Runs_any (tub f n) ht _).mono ?_); rintro e w1 ⟨v, rfl, hS, hb1⟩; have hz := hbel.size; replace hbel := hbel.trans (hb1.mono hbel.size))
      go_ret2
      first
        | exact ⟨_, rfl, hS.lower hz, hbel⟩
        | exact ⟨_, rfl, Sl.made hbel.size, hbel.alloc hbel.size _⟩
    · obtain ⟨e1, e2, e3⟩ := ro_bad (f := f) (i := i) (by simp [hi])
      rw [e1, e2, e3]
      have HI : Hid _ := show (decide (0 ≤ i) && decide (i ≤ 5)) = false by simpa using hi
      clear hf hi e1 e2 e3
      go_enter Try.func28, Try.ntmps28
      go_wp2_with first
        | (with_reducible refine wpList_loadW rfl _ _ rfl _ rfl h1 agg24r size24r ?_)
        | (go_at_call 57; (with_reducible refine (l2Rack_any _ _).mono ?_); rw [HF.out]; rintro e w1 ⟨rfl, hb1⟩; replace hbel := hbel.trans (hb1.mono hbel.size); replace h1 := row_keep hb1 h1; clear hb1)
        | (go_at_call 47; (with_reducible refine (l2Place_any _ _).mono ?_); rw [HI.out]; rintro e w' ⟨rfl, rfl⟩)
        | (with_reducible refine wpList_loadAG rfl _ _ rfl _ _ rfl h1 4 agg4 size4 (by omega) ?_)
        | (go_at_call 69; (with_reducible refine (l2Runs_any (tub f n) ht _).mono ?_); rintro e w1 ⟨v, rfl, hS, hb1⟩; have hz := hbel.size; replace hbel := hbel.trans (hb1.mono hbel.size))
      go_ret2
      first
        | exact ⟨_, rfl, hS.lower hz, hbel⟩
        | exact ⟨_, rfl, Sl.made hbel.size, hbel.alloc hbel.size _⟩
theorem implRunsOf_any (f : Nat → Int) (i : Int) (w : World) : Calls Try.prog 29 #[.agg (arr 24 f), .int .i64 i] w (RetSlB w 25 2 (roN f i) (roF f i) (roB f i)) := by
  have h1 : (w.alloc (.cells (arr 24 f) 38)).heap[w.heap.size]? = some (.cells (arr 24 f) 38 (0, 0))   := heap_new rfl
  have hbel : Below w.heap.size w (w.alloc (.cells (arr 24 f) 38)) := (Below.refl _ _).alloc (by simp) _
  have h5 : ((w.alloc (.cells (arr 24 f) 38)).alloc (.cells #[.int .i64 i] 3)).heap[w.heap.size + 1]? = some (.cells #[.int .i64 i] 3 (0, 0)) := heap_new (by simp)
  cases hf : rackB f with
  | false =>
    obtain ⟨e1, e2, e3⟩ := ro_bad (f := f) (i := i) (by simp [hf])
    rw [e1, e2, e3]
    have HF : Hid _ := hf
    have HI : Hid (1 = 1) := rfl
    clear hf e1 e2 e3
    go_enter Try.func29, Try.ntmps29
    go_wp2_with first
      | (with_reducible refine wpList_loadW rfl _ _ rfl _ rfl h1 agg24r size24r ?_)
      | (go_at_call 60; (with_reducible refine (isAt_bad f HF.out _ _).mono ?_); rintro e w1 ⟨rfl, hb1⟩; replace hb1 := below_of_alloc hb1; replace hbel := hbel.trans (hb1.mono hbel.size); replace h1 := row_keep hb1 h1; clear hb1)
      | (go_at_call 60; (with_reducible refine (isAt_one f HF.out _ _ h5).mono ?_); rw [HI.out]; rintro e w1 ⟨rfl, hb1⟩; replace hb1 := below_of_alloc hb1; replace hbel := hbel.trans (hb1.mono hbel.size); replace h1 := row_keep hb1 h1; clear hb1)
      | (with_reducible refine wpList_loadAG rfl _ _ rfl _ _ rfl h1 4 agg4 size4 (by omega) ?_)
      | (go_at_call 70; (with_reducible refine (runs_any (tub f n) ht _).mono ?_); rintro e w1 ⟨v, rfl, hS, hb1⟩; have hz := hbel.size; replace hbel := hbel.trans (hb1.mono hbel.size))
    go_ret2
    first
      | exact ⟨_, rfl, hS.lower hz, hbel⟩
      | exact ⟨_, rfl, Sl.nil, hbel⟩
  | true =>
    have HF : Hid _ := hf
    by_cases hi : 0 ≤ i ∧ i ≤ 5
    · have HI : Hid _ := show (decide (0 ≤ i) && decide (i ≤ 5)) = true by simpa using hi
      obtain ⟨n, rfl⟩ : ∃ n : Nat, i = n := ⟨i.toNat, by omega⟩
      have hn : n ≤ 5 := by omega
      have ht := tube_of_rack hf hn
      have hi1 : (0 : Int) ≤ (n : Int) := by omega
      have hi3 : (n : Int) < 6 := by omega
      obtain ⟨e1, e2, e3⟩ := ro_ok ⟨hf, hi⟩
      rw [e1, e2, e3]
      clear hf hi e1 e2 e3
      go_enter Try.func29, Try.ntmps29
      go_wp2_with first
        | (with_reducible refine wpList_loadW rfl _ _ rfl _ rfl h1 agg24r size24r ?_)
        | (go_at_call 60; (with_reducible refine (isAt_bad f HF.out _ _).mono ?_); rintro e w1 ⟨rfl, hb1⟩; replace hb1 := below_of_alloc hb1; replace hbel := hbel.trans (hb1.mono hbel.size); replace h1 := row_keep hb1 h1; clear hb1)
        | (go_at_call 60; (with_reducible refine (isAt_one f HF.out _ _ h5).mono ?_); rw [HI.out]; rintro e w1 ⟨rfl, hb1⟩; replace hb1 := below_of_alloc hb1; replace hbel := hbel.trans (hb1.mono hbel.size); replace h1 := row_keep hb1 h1; clear hb1)
        | (with_reducible refine wpList_loadAG rfl _ _ rfl _ _ rfl h1 4 agg4 size4 (by omega) ?_)
        | (go_at_call 70; (with_reducible refine (runs_any (tub f n) ht _).mono ?_); rintro e w1 ⟨v, rfl, hS, hb1⟩; have hz := hbel.size; replace hbel := hbel.trans (hb1.mono hbel.size))
      go_ret2
      first
        | exact ⟨_, rfl, hS.lower hz, hbel⟩
        | exact ⟨_, rfl, Sl.nil, hbel⟩
    · obtain ⟨e1, e2, e3⟩ := ro_bad (f := f) (i := i) (by simp [hi])
      rw [e1, e2, e3]
      have HI : Hid _ := show (decide (0 ≤ i) && decide (i ≤ 5)) = false by simpa using hi
      clear hf hi e1 e2 e3
      go_enter Try.func29, Try.ntmps29
      go_wp2_with first
        | (with_reducible refine wpList_loadW rfl _ _ rfl _ rfl h1 agg24r size24r ?_)
        | (go_at_call 60; (with_reducible refine (isAt_bad f HF.out _ _).mono ?_); rintro e w1 ⟨rfl, hb1⟩; replace hb1 := below_of_alloc hb1; replace hbel := hbel.trans (hb1.mono hbel.size); replace h1 := row_keep hb1 h1; clear hb1)
        | (go_at_call 60; (with_reducible refine (isAt_one f HF.out _ _ h5).mono ?_); rw [HI.out]; rintro e w1 ⟨rfl, hb1⟩; replace hb1 := below_of_alloc hb1; replace hbel := hbel.trans (hb1.mono hbel.size); replace h1 := row_keep hb1 h1; clear hb1)
        | (with_reducible refine wpList_loadAG rfl _ _ rfl _ _ rfl h1 4 agg4 size4 (by omega) ?_)
        | (go_at_call 70; (with_reducible refine (runs_any (tub f n) ht _).mono ?_); rintro e w1 ⟨v, rfl, hS, hb1⟩; have hz := hbel.size; replace hbel := hbel.trans (hb1.mono hbel.size))
      go_ret2
      first
        | exact ⟨_, rfl, hS.lower hz, hbel⟩
        | exact ⟨_, rfl, Sl.nil, hbel⟩
set_option linter.unusedVariables false in
set_option maxHeartbeats 1000000 in
theorem FnExactRunsOf_walk (x0 : Nat → Int) (hx0 : ∀ j, I64 (x0 j)) (x1 : Int) (hx1 : I64 x1) (w : World) : Calls Try.prog 8 #[.agg (arr 24 x0), .int .i64 x1] w fun e w' => e = .returned (.bool true) ∧ Below w.heap.size w w' := by
  have hr : (w.alloc (.cells (arr 24 x0) 35)).heap[w.heap.size]? = some (.cells (arr 24 x0) 35 (0, 0)) := heap_new rfl
  have hbel : Below w.heap.size w (w.alloc (.cells (arr 24 x0) 35)) := (Below.refl _ _).alloc (by simp) _
  have tok_S : True := trivial
  have tok_G : True := trivial
  have tok_M : True := trivial
  have hnb := roN_le x0 x1
  have HNB : Hid _ := hnb
  clear hnb
  go_enter Try.func8, Try.ntmps8
  go_wp2_with first
    | (with_reducible refine wpList_loadW rfl _ _ rfl _ rfl hr agg24l size24l ?_)
    | (go_at_call 20; (with_reducible refine (toRack_any _ _).mono ?_); (rintro e w1 ⟨rfl, hb1⟩; replace hbel := hbel.trans (hb1.mono hbel.size); replace hr := row_keep hb1 hr; (try replace hbS := hbS.trans (hb1.mono hbS.size)); (try replace hSG := hSG.keep hb1); (try replace hz3 := Nat.le_trans hz3 hb1.size); clear hb1))
    | (have _t := tok_S; (go_at_call 28; (with_reducible refine (specRunsOf_any _ _ _).mono ?_); (rintro e w1 ⟨v0, rfl, hS0, hb1⟩; replace hbel := hbel.trans (hb1.mono hbel.size); replace hr := row_keep hb1 hr; (try replace hbS := hbS.trans (hb1.mono hbS.size)); (try replace hSG := hSG.keep hb1); (try replace hz3 := Nat.le_trans hz3 hb1.size); have hbS := Below.refl w1.heap.size w1; clear hb1 _t tok_S)))
    | (have _t := tok_G; (go_at_call 29; (with_reducible refine (implRunsOf_any _ _ _).mono ?_); (rintro e w1 ⟨vG, rfl, hSG, hb1⟩; have hz0 := row_lt hr; have hz1 := hbel.size; have hz2 := hbS.size; replace hbel := hbel.trans (hb1.mono hbel.size); replace hr := row_keep hb1 hr; (try replace hbS := hbS.trans (hb1.mono hbS.size)); (try replace hSG := hSG.keep hb1); (try replace hz3 := Nat.le_trans hz3 hb1.size); have hz3 := hb1.size; clear hb1 _t tok_G)))
    | (go_at_call 29; (with_reducible refine (implRunsOf_any _ _ _).mono ?_); (rintro e w1 ⟨vH, rfl, hSH, hb1⟩; replace hbel := hbel.trans (hb1.mono hbel.size); replace hr := row_keep hb1 hr; (try replace hbS := hbS.trans (hb1.mono hbS.size)); (try replace hSG := hSG.keep hb1); (try replace hz3 := Nat.le_trans hz3 hb1.size); clear hb1))
    | (have _t := tok_M; (go_at_call 30; (with_reducible refine (eqP_same HNB.out _ hSG (hS0.keep hbS)).mono ?_); (rintro e w1 ⟨rfl, hb1⟩; replace hbel := hbel.trans (hb1.mono hbel.size); replace hr := row_keep hb1 hr; (try replace hbS := hbS.trans (hb1.mono hbS.size)); (try replace hSG := hSG.keep hb1); (try replace hz3 := Nat.le_trans hz3 hb1.size); clear hb1)))
    | (go_at_call 30; (with_reducible refine (eqP_same HNB.out _ hSH (hS0.keep hbS)).mono ?_); (rintro e w1 ⟨rfl, hb1⟩; replace hbel := hbel.trans (hb1.mono hbel.size); replace hr := row_keep hb1 hr; (try replace hbS := hbS.trans (hb1.mono hbS.size)); (try replace hSG := hSG.keep hb1); (try replace hz3 := Nat.le_trans hz3 hb1.size); clear hb1))
    | (have _t := tok_M; (go_at_call 31; (with_reducible refine (markP1 HNB.out _ hSG hz3).mono ?_); (rintro e w1 ⟨rfl, hSM, hb1⟩; clear hSG; have hSG := hSM; replace hbel := hbel.trans (hb1.mono hz1); replace hr := row_kept hb1 hr (by omega); replace hbS := hbS.trans (hb1.mono hz2); clear hb1 hSM _t tok_M)))
    | (go_at_call 32; (with_reducible refine (heldP1 HNB.out _ hSG).mono ?_); rintro e w1 ⟨rfl, rfl⟩)
  go_ret
  exact ⟨rfl, hbel⟩
end Go.Proofs.Ytogdmacndokmhaa
