/- A part (number 4) of the proof of the law FnRacks: what each of its sections proves stands in the section's own first remark. No conditions beside those that each theorem states. -/
import Derived.Test.YtlbgmkengkgnfaaGreatDoorMg3
import Derived.Test.YtlbgmkengkgnfaaGreatDoorMg1
import Derived.ChangeKeysEq
import Derived.Laws.StructEq
import Derived.Laws.Append
import Derived.Laws.AppendOwn
import Derived.IntWalk
section
/- PutLayer, TakeLayer, SwapTubes: the program's and the reference's, and the laws. -/
namespace Go.Proofs.YtlbgmkengkgnfaaGreatDoor
set_option linter.unusedSimpArgs false
set_option linter.unusedVariables false
set_option maxRecDepth 20000
open Go.RowKit
theorem zbuild24 : Tryz.prog.built 27 [] = some (arr 24 fun _ => 0) := by kernel_rfl
theorem tube_of_rack {f : Nat → Int} (h : rackB f = true) {n : Nat} (hn : n ≤ 5) : tubeB (tub f n) = true := (rackB_iff f).1 h n (by omega)

theorem isColor_any (x : Int) (w : World) : Calls Tryz.prog 44 #[.int .i64 x] w fun e w' => e = .returned (.bool (decide (1 ≤ x) && decide (x ≤ 5))) ∧ Below w.heap.size w w' := isColor_pred.2 x w

def putLayer (f : Nat → Int) (i c : Int) : (Nat → Int) × Bool := if rackB f = true ∧ (0 ≤ i ∧ i ≤ 5) ∧ (1 ≤ c ∧ c ≤ 5) ∧ nlay (tub f i.toNat) < 4 then (upd f (i.toNat * 4 + nlay (tub f i.toNat)) c, true) else (fun _ => 0, false)
theorem putLayer_bad {f : Nat → Int} {i c : Int} (h : ¬ (rackB f = true ∧ (0 ≤ i ∧ i ≤ 5) ∧ (1 ≤ c ∧ c ≤ 5) ∧ nlay (tub f i.toNat) < 4)) : putLayer f i c = (fun _ => 0, false) := if_neg h

theorem specPut_any (f : Nat → Int) (i c : Int) (w : World) : Calls Tryz.prog 15 #[.agg (arr 24 f), .int .i64 i, .int .i64 c] w fun e w' => e = .returned (.tuple #[.agg (arr 24 (putLayer f i c).1), .bool (putLayer f i c).2]) ∧ Below w.heap.size w w' := by
  have h1 : ((w.alloc (.cells (arr 24 f) 27)).alloc (.cells (arr 24 fun _ => 0) 27)).heap[w.heap.size]? = some (.cells (arr 24 f) 27 (0, 0)) := by rw [heap_old (by simp), heap_new rfl]
  have h2 : ((w.alloc (.cells (arr 24 f) 27)).alloc (.cells (arr 24 fun _ => 0) 27)).heap[w.heap.size + 1]? = some (.cells (arr 24 fun _ => 0) 27 (0, 0)) := heap_new (by simp)
  have hbel : Below w.heap.size w ((w.alloc (.cells (arr 24 f) 27)).alloc (.cells (arr 24 fun _ => 0) 27)) := ((Below.refl _ _).alloc (by simp) _).alloc (by simp) _
  by_cases hok : rackB f = true ∧ (0 ≤ i ∧ i ≤ 5) ∧ (1 ≤ c ∧ c ≤ 5) ∧ nlay (tub f i.toNat) < 4
  · obtain ⟨hf, hi, hc, hn4⟩ := hok
    obtain ⟨n, rfl⟩ : ∃ n : Nat, i = n := ⟨i.toNat, by omega⟩
    have hn : n ≤ 5 := by omega
    rw [Int.toNat_natCast] at hn4
    have e : putLayer f n c = (upd f (n * 4 + nlay (tub f n)) c, true) := by
      unfold putLayer; rw [if_pos ⟨hf, hi, hc, by simpa using hn4⟩]; rfl
    rw [e]
    have ht := tube_of_rack hf hn
    have hi1 : (0 : Int) ≤ (n : Int) := by omega
    have hi2 : (n : Int) ≤ 5 := by omega
    have hi3 : (n : Int) < 6 := by omega
    obtain ⟨hc1, hc2⟩ := hc
    have hm : ((nlay fun j => f (n * 4 + j) : Nat) : Int) < 4 := by have := hn4; unfold tub at this; omega
    clear hi e
    go_enter Tryz.func15, Tryz.ntmps15
    go_wp2_with first
      | (with_reducible refine wpList_allocA rfl 27 rfl 24 zero24r ?_; (try simp only [size_al]))
      | (with_reducible refine wpList_loadW rfl _ _ rfl _ rfl h1 agg24r size24r ?_)
      | (go_at_call 34; (with_reducible refine (l2Rack_any _ _).mono ?_); rw [hf]; rintro e w1 ⟨rfl, hb1⟩; replace hbel := hbel.trans (hb1.mono hbel.size); replace h1 := row_keep hb1 h1; replace h2 := row_keep hb1 h2; clear hb1)
      | (go_at_call 35; (with_reducible refine (l2Place_any _ _).mono ?_); rintro e w' ⟨rfl, rfl⟩)
      | (go_at_call 45; (with_reducible refine (l1In_any _ _ _ _).mono ?_); rintro e w' ⟨rfl, rfl⟩)
      | (with_reducible refine wpList_loadAG rfl _ _ rfl _ _ rfl h1 4 agg4 size4 (by omega) ?_)
      | (go_at_call 38; (with_reducible refine (l2Many_ok (fun j => f (n * 4 + j)) ht _).mono ?_); rintro e w1 ⟨rfl, hb1⟩; replace hbel := hbel.trans (hb1.mono hbel.size); replace h1 := row_keep hb1 h1; replace h2 := row_keep hb1 h2; clear hb1)
    refine wp_region_held 10 (Cls w _) (by kernel_rfl) (by kernel_rfl) (Cls.two h1 h2 hbel) ?_; simp only [List.take_succ_cons, List.take_zero, List.drop_succ_cons, List.drop_zero]
    repeat (first
      | (with_reducible refine wpQuiet_loadA rfl _ _ rfl _ _ rfl (fun _ h => h.r1) 4 agg4 size4 (by omega) ?_)
      | ((with_reducible refine wpQuiet_call rfl 38 _ _ rfl (.int .i64 (nlay fun j => f (n * 4 + j))) ?_ ?_ ?_); (exact enters_of Tryz.func38 (by kernel_rfl) rfl); (intro w' h'; exact (l2Many_ok (fun j => f (n * 4 + j)) ht w').mono fun _ _ ⟨he, hb⟩ => ⟨he, h'.keep hb⟩))
      | ((with_reducible refine wpQuiet_step (fun K hK => ?_)); go_simp; (first | (refine ⟨_, fun _ _ => rfl, hK _ ?_⟩) | (refine ⟨_, fun _ _ => ⟨rfl, rfl⟩, hK _ ?_⟩) | (refine hK _ ?_)); clear hK K))
    refine wpQuiet_nil ?_
    intro wt hCt
    have h1 := hCt.r1
    have h2 := hCt.r2
    have hbel := hCt.2
    have h3 := setRow_heap wt _ _ (arr 24 (upd f (n * 4 + nlay fun j => f (n * 4 + j)) c)) _ _ h1
    have h4 := (setRow_other wt w.heap.size (w.heap.size + 1) (arr 24 (upd f (n * 4 + nlay fun j => f (n * 4 + j)) c)) (by omega)).trans h2
    go_wp2_with first
      | (with_reducible refine wpList_storeI rfl 3 _ _ rfl _ _ rfl rfl h1 size1 (by unfold tub at hn4; omega) ?_)
      | (with_reducible refine wpList_loadW rfl _ _ rfl _ rfl h3 agg24r size24r ?_)
      | (with_reducible refine wpList_storeW rfl _ _ _ rfl _ rfl rfl h4 size24r ?_)
    exact bodyPost_ret_by (results_ct _ _ _ _ _ _ _ rfl rfl (setRow_heap _ _ _ _ _ _ h4) agg24r size24r) rfl ⟨rfl, below_setRow2 (below_setRow2 hbel (by omega) _) (by omega) _⟩
  · rw [putLayer_bad hok]
    cases hf : rackB f with
    | false =>
      have HF : Hid _ := hf
      clear hf
      go_enter Tryz.func15, Tryz.ntmps15
      go_wp2_with first
        | (with_reducible refine wpList_allocA rfl 27 rfl 24 zero24r ?_; (try simp only [size_al]))
        | (with_reducible refine wpList_loadW rfl _ _ rfl _ rfl h1 agg24r size24r ?_)
        | (with_reducible refine wpList_build0 rfl 27 rfl 24 zbuild24 ?_)
        | (with_reducible refine wpList_storeW rfl _ _ _ rfl _ rfl rfl h2 size24r ?_)
        | (go_at_call 34; (with_reducible refine (l2Rack_any _ _).mono ?_); rw [HF.out]; rintro e w1 ⟨rfl, hb1⟩; replace hbel := hbel.trans (hb1.mono hbel.size); replace h1 := row_keep hb1 h1; replace h2 := row_keep hb1 h2; clear hb1)
        | (go_at_call 35; (with_reducible refine (l2Place_any _ _).mono ?_); rw [HI.out]; rintro e w' ⟨rfl, rfl⟩)
        | (go_at_call 45; (with_reducible refine (l1In_any _ _ _ _).mono ?_); rw [HC.out]; rintro e w' ⟨rfl, rfl⟩)
        | (with_reducible refine wpList_loadAG rfl _ _ rfl _ _ rfl h1 4 agg4 size4 (by omega) ?_)
        | (go_at_call 38; (with_reducible refine (l2Many_ok (fun j => f (n * 4 + j)) ht _).mono ?_); rw [H4.out]; rintro e w1 ⟨rfl, hb1⟩; replace hbel := hbel.trans (hb1.mono hbel.size); replace h1 := row_keep hb1 h1; replace h2 := row_keep hb1 h2; clear hb1)
      exact bodyPost_ret_by (results_ct _ _ _ _ _ _ _ rfl rfl (setRow_heap _ _ _ _ _ _ h2) agg24r size24r) rfl ⟨rfl, below_setRow2 hbel (by omega) _⟩
    | true =>
      have HF : Hid _ := hf
      by_cases hi : 0 ≤ i ∧ i ≤ 5
      · have HI : Hid _ := show (decide (0 ≤ i) && decide (i ≤ 5)) = true by simpa using hi
        obtain ⟨n, rfl⟩ : ∃ n : Nat, i = n := ⟨i.toNat, by omega⟩
        have hn : n ≤ 5 := by omega
        have ht := tube_of_rack hf hn
        have hi1 : (0 : Int) ≤ (n : Int) := by omega
        have hi3 : (n : Int) < 6 := by omega
        by_cases hc : 1 ≤ c ∧ c ≤ 5
        · have HC : Hid _ := show decide (1 ≤ c ∧ c ≤ 5) = true by simpa using hc
          have h4 : nlay (fun j => f (n * 4 + j)) = 4 := by
            have h5 := nlay_le (fun j => f (n * 4 + j))
            have h6 : ¬ nlay (tub f n) < 4 := fun h7 => hok ⟨hf, hi, hc, by simpa using h7⟩
            unfold tub at h6
            omega
          have H4 : Hid _ := h4
          clear hf hi hok hc h4
          go_enter Tryz.func15, Tryz.ntmps15
          go_wp2_with first
            | (with_reducible refine wpList_allocA rfl 27 rfl 24 zero24r ?_; (try simp only [size_al]))
            | (with_reducible refine wpList_loadW rfl _ _ rfl _ rfl h1 agg24r size24r ?_)
            | (with_reducible refine wpList_build0 rfl 27 rfl 24 zbuild24 ?_)
            | (with_reducible refine wpList_storeW rfl _ _ _ rfl _ rfl rfl h2 size24r ?_)
            | (go_at_call 34; (with_reducible refine (l2Rack_any _ _).mono ?_); rw [HF.out]; rintro e w1 ⟨rfl, hb1⟩; replace hbel := hbel.trans (hb1.mono hbel.size); replace h1 := row_keep hb1 h1; replace h2 := row_keep hb1 h2; clear hb1)
            | (go_at_call 35; (with_reducible refine (l2Place_any _ _).mono ?_); rw [HI.out]; rintro e w' ⟨rfl, rfl⟩)
            | (go_at_call 45; (with_reducible refine (l1In_any _ _ _ _).mono ?_); rw [HC.out]; rintro e w' ⟨rfl, rfl⟩)
            | (with_reducible refine wpList_loadAG rfl _ _ rfl _ _ rfl h1 4 agg4 size4 (by omega) ?_)
            | (go_at_call 38; (with_reducible refine (l2Many_ok (fun j => f (n * 4 + j)) ht _).mono ?_); rw [H4.out]; rintro e w1 ⟨rfl, hb1⟩; replace hbel := hbel.trans (hb1.mono hbel.size); replace h1 := row_keep hb1 h1; replace h2 := row_keep hb1 h2; clear hb1)
          exact bodyPost_ret_by (results_ct _ _ _ _ _ _ _ rfl rfl (setRow_heap _ _ _ _ _ _ h2) agg24r size24r) rfl ⟨rfl, below_setRow2 hbel (by omega) _⟩
        · have HC : Hid _ := show decide (1 ≤ c ∧ c ≤ 5) = false by simpa using hc
          clear hf hi hok hc
          go_enter Tryz.func15, Tryz.ntmps15
          go_wp2_with first
            | (with_reducible refine wpList_allocA rfl 27 rfl 24 zero24r ?_; (try simp only [size_al]))
            | (with_reducible refine wpList_loadW rfl _ _ rfl _ rfl h1 agg24r size24r ?_)
            | (with_reducible refine wpList_build0 rfl 27 rfl 24 zbuild24 ?_)
            | (with_reducible refine wpList_storeW rfl _ _ _ rfl _ rfl rfl h2 size24r ?_)
            | (go_at_call 34; (with_reducible refine (l2Rack_any _ _).mono ?_); rw [HF.out]; rintro e w1 ⟨rfl, hb1⟩; replace hbel := hbel.trans (hb1.mono hbel.size); replace h1 := row_keep hb1 h1; replace h2 := row_keep hb1 h2; clear hb1)
            | (go_at_call 35; (with_reducible refine (l2Place_any _ _).mono ?_); rw [HI.out]; rintro e w' ⟨rfl, rfl⟩)
            | (go_at_call 45; (with_reducible refine (l1In_any _ _ _ _).mono ?_); rw [HC.out]; rintro e w' ⟨rfl, rfl⟩)
            | (with_reducible refine wpList_loadAG rfl _ _ rfl _ _ rfl h1 4 agg4 size4 (by omega) ?_)
            | (go_at_call 38; (with_reducible refine (l2Many_ok (fun j => f (n * 4 + j)) ht _).mono ?_); rw [H4.out]; rintro e w1 ⟨rfl, hb1⟩; replace hbel := hbel.trans (hb1.mono hbel.size); replace h1 := row_keep hb1 h1; replace h2 := row_keep hb1 h2; clear hb1)
          exact bodyPost_ret_by (results_ct _ _ _ _ _ _ _ rfl rfl (setRow_heap _ _ _ _ _ _ h2) agg24r size24r) rfl ⟨rfl, below_setRow2 hbel (by omega) _⟩
      · have HI : Hid _ := show (decide (0 ≤ i) && decide (i ≤ 5)) = false by simpa using hi
        clear hf hi hok
        go_enter Tryz.func15, Tryz.ntmps15
        go_wp2_with first
          | (with_reducible refine wpList_allocA rfl 27 rfl 24 zero24r ?_; (try simp only [size_al]))
          | (with_reducible refine wpList_loadW rfl _ _ rfl _ rfl h1 agg24r size24r ?_)
          | (with_reducible refine wpList_build0 rfl 27 rfl 24 zbuild24 ?_)
          | (with_reducible refine wpList_storeW rfl _ _ _ rfl _ rfl rfl h2 size24r ?_)
          | (go_at_call 34; (with_reducible refine (l2Rack_any _ _).mono ?_); rw [HF.out]; rintro e w1 ⟨rfl, hb1⟩; replace hbel := hbel.trans (hb1.mono hbel.size); replace h1 := row_keep hb1 h1; replace h2 := row_keep hb1 h2; clear hb1)
          | (go_at_call 35; (with_reducible refine (l2Place_any _ _).mono ?_); rw [HI.out]; rintro e w' ⟨rfl, rfl⟩)
          | (go_at_call 45; (with_reducible refine (l1In_any _ _ _ _).mono ?_); rw [HC.out]; rintro e w' ⟨rfl, rfl⟩)
          | (with_reducible refine wpList_loadAG rfl _ _ rfl _ _ rfl h1 4 agg4 size4 (by omega) ?_)
          | (go_at_call 38; (with_reducible refine (l2Many_ok (fun j => f (n * 4 + j)) ht _).mono ?_); rw [H4.out]; rintro e w1 ⟨rfl, hb1⟩; replace hbel := hbel.trans (hb1.mono hbel.size); replace h1 := row_keep hb1 h1; replace h2 := row_keep hb1 h2; clear hb1)
        exact bodyPost_ret_by (results_ct _ _ _ _ _ _ _ rfl rfl (setRow_heap _ _ _ _ _ _ h2) agg24r size24r) rfl ⟨rfl, below_setRow2 hbel (by omega) _⟩

theorem implPut_any (f : Nat → Int) (i c : Int) (w : World) : Calls Tryz.prog 14 #[.agg (arr 24 f), .int .i64 i, .int .i64 c] w fun e w' => e = .returned (.tuple #[.agg (arr 24 (putLayer f i c).1), .bool (putLayer f i c).2]) ∧ Below w.heap.size w w' := by
  have h1 : ((w.alloc (.cells (arr 24 f) 27)).alloc (.cells (arr 24 fun _ => 0) 27)).heap[w.heap.size]? = some (.cells (arr 24 f) 27 (0, 0)) := by rw [heap_old (by simp), heap_new rfl]
  have h2 : ((w.alloc (.cells (arr 24 f) 27)).alloc (.cells (arr 24 fun _ => 0) 27)).heap[w.heap.size + 1]? = some (.cells (arr 24 fun _ => 0) 27 (0, 0)) := heap_new (by simp)
  have hbel : Below w.heap.size w ((w.alloc (.cells (arr 24 f) 27)).alloc (.cells (arr 24 fun _ => 0) 27)) := ((Below.refl _ _).alloc (by simp) _).alloc (by simp) _
  have h5 : (((w.alloc (.cells (arr 24 f) 27)).alloc (.cells (arr 24 fun _ => 0) 27)).alloc (.cells #[.int .i64 i] 3)).heap[w.heap.size + 1 + 1]? = some (.cells #[.int .i64 i] 3 (0, 0)) := heap_new (by simp)
  by_cases hok : rackB f = true ∧ (0 ≤ i ∧ i ≤ 5) ∧ (1 ≤ c ∧ c ≤ 5) ∧ nlay (tub f i.toNat) < 4
  · obtain ⟨hf, hi, hc, hn4⟩ := hok
    have HF : Hid _ := hf
    have HI : Hid _ := show (decide (0 ≤ i) && decide (i ≤ 5)) = true by simpa using hi
    have HC : Hid _ := show (decide (1 ≤ c) && decide (c ≤ 5)) = true by simpa using hc
    obtain ⟨n, rfl⟩ : ∃ n : Nat, i = n := ⟨i.toNat, by omega⟩
    have hn : n ≤ 5 := by omega
    rw [Int.toNat_natCast] at hn4
    have e : putLayer f n c = (upd f (n * 4 + nlay (tub f n)) c, true) := by
      unfold putLayer; rw [if_pos ⟨hf, hi, hc, by simpa using hn4⟩]; rfl
    rw [e]
    have hi1 : (0 : Int) ≤ (n : Int) := by omega
    have hi3 : (n : Int) < 6 := by omega
    have hm : ((nlay fun j => f (n * 4 + j) : Nat) : Int) < 4 := by have := hn4; unfold tub at this; omega
    obtain ⟨m, H4⟩ : ∃ m, Hid ((nlay fun j => f (n * 4 + j)) = m) := ⟨_, rfl⟩
    have hm4 : m < 4 := by have := H4.out; omega
    have em : upd f (n * 4 + nlay (tub f n)) c = upd f (n * 4 + m) c := by have := H4.out; unfold tub; rw [this]
    rw [em]
    have hm5 : (m : Int) < 4 := by omega
    clear hi e hf hc hm em
    go_enter Tryz.func14, Tryz.ntmps14
    go_wp2_with first
      | (with_reducible refine wpList_allocA rfl 27 rfl 24 zero24r ?_; (try simp only [size_al]))
      | (with_reducible refine wpList_loadW rfl _ _ rfl _ rfl h1 agg24r size24r ?_)
      | (with_reducible refine wpList_build0 rfl 27 rfl 24 zbuild24 ?_)
      | (with_reducible refine wpList_storeW rfl _ _ _ rfl _ rfl rfl h2 size24r ?_)
      | (go_at_call 32; (with_reducible refine (isAt_bad f HF.out _ _).mono ?_); rintro e w1 ⟨rfl, hb1⟩; replace hb1 := below_of_alloc hb1; replace hbel := hbel.trans (hb1.mono hbel.size); replace h1 := row_keep hb1 h1; replace h2 := row_keep hb1 h2; clear hb1)
      | (go_at_call 32; (with_reducible refine (isAt_one f HF.out _ _ h5).mono ?_); rw [HI.out]; rintro e w1 ⟨rfl, hb1⟩; replace hb1 := below_of_alloc hb1; replace hbel := hbel.trans (hb1.mono hbel.size); replace h1 := row_keep hb1 h1; replace h2 := row_keep hb1 h2; clear hb1)
      | (go_at_call 44; (with_reducible refine (isColor_any _ _).mono ?_); rw [HC.out]; rintro e w1 ⟨rfl, hb1⟩; replace hbel := hbel.trans (hb1.mono hbel.size); replace h1 := row_keep hb1 h1; replace h2 := row_keep hb1 h2; clear hb1)
      | (with_reducible refine wpList_loadAG rfl _ _ rfl _ _ rfl h1 4 agg4 size4 (by omega) ?_)
      | (go_at_call 37; (with_reducible refine (layers_any _ _).mono ?_); rw [H4.out]; rintro e w1 ⟨rfl, hb1⟩; replace hbel := hbel.trans (hb1.mono hbel.size); replace h1 := row_keep hb1 h1; replace h2 := row_keep hb1 h2; clear hb1)
    refine wp_region_held 10 (Cls w _) (by kernel_rfl) (by kernel_rfl) (Cls.two h1 h2 hbel) ?_; simp only [List.take_succ_cons, List.take_zero, List.drop_succ_cons, List.drop_zero]
    repeat (first
      | (with_reducible refine wpQuiet_loadA rfl _ _ rfl _ _ rfl (fun _ h => h.r1) 4 agg4 size4 (by omega) ?_)
      | ((with_reducible refine wpQuiet_call rfl 37 _ _ rfl (.int .i64 m) ?_ ?_ ?_); (exact enters_of Tryz.func37 (by kernel_rfl) rfl); (intro w' h'; exact (H4.out ▸ layers_any (fun j => f (n * 4 + j)) w').mono fun _ _ ⟨he, hb⟩ => ⟨he, h'.keep hb⟩))
      | ((with_reducible refine wpQuiet_step (fun K hK => ?_)); go_simp; (first | (refine ⟨_, fun _ _ => rfl, hK _ ?_⟩) | (refine ⟨_, fun _ _ => ⟨rfl, rfl⟩, hK _ ?_⟩) | (refine hK _ ?_)); clear hK K))
    refine wpQuiet_nil ?_
    intro wt hCt
    have h1 := hCt.r1
    have h2 := hCt.r2
    have hbel := hCt.2
    have h3 := setRow_heap wt _ _ (arr 24 (upd f (n * 4 + m) c)) _ _ h1
    have h4 := (setRow_other wt w.heap.size (w.heap.size + 1) (arr 24 (upd f (n * 4 + m) c)) (by omega)).trans h2
    go_wp2_with first
      | (with_reducible refine wpList_storeI rfl 3 _ _ rfl _ _ rfl rfl h1 size1 (by omega) ?_)
      | (with_reducible refine wpList_loadW rfl _ _ rfl _ rfl h3 agg24r size24r ?_)
      | (with_reducible refine wpList_storeW rfl _ _ _ rfl _ rfl rfl h4 size24r ?_)
    exact bodyPost_ret_by (results_ct _ _ _ _ _ _ _ rfl rfl (setRow_heap _ _ _ _ _ _ h4) agg24r size24r) rfl ⟨rfl, below_setRow2 (below_setRow2 hbel (by omega) _) (by omega) _⟩
  · rw [putLayer_bad hok]
    cases hf : rackB f with
    | false =>
      have HF : Hid _ := hf
      clear hf
      go_enter Tryz.func14, Tryz.ntmps14
      go_wp2_with first
        | (with_reducible refine wpList_allocA rfl 27 rfl 24 zero24r ?_; (try simp only [size_al]))
        | (with_reducible refine wpList_loadW rfl _ _ rfl _ rfl h1 agg24r size24r ?_)
        | (with_reducible refine wpList_build0 rfl 27 rfl 24 zbuild24 ?_)
        | (with_reducible refine wpList_storeW rfl _ _ _ rfl _ rfl rfl h2 size24r ?_)
        | (go_at_call 32; (with_reducible refine (isAt_bad f HF.out _ _).mono ?_); rintro e w1 ⟨rfl, hb1⟩; replace hb1 := below_of_alloc hb1; replace hbel := hbel.trans (hb1.mono hbel.size); replace h1 := row_keep hb1 h1; replace h2 := row_keep hb1 h2; clear hb1)
        | (go_at_call 32; (with_reducible refine (isAt_one f HF.out _ _ h5).mono ?_); rw [HI.out]; rintro e w1 ⟨rfl, hb1⟩; replace hb1 := below_of_alloc hb1; replace hbel := hbel.trans (hb1.mono hbel.size); replace h1 := row_keep hb1 h1; replace h2 := row_keep hb1 h2; clear hb1)
        | (go_at_call 44; (with_reducible refine (isColor_any _ _).mono ?_); rw [HC.out]; rintro e w1 ⟨rfl, hb1⟩; replace hbel := hbel.trans (hb1.mono hbel.size); replace h1 := row_keep hb1 h1; replace h2 := row_keep hb1 h2; clear hb1)
        | (with_reducible refine wpList_loadAG rfl _ _ rfl _ _ rfl h1 4 agg4 size4 (by omega) ?_)
        | (go_at_call 37; (with_reducible refine (layers_any _ _).mono ?_); rw [H4.out]; rintro e w1 ⟨rfl, hb1⟩; replace hbel := hbel.trans (hb1.mono hbel.size); replace h1 := row_keep hb1 h1; replace h2 := row_keep hb1 h2; clear hb1)
      exact bodyPost_ret_by (results_ct _ _ _ _ _ _ _ rfl rfl (setRow_heap _ _ _ _ _ _ h2) agg24r size24r) rfl ⟨rfl, below_setRow2 hbel (by omega) _⟩
    | true =>
      have HF : Hid _ := hf
      by_cases hi : 0 ≤ i ∧ i ≤ 5
      · have HI : Hid _ := show (decide (0 ≤ i) && decide (i ≤ 5)) = true by simpa using hi
        obtain ⟨n, rfl⟩ : ∃ n : Nat, i = n := ⟨i.toNat, by omega⟩
        have hn : n ≤ 5 := by omega
        have hi1 : (0 : Int) ≤ (n : Int) := by omega
        have hi3 : (n : Int) < 6 := by omega
        by_cases hc : 1 ≤ c ∧ c ≤ 5
        · have HC : Hid _ := show (decide (1 ≤ c) && decide (c ≤ 5)) = true by simpa using hc
          have h4 : nlay (fun j => f (n * 4 + j)) = 4 := by
            have h5 := nlay_le (fun j => f (n * 4 + j))
            have h6 : ¬ nlay (tub f n) < 4 := fun h7 => hok ⟨hf, hi, hc, by simpa using h7⟩
            unfold tub at h6
            omega
          have H4 : Hid _ := h4
          clear hf hi hok hc h4
          go_enter Tryz.func14, Tryz.ntmps14
          go_wp2_with first
            | (with_reducible refine wpList_allocA rfl 27 rfl 24 zero24r ?_; (try simp only [size_al]))
            | (with_reducible refine wpList_loadW rfl _ _ rfl _ rfl h1 agg24r size24r ?_)
            | (with_reducible refine wpList_build0 rfl 27 rfl 24 zbuild24 ?_)
            | (with_reducible refine wpList_storeW rfl _ _ _ rfl _ rfl rfl h2 size24r ?_)
            | (go_at_call 32; (with_reducible refine (isAt_bad f HF.out _ _).mono ?_); rintro e w1 ⟨rfl, hb1⟩; replace hb1 := below_of_alloc hb1; replace hbel := hbel.trans (hb1.mono hbel.size); replace h1 := row_keep hb1 h1; replace h2 := row_keep hb1 h2; clear hb1)
            | (go_at_call 32; (with_reducible refine (isAt_one f HF.out _ _ h5).mono ?_); rw [HI.out]; rintro e w1 ⟨rfl, hb1⟩; replace hb1 := below_of_alloc hb1; replace hbel := hbel.trans (hb1.mono hbel.size); replace h1 := row_keep hb1 h1; replace h2 := row_keep hb1 h2; clear hb1)
            | (go_at_call 44; (with_reducible refine (isColor_any _ _).mono ?_); rw [HC.out]; rintro e w1 ⟨rfl, hb1⟩; replace hbel := hbel.trans (hb1.mono hbel.size); replace h1 := row_keep hb1 h1; replace h2 := row_keep hb1 h2; clear hb1)
            | (with_reducible refine wpList_loadAG rfl _ _ rfl _ _ rfl h1 4 agg4 size4 (by omega) ?_)
            | (go_at_call 37; (with_reducible refine (layers_any _ _).mono ?_); rw [H4.out]; rintro e w1 ⟨rfl, hb1⟩; replace hbel := hbel.trans (hb1.mono hbel.size); replace h1 := row_keep hb1 h1; replace h2 := row_keep hb1 h2; clear hb1)
          exact bodyPost_ret_by (results_ct _ _ _ _ _ _ _ rfl rfl (setRow_heap _ _ _ _ _ _ h2) agg24r size24r) rfl ⟨rfl, below_setRow2 hbel (by omega) _⟩
        · have HC : Hid _ := show (decide (1 ≤ c) && decide (c ≤ 5)) = false by simpa using hc
          clear hf hi hok hc
          go_enter Tryz.func14, Tryz.ntmps14
          go_wp2_with first
            | (with_reducible refine wpList_allocA rfl 27 rfl 24 zero24r ?_; (try simp only [size_al]))
            | (with_reducible refine wpList_loadW rfl _ _ rfl _ rfl h1 agg24r size24r ?_)
            | (with_reducible refine wpList_build0 rfl 27 rfl 24 zbuild24 ?_)
            | (with_reducible refine wpList_storeW rfl _ _ _ rfl _ rfl rfl h2 size24r ?_)
            | (go_at_call 32; (with_reducible refine (isAt_bad f HF.out _ _).mono ?_); rintro e w1 ⟨rfl, hb1⟩; replace hb1 := below_of_alloc hb1; replace hbel := hbel.trans (hb1.mono hbel.size); replace h1 := row_keep hb1 h1; replace h2 := row_keep hb1 h2; clear hb1)
            | (go_at_call 32; (with_reducible refine (isAt_one f HF.out _ _ h5).mono ?_); rw [HI.out]; rintro e w1 ⟨rfl, hb1⟩; replace hb1 := below_of_alloc hb1; replace hbel := hbel.trans (hb1.mono hbel.size); replace h1 := row_keep hb1 h1; replace h2 := row_keep hb1 h2; clear hb1)
            | (go_at_call 44; (with_reducible refine (isColor_any _ _).mono ?_); rw [HC.out]; rintro e w1 ⟨rfl, hb1⟩; replace hbel := hbel.trans (hb1.mono hbel.size); replace h1 := row_keep hb1 h1; replace h2 := row_keep hb1 h2; clear hb1)
            | (with_reducible refine wpList_loadAG rfl _ _ rfl _ _ rfl h1 4 agg4 size4 (by omega) ?_)
            | (go_at_call 37; (with_reducible refine (layers_any _ _).mono ?_); rw [H4.out]; rintro e w1 ⟨rfl, hb1⟩; replace hbel := hbel.trans (hb1.mono hbel.size); replace h1 := row_keep hb1 h1; replace h2 := row_keep hb1 h2; clear hb1)
          exact bodyPost_ret_by (results_ct _ _ _ _ _ _ _ rfl rfl (setRow_heap _ _ _ _ _ _ h2) agg24r size24r) rfl ⟨rfl, below_setRow2 hbel (by omega) _⟩
      · have HI : Hid _ := show (decide (0 ≤ i) && decide (i ≤ 5)) = false by simpa using hi
        clear hf hi hok
        go_enter Tryz.func14, Tryz.ntmps14
        go_wp2_with first
          | (with_reducible refine wpList_allocA rfl 27 rfl 24 zero24r ?_; (try simp only [size_al]))
          | (with_reducible refine wpList_loadW rfl _ _ rfl _ rfl h1 agg24r size24r ?_)
          | (with_reducible refine wpList_build0 rfl 27 rfl 24 zbuild24 ?_)
          | (with_reducible refine wpList_storeW rfl _ _ _ rfl _ rfl rfl h2 size24r ?_)
          | (go_at_call 32; (with_reducible refine (isAt_bad f HF.out _ _).mono ?_); rintro e w1 ⟨rfl, hb1⟩; replace hb1 := below_of_alloc hb1; replace hbel := hbel.trans (hb1.mono hbel.size); replace h1 := row_keep hb1 h1; replace h2 := row_keep hb1 h2; clear hb1)
          | (go_at_call 32; (with_reducible refine (isAt_one f HF.out _ _ h5).mono ?_); rw [HI.out]; rintro e w1 ⟨rfl, hb1⟩; replace hb1 := below_of_alloc hb1; replace hbel := hbel.trans (hb1.mono hbel.size); replace h1 := row_keep hb1 h1; replace h2 := row_keep hb1 h2; clear hb1)
          | (go_at_call 44; (with_reducible refine (isColor_any _ _).mono ?_); rw [HC.out]; rintro e w1 ⟨rfl, hb1⟩; replace hbel := hbel.trans (hb1.mono hbel.size); replace h1 := row_keep hb1 h1; replace h2 := row_keep hb1 h2; clear hb1)
          | (with_reducible refine wpList_loadAG rfl _ _ rfl _ _ rfl h1 4 agg4 size4 (by omega) ?_)
          | (go_at_call 37; (with_reducible refine (layers_any _ _).mono ?_); rw [H4.out]; rintro e w1 ⟨rfl, hb1⟩; replace hbel := hbel.trans (hb1.mono hbel.size); replace h1 := row_keep hb1 h1; replace h2 := row_keep hb1 h2; clear hb1)
        exact bodyPost_ret_by (results_ct _ _ _ _ _ _ _ rfl rfl (setRow_heap _ _ _ _ _ _ h2) agg24r size24r) rfl ⟨rfl, below_setRow2 hbel (by omega) _⟩

end Go.Proofs.YtlbgmkengkgnfaaGreatDoor
end

section
/- Reading an element of an array value; counting. -/
namespace Go.Proofs.YtlbgmkengkgnfaaGreatDoor
set_option linter.unusedSimpArgs false
set_option linter.unusedVariables false
set_option maxRecDepth 20000
open Go.RowKit
variable {P : Program}
theorem extract_arr (N a m : Nat) (g : Nat → Int) (h : a + m ≤ N) : (arr N g).extract a (a + m) = arr m fun j => g (a + j) := by
  refine Array.ext_getElem? fun i => ?_
  rw [arr_get]
  by_cases hi : i < m
  · rw [if_pos hi, Array.getElem?_extract_of_lt (by rw [arr_size]; omega)]
    have := arr_get N g (a + i)
    rw [if_pos (by omega)] at this
    rw [← this, Array.getElem?_eq_getElem (by rw [arr_size]; omega)]
  · rw [if_neg hi, Array.getElem?_eq_none (by simp [arr_size]; omega)]
/-- An element of an array, itself an array. -/
theorem wpList_indexA {ops : Array Oper} {rest : List Oper} {o : Oper} {a : Act} {w : World} {Q : Exit → Act → World → Prop} (hw : Region.wanted o (yielded ops a.tmps) = true) (ty : TypeId) (x y : Operand) (ho : o.op = .index ty x y)
    {N : Nat} {g : Nat → Int} (hx : a.eval x = .agg (arr N g)) {k : Nat} (hy : a.eval y = .int .i64 k) (n : Nat) (e : TypeId) (hu : P.underlying ty = some (.array n e)) (m : Nat) (hd : aggB P e = true)
    (hi : (P.info? e).map (·.size) = some m) (hk : k < n) (hN : n * m = N) (h : wpList P ops Q rest (a.put o.dst (.agg (arr m fun j => g (k * m + j)))) w) : wpList P ops Q (o :: rest) a w :=
  wpList_step fun K hK => by
    rw [if_pos hw]
    have hle : k * m + m ≤ N := by
      have : (k + 1) * m ≤ n * m := Nat.mul_le_mul_right m hk
      rw [Nat.add_mul] at this
      omega
    have hr : (Instr.index ty (.agg (arr N g)) (.int .i64 k)).run P w = .ok (.agg (arr m fun j => g (k * m + j))) w := by
      cases hq : P.info? e with
      | none => simp [hq] at hi
      | some i =>
        have hs : i.size = m := by simpa [hq] using hi
        have hk2 : (k : Int) < (n : Int) := by omega
        simp [Instr.index, asIntOf, Sem.run_bind, run_underlying hu, part, run_isAgg hd, sizeOf, typeInfo, hq, hs, hk, extract_arr N (k * m) m g hle]
    unfold Oper.wp execOp
    simp only [ho, hx, hy, Sem.run_bind, hr, Result.andThen_ok, Sem.run_pure]
    exact hK _ _ h
theorem wpList_indexI {ops : Array Oper} {rest : List Oper} {o : Oper} {a : Act} {w : World} {Q : Exit → Act → World → Prop} (hw : Region.wanted o (yielded ops a.tmps) = true) (ty : TypeId) (x y : Operand) (ho : o.op = .index ty x y)
    {N : Nat} {g : Nat → Int} (hx : a.eval x = .agg (arr N g)) {k : Nat} (hy : a.eval y = .int .i64 k) (e : TypeId) (hu : P.underlying ty = some (.array N e)) (hd : aggB P e = false) (hue : (P.underlying e).isSome = true)
    (hi : (P.info? e).map (·.size) = some 1) (hk : k < N) (h : wpList P ops Q rest (a.put o.dst (.int .i64 (g k))) w) : wpList P ops Q (o :: rest) a w :=
  wpList_step fun K hK => by
    rw [if_pos hw]
    have hagg : (isAgg e).run P w = .ok false w := by
      unfold aggB at hd
      unfold isAgg
      cases hq : P.underlying e with
      | none => simp [hq] at hue
      | some d =>
        rw [Sem.run_bind, run_underlying hq w]
        cases d <;> simp_all
    have hg := arr_get N g k
    rw [if_pos hk] at hg
    have hr : (Instr.index ty (.agg (arr N g)) (.int .i64 k)).run P w = .ok (.int .i64 (g k)) w := by
      cases hq : P.info? e with
      | none => simp [hq] at hi
      | some i =>
        have hs : i.size = 1 := by simpa [hq] using hi
        simp [Instr.index, asIntOf, Sem.run_bind, run_underlying hu, part, hagg, sizeOf, typeInfo, hq, hs, hk, hg]
    unfold Oper.wp execOp
    simp only [ho, hx, hy, Sem.run_bind, hr, Result.andThen_ok, Sem.run_pure]
    exact hK _ _ h

/-- How often each number has come among the first k. -/
def tally (q : Nat → Int) : Nat → (Nat → Int)
  | 0 => fun _ => 0
  | k + 1 => upd (tally q k) (q k).toNat (tally q k (q k).toNat + 1)
theorem tally_succ (q : Nat → Int) (k : Nat) : tally q (k + 1) = upd (tally q k) (q k).toNat (tally q k (q k).toNat + 1) := rfl
theorem tally_bd (q : Nat → Int) (k : Nat) : ∀ j, 0 ≤ tally q k j ∧ tally q k j ≤ k := by
  induction k with
  | zero => intro j; simp [tally]
  | succ k ih =>
    intro j
    unfold tally upd
    have h1 := ih (q k).toNat
    have h2 := ih j
    split <;> (push_cast; omega)
end Go.Proofs.YtlbgmkengkgnfaaGreatDoor
end

section
/- Comparing arrays of ints, arrays of these, and structs of one such field, by ==. -/
namespace Go.Proofs.YtlbgmkengkgnfaaGreatDoor
set_option linter.unusedSimpArgs false
set_option linter.unusedVariables false
set_option maxRecDepth 20000
open Go.RowKit
variable {P : Program}
def eqv (n : Nat) (f g : Nat → Int) : Bool := (List.range n).all fun j => f j == g j
theorem eqv_iff {n : Nat} {f g : Nat → Int} : eqv n f g = true ↔ ∀ j, j < n → f j = g j := by
  unfold eqv
  rw [List.all_eq_true]
  exact ⟨fun h j hj => by simpa using h j (List.mem_range.2 hj), fun h j hj => by simpa using h j (List.mem_range.1 hj)⟩
theorem eqv_arr {n : Nat} {f g : Nat → Int} : eqv n f g = true ↔ arr n f = arr n g := by
  rw [eqv_iff]
  refine ⟨fun h => arr_congr h, fun h j hj => ?_⟩
  have h1 := arr_get n f j
  rw [h, arr_get, if_pos hj, if_pos hj] at h1
  simpa using h1.symm
/-- Type t is compared value by value: n of them, from depth k on. -/
structure EqA (P : Program) (t : TypeId) (n k : Nat) : Prop where
  agg : aggB P t = true
  size : (P.info? t).map (·.size) = some n
  run : ∀ (d : Nat) (f g : Nat → Int) (w : World), (Op.equalIn (d + k) t (.agg (arr n f)) (.agg (arr n g))).run P w = .ok (eqv n f g) w
theorem run_partA {e : TypeId} {m N off : Nat} {F : Nat → Int} (ha : aggB P e = true) (hs : (P.info? e).map (·.size) = some m) (hle : off + m ≤ N) (w : World) :
    (part e (arr N F) off).run P w = .ok (.agg (arr m fun j => F (off + j))) w := by
  cases hq : P.info? e with
  | none => simp [hq] at hs
  | some i =>
    have hs' : i.size = m := by simpa [hq] using hs
    simp [part, Sem.run_bind, run_isAgg ha, sizeOf, typeInfo, hq, hs', extract_arr N off m F hle]
theorem run_partI {e : TypeId} {N off : Nat} {F : Nat → Int} (hd : aggB P e = false) (hu : (P.underlying e).isSome = true) (hle : off < N) (w : World) :
    (part e (arr N F) off).run P w = .ok (.int .i64 (F off)) w := by
  have hagg : (isAgg e).run P w = .ok false w := by
    unfold aggB at hd
    unfold isAgg
    cases hq : P.underlying e with
    | none => simp [hq] at hu
    | some d =>
      rw [Sem.run_bind, run_underlying hq w]
      cases d <;> simp_all
  have hg := arr_get N F off
  rw [if_pos hle] at hg
  simp [part, Sem.run_bind, hagg, hg]
theorem run_items (d : Nat) (e : TypeId) (c : Nat) (xs ys : Array Value) (q : Nat → Bool) (w : World) : ∀ (is : List Nat),
    (∀ i, i ∈ is → ∃ a b, (part e xs (i * c)).run P w = .ok a w ∧ (part e ys (i * c)).run P w = .ok b w ∧ (Op.equalIn d e a b).run P w = .ok (q i) w) →
    (Op.eqItems d e c xs ys is).run P w = .ok (is.all q) w
  | [], _ => by simp [Op.eqItems]
  | i :: is, h => by
    obtain ⟨a, b, h1, h2, h3⟩ := h i (.head _)
    have ih := run_items d e c xs ys q w is fun j hj => h j (.tail _ hj)
    simp only [Op.eqItems, Sem.run_bind, h1, h2, h3, Result.andThen_ok, List.all_cons]
    cases q i <;> simp [ih]
theorem EqA.ints {t e : TypeId} {n : Nat} (ha : aggB P t = true) (hs : (P.info? t).map (·.size) = some n) (ht : P.underlying t = some (.array n e)) (he : P.underlying e = some (.int .i64)) (hi : (P.info? e).map (·.size) = some 1) (hc : P.cellsOf e = 1) : EqA P t n 2 := by
  refine ⟨ha, hs, fun d f g w => ?_⟩
  cases hq : P.info? e with
  | none => simp [hq] at hi
  | some i =>
    rw [show d + 2 = (d + 1) + 1 from rfl, run_equalIn_array w (d + 1) _ _ ht hq, hc]
    rw [run_items (d + 1) e 1 _ _ (fun j => f j == g j) w]
    · rfl
    · intro j hj
      have hj' := List.mem_range.1 hj
      rw [Nat.mul_one]
      have hd : aggB P e = false := by simp [aggB, he]
      exact ⟨_, _, run_partI hd (by simp [he]) hj' w, run_partI hd (by simp [he]) hj' w, run_equalIn_int w d e .i64 .i64 _ _ he⟩
theorem all_mul (len m : Nat) (f g : Nat → Int) : ((List.range len).all fun i => eqv m (fun j => f (i * m + j)) fun j => g (i * m + j)) = eqv (len * m) f g := by
  rw [Bool.eq_iff_iff, eqv_iff, List.all_eq_true]
  constructor
  · intro h j hj
    have hm : 0 < m := by rcases Nat.eq_zero_or_pos m with e | e
                          · subst e; omega
                          · exact e
    have h1 := eqv_iff.1 (h (j / m) (List.mem_range.2 (by rw [Nat.div_lt_iff_lt_mul hm]; exact hj))) (j % m) (Nat.mod_lt _ hm)
    have e : j / m * m + j % m = j := by rw [Nat.mul_comm]; exact Nat.div_add_mod j m
    rwa [e] at h1
  · intro h i hi
    have hi' := List.mem_range.1 hi
    refine eqv_iff.2 fun j hj => h _ ?_
    have : (i + 1) * m ≤ len * m := Nat.mul_le_mul_right m hi'
    rw [Nat.add_mul] at this
    omega
theorem EqA.arrays {t e : TypeId} {len m k : Nat} (h : EqA P e m k) (ha : aggB P t = true) (hs : (P.info? t).map (·.size) = some (len * m)) (ht : P.underlying t = some (.array len e)) (hc : P.cellsOf e = m) : EqA P t (len * m) (k + 1) := by
  refine ⟨ha, hs, fun d f g w => ?_⟩
  have hsz := h.size
  cases hq : P.info? e with
  | none => simp [hq] at hsz
  | some i =>
    rw [show d + (k + 1) = (d + k) + 1 from rfl, run_equalIn_array w (d + k) _ _ ht hq, hc]
    rw [run_items (d + k) e m _ _ (fun i => eqv m (fun j => f (i * m + j)) fun j => g (i * m + j)) w, all_mul]
    intro j hj
    have hj' := List.mem_range.1 hj
    have hle : j * m + m ≤ len * m := by
      have : (j + 1) * m ≤ len * m := Nat.mul_le_mul_right m hj'
      rw [Nat.add_mul] at this
      omega
    exact ⟨_, _, run_partA h.agg h.size hle w, run_partA h.agg h.size hle w, h.run d _ _ w⟩
theorem EqA.struct1 {t : TypeId} {f0 : Field} {n k : Nat} (h : EqA P f0.type n k) (ha : aggB P t = true) (hs : (P.info? t).map (·.size) = some n) (ht : P.underlying t = some (.struct #[f0])) (h0 : f0.offset = 0) (hn : f0.name ≠ "_") (hp : P.stoodInHeld t = false) : EqA P t n (k + 1) := by
  refine ⟨ha, hs, fun d f g w => ?_⟩
  have hf : P.fieldsOf t = #[f0] := by unfold Program.fieldsOf; rw [ht]
  rw [show d + (k + 1) = (d + k) + 1 from rfl, run_equalIn_struct w (d + k) t _ _ (by rw [hf]; exact ht) hp, hf]
  have p1 := run_partA (F := f) h.agg h.size (show 0 + n ≤ n by omega) w
  have p2 := run_partA (F := g) h.agg h.size (show 0 + n ≤ n by omega) w
  simp only [Nat.zero_add] at p1 p2
  have hr := h.run d f g w
  simp only [Op.eqFields, hn, ne_eq, not_false_eq_true, if_true, h0, Sem.run_bind, p1, p2, hr, Result.andThen_ok]
  cases eqv n f g <;> simp
theorem run_eqlA {t : TypeId} {n k : Nat} (h : EqA P t n k) (hk : k ≤ 10000) (f g : Nat → Int) (w : World) : (binOp .eql t (.agg (arr n f)) (.agg (arr n g))).run P w = .ok (.bool (eqv n f g)) w := by
  rw [run_eql_struct, show 10000 = (10000 - k) + k by omega, h.run]
  rfl
theorem run_neqA {t : TypeId} {n k : Nat} (h : EqA P t n k) (hk : k ≤ 10000) (f g : Nat → Int) (w : World) : (binOp .neq t (.agg (arr n f)) (.agg (arr n g))).run P w = .ok (.bool (!eqv n f g)) w := by
  rw [run_neq_struct, show 10000 = (10000 - k) + k by omega, h.run]
  rfl
theorem wpList_eqlA {ops : Array Oper} {rest : List Oper} {o : Oper} {a : Act} {w : World} {Q : Exit → Act → World → Prop} {t : TypeId} {n k : Nat} (h : EqA P t n k) (hk : k ≤ 10000) (hm : P.eqGuardType P.depth t = false) (hw : Region.wanted o (yielded ops a.tmps) = true) (x y : Operand) (t2 : TypeId) (ho : o.op = .binOp .eql t x y t2)
    {f g : Nat → Int} (hx : a.eval x = .agg (arr n f)) (hy : a.eval y = .agg (arr n g)) (hc : wpList P ops Q rest (a.put o.dst (.bool (eqv n f g))) w) : wpList P ops Q (o :: rest) a w :=
  wpList_step fun K hK => by
    rw [if_pos hw]
    have hr := run_eqlA h hk f g w
    have hg := run_eqGuard_agg (P := P) w .eql t x y (arr n f) (arr n g) hm
    unfold Oper.wp execOp
    simp only [ho, hx, hy, Sem.run_bind, hg, hr, Result.andThen_ok, Sem.run_pure]
    exact hK _ _ hc
theorem eqT : EqA Tryz.prog 24 4 2 := EqA.ints agg4 size4 Tryz.underlying24 Tryz.underlying3 size1 (by kernel_rfl)
theorem eqTs : EqA Tryz.prog 25 24 3 := EqA.arrays (len := 6) eqT agg24 size24 Tryz.underlying25 (by kernel_rfl)
theorem eqRk : EqA Tryz.prog 27 24 4 := EqA.struct1 eqTs agg24r size24r Tryz.underlying27 rfl (by decide) (by kernel_rfl)
theorem gdT : Tryz.prog.eqGuardType Tryz.prog.depth 24 = false := by kernel_rfl
theorem gdRk : Tryz.prog.eqGuardType Tryz.prog.depth 27 = false := by kernel_rfl
end Go.Proofs.YtlbgmkengkgnfaaGreatDoor
end

section
/- Slices of ints, and of rows of ints, that a call has made: append. -/
namespace Go.Proofs.YtlbgmkengkgnfaaGreatDoor
set_option linter.unusedSimpArgs false
set_option linter.unusedVariables false
set_option maxRecDepth 20000
open Go.RowKit
variable {P : Program}
/-- v is a slice of n elements of s ints each (the first n * s values of f): nil, or in a block from base on. -/
def Sl (w : World) (base : Nat) (e : TypeId) (s : Nat) (v : Value) (n : Nat) (f : Nat → Int) : Prop :=
  (v = .slice none 0 0 ∧ n = 0) ∨ ∃ g cap F, v = .slice (some ⟨g, 0, none⟩) n cap ∧ base ≤ g ∧ w.heap[g]? = some (.cells (arr (cap * s) F) e (0, 0)) ∧ n ≤ cap ∧ cap ≤ maxLen ∧ ∀ j, j < n * s → F j = f j
/-- g behind the first k values of f. -/
def app (f : Nat → Int) (k : Nat) (g : Nat → Int) : Nat → Int := fun j => if j < k then f j else g (j - k)
theorem arr_append (n m : Nat) (f g : Nat → Int) : arr n f ++ arr m g = arr (n + m) (app f n g) := by
  refine Array.ext_getElem? fun i => ?_
  rw [Array.getElem?_append, arr_size, arr_get, arr_get, arr_get]
  unfold app
  by_cases h : i < n
  · rw [if_pos h, if_pos h, if_pos (by omega), if_pos h]
  · rw [if_neg h, if_neg h]
    by_cases h2 : i < n + m
    · rw [if_pos h2, if_pos (by omega)]
    · rw [if_neg h2, if_neg (by omega)]
theorem zeroCells_arr (s k : Nat) (hs : 0 < s) : Builtin.zeroCells (arr s fun _ => 0) k = arr (k * s) fun _ => 0 := by
  refine Array.ext_getElem? fun i => ?_
  unfold Builtin.zeroCells
  rw [arr_get, arr_size]
  by_cases h : i < k * s
  · have h1 : (arr s fun _ => 0)[i % s]! = Value.int .i64 0 := by
      have hm := Nat.mod_lt i hs
      rw [getElem!_def, arr_get, if_pos hm]
    rw [if_pos h]
    simp [h, h1]
  · rw [if_neg h]
    simp; omega
theorem arr_list_get (n : Nat) (f : Nat → Int) (j : Nat) : (arr n f).toList[j]? = if j < n then some (.int .i64 (f j)) else none := by
  rw [Array.getElem?_toList, arr_get]
theorem news_arr {w : World} {B off N m : Nat} {g : Nat → Int} {T : TypeId} {fr : Nat × Nat} (hB : w.heap[B]? = some (.cells (arr N g) T fr)) (hle : off + m ≤ N) :
    ∀ j u, (arr m fun j => g (off + j)).toList[j]? = some u → w.cell? ((⟨B, off, none⟩ : Addr).add j) = some u := fun j u hu => by
  rw [arr_list_get] at hu
  split at hu
  · rename_i h
    simp only [Option.some.injEq] at hu
    subst hu
    rw [add_off]
    exact rowcell hB (by omega)
  · cases hu
theorem arr_take (n k : Nat) (f : Nat → Int) (h : k ≤ n) : (arr n f).toList.take k = (arr k f).toList := by
  refine List.ext_getElem? fun j => ?_
  rw [List.getElem?_take, arr_list_get, arr_list_get]
  by_cases h1 : j < k
  · rw [if_pos h1, if_pos (by omega), if_pos h1]
  · rw [if_neg h1, if_neg h1]
theorem arr_splice (n k m : Nat) (F g : Nat → Int) (h : k + m ≤ n) : ((arr n F).toList.take k ++ (arr m g).toList ++ (arr n F).toList.drop (k + m)).toArray = arr n (updN F k m g) := by
  refine Array.ext_getElem? fun j => ?_
  rw [arr_take n k F (by omega), List.getElem?_toArray, arr_get]
  unfold updN
  by_cases h1 : j < k
  · rw [List.getElem?_append_left (by simp [arr_size]; omega), List.getElem?_append_left (by simp [arr_size]; omega), arr_list_get, if_pos h1, if_pos (by omega), if_neg (by omega)]
  · by_cases h2 : j < k + m
    · rw [List.getElem?_append_left (by simp [arr_size]; omega), List.getElem?_append_right (by simp [arr_size]; omega), arr_list_get]
      simp only [Array.length_toList, arr_size]
      rw [if_pos (by omega), if_pos (by omega), if_pos (by omega)]
    · rw [List.getElem?_append_right (by simp [arr_size]; omega), List.getElem?_drop, arr_list_get]
      simp only [List.length_append, Array.length_toList, arr_size]
      rw [show k + m + (j - (k + m)) = j by omega]
      by_cases h3 : j < n
      · rw [if_pos h3, if_pos h3, if_neg (by omega)]
      · rw [if_neg h3, if_neg h3]
/-- Slices of type t have elements of type e, of s ints and b bytes. -/
structure SlOK (P : Program) (t e : TypeId) (s b : Nat) : Prop where
  ht : P.underlying t = some (.slice e)
  hi : ((P.info? e).map fun i => (i.size, i.bytes)) = some (s, b)
  hz : ((P.info? e).bind (·.zero)).map (·.cells) = some (arr s fun _ => 0)
theorem run_append_Sl {t ty e : TypeId} {s b : Nat} (hT : SlOK P t e s b) (hs0 : 0 < s) {w : World} {base : Nat} {v : Value} {n : Nat} {f : Nat → Int} (hS : Sl w base e s v n f)
    {B off N m c : Nat} {g : Nat → Int} {T : TypeId} {fr : Nat × Nat} (hB : w.heap[B]? = some (.cells (arr N g) T fr)) (hle : off + m * s ≤ N) (hm : 0 < m) (h63 : n + m ≤ maxLen) (hby : (n + m) * b ≤ 140737488355328) (hbase : base ≤ w.heap.size) :
    ∃ v' w', (Builtin.append_ #[t, t] ty #[v, .slice (some ⟨B, off, none⟩) m c]).run P w = .ok v' w' ∧ Sl w' base e s v' (n + m) (app f (n * s) fun j => g (off + j)) ∧ Below base w w' ∧ (∀ k, k < w.heap.size → some k ≠ v.ownBlock → w'.heap[k]? = w.heap[k]?) := by
  obtain ⟨ht, hi0, hz0⟩ := hT
  cases hi : P.info? e with
  | none => simp [hi] at hi0
  | some i =>
  cases hz : i.zero with
  | none => simp [hi, hz] at hz0
  | some z =>
  simp only [hi, hz, Option.map_some, Option.bind_some, Option.some.injEq, Prod.mk.injEq] at hi0 hz0
  obtain ⟨rfl, rfl⟩ := hi0
  have hnews := news_arr hB hle
  have hl : (arr (m * i.size) fun j => g (off + j)).toList.length = m * i.size := by simp [arr_size]
  have hsm : n + m ≤ 9223372036854775807 := by simp only [maxLen] at h63; omega
  have grown : ∀ (old : Nat) (F : Nat → Int), (∀ j, j < n * i.size → F j = f j) → ∃ cap F', (((arr (n * i.size) F).toList.toArray ++ (arr (m * i.size) fun j => g (off + j)).toList.toArray ++ Builtin.zeroCells z.cells (grownCap w (n + m) old e - (n + m))) = arr (cap * i.size) F') ∧ cap = grownCap w (n + m) old e ∧ n + m ≤ cap ∧ cap ≤ maxLen ∧ ∀ j, j < (n + m) * i.size → F' j = app f (n * i.size) (fun j => g (off + j)) j := by
    intro old F hF
    have hge := grownCap_ge w (n + m) old e
    have hcm := grownCap_le_maxLen w (n + m) old e h63
    refine ⟨_, app (app F (n * i.size) fun j => g (off + j)) (n * i.size + m * i.size) (fun _ => 0), ?_, rfl, hge, hcm, fun j hj => ?_⟩
    · rw [hz0, zeroCells_arr _ _ hs0, Array.toArray_toList, Array.toArray_toList, arr_append, arr_append]
      congr 1
      rw [← Nat.add_mul, ← Nat.add_mul]
      congr 1
      omega
    · rw [Nat.add_mul] at hj
      unfold app
      rw [if_pos hj]
      split
      · rw [hF j (by assumption)]
      · rfl
  rcases hS with ⟨rfl, rfl⟩ | ⟨q, cap, F, rfl, hbg, hg, hnc, hcm, hF⟩
  · obtain ⟨cap, F', hc, hcap, h1, h2, h3⟩ := grown 0 f (fun _ _ => rfl)
    have hr := run_append_nil (P := P) w t ty e i z ht hi hz ⟨B, off, none⟩ m c _ hl hnews hm (by omega) (by have hb := hby; simp only [Nat.zero_add] at hb; omega)
    have e0 : (arr (0 * i.size) f).toList.toArray = #[] := by
      refine Array.ext_getElem? fun k => ?_
      rw [Array.toArray_toList, arr_get, if_neg (by omega)]; rfl
    rw [e0, Array.empty_append] at hc
    simp only [Nat.zero_add] at *
    rw [hc, ← hcap] at hr
    exact ⟨_, _, hr, .inr ⟨w.heap.size, cap, F', rfl, hbase, heap_alloc_new w.drew _, h1, h2, h3⟩, ⟨rfl, rfl, rfl, by simp, fun k hk => Below.heap_alloc w.drew _ k (show k < w.heap.size by omega)⟩, fun k hk _ => Below.heap_alloc w.drew _ k hk⟩
  · by_cases hroom : n + m ≤ cap
    · have hfit : n * i.size + (arr (m * i.size) fun j => g (off + j)).toList.length ≤ (arr (cap * i.size) F).size := by rw [hl, arr_size, ← Nat.add_mul]; exact Nat.mul_le_mul_right _ hroom
      have hr := run_append_room (P := P) w t ty e i ht hi q n cap _ hg ⟨B, off, none⟩ m c _ hl hnews (oneCell_arr _ _) hroom hfit
      rw [hl, arr_splice _ _ _ _ _ (by rw [← Nat.add_mul]; exact Nat.mul_le_mul_right _ hroom)] at hr
      refine ⟨_, _, hr, .inr ⟨q, cap, _, rfl, hbg, setRow_heap w q _ _ e _ hg, hroom, hcm, fun j hj => ?_⟩, ⟨rfl, rfl, rfl, by simp, fun k hk => setRow_other w q k _ (by omega)⟩, fun k _ hk => setRow_other w q k _ (fun e => hk (by simp [Value.ownBlock, e]))⟩
      rw [Nat.add_mul] at hj
      unfold updN app
      by_cases h1 : j < n * i.size
      · rw [if_neg (by omega), if_pos h1, hF j h1]
      · rw [if_pos (by omega), if_neg h1]
    · obtain ⟨cap', F', hc, hcap, h1, h2, h3⟩ := grown cap F hF
      have hr := run_append_grow (P := P) w t ty e i z ht hi hz ⟨q, 0, none⟩ n cap (arr (n * i.size) F).toList (by simp [arr_size]) (fun j u hu => by
          have := news_arr (off := 0) hg (by rw [Nat.zero_add]; exact Nat.mul_le_mul_right _ hnc) j u (by simpa using hu)
          exact this) ⟨B, off, none⟩ m c _ hl hnews (by omega) (by omega) (growslice_fits (by omega) hby)
      rw [hc, ← hcap] at hr
      exact ⟨_, _, hr, .inr ⟨w.heap.size, cap', F', rfl, hbase, heap_alloc_new w.drew _, h1, h2, h3⟩, ⟨rfl, rfl, rfl, by simp, fun k hk => Below.heap_alloc w.drew _ k (show k < w.heap.size by omega)⟩, fun k hk _ => Below.heap_alloc w.drew _ k hk⟩
/-- append, at the walk. -/
theorem wpList_appendS {ops : Array Oper} {rest : List Oper} {o : Oper} {a : Act} {Q : Exit → Act → World → Prop} {t e : TypeId} {s b : Nat} (hT : SlOK P t e s b) (hs0 : 0 < s) (hgd : o.guard = none) (y x : Operand)
    (ho : o.op = .call { callee := .builtin .append, args := #[y, x], argTypes := #[t, t] })
    {w : World} {base : Nat} {v : Value} {n : Nat} {f : Nat → Int} (hy : a.eval y = v) (hS : Sl w base e s v n f)
    {B off N m c : Nat} {g : Nat → Int} {T : TypeId} {fr : Nat × Nat} (hx : a.eval x = .slice (some ⟨B, off, none⟩) m c) (hB : w.heap[B]? = some (.cells (arr N g) T fr)) (hle : off + m * s ≤ N) (hm : 0 < m) (h63 : n + m ≤ maxLen) (hby : (n + m) * b ≤ 140737488355328) (hbase : base ≤ w.heap.size)
    (h : ∀ v' w', Sl w' base e s v' (n + m) (app f (n * s) fun j => g (off + j)) → Below base w w' → wpList P ops Q rest (a.put o.dst v') w') : wpList P ops Q (o :: rest) a w :=
  wpList_plain hgd fun _ hK => by
    obtain ⟨v', w', hr, h2, h3, _⟩ := run_append_Sl (P := P) (ty := o.type) (c := c) hT hs0 hS hB hle hm h63 hby hbase
    unfold Oper.wp execOp
    simp only [ho, resolve, invoke, builtin, Sem.run_bind, Sem.run_pure, Result.andThen_ok, List.map_toArray, List.map_cons, List.map_nil, hy, hx, hr]
    exact hK _ _ (h v' w' h2 h3)
/-- len, at the walk. -/
theorem run_lenS {t e : TypeId} (ht : P.underlying t = some (.slice e)) {w w0 : World} {base : Nat} {e' : TypeId} {s : Nat} {v : Value} {n : Nat} {f : Nat → Int} (hS : Sl w0 base e' s v n f) (ty : TypeId) :
    (Builtin.len_ #[t] ty #[v]).run P w = .ok (.int .i64 n) w := by
  rcases hS with ⟨rfl, rfl⟩ | ⟨g, cap, F, rfl, _⟩
  · simp [Builtin.len_, run_underlying ht, goInt]
  · simp [Builtin.len_, run_underlying ht, goInt]
theorem wpList_lenS {ops : Array Oper} {rest : List Oper} {o : Oper} {a : Act} {Q : Exit → Act → World → Prop} {t e : TypeId} (ht : P.underlying t = some (.slice e)) (hw : Region.wanted o (yielded ops a.tmps) = true) (x : Operand)
    (ho : o.op = .call { callee := .builtin .len, args := #[x], argTypes := #[t] })
    {w w0 : World} {base : Nat} {e' : TypeId} {s : Nat} {v : Value} {n : Nat} {f : Nat → Int} (hx : a.eval x = v) (hS : Sl w0 base e' s v n f)
    (h : wpList P ops Q rest (a.put o.dst (.int .i64 n)) w) : wpList P ops Q (o :: rest) a w :=
  wpList_step fun K hK => by
    rw [if_pos hw]
    have hr := run_lenS (P := P) ht hS o.type (w := w)
    unfold Oper.wp execOp
    simp only [ho, resolve, invoke, builtin, Sem.run_bind, Sem.run_pure, Result.andThen_ok, List.map_toArray, List.map_cons, List.map_nil, hx, hr]
    exact hK _ _ h
theorem Sl.keep {w w' : World} {base : Nat} {e : TypeId} {s : Nat} {v : Value} {n : Nat} {f : Nat → Int} (h : Sl w base e s v n f) (hb : Below w.heap.size w w') : Sl w' base e s v n f := by
  rcases h with h | ⟨g, cap, F, rfl, h1, h2, h3⟩
  · exact .inl h
  · exact .inr ⟨g, cap, F, rfl, h1, row_keep hb h2, h3⟩
theorem Sl.below {w w' : World} {base K : Nat} {e : TypeId} {s : Nat} {v : Value} {n : Nat} {f : Nat → Int} (h : Sl w base e s v n f) (hb : Below K w w') (hk : w.heap.size ≤ K) : Sl w' base e s v n f := h.keep (hb.mono hk)
theorem Sl.lower {w : World} {base base' : Nat} {e : TypeId} {s : Nat} {v : Value} {n : Nat} {f : Nat → Int} (h : Sl w base e s v n f) (hb : base' ≤ base) : Sl w base' e s v n f := by
  rcases h with h | ⟨g, cap, F, rfl, h1, h2, h3⟩
  · exact .inl h
  · exact .inr ⟨g, cap, F, rfl, by omega, h2, h3⟩
theorem Sl.congr {w : World} {base : Nat} {e : TypeId} {s : Nat} {v : Value} {n n' : Nat} {f f' : Nat → Int} (h : Sl w base e s v n f) (hn : n = n') (hf : ∀ j, j < n * s → f j = f' j) : Sl w base e s v n' f' := by
  subst hn
  rcases h with h | ⟨g, cap, F, rfl, h1, h2, h3, h4, h5⟩
  · exact .inl h
  · exact .inr ⟨g, cap, F, rfl, h1, h2, h3, h4, fun j hj => by rw [h5 j hj, hf j hj]⟩
/-- The block of a slice that has elements. -/
theorem Sl.blk {w : World} {base : Nat} {e : TypeId} {s : Nat} {v : Value} {n : Nat} {f : Nat → Int} (h : Sl w base e s v n f) (hn : 0 < n) :
    ∃ g cap F, v = .slice (some ⟨g, 0, none⟩) n cap ∧ base ≤ g ∧ w.heap[g]? = some (.cells (arr (cap * s) F) e (0, 0)) ∧ n ≤ cap ∧ cap ≤ maxLen ∧ ∀ j, j < n * s → F j = f j := by
  rcases h with h | h
  · omega
  · exact h
/-- What a function returns that hands back such a slice. -/
def RetSl (w : World) (e : TypeId) (s n : Nat) (f : Nat → Int) (x : Ending) (w' : World) : Prop := ∃ v, x = .returned v ∧ Sl w' w.heap.size e s v n f ∧ Below w.heap.size w w'
def RetSlB (w : World) (e : TypeId) (s n : Nat) (f : Nat → Int) (b : Bool) (x : Ending) (w' : World) : Prop := ∃ v, x = .returned (.tuple #[v, .bool b]) ∧ Sl w' w.heap.size e s v n f ∧ Below w.heap.size w w'
/-- A sum or difference that is a small number. -/
theorem wrapN {x : Int} {n : Nat} (h : x = n) (hn : n < 4611686018427387904) : IntKind.i64.wrap x = (n : Int) := by
  rw [IntWalk.i64_in _ (by omega)]; exact h
theorem Cls.b {w0 W : World} {l : List (Nat × Obj)} (h : Cls w0 l W) : Below w0.heap.size w0 W := h.2
theorem Cls.kp {w0 W : World} {l : List (Nat × Obj)} {B : Nat} {o : Obj} (h : Cls w0 l W) (hr : w0.heap[B]? = some o) : W.heap[B]? = some o := row_keep h.2 hr
end Go.Proofs.YtlbgmkengkgnfaaGreatDoor
end

section
/- Runs of a tube, as functions of its layers. -/
namespace Go.Proofs.YtlbgmkengkgnfaaGreatDoor
set_option linter.unusedSimpArgs false
set_option linter.unusedVariables false
set_option maxRecDepth 20000
/-- How many runs the first k layers have. -/
def rN (g : Nat → Int) : Nat → Nat
  | 0 => 0
  | k + 1 => if 0 < k ∧ g k = g (k - 1) then rN g k else rN g k + 1
/-- The runs themselves: colour and length, one behind the other. -/
def rF (g : Nat → Int) : Nat → (Nat → Int)
  | 0 => fun _ => 0
  | k + 1 => if 0 < k ∧ g k = g (k - 1) then upd (rF g k) ((rN g k - 1) * 2 + 1) (rF g k ((rN g k - 1) * 2 + 1) + 1) else app (rF g k) (rN g k * 2) (fun j => if j = 0 then g k else 1)
theorem rN_le (g : Nat → Int) : ∀ k, rN g k ≤ k
  | 0 => by simp [rN]
  | k + 1 => by have := rN_le g k; unfold rN; split <;> omega
theorem rN_pos (g : Nat → Int) : ∀ k, 0 < k → 0 < rN g k
  | k + 1, _ => by
    unfold rN
    split
    · rename_i h; exact rN_pos g k h.1
    · omega
theorem rN_yes {g : Nat → Int} {k : Nat} (h0 : 0 < k) (h : g k = g (k - 1)) : rN g (k + 1) = rN g k ∧ rF g (k + 1) = upd (rF g k) ((rN g k - 1) * 2 + 1) (rF g k ((rN g k - 1) * 2 + 1) + 1) := by
  constructor
  · rw [rN, if_pos ⟨h0, h⟩]
  · rw [rF, if_pos ⟨h0, h⟩]
theorem rN_no {g : Nat → Int} {k : Nat} (h : ¬ (0 < k ∧ g k = g (k - 1))) : rN g (k + 1) = rN g k + 1 ∧ rF g (k + 1) = app (rF g k) (rN g k * 2) (fun j => if j = 0 then g k else 1) := by
  constructor
  · rw [rN, if_neg h]
  · rw [rF, if_neg h]
theorem rF_last (g : Nat → Int) : ∀ k, 0 < k → rF g k ((rN g k - 1) * 2) = g (k - 1)
  | k + 1, _ => by
    by_cases h : 0 < k ∧ g k = g (k - 1)
    · obtain ⟨h1, h2⟩ := rN_yes h.1 h.2
      rw [h1, h2]
      unfold upd
      rw [if_neg (by omega), rF_last g k h.1, ← h.2]; rfl
    · obtain ⟨h1, h2⟩ := rN_no h
      rw [h1, h2]
      unfold app
      rw [if_neg (by omega)]
      show (if (rN g k + 1 - 1) * 2 - rN g k * 2 = 0 then g k else 1) = _
      rw [if_pos (by omega)]; rfl
/-- The length of the uppermost run. -/
def rT (g : Nat → Int) (k : Nat) : Int := rF g k ((rN g k - 1) * 2 + 1)
theorem rT_yes {g : Nat → Int} {k : Nat} (h0 : 0 < k) (h : g k = g (k - 1)) : rT g (k + 1) = rT g k + 1 := by
  obtain ⟨h1, h2⟩ := rN_yes h0 h
  unfold rT
  rw [h1, h2]
  unfold upd
  rw [if_pos rfl]
theorem rT_no {g : Nat → Int} {k : Nat} (h : ¬ (0 < k ∧ g k = g (k - 1))) : rT g (k + 1) = 1 := by
  obtain ⟨h1, h2⟩ := rN_no h
  unfold rT
  rw [h1, h2]
  unfold app
  rw [if_neg (by omega)]
  show (if (rN g k + 1 - 1) * 2 + 1 - rN g k * 2 = 0 then g k else 1) = _
  rw [if_neg (by omega)]
/-- What the uppermost run is. -/
theorem rT_spec (g : Nat → Int) : ∀ k, 0 < k → ∃ R : Nat, rT g k = R ∧ 1 ≤ R ∧ R ≤ k ∧ (∀ j, j < R → g (k - 1 - j) = g (k - 1)) ∧ (R = k ∨ g (k - 1 - R) ≠ g (k - 1))
  | k + 1, _ => by
    by_cases h : 0 < k ∧ g k = g (k - 1)
    · obtain ⟨R, h1, h2, h3, h4, h5⟩ := rT_spec g k h.1
      refine ⟨R + 1, by rw [rT_yes h.1 h.2, h1]; rfl, by omega, by omega, fun j hj => ?_, ?_⟩
      · cases j with
        | zero => rfl
        | succ j =>
          rw [show k + 1 - 1 - (j + 1) = k - 1 - j by omega, h4 j (by omega), ← h.2]
          rfl
      · rcases h5 with h5 | h5
        · left; omega
        · right
          rw [show k + 1 - 1 - (R + 1) = k - 1 - R by omega, show k + 1 - 1 = k by omega, h.2]
          exact h5
    · refine ⟨1, rT_no h, by omega, by omega, fun j hj => by rw [show j = 0 by omega]; rfl, ?_⟩
      by_cases hk : k = 0
      · left; omega
      · right
        intro h2
        exact h ⟨by omega, by rw [show k + 1 - 1 - 1 = k - 1 by omega, show k + 1 - 1 = k by omega] at h2; exact h2.symm⟩
/-- Bounds of the runs' lengths. -/
theorem rF_bd (g : Nat → Int) : ∀ k r, r < rN g k → 1 ≤ rF g k (r * 2 + 1) ∧ rF g k (r * 2 + 1) ≤ k
  | 0, r, h => by simp [rN] at h
  | k + 1, r, h => by
    by_cases hm : 0 < k ∧ g k = g (k - 1)
    · obtain ⟨h1, h2⟩ := rN_yes hm.1 hm.2
      rw [h1] at h
      rw [h2]
      have ih := rF_bd g k r h
      unfold upd
      split
      · rename_i e
        have : r = rN g k - 1 := by omega
        rw [← this]
        push_cast; omega
      · push_cast; omega
    · obtain ⟨h1, h2⟩ := rN_no hm
      rw [h1] at h
      rw [h2]
      unfold app
      by_cases hr : r < rN g k
      · have ih := rF_bd g k r hr
        rw [if_pos (by omega)]
        push_cast; omega
      · rw [if_neg (by omega)]
        show 1 ≤ (if r * 2 + 1 - rN g k * 2 = 0 then g k else 1) ∧ (if r * 2 + 1 - rN g k * 2 = 0 then g k else 1) ≤ ((k + 1 : Nat) : Int)
        rw [if_neg (by omega)]
        exact ⟨Int.le_refl _, by omega⟩
/-- The colour of the top of a tube and its length. -/
def tpF (g : Nat → Int) : Int × Int := if nlay g = 0 then (0, 0) else (g (nlay g - 1), rT g (nlay g))
theorem tpF_zero {g : Nat → Int} (h : nlay g = 0) : tpF g = (0, 0) := if_pos h
theorem tpF_pos {g : Nat → Int} (h : 0 < nlay g) : tpF g = (g (nlay g - 1), rT g (nlay g)) := if_neg (by omega)
end Go.Proofs.YtlbgmkengkgnfaaGreatDoor
end

section
/- Runs of a tube: the reference's and the program's. -/
namespace Go.Proofs.YtlbgmkengkgnfaaGreatDoor
set_option linter.unusedSimpArgs false
set_option linter.unusedVariables false
set_option maxRecDepth 20000
open Go.RowKit
theorem slP : SlOK Tryz.prog 30 53 2 16 := ⟨by kernel_rfl, by kernel_rfl, by kernel_rfl⟩
theorem pairS : (Tryz.prog.info? 53).map (·.size) = some 2 := by kernel_rfl
theorem pairA : aggB Tryz.prog 53 = true := by kernel_rfl
theorem arr_none (f : Nat → Int) : #[] = arr 0 f := by
  refine Array.ext_getElem? fun i => ?_
  rw [arr_get, if_neg (by omega)]; rfl
theorem Sl.made {w : World} {base : Nat} {e : TypeId} {s : Nat} {f : Nat → Int} (h : base ≤ w.heap.size) : Sl (w.alloc (.cells #[] e)) base e s (.slice (some ⟨w.heap.size, 0, none⟩) 0 0) 0 f :=
  .inr ⟨w.heap.size, 0, fun _ => 0, rfl, h, by rw [arr_none fun _ => 0, Nat.zero_mul]; exact heap_new rfl, Nat.le_refl _, Nat.zero_le _, fun j hj => by omega⟩
theorem Sl.nil {w : World} {base : Nat} {e : TypeId} {s : Nat} {f : Nat → Int} : Sl w base e s (.slice none 0 0) 0 f := .inl ⟨rfl, rfl⟩
theorem nlay_pos {g : Nat → Int} (h : tubeB g = true) : ∀ k, k < nlay g → 1 ≤ g k ∧ g k ≤ 5 := fun k hk => by
  have e := tubeB_layers g
  rw [h, Bool.and_eq_true, List.all_eq_true] at e
  have := e.1 k (List.mem_range.2 hk)
  simpa using this
set_option maxRecDepth 8000 in
theorem l2Runs_any (g : Nat → Int) (hg : tubeB g = true) (w : World) : Calls Tryz.prog 36 #[.agg (arr 4 g)] w (RetSl w 53 2 (rN g (nlay g)) (rF g (nlay g))) := by
  have h0 : (w.alloc (.cells (arr 4 g) 24)).heap[w.heap.size]? = some (.cells (arr 4 g) 24 (0, 0)) := heap_new rfl
  have h1 := row_alloc (x := .cells #[] 53) h0
  have hbel : Below w.heap.size w ((w.alloc (.cells (arr 4 g) 24)).alloc (.cells #[] 53)) := ((Below.refl _ _).alloc (by simp) _).alloc (by simp) _
  have hS : Sl ((w.alloc (.cells (arr 4 g) 24)).alloc (.cells #[] 53)) (w.heap.size + 1) 53 2 (.slice (some ⟨w.heap.size + 1, 0, none⟩) 0 0) (rN g 0) (rF g 0) := by
    have := Sl.made (w := w.alloc (.cells (arr 4 g) 24)) (base := w.heap.size + 1) (e := 53) (s := 2) (f := rF g 0) (by simp)
    simpa [rN] using this
  have hn4 := nlay_le g
  have HP : Hid _ := nlay_pos hg
  go_enter Tryz.func36, Tryz.ntmps36
  go_wp2_with fail
  go_loopw [3, 4] (fun out i wr => ∃ k : Nat, ∃ v : Value, k ≤ nlay g ∧ i = .int .i64 k ∧ out = v ∧ Sl wr (w.heap.size + 1) 53 2 v (rN g k) (rF g k) ∧ wr.heap[w.heap.size]? = some (.cells (arr 4 g) 24 (0, 0)) ∧ Below w.heap.size w wr) (fun _ i _ => 4 - (intOf i).toNat)
  case atStart => exact ⟨0, _, by omega, rfl, rfl, hS, h1, hbel⟩
  case round =>
    clear h0 h1 hbel hS
    obtain ⟨k, v, hk, rfl, rfl, hS, h1, hbel⟩ := hrel
    have hsz := row_lt h1
    by_cases hlt : k < nlay g
    · have hlt' : (k : Int) < (nlay g : Int) := by omega
      have hk4 : k < 4 := by omega
      have hk4i : (k : Int) < 4 := by omega
      by_cases hm : 0 < k ∧ g k = g (k - 1)
      · obtain ⟨hk0, he⟩ := hm
        have hkd : decide (0 < (k : Int)) = true := by simpa using hk0
        have hed : (g k == g (k - 1)) = true := by simpa using he
        obtain ⟨hn1, hf1⟩ := rN_yes hk0 he
        have hnp := rN_pos g k hk0
        have hnl := rN_le g k
        obtain ⟨m, hm⟩ : ∃ m, rN g k = m + 1 := ⟨rN g k - 1, by omega⟩
        have hbd := rF_bd g k m (by omega)
        have hm4 : m < 4 := by omega
        rw [hm] at hS hn1 hf1
        obtain ⟨q, cap, F, rfl, hq1, hq2, hq3, hq4, hq5⟩ := hS.blk (by omega)
        simp only [Nat.add_sub_cancel] at hf1
        have HF : Hid _ := hq5
        have HN : Hid _ := hn1
        have HFF : Hid _ := hf1
        have HM : Hid _ := hm
        have hv := hq5 (m * 2 + 1) (by omega)
        rw [← hv] at hbd
        clear hed
        have hed : (g k == g (k - 1)) = true := by simpa using he
        clear he hn1 hf1 hm hq5 hv hS hnp
        go_wp2_with first
          | (with_reducible refine wpList_loadW rfl _ _ rfl _ rfl h1 agg4 size4 ?_)
          | (go_at_call 38; (with_reducible refine (l2Many_ok g hg _).mono ?_); rintro e w1 ⟨rfl, hb1⟩; replace hbel := hbel.trans (hb1.mono hbel.size); replace h1 := row_keep hb1 h1; replace hq2 := row_keep hb1 hq2; clear hb1)
        have hw1 : IntKind.i64.wrap ((k : Int) - 1) = ((k - 1 : Nat) : Int) := wrapN (by omega) (by omega)
        have hk5 : ((k - 1 : Nat) : Int) < 4 := by omega
        have hk6 : k - 1 < 4 := by omega
        refine wp_region_held 12 (Cls w1 []) (by kernel_rfl) (by kernel_rfl) (Cls.zero (Below.refl _ _)) ?_; simp only [List.take_succ_cons, List.take_zero, List.drop_succ_cons, List.drop_zero]
        repeat (first
          | (with_reducible refine wpQuiet_loadI rfl _ _ rfl _ _ rfl (fun _ h => h.kp h1) aggI undI (by omega) ?_)
          | ((with_reducible refine wpQuiet_step (fun K hK => ?_)); go_simp; (first | (refine ⟨_, fun _ _ => rfl, hK _ ?_⟩) | (refine ⟨_, fun _ _ => ⟨rfl, rfl⟩, hK _ ?_⟩) | (refine hK _ ?_)); clear hK K))
        refine wpQuiet_nil ?_; intro wt hCt; replace hCt := hCt.2; replace hbel := hbel.trans (hCt.mono hbel.size); replace h1 := row_keep hCt h1; replace hq2 := row_keep hCt hq2; clear hCt
        clear hw1
        go_wp2_with fail
        have hmi : (m : Int) < (m : Int) + 1 := by omega
        have hw2 : IntKind.i64.wrap (m : Int) = (m : Int) := wrapN (by omega) (by omega)
        have hw3 : IntKind.i64.wrap (F (m * 2 + 1) + 1) = F (m * 2 + 1) + 1 := by clear hw2; exact IntWalk.i64_in _ ⟨by omega, by omega⟩
        refine wp_region_held 10 (Cls wt []) (by kernel_rfl) (by kernel_rfl) (Cls.zero (Below.refl _ _)) ?_; simp only [List.take_succ_cons, List.take_zero, List.drop_succ_cons, List.drop_zero]
        repeat (first
          | (with_reducible refine wpQuiet_loadI rfl _ _ rfl _ _ rfl (fun _ h => h.kp hq2) aggI undI (by omega) ?_)
          | ((with_reducible refine wpQuiet_step (fun K hK => ?_)); go_simp; (first | (refine ⟨_, fun _ _ => rfl, hK _ ?_⟩) | (refine ⟨_, fun _ _ => ⟨rfl, rfl⟩, hK _ ?_⟩) | (refine hK _ ?_)); clear hK K))
        refine wpQuiet_nil ?_; intro wt hCt; replace hCt := hCt.2; replace hbel := hbel.trans (hCt.mono hbel.size); replace h1 := row_keep hCt h1; replace hq2 := row_keep hCt hq2; clear hCt
        clear hw2 hw3
        go_wp2_with first
          | (with_reducible refine wpList_storeI rfl 3 _ _ rfl _ _ rfl rfl hq2 size1 (by omega) ?_)
        go_roundw
        case rel =>
          refine ⟨k + 1, _, by omega, by go_num, rfl, .inr ⟨q, cap, _, by rw [HN.out], hq1, setRow_heap _ _ _ _ _ _ hq2, by rw [HN.out]; exact hq3, hq4, fun j hj => ?_⟩, ?_, below_setRow2 hbel (by omega) _⟩
          · rw [HN.out] at hj
            rw [HFF.out]
            unfold upd
            split
            · rw [HF.out _ (by omega)]
            · exact HF.out j hj
          · rw [setRow_other _ _ _ _ (by omega), h1]
        case measure => simp [intOf]; omega
      · by_cases hk0 : 0 < k
        · have hkd : decide (0 < (k : Int)) = true := by simpa using hk0
          have hed : (g k == g (k - 1)) = false := by simpa using fun h => hm ⟨hk0, h⟩
          have HM : Hid _ := hm
          clear hm
          go_wp2_with first
            | (with_reducible refine wpList_loadW rfl _ _ rfl _ rfl h1 agg4 size4 ?_)
            | (go_at_call 38; (with_reducible refine (l2Many_ok g hg _).mono ?_); rintro e w1 ⟨rfl, hb1⟩; replace hbel := hbel.trans (hb1.mono hbel.size); replace h1 := row_keep hb1 h1; replace hS := hS.keep hb1; clear hb1)
          have hw1 : IntKind.i64.wrap ((k : Int) - 1) = ((k - 1 : Nat) : Int) := wrapN (by omega) (by omega)
          have hk5 : ((k - 1 : Nat) : Int) < 4 := by omega
          have hk6 : k - 1 < 4 := by omega
          refine wp_region_held 12 (Cls w1 []) (by kernel_rfl) (by kernel_rfl) (Cls.zero (Below.refl _ _)) ?_; simp only [List.take_succ_cons, List.take_zero, List.drop_succ_cons, List.drop_zero]
          repeat (first
            | (with_reducible refine wpQuiet_loadI rfl _ _ rfl _ _ rfl (fun _ h => h.kp h1) aggI undI (by omega) ?_)
            | ((with_reducible refine wpQuiet_step (fun K hK => ?_)); go_simp; (first | (refine ⟨_, fun _ _ => rfl, hK _ ?_⟩) | (refine ⟨_, fun _ _ => ⟨rfl, rfl⟩, hK _ ?_⟩) | (refine hK _ ?_)); clear hK K))
          have hm := HM.out
          clear HM hed
          refine wpQuiet_nil ?_; intro wt hCt; replace hCt := hCt.2; replace hbel := hbel.trans (hCt.mono hbel.size); replace h1 := row_keep hCt h1; replace hS := hS.keep hCt; clear hCt
          try clear hw1
          obtain ⟨hn1, hf1⟩ := rN_no hm
          have HN : Hid _ := hn1
          have HFF : Hid _ := hf1
          clear hn1 hf1 hm
          have hnl := rN_le g k
          have hB : (wt.alloc (.cells #[.int .i64 (g k), .int .i64 1] 53)).heap[wt.heap.size]? = some (.cells (arr 2 fun j => if j = 0 then g k else 1) 53 (0, 0)) := by rw [arr_two]; exact heap_new rfl
          have hsz2 := row_lt h1
          go_wp2_with first
            | (with_reducible refine wpList_loadI rfl _ _ rfl _ _ rfl h1 aggI undI (by omega) ?_)
            | ((with_reducible refine wpList_appendS slP (by omega) rfl _ _ rfl rfl (hS.keep ((Below.refl _ _).alloc (Nat.le_refl _) _)) rfl hB (by omega) (by omega) (by unfold maxLen; omega) (by omega) (by simp; omega) ?_); intro v2 w2 hS2 hb2)
          go_roundw
          case rel =>
            refine ⟨k + 1, v2, by omega, by go_num, rfl, ?_, row_kept hb2 (row_alloc h1) (by omega), hbel.trans (((Below.refl _ _).alloc (Nat.le_of_lt hsz2) _).trans (hb2.mono (by omega)))⟩
            rw [HN.out, HFF.out]
            exact hS2.congr rfl fun j hj => by simp only [Nat.zero_add]
          case measure => simp [intOf]; omega
        · have hkd : decide (0 < (k : Int)) = false := by simpa using hk0
          have HM : Hid _ := hm
          clear hm
          go_wp2_with first
            | (with_reducible refine wpList_loadW rfl _ _ rfl _ rfl h1 agg4 size4 ?_)
            | (go_at_call 38; (with_reducible refine (l2Many_ok g hg _).mono ?_); rintro e w1 ⟨rfl, hb1⟩; replace hbel := hbel.trans (hb1.mono hbel.size); replace h1 := row_keep hb1 h1; replace hS := hS.keep hb1; clear hb1)
          refine wp_region_held 12 (Cls w1 []) (by kernel_rfl) (by kernel_rfl) (Cls.zero (Below.refl _ _)) ?_; simp only [List.take_succ_cons, List.take_zero, List.drop_succ_cons, List.drop_zero]
          repeat (first
            | (with_reducible refine wpQuiet_loadI rfl _ _ rfl _ _ rfl (fun _ h => h.kp h1) aggI undI (by omega) ?_)
            | ((with_reducible refine wpQuiet_step (fun K hK => ?_)); go_simp; (first | (refine ⟨_, fun _ _ => rfl, hK _ ?_⟩) | (refine ⟨_, fun _ _ => ⟨rfl, rfl⟩, hK _ ?_⟩) | (refine hK _ ?_)); clear hK K))
          have hm := HM.out
          clear HM
          refine wpQuiet_nil ?_; intro wt hCt; replace hCt := hCt.2; replace hbel := hbel.trans (hCt.mono hbel.size); replace h1 := row_keep hCt h1; replace hS := hS.keep hCt; clear hCt
          try clear hw1
          obtain ⟨hn1, hf1⟩ := rN_no hm
          have HN : Hid _ := hn1
          have HFF : Hid _ := hf1
          clear hn1 hf1 hm
          have hnl := rN_le g k
          have hB : (wt.alloc (.cells #[.int .i64 (g k), .int .i64 1] 53)).heap[wt.heap.size]? = some (.cells (arr 2 fun j => if j = 0 then g k else 1) 53 (0, 0)) := by rw [arr_two]; exact heap_new rfl
          have hsz2 := row_lt h1
          go_wp2_with first
            | (with_reducible refine wpList_loadI rfl _ _ rfl _ _ rfl h1 aggI undI (by omega) ?_)
            | ((with_reducible refine wpList_appendS slP (by omega) rfl _ _ rfl rfl (hS.keep ((Below.refl _ _).alloc (Nat.le_refl _) _)) rfl hB (by omega) (by omega) (by unfold maxLen; omega) (by omega) (by simp; omega) ?_); intro v2 w2 hS2 hb2)
          go_roundw
          case rel =>
            refine ⟨k + 1, v2, by omega, by go_num, rfl, ?_, row_kept hb2 (row_alloc h1) (by omega), hbel.trans (((Below.refl _ _).alloc (Nat.le_of_lt hsz2) _).trans (hb2.mono (by omega)))⟩
            rw [HN.out, HFF.out]
            exact hS2.congr rfl fun j hj => by simp only [Nat.zero_add]
          case measure => simp [intOf]; omega
    · obtain rfl : k = nlay g := by omega
      go_wp2_with first
        | (with_reducible refine wpList_loadW rfl _ _ rfl _ rfl h1 agg4 size4 ?_)
        | (go_at_call 38; (with_reducible refine (l2Many_ok g hg _).mono ?_); rintro e w1 ⟨rfl, hb1⟩; replace hbel := hbel.trans (hb1.mono hbel.size); replace h1 := row_keep hb1 h1; replace hS := hS.keep hb1; clear hb1)
      go_ret
      exact ⟨_, rfl, hS.lower (by omega), hbel⟩
set_option maxRecDepth 8000 in
theorem runs_any (g : Nat → Int) (hg : tubeB g = true) (w : World) : Calls Tryz.prog 33 #[.agg (arr 4 g)] w (RetSl w 53 2 (rN g (nlay g)) (rF g (nlay g))) := by
  have h1 : (w.alloc (.cells (arr 4 g) 24)).heap[w.heap.size]? = some (.cells (arr 4 g) 24 (0, 0)) := heap_new rfl
  have hbel : Below w.heap.size w (w.alloc (.cells (arr 4 g) 24)) := (Below.refl _ _).alloc (by simp) _
  have hn4 := nlay_le g
  have hn1 : (0 : Int) ≤ (nlay g : Int) := by omega
  have hn2 : (nlay g : Int) ≤ 4 := by omega
  have HP : Hid _ := nlay_pos hg
  go_enter Tryz.func33, Tryz.ntmps33
  go_wp2_with first
    | (with_reducible refine wpList_loadW rfl _ _ rfl _ rfl h1 agg4 size4 ?_)
    | (go_at_call 37; (with_reducible refine (layers_any g _).mono ?_); rintro e w1 ⟨rfl, hb1⟩; replace hbel := hbel.trans (hb1.mono hbel.size); replace h1 := row_keep hb1 h1; clear hb1)
  go_loopw [3, 11] (fun out i wr => ∃ k : Nat, ∃ v : Value, k ≤ nlay g ∧ i = .int .i64 k ∧ out = v ∧ Sl wr (w.heap.size + 1) 53 2 v (rN g k) (rF g k) ∧ wr.heap[w.heap.size]? = some (.cells (arr 4 g) 24 (0, 0)) ∧ Below w.heap.size w wr) (fun _ i _ => 4 - (intOf i).toNat)
  case atStart => exact ⟨0, _, by omega, rfl, rfl, Sl.nil, h1, hbel⟩
  case round =>
    clear h1 hbel
    obtain ⟨k, v, hk, rfl, rfl, hS, h1, hbel⟩ := hrel
    have hsz := row_lt h1
    by_cases hlt : k < nlay g
    · have hlt' : (k : Int) < (nlay g : Int) := by omega
      have hk4 : k < 4 := by omega
      have hk4i : (k : Int) < 4 := by omega
      by_cases hm : 0 < k ∧ g k = g (k - 1)
      · obtain ⟨hk0, he⟩ := hm
        obtain ⟨hn1, hf1⟩ := rN_yes hk0 he
        have hnp := rN_pos g k hk0
        have hnl := rN_le g k
        obtain ⟨m, hm⟩ : ∃ m, rN g k = m + 1 := ⟨rN g k - 1, by omega⟩
        have hbd := rF_bd g k m (by omega)
        have hla := rF_last g k hk0
        have hm4 : m < 4 := by omega
        rw [hm] at hS hn1 hf1 hla
        obtain ⟨q, cap, F, rfl, hq1, hq2, hq3, hq4, hq5⟩ := hS.blk (by omega)
        simp only [Nat.add_sub_cancel] at hf1 hla
        have HF : Hid _ := hq5
        have HN : Hid _ := hn1
        have HFF : Hid _ := hf1
        have HM : Hid _ := hm
        have hv := hq5 (m * 2 + 1) (by omega)
        have hv0 := hq5 (m * 2) (by omega)
        rw [← hv] at hbd
        rw [hla, ← he] at hv0
        have hed : (F (m * 2) == g k) = true := by simpa using hv0
        have hm1 : decide (0 < (m : Int) + 1) = true := decide_eq_true (by omega)
        clear he hn1 hf1 hm hq5 hv hS hnp hla hv0
        go_wp2_with first
          | (with_reducible refine wpList_loadI rfl _ _ rfl _ _ rfl h1 aggI undI (by omega) ?_)
          | (with_reducible refine wpList_loadI rfl _ _ rfl _ _ rfl hq2 aggI undI (by omega) ?_)
        have hmi : (m : Int) < (m : Int) + 1 := by omega
        have hw2 : IntKind.i64.wrap (m : Int) = (m : Int) := wrapN (by omega) (by omega)
        have hw3 : IntKind.i64.wrap (F (m * 2 + 1) + 1) = F (m * 2 + 1) + 1 := by clear hw2; exact IntWalk.i64_in _ ⟨by omega, by omega⟩
        refine wp_region_held 9 (Cls wr []) (by kernel_rfl) (by kernel_rfl) (Cls.zero (Below.refl _ _)) ?_; simp only [List.take_succ_cons, List.take_zero, List.drop_succ_cons, List.drop_zero]
        repeat (first
          | (with_reducible refine wpQuiet_loadI rfl _ _ rfl _ _ rfl (fun _ h => h.kp hq2) aggI undI (by omega) ?_)
          | ((with_reducible refine wpQuiet_step (fun K hK => ?_)); go_simp; (first | (refine ⟨_, fun _ _ => rfl, hK _ ?_⟩) | (refine ⟨_, fun _ _ => ⟨rfl, rfl⟩, hK _ ?_⟩) | (refine hK _ ?_)); clear hK K))
        refine wpQuiet_nil ?_; intro wt hCt; replace hCt := hCt.2; replace hbel := hbel.trans (hCt.mono hbel.size); replace h1 := row_keep hCt h1; replace hq2 := row_keep hCt hq2; clear hCt
        clear hw2 hw3
        go_wp2_with first
          | (with_reducible refine wpList_storeI rfl 3 _ _ rfl _ _ rfl rfl hq2 size1 (by omega) ?_)
        go_roundw
        case rel =>
          refine ⟨k + 1, _, by omega, by go_num, rfl, .inr ⟨q, cap, _, by rw [HN.out], hq1, setRow_heap _ _ _ _ _ _ hq2, by rw [HN.out]; exact hq3, hq4, fun j hj => ?_⟩, ?_, below_setRow2 hbel (by omega) _⟩
          · rw [HN.out] at hj
            rw [HFF.out]
            unfold upd
            split
            · rw [HF.out _ (by omega)]
            · exact HF.out j hj
          · rw [setRow_other _ _ _ _ (by omega), h1]
        case measure => simp [intOf]; omega
      · by_cases hk0 : 0 < k
        · have hnp := rN_pos g k hk0
          have hnl := rN_le g k
          obtain ⟨m, hm2⟩ : ∃ m, rN g k = m + 1 := ⟨rN g k - 1, by omega⟩
          have hla := rF_last g k hk0
          have hm4 : m < 4 := by omega
          rw [hm2] at hS hla
          have hS0 := hS
          obtain ⟨q, cap, F, rfl, hq1, hq2, hq3, hq4, hq5⟩ := hS.blk (by omega)
          simp only [Nat.add_sub_cancel] at hla
          have hv0 := hq5 (m * 2) (by omega)
          rw [hla] at hv0
          have hed : (F (m * 2) == g k) = false := by simpa [hv0] using fun h => hm ⟨hk0, h.symm⟩
          have hm1 : decide (0 < (m : Int) + 1) = true := decide_eq_true (by omega)
          have HQ5 : Hid _ := hq5
          clear hq5 hla hv0
          have hB : (wr.alloc (.cells #[.int .i64 (g k), .int .i64 1] 53)).heap[wr.heap.size]? = some (.cells (arr 2 fun j => if j = 0 then g k else 1) 53 (0, 0)) := by rw [arr_two]; exact heap_new rfl
          have HM : Hid _ := hm
          have HM2 : Hid _ := hm2
          clear hm hm2
          go_wp2_with first
            | (with_reducible refine wpList_loadI rfl _ _ rfl _ _ rfl h1 aggI undI (by omega) ?_)
            | (with_reducible refine wpList_loadI rfl _ _ rfl _ _ rfl hq2 aggI undI (by omega) ?_)
            | ((with_reducible refine wpList_appendS slP (by omega) rfl _ _ rfl rfl (hS0.keep ((Below.refl _ _).alloc (Nat.le_refl _) _)) rfl hB (by omega) (by omega) (by unfold maxLen; omega) (by omega) (by simp; omega) ?_); intro v2 w2 hS2 hb2)
          go_roundw
          case rel =>
            obtain ⟨hn1, hf1⟩ := rN_no HM.out
            refine ⟨k + 1, v2, by omega, by go_num, rfl, ?_, row_kept hb2 (row_alloc h1) (by omega), hbel.trans (((Below.refl _ _).alloc (Nat.le_of_lt hsz) _).trans (hb2.mono (by omega)))⟩
            rw [hn1, hf1, HM2.out]
            exact hS2.congr rfl fun j hj => by simp only [Nat.zero_add]
          case measure => simp [intOf]; omega
        · obtain rfl : k = 0 := by omega
          have hB : (wr.alloc (.cells #[.int .i64 (g 0), .int .i64 1] 53)).heap[wr.heap.size]? = some (.cells (arr 2 fun j => if j = 0 then g 0 else 1) 53 (0, 0)) := by rw [arr_two]; exact heap_new rfl
          have HM : Hid _ := hm
          clear hm
          rw [show rN g 0 = 0 from rfl] at hS
          go_wp2_with first
            | (with_reducible refine wpList_loadI rfl _ _ rfl _ _ rfl h1 aggI undI (by omega) ?_)
            | (with_reducible refine wpList_lenS slP.ht rfl _ rfl rfl hS ?_)
            | ((with_reducible refine wpList_appendS slP (by omega) rfl _ _ rfl rfl (hS.keep ((Below.refl _ _).alloc (Nat.le_refl _) _)) rfl hB (by omega) (by omega) (by unfold maxLen; omega) (by omega) (by simp; omega) ?_); intro v2 w2 hS2 hb2)
          go_roundw
          case rel =>
            obtain ⟨hn1, hf1⟩ := rN_no HM.out
            refine ⟨1, v2, by omega, by go_num, rfl, ?_, row_kept hb2 (row_alloc h1) (by omega), hbel.trans (((Below.refl _ _).alloc (Nat.le_of_lt hsz) _).trans (hb2.mono (by omega)))⟩
            rw [hn1, hf1, show rN g 0 = 0 from rfl]
            exact hS2.congr rfl fun j hj => by simp only [Nat.zero_add]
          case measure => simp [intOf]
    · obtain rfl : k = nlay g := by omega
      go_wp2_with first
        | fail
      go_ret
      exact ⟨_, rfl, hS.lower (by omega), hbel⟩
end Go.Proofs.YtlbgmkengkgnfaaGreatDoor
end

section
/- The top of a tube; whether one can pour. -/
namespace Go.Proofs.YtlbgmkengkgnfaaGreatDoor
set_option linter.unusedSimpArgs false
set_option linter.unusedVariables false
set_option maxRecDepth 20000
open Go.RowKit
theorem zeroP : ((Tryz.prog.info? 53).bind (·.zero)).map (·.cells) = some (arr 2 fun _ => 0) := by kernel_rfl
theorem tpF_eq {g : Nat → Int} {m : Nat} {F : Nat → Int} (h0 : 0 < nlay g) (hm : rN g (nlay g) = m + 1) (hF : ∀ j, j < (m + 1) * 2 → F j = rF g (nlay g) j) : F (m * 2) = (tpF g).1 ∧ F (m * 2 + 1) = (tpF g).2 := by
  rw [tpF_pos h0]
  have hl := rF_last g (nlay g) h0
  rw [hm, Nat.add_sub_cancel] at hl
  refine ⟨by rw [hF _ (by omega), hl], ?_⟩
  show _ = rT g (nlay g)
  unfold rT
  rw [hF _ (by omega), hm, Nat.add_sub_cancel]
theorem top_any (g : Nat → Int) (hg : tubeB g = true) (w : World) : Calls Tryz.prog 39 #[.agg (arr 4 g)] w fun e w' => e = .returned (.tuple #[.int .i64 (tpF g).1, .int .i64 (tpF g).2]) ∧ Below w.heap.size w w' := by
  have h1 : (w.alloc (.cells (arr 4 g) 24)).heap[w.heap.size]? = some (.cells (arr 4 g) 24 (0, 0))   := heap_new rfl
  have hbel : Below w.heap.size w (w.alloc (.cells (arr 4 g) 24)) := (Below.refl _ _).alloc (by simp) _
  have tok_h5 : True := trivial
  by_cases h0 : nlay g = 0
  · rw [tpF_zero h0]
    have HZ : Hid _ := h0
    clear h0
    go_enter Tryz.func39, Tryz.ntmps39
    go_wp2_with first
      | (with_reducible refine wpList_loadW rfl _ _ rfl _ rfl h1 agg4 size4 ?_)
      | (go_at_call 33; (with_reducible refine (runs_any g hg _).mono ?_); rintro e w1 ⟨v, rfl, hS, hb1⟩; rw [HZ.out] at hS; replace hbel := hbel.trans (hb1.mono hbel.size))
      | (with_reducible refine wpList_lenS slP.ht rfl _ rfl rfl hS ?_)
    go_ret2
    exact ⟨rfl, hbel⟩
  · have hp : 0 < nlay g := by omega
    obtain ⟨m, hm⟩ : ∃ m, rN g (nlay g) = m + 1 := ⟨rN g (nlay g) - 1, by have := rN_pos g _ hp; omega⟩
    have hm4 : m < 4 := by have := rN_le g (nlay g); have := nlay_le g; omega
    have HM : Hid _ := hm
    have HP : Hid _ := hp
    have hmi : (m : Int) < (m : Int) + 1 := by omega
    clear hm hp h0
    go_enter Tryz.func39, Tryz.ntmps39
    go_wp2_with first
      | (with_reducible refine wpList_loadW rfl _ _ rfl _ rfl h1 agg4 size4 ?_)
      | (go_at_call 33; (with_reducible refine (runs_any g hg _).mono ?_); rintro e w1 ⟨v, rfl, hS, hb1⟩; rw [HM.out] at hS; replace hbel := hbel.trans (hb1.mono hbel.size); obtain ⟨q, cap, F, rfl, hq1, hq2, hq3, hq4, hq5⟩ := hS.blk (by omega); clear hS; have HQ : Hid _ := hq5; clear hq5)
      | (with_reducible refine wpList_loadA rfl _ _ rfl _ _ rfl hq2 2 pairA pairS (by omega) ?_)
      | (with_reducible refine wpList_allocA rfl 53 rfl 2 zeroP ?_; (try simp only [size_al]))
      | (have _t := tok_h5; with_reducible refine wpList_storeN rfl _ _ _ rfl rfl rfl pairS ?_; intro w1 h5 hb1; replace hbel := hbel.trans (hb1.mono hbel.size); clear hb1 _t tok_h5)
    refine wp_region_held 6 (Cls w1 []) (by kernel_rfl) (by kernel_rfl) (Cls.zero (Below.refl _ _)) ?_; simp only [List.take_succ_cons, List.take_zero, List.drop_succ_cons, List.drop_zero]
    repeat (first
      | (with_reducible refine wpQuiet_loadI rfl _ _ rfl _ _ rfl (fun _ h => h.kp h5) aggI undI (by omega) ?_)
      | ((with_reducible refine wpQuiet_step (fun K hK => ?_)); go_simp; (first | (refine ⟨_, fun _ _ => rfl, hK _ ?_⟩) | (refine ⟨_, fun _ _ => ⟨rfl, rfl⟩, hK _ ?_⟩) | (refine hK _ ?_)); clear hK K))
    refine wpQuiet_nil ?_; intro wt hCt; replace hCt := hCt.2; replace hbel := hbel.trans (hCt.mono hbel.size); clear hCt
    go_wp2_with fail
    go_ret2
    obtain ⟨e1, e2⟩ := tpF_eq HP.out HM.out HQ.out
    refine ⟨?_, hbel⟩
    rw [← e1, ← e2]
    try rfl
theorem l2Top_any (g : Nat → Int) (hg : tubeB g = true) (w : World) : Calls Tryz.prog 40 #[.agg (arr 4 g)] w fun e w' => e = .returned (.tuple #[.int .i64 (tpF g).1, .int .i64 (tpF g).2]) ∧ Below w.heap.size w w' := by
  have h1 : (w.alloc (.cells (arr 4 g) 24)).heap[w.heap.size]? = some (.cells (arr 4 g) 24 (0, 0))   := heap_new rfl
  have hbel : Below w.heap.size w (w.alloc (.cells (arr 4 g) 24)) := (Below.refl _ _).alloc (by simp) _
  by_cases h0 : nlay g = 0
  · rw [tpF_zero h0]
    have HZ : Hid _ := h0
    clear h0
    go_enter Tryz.func40, Tryz.ntmps40
    go_wp2_with first
      | (with_reducible refine wpList_loadW rfl _ _ rfl _ rfl h1 agg4 size4 ?_)
      | (go_at_call 38; (with_reducible refine (l2Many_ok g hg _).mono ?_); rw [HZ.out]; rintro e w1 ⟨rfl, hb1⟩; replace hbel := hbel.trans (hb1.mono hbel.size); replace h1 := row_keep hb1 h1; clear hb1)
    go_ret2
    exact ⟨rfl, hbel⟩
  · obtain ⟨R, r1, r2, r3, r4, r5⟩ := rT_spec g (nlay g) (by omega)
    obtain ⟨N, hN⟩ : ∃ N, nlay g = N := ⟨_, rfl⟩
    have hn4 := nlay_le g
    rw [tpF_pos (by omega)]
    rw [hN] at r1 r3 r4 r5 hn4 h0 ⊢
    rw [r1]
    have HN : Hid _ := hN
    have hN1 : 0 < N := by omega
    have hN2 : ((N : Int) == 0) = false := by simpa using h0
    have H4 : Hid _ := r4
    have H5 : Hid _ := r5
    clear hN r1 r4 r5 h0
    go_enter Tryz.func40, Tryz.ntmps40
    go_wp2_with first
      | (with_reducible refine wpList_loadW rfl _ _ rfl _ rfl h1 agg4 size4 ?_)
      | (go_at_call 38; (with_reducible refine (l2Many_ok g hg _).mono ?_); rw [HN.out]; rintro e w1 ⟨rfl, hb1⟩; replace hbel := hbel.trans (hb1.mono hbel.size); replace h1 := row_keep hb1 h1; clear hb1)
    clear hN2
    go_loopw [5] (fun i wr => ∃ r : Nat, r ≤ R ∧ i = .int .i64 r ∧ wr.heap[w.heap.size]? = some (.cells (arr 4 g) 24 (0, 0)) ∧ Below w.heap.size w wr) (fun i _ => R - (intOf i).toNat)
    case atStart => exact ⟨0, by omega, rfl, h1, hbel⟩
    case round =>
      clear h1 hbel
      obtain ⟨r, hr, rfl, h1, hbel⟩ := hrel
      have hd := Nat.lt_or_ge r N
      by_cases hc : r < N
      · have hcd : decide (r < N) = true := by simpa using hc
        have i1 : ((N - 1 - r : Nat) : Int) < 4 := by omega
        have i2 : ((N - 1 : Nat) : Int) < 4 := by omega
        have hw1 : IntKind.i64.wrap ((N : Int) - 1) = ((N - 1 : Nat) : Int) := wrapN (by omega) (by omega)
        have hw2 : IntKind.i64.wrap (((N - 1 : Nat) : Int) - (r : Int)) = ((N - 1 - r : Nat) : Int) := by clear hw1; exact wrapN (by omega) (by omega)
        have k1 : N - 1 - r < 4 := by clear hw1 hw2; omega
        have k2 : N - 1 < 4 := by clear hw1 hw2; omega
        clear hd hc
        by_cases hR : r < R
        · have he := H4.out r hR
          have hed : (g (N - 1 - r) == g (N - 1)) = true := by simpa using he
          clear he
          go_wp2_with fail
          refine wp_region_held 16 (Cls wr []) (by kernel_rfl) (by kernel_rfl) (Cls.zero (Below.refl _ _)) ?_; simp only [List.take_succ_cons, List.take_zero, List.drop_succ_cons, List.drop_zero]
          repeat (first
            | (with_reducible refine wpQuiet_loadI rfl _ _ rfl _ _ rfl (fun _ h => h.kp h1) aggI undI k1 ?_)
            | (with_reducible refine wpQuiet_loadI rfl _ _ rfl _ _ rfl (fun _ h => h.kp h1) aggI undI k2 ?_)
            | ((with_reducible refine wpQuiet_step (fun K hK => ?_)); go_simp; (first | (refine ⟨_, fun _ _ => rfl, hK _ ?_⟩) | (refine ⟨_, fun _ _ => ⟨rfl, rfl⟩, hK _ ?_⟩) | (refine hK _ ?_)); clear hK K))
          refine wpQuiet_nil ?_; intro wt hCt; replace hCt := hCt.2; replace hbel := hbel.trans (hCt.mono hbel.size); replace h1 := row_keep hCt h1; clear hCt
          clear hw1 hw2
          go_wp2_with fail
          go_roundw
          case rel => exact ⟨r + 1, by omega, by go_num, h1, hbel⟩
          case measure => simp [intOf]; omega
        · obtain rfl : r = R := by clear hw1 hw2; omega
          have hed : (g (N - 1 - r) == g (N - 1)) = false := by
            rcases H5.out with h | h
            · exfalso; clear hw1 hw2; simp at hcd; omega
            · simpa using h
          go_wp2_with fail
          refine wp_region_held 16 (Cls wr []) (by kernel_rfl) (by kernel_rfl) (Cls.zero (Below.refl _ _)) ?_; simp only [List.take_succ_cons, List.take_zero, List.drop_succ_cons, List.drop_zero]
          repeat (first
            | (with_reducible refine wpQuiet_loadI rfl _ _ rfl _ _ rfl (fun _ h => h.kp h1) aggI undI k1 ?_)
            | (with_reducible refine wpQuiet_loadI rfl _ _ rfl _ _ rfl (fun _ h => h.kp h1) aggI undI k2 ?_)
            | ((with_reducible refine wpQuiet_step (fun K hK => ?_)); go_simp; (first | (refine ⟨_, fun _ _ => rfl, hK _ ?_⟩) | (refine ⟨_, fun _ _ => ⟨rfl, rfl⟩, hK _ ?_⟩) | (refine hK _ ?_)); clear hK K))
          refine wpQuiet_nil ?_; intro wt hCt; replace hCt := hCt.2; replace hbel := hbel.trans (hCt.mono hbel.size); replace h1 := row_keep hCt h1; clear hCt
          clear hw1 hw2
          go_wp2_with first
            | (with_reducible refine wpList_loadI rfl _ _ rfl _ _ rfl h1 aggI undI k2 ?_)
          go_ret2
          exact ⟨rfl, hbel⟩
      · have hcd : decide (r < N) = false := by simpa using hc
        obtain rfl : r = R := by omega
        have k2 : N - 1 < 4 := by omega
        have i2 : ((N - 1 : Nat) : Int) < 4 := by omega
        have hrN : ¬ ((r : Int) < (N : Int)) := by omega
        clear hd
        go_wp2_with fail
        refine wp_region_held 16 (Cls wr []) (by kernel_rfl) (by kernel_rfl) (Cls.zero (Below.refl _ _)) ?_; simp only [List.take_succ_cons, List.take_zero, List.drop_succ_cons, List.drop_zero]
        repeat (first
          | (with_reducible refine wpQuiet_loadI rfl _ _ rfl _ _ rfl (fun _ h => h.kp h1) aggI undI k2 ?_)
          | ((with_reducible refine wpQuiet_step (fun K hK => ?_)); go_simp; (first | (refine ⟨_, fun _ _ => rfl, hK _ ?_⟩) | (refine ⟨_, fun _ _ => ⟨rfl, rfl⟩, hK _ ?_⟩) | (refine hK _ ?_)); clear hK K))
        refine wpQuiet_nil ?_; intro wt hCt; replace hCt := hCt.2; replace hbel := hbel.trans (hCt.mono hbel.size); replace h1 := row_keep hCt h1; clear hCt
        go_wp2_with first
          | (with_reducible refine wpList_loadI rfl _ _ rfl _ _ rfl h1 aggI undI k2 ?_)
        go_ret2
        exact ⟨rfl, hbel⟩
end Go.Proofs.YtlbgmkengkgnfaaGreatDoor
end

section
/- Whether one can pour: the program's and the reference's, and the law. -/
namespace Go.Proofs.YtlbgmkengkgnfaaGreatDoor
set_option linter.unusedSimpArgs false
set_option linter.unusedVariables false
set_option maxRecDepth 20000
open Go.RowKit
theorem tpF_sign {g : Nat → Int} (hg : tubeB g = true) : (0 < (tpF g).1 ↔ 0 < nlay g) ∧ (0 < (tpF g).2 ↔ 0 < nlay g) ∧ 0 ≤ (tpF g).1 ∧ (tpF g).1 ≤ 5 ∧ 0 ≤ (tpF g).2 ∧ (tpF g).2 ≤ nlay g := by
  by_cases h0 : nlay g = 0
  · rw [tpF_zero h0, h0]; simp
  · have h1 := nlay_pos hg (nlay g - 1) (by omega)
    obtain ⟨R, r1, r2, r3, _⟩ := rT_spec g (nlay g) (by omega)
    rw [tpF_pos (by omega)]
    show (0 < g (nlay g - 1) ↔ _) ∧ (0 < rT g (nlay g) ↔ _) ∧ 0 ≤ g (nlay g - 1) ∧ g (nlay g - 1) ≤ 5 ∧ 0 ≤ rT g (nlay g) ∧ rT g (nlay g) ≤ _
    rw [r1]
    omega
def canF (f : Nat → Int) (i k : Nat) : Bool := decide (i ≠ k ∧ 0 < nlay (tub f i) ∧ nlay (tub f k) < 4 ∧ ((tpF (tub f k)).1 = 0 ∨ (tpF (tub f k)).1 = (tpF (tub f i)).1))
theorem tub_eq (f : Nat → Int) (i : Nat) : (fun j => f (i * 4 + j)) = tub f i := rfl
theorem l2Can_any (f : Nat → Int) (hf : rackB f = true) (n m : Nat) (hn : n ≤ 5) (hm : m ≤ 5) (w : World) : Calls Tryz.prog 64 #[.agg (arr 24 f), .int .i64 n, .int .i64 m] w fun e w' => e = .returned (.bool (canF f n m)) ∧ Below w.heap.size w w' := by
  have h1 : (w.alloc (.cells (arr 24 f) 27)).heap[w.heap.size]? = some (.cells (arr 24 f) 27 (0, 0))   := heap_new rfl
  have hbel : Below w.heap.size w (w.alloc (.cells (arr 24 f) 27)) := (Below.refl _ _).alloc (by simp) _
  have t1 := tube_of_rack hf hn
  have t2 := tube_of_rack hf hm
  have HT1 : Hid _ := tpF_sign t1
  have HT2 : Hid _ := tpF_sign t2
  have n1 : (n : Int) < 6 := by omega
  have n2 : (m : Int) < 6 := by omega
  by_cases hne : n = m
  · have hq : ((n : Int) != (m : Int)) = false := by simp [hne]
    go_enter Tryz.func64, Tryz.ntmps64
    go_wp2_with first
      | (with_reducible refine wpList_loadAG rfl _ _ rfl _ _ rfl h1 4 agg4 size4 (by omega) ?_)
      | (go_at_call 40; (with_reducible refine (l2Top_any (tub f n) t1 _).mono ?_); rintro e w1 ⟨rfl, hb1⟩; replace hbel := hbel.trans (hb1.mono hbel.size); replace h1 := row_keep hb1 h1; clear hb1)
      | (go_at_call 40; (with_reducible refine (l2Top_any (tub f m) t2 _).mono ?_); rintro e w1 ⟨rfl, hb1⟩; replace hbel := hbel.trans (hb1.mono hbel.size); replace h1 := row_keep hb1 h1; clear hb1)
      | (go_at_call 38; (with_reducible refine (l2Many_ok (tub f m) t2 _).mono ?_); rintro e w1 ⟨rfl, hb1⟩; replace hbel := hbel.trans (hb1.mono hbel.size); replace h1 := row_keep hb1 h1; clear hb1)
    all_goals
      go_ret
      refine ⟨ret_bool ?_, hbel⟩
      have e1 := HT1.out
      have e2 := HT2.out
      unfold canF
      first
        | exact (decide_eq_true (by omega)).symm
        | exact (decide_eq_false (by omega)).symm
        | (rw [Bool.eq_iff_iff]; simp only [Bool.or_eq_true, beq_iff_eq, decide_eq_true_eq]; omega)
  · have hq : ((n : Int) != (m : Int)) = true := by simp; omega
    by_cases hp : 0 < (tpF (tub f n)).2
    · have hpd : decide (0 < (tpF (tub f n)).2) = true := decide_eq_true hp
      go_enter Tryz.func64, Tryz.ntmps64
      go_wp2_with first
        | (with_reducible refine wpList_loadAG rfl _ _ rfl _ _ rfl h1 4 agg4 size4 (by omega) ?_)
        | (go_at_call 40; (with_reducible refine (l2Top_any (tub f n) t1 _).mono ?_); rintro e w1 ⟨rfl, hb1⟩; replace hbel := hbel.trans (hb1.mono hbel.size); replace h1 := row_keep hb1 h1; clear hb1)
        | (go_at_call 40; (with_reducible refine (l2Top_any (tub f m) t2 _).mono ?_); rintro e w1 ⟨rfl, hb1⟩; replace hbel := hbel.trans (hb1.mono hbel.size); replace h1 := row_keep hb1 h1; clear hb1)
        | (go_at_call 38; (with_reducible refine (l2Many_ok (tub f m) t2 _).mono ?_); rintro e w1 ⟨rfl, hb1⟩; replace hbel := hbel.trans (hb1.mono hbel.size); replace h1 := row_keep hb1 h1; clear hb1)
      all_goals
        go_ret
        refine ⟨ret_bool ?_, hbel⟩
        have e1 := HT1.out
        have e2 := HT2.out
        unfold canF
        first
          | exact (decide_eq_true (by omega)).symm
          | exact (decide_eq_false (by omega)).symm
          | (rw [Bool.eq_iff_iff]; simp only [Bool.or_eq_true, beq_iff_eq, decide_eq_true_eq]; omega)
    · have hpd : decide (0 < (tpF (tub f n)).2) = false := decide_eq_false hp
      go_enter Tryz.func64, Tryz.ntmps64
      go_wp2_with first
        | (with_reducible refine wpList_loadAG rfl _ _ rfl _ _ rfl h1 4 agg4 size4 (by omega) ?_)
        | (go_at_call 40; (with_reducible refine (l2Top_any (tub f n) t1 _).mono ?_); rintro e w1 ⟨rfl, hb1⟩; replace hbel := hbel.trans (hb1.mono hbel.size); replace h1 := row_keep hb1 h1; clear hb1)
        | (go_at_call 40; (with_reducible refine (l2Top_any (tub f m) t2 _).mono ?_); rintro e w1 ⟨rfl, hb1⟩; replace hbel := hbel.trans (hb1.mono hbel.size); replace h1 := row_keep hb1 h1; clear hb1)
        | (go_at_call 38; (with_reducible refine (l2Many_ok (tub f m) t2 _).mono ?_); rintro e w1 ⟨rfl, hb1⟩; replace hbel := hbel.trans (hb1.mono hbel.size); replace h1 := row_keep hb1 h1; clear hb1)
      all_goals
        go_ret
        refine ⟨ret_bool ?_, hbel⟩
        have e1 := HT1.out
        have e2 := HT2.out
        unfold canF
        first
          | exact (decide_eq_true (by omega)).symm
          | exact (decide_eq_false (by omega)).symm
          | (rw [Bool.eq_iff_iff]; simp only [Bool.or_eq_true, beq_iff_eq, decide_eq_true_eq]; omega)
/-! ### the laws -/
def canR (f : Nat → Int) (i k : Int) : Bool × Bool := if rackB f = true ∧ (0 ≤ i ∧ i ≤ 5) ∧ (0 ≤ k ∧ k ≤ 5) ∧ ¬ i = k then (canF f i.toNat k.toNat, true) else (false, false)
theorem canR_bad {f : Nat → Int} {i k : Int} (h : ¬ (rackB f = true ∧ (0 ≤ i ∧ i ≤ 5) ∧ (0 ≤ k ∧ k ≤ 5) ∧ ¬ i = k)) : canR f i k = (false, false) := if_neg h
/-- The top of a tube, asked for. -/
def topR (f : Nat → Int) (i : Int) : Int × Int × Bool := if rackB f = true ∧ (0 ≤ i ∧ i ≤ 5) ∧ 0 < nlay (tub f i.toNat) then ((tpF (tub f i.toNat)).1, (tpF (tub f i.toNat)).2, true) else (0, 0, false)
theorem topR_bad {f : Nat → Int} {i : Int} (h : ¬ (rackB f = true ∧ (0 ≤ i ∧ i ≤ 5) ∧ 0 < nlay (tub f i.toNat))) : topR f i = (0, 0, false) := if_neg h
theorem specTopOf_any (f : Nat → Int) (i : Int) (w : World) : Calls Tryz.prog 12 #[.agg (arr 24 f), .int .i64 i] w fun e w' => e = .returned (.tuple #[.int .i64 (topR f i).1, .int .i64 (topR f i).2.1, .bool (topR f i).2.2]) ∧ Below w.heap.size w w' := by
  have h1 : (w.alloc (.cells (arr 24 f) 27)).heap[w.heap.size]? = some (.cells (arr 24 f) 27 (0, 0))   := heap_new rfl
  have hbel : Below w.heap.size w (w.alloc (.cells (arr 24 f) 27)) := (Below.refl _ _).alloc (by simp) _
  cases hf : rackB f with
  | false =>
    rw [topR_bad (by simp [hf])]
    have HF : Hid _ := hf
    have HI : Hid (1 = 1) := rfl
    have HT : Hid (1 = 1) := rfl
    have HL : Hid (1 = 1) := rfl
    clear hf
    go_enter Tryz.func12, Tryz.ntmps12
    go_wp2_with first
      | (with_reducible refine wpList_loadW rfl _ _ rfl _ rfl h1 agg24r size24r ?_)
      | (go_at_call 34; (with_reducible refine (l2Rack_any _ _).mono ?_); rw [HF.out]; rintro e w1 ⟨rfl, hb1⟩; replace hbel := hbel.trans (hb1.mono hbel.size); replace h1 := row_keep hb1 h1; clear hb1)
      | (go_at_call 35; (with_reducible refine (l2Place_any _ _).mono ?_); rw [HI.out]; rintro e w' ⟨rfl, rfl⟩)
      | (with_reducible refine wpList_loadAG rfl _ _ rfl _ _ rfl h1 4 agg4 size4 (by omega) ?_)
      | (go_at_call 40; (with_reducible refine (l2Top_any (tub f n) ht _).mono ?_); (try rw [HT.out.1, HT.out.2]); rintro e w1 ⟨rfl, hb1⟩; replace hbel := hbel.trans (hb1.mono hbel.size); replace h1 := row_keep hb1 h1; clear hb1)
    go_ret3
    exact ⟨rfl, hbel⟩
  | true =>
    have HF : Hid _ := hf
    by_cases hi : 0 ≤ i ∧ i ≤ 5
    · have HI : Hid _ := show (decide (0 ≤ i) && decide (i ≤ 5)) = true by simpa using hi
      obtain ⟨n, rfl⟩ : ∃ n : Nat, i = n := ⟨i.toNat, by omega⟩
      have hn : n ≤ 5 := by omega
      have ht := tube_of_rack hf hn
      have hi1 : (0 : Int) ≤ (n : Int) := by omega
      have hi3 : (n : Int) < 6 := by omega
      by_cases h0 : nlay (tub f n) = 0
      · rw [topR_bad (by simp [h0])]
        have HL : Hid _ := h0
        have HT : Hid ((tpF (tub f n)).1 = 0 ∧ (tpF (tub f n)).2 = 0) := by rw [tpF_zero h0]; exact ⟨rfl, rfl⟩
        clear hf hi h0
        go_enter Tryz.func12, Tryz.ntmps12
        go_wp2_with first
          | (with_reducible refine wpList_loadW rfl _ _ rfl _ rfl h1 agg24r size24r ?_)
          | (go_at_call 34; (with_reducible refine (l2Rack_any _ _).mono ?_); rw [HF.out]; rintro e w1 ⟨rfl, hb1⟩; replace hbel := hbel.trans (hb1.mono hbel.size); replace h1 := row_keep hb1 h1; clear hb1)
          | (go_at_call 35; (with_reducible refine (l2Place_any _ _).mono ?_); rw [HI.out]; rintro e w' ⟨rfl, rfl⟩)
          | (with_reducible refine wpList_loadAG rfl _ _ rfl _ _ rfl h1 4 agg4 size4 (by omega) ?_)
          | (go_at_call 40; (with_reducible refine (l2Top_any (tub f n) ht _).mono ?_); (try rw [HT.out.1, HT.out.2]); rintro e w1 ⟨rfl, hb1⟩; replace hbel := hbel.trans (hb1.mono hbel.size); replace h1 := row_keep hb1 h1; clear hb1)
        go_ret3
        exact ⟨rfl, hbel⟩
      · obtain ⟨L, hL⟩ : ∃ L, nlay (tub f n) = L + 1 := ⟨nlay (tub f n) - 1, by omega⟩
        have e : topR f n = ((tpF (tub f n)).1, (tpF (tub f n)).2, true) := if_pos ⟨hf, hi, by rw [Int.toNat_natCast]; omega⟩
        have hs := (tpF_sign ht).2.1.2 (by omega)
        have HL : Hid _ := hL
        have HT : Hid (1 = 1) := rfl
        have hsd : decide (0 < (tpF (tub f n)).2) = true := decide_eq_true hs
        have hL0 : ((L : Int) + 1 == 0) = false := by simp; omega
        rw [e]
        clear hf hi h0 e hL hs
        go_enter Tryz.func12, Tryz.ntmps12
        go_wp2_with first
          | (with_reducible refine wpList_loadW rfl _ _ rfl _ rfl h1 agg24r size24r ?_)
          | (go_at_call 34; (with_reducible refine (l2Rack_any _ _).mono ?_); rw [HF.out]; rintro e w1 ⟨rfl, hb1⟩; replace hbel := hbel.trans (hb1.mono hbel.size); replace h1 := row_keep hb1 h1; clear hb1)
          | (go_at_call 35; (with_reducible refine (l2Place_any _ _).mono ?_); rw [HI.out]; rintro e w' ⟨rfl, rfl⟩)
          | (with_reducible refine wpList_loadAG rfl _ _ rfl _ _ rfl h1 4 agg4 size4 (by omega) ?_)
          | (go_at_call 40; (with_reducible refine (l2Top_any (tub f n) ht _).mono ?_); (try rw [HT.out.1, HT.out.2]); rintro e w1 ⟨rfl, hb1⟩; replace hbel := hbel.trans (hb1.mono hbel.size); replace h1 := row_keep hb1 h1; clear hb1)
        go_ret3
        exact ⟨rfl, hbel⟩
    · rw [topR_bad (by simp [hi])]
      have HI : Hid _ := show (decide (0 ≤ i) && decide (i ≤ 5)) = false by simpa using hi
      have HT : Hid (1 = 1) := rfl
      have HL : Hid (1 = 1) := rfl
      clear hf hi
      go_enter Tryz.func12, Tryz.ntmps12
      go_wp2_with first
        | (with_reducible refine wpList_loadW rfl _ _ rfl _ rfl h1 agg24r size24r ?_)
        | (go_at_call 34; (with_reducible refine (l2Rack_any _ _).mono ?_); rw [HF.out]; rintro e w1 ⟨rfl, hb1⟩; replace hbel := hbel.trans (hb1.mono hbel.size); replace h1 := row_keep hb1 h1; clear hb1)
        | (go_at_call 35; (with_reducible refine (l2Place_any _ _).mono ?_); rw [HI.out]; rintro e w' ⟨rfl, rfl⟩)
        | (with_reducible refine wpList_loadAG rfl _ _ rfl _ _ rfl h1 4 agg4 size4 (by omega) ?_)
        | (go_at_call 40; (with_reducible refine (l2Top_any (tub f n) ht _).mono ?_); (try rw [HT.out.1, HT.out.2]); rintro e w1 ⟨rfl, hb1⟩; replace hbel := hbel.trans (hb1.mono hbel.size); replace h1 := row_keep hb1 h1; clear hb1)
      go_ret3
      exact ⟨rfl, hbel⟩
theorem implTopOf_any (f : Nat → Int) (i : Int) (w : World) : Calls Tryz.prog 11 #[.agg (arr 24 f), .int .i64 i] w fun e w' => e = .returned (.tuple #[.int .i64 (topR f i).1, .int .i64 (topR f i).2.1, .bool (topR f i).2.2]) ∧ Below w.heap.size w w' := by
  have h1 : (w.alloc (.cells (arr 24 f) 27)).heap[w.heap.size]? = some (.cells (arr 24 f) 27 (0, 0))   := heap_new rfl
  have hbel : Below w.heap.size w (w.alloc (.cells (arr 24 f) 27)) := (Below.refl _ _).alloc (by simp) _
  have h5 : ((w.alloc (.cells (arr 24 f) 27)).alloc (.cells #[.int .i64 i] 3)).heap[w.heap.size + 1]? = some (.cells #[.int .i64 i] 3 (0, 0)) := heap_new (by simp)
  cases hf : rackB f with
  | false =>
    rw [topR_bad (by simp [hf])]
    have HF : Hid _ := hf
    have HI : Hid (1 = 1) := rfl
    have HT : Hid (1 = 1) := rfl
    have HL : Hid (1 = 1) := rfl
    clear hf
    go_enter Tryz.func11, Tryz.ntmps11
    go_wp2_with first
      | (with_reducible refine wpList_loadW rfl _ _ rfl _ rfl h1 agg24r size24r ?_)
      | (go_at_call 32; (with_reducible refine (isAt_bad f HF.out _ _).mono ?_); rintro e w1 ⟨rfl, hb1⟩; replace hb1 := below_of_alloc hb1; replace hbel := hbel.trans (hb1.mono hbel.size); replace h1 := row_keep hb1 h1; clear hb1)
      | (go_at_call 32; (with_reducible refine (isAt_one f HF.out _ _ h5).mono ?_); rw [HI.out]; rintro e w1 ⟨rfl, hb1⟩; replace hb1 := below_of_alloc hb1; replace hbel := hbel.trans (hb1.mono hbel.size); replace h1 := row_keep hb1 h1; clear hb1)
      | (with_reducible refine wpList_loadAG rfl _ _ rfl _ _ rfl h1 4 agg4 size4 (by omega) ?_)
      | (go_at_call 37; (with_reducible refine (layers_any (tub f n) _).mono ?_); rw [HL.out]; rintro e w1 ⟨rfl, hb1⟩; replace hbel := hbel.trans (hb1.mono hbel.size); replace h1 := row_keep hb1 h1; clear hb1)
      | (go_at_call 39; (with_reducible refine (top_any (tub f n) ht _).mono ?_); (try rw [HT.out.1, HT.out.2]); rintro e w1 ⟨rfl, hb1⟩; replace hbel := hbel.trans (hb1.mono hbel.size); replace h1 := row_keep hb1 h1; clear hb1)
    go_ret3
    exact ⟨rfl, hbel⟩
  | true =>
    have HF : Hid _ := hf
    by_cases hi : 0 ≤ i ∧ i ≤ 5
    · have HI : Hid _ := show (decide (0 ≤ i) && decide (i ≤ 5)) = true by simpa using hi
      obtain ⟨n, rfl⟩ : ∃ n : Nat, i = n := ⟨i.toNat, by omega⟩
      have hn : n ≤ 5 := by omega
      have ht := tube_of_rack hf hn
      have hi1 : (0 : Int) ≤ (n : Int) := by omega
      have hi3 : (n : Int) < 6 := by omega
      by_cases h0 : nlay (tub f n) = 0
      · rw [topR_bad (by simp [h0])]
        have HL : Hid _ := h0
        have HT : Hid ((tpF (tub f n)).1 = 0 ∧ (tpF (tub f n)).2 = 0) := by rw [tpF_zero h0]; exact ⟨rfl, rfl⟩
        clear hf hi h0
        go_enter Tryz.func11, Tryz.ntmps11
        go_wp2_with first
          | (with_reducible refine wpList_loadW rfl _ _ rfl _ rfl h1 agg24r size24r ?_)
          | (go_at_call 32; (with_reducible refine (isAt_bad f HF.out _ _).mono ?_); rintro e w1 ⟨rfl, hb1⟩; replace hb1 := below_of_alloc hb1; replace hbel := hbel.trans (hb1.mono hbel.size); replace h1 := row_keep hb1 h1; clear hb1)
          | (go_at_call 32; (with_reducible refine (isAt_one f HF.out _ _ h5).mono ?_); rw [HI.out]; rintro e w1 ⟨rfl, hb1⟩; replace hb1 := below_of_alloc hb1; replace hbel := hbel.trans (hb1.mono hbel.size); replace h1 := row_keep hb1 h1; clear hb1)
          | (with_reducible refine wpList_loadAG rfl _ _ rfl _ _ rfl h1 4 agg4 size4 (by omega) ?_)
          | (go_at_call 37; (with_reducible refine (layers_any (tub f n) _).mono ?_); rw [HL.out]; rintro e w1 ⟨rfl, hb1⟩; replace hbel := hbel.trans (hb1.mono hbel.size); replace h1 := row_keep hb1 h1; clear hb1)
          | (go_at_call 39; (with_reducible refine (top_any (tub f n) ht _).mono ?_); (try rw [HT.out.1, HT.out.2]); rintro e w1 ⟨rfl, hb1⟩; replace hbel := hbel.trans (hb1.mono hbel.size); replace h1 := row_keep hb1 h1; clear hb1)
        go_ret3
        exact ⟨rfl, hbel⟩
      · obtain ⟨L, hL⟩ : ∃ L, nlay (tub f n) = L + 1 := ⟨nlay (tub f n) - 1, by omega⟩
        have e : topR f n = ((tpF (tub f n)).1, (tpF (tub f n)).2, true) := if_pos ⟨hf, hi, by rw [Int.toNat_natCast]; omega⟩
        have hs := (tpF_sign ht).2.1.2 (by omega)
        have HL : Hid _ := hL
        have HT : Hid (1 = 1) := rfl
        have hsd : decide (0 < (tpF (tub f n)).2) = true := decide_eq_true hs
        have hL0 : ((L : Int) + 1 == 0) = false := by simp; omega
        rw [e]
        clear hf hi h0 e hL hs
        go_enter Tryz.func11, Tryz.ntmps11
        go_wp2_with first
          | (with_reducible refine wpList_loadW rfl _ _ rfl _ rfl h1 agg24r size24r ?_)
          | (go_at_call 32; (with_reducible refine (isAt_bad f HF.out _ _).mono ?_); rintro e w1 ⟨rfl, hb1⟩; replace hb1 := below_of_alloc hb1; replace hbel := hbel.trans (hb1.mono hbel.size); replace h1 := row_keep hb1 h1; clear hb1)
          | (go_at_call 32; (with_reducible refine (isAt_one f HF.out _ _ h5).mono ?_); rw [HI.out]; rintro e w1 ⟨rfl, hb1⟩; replace hb1 := below_of_alloc hb1; replace hbel := hbel.trans (hb1.mono hbel.size); replace h1 := row_keep hb1 h1; clear hb1)
          | (with_reducible refine wpList_loadAG rfl _ _ rfl _ _ rfl h1 4 agg4 size4 (by omega) ?_)
          | (go_at_call 37; (with_reducible refine (layers_any (tub f n) _).mono ?_); rw [HL.out]; rintro e w1 ⟨rfl, hb1⟩; replace hbel := hbel.trans (hb1.mono hbel.size); replace h1 := row_keep hb1 h1; clear hb1)
          | (go_at_call 39; (with_reducible refine (top_any (tub f n) ht _).mono ?_); (try rw [HT.out.1, HT.out.2]); rintro e w1 ⟨rfl, hb1⟩; replace hbel := hbel.trans (hb1.mono hbel.size); replace h1 := row_keep hb1 h1; clear hb1)
        go_ret3
        exact ⟨rfl, hbel⟩
    · rw [topR_bad (by simp [hi])]
      have HI : Hid _ := show (decide (0 ≤ i) && decide (i ≤ 5)) = false by simpa using hi
      have HT : Hid (1 = 1) := rfl
      have HL : Hid (1 = 1) := rfl
      clear hf hi
      go_enter Tryz.func11, Tryz.ntmps11
      go_wp2_with first
        | (with_reducible refine wpList_loadW rfl _ _ rfl _ rfl h1 agg24r size24r ?_)
        | (go_at_call 32; (with_reducible refine (isAt_bad f HF.out _ _).mono ?_); rintro e w1 ⟨rfl, hb1⟩; replace hb1 := below_of_alloc hb1; replace hbel := hbel.trans (hb1.mono hbel.size); replace h1 := row_keep hb1 h1; clear hb1)
        | (go_at_call 32; (with_reducible refine (isAt_one f HF.out _ _ h5).mono ?_); rw [HI.out]; rintro e w1 ⟨rfl, hb1⟩; replace hb1 := below_of_alloc hb1; replace hbel := hbel.trans (hb1.mono hbel.size); replace h1 := row_keep hb1 h1; clear hb1)
        | (with_reducible refine wpList_loadAG rfl _ _ rfl _ _ rfl h1 4 agg4 size4 (by omega) ?_)
        | (go_at_call 37; (with_reducible refine (layers_any (tub f n) _).mono ?_); rw [HL.out]; rintro e w1 ⟨rfl, hb1⟩; replace hbel := hbel.trans (hb1.mono hbel.size); replace h1 := row_keep hb1 h1; clear hb1)
        | (go_at_call 39; (with_reducible refine (top_any (tub f n) ht _).mono ?_); (try rw [HT.out.1, HT.out.2]); rintro e w1 ⟨rfl, hb1⟩; replace hbel := hbel.trans (hb1.mono hbel.size); replace h1 := row_keep hb1 h1; clear hb1)
      go_ret3
      exact ⟨rfl, hbel⟩
end Go.Proofs.YtlbgmkengkgnfaaGreatDoor
end

section
/- The laws' own comparing and marking of slices of pairs. -/
namespace Go.Proofs.YtlbgmkengkgnfaaGreatDoor
set_option linter.unusedSimpArgs false
set_option linter.unusedVariables false
set_option maxRecDepth 20000
open Go.RowKit
variable {P : Program}
theorem wpQuiet_loadX {ops : Array Oper} {C : World → Prop} {rest : List Oper} {o : Oper} {a : Act} {Q : Act → Prop} (hw : Region.wanted o (yielded ops a.tmps) = true) (ty : TypeId) (x : Operand) (ho : o.op = .load ty x)
    (B off : Nat) (hx : a.eval x = .pointer (some ⟨B, off, none⟩)) {T : TypeId} {fr : Nat × Nat} {n : Nat} {f : Nat → Int} (hg : ∀ w, C w → w.heap[B]? = some (.cells (arr n f) T fr)) (m : Nat) (hd : aggB P ty = true)
    (hi : (P.info? ty).map (·.size) = some m) (hle : off + m ≤ n) {y : Array Value} (hy : arr m (fun j => f (off + j)) = y) (h : wpQuiet P ops C Q rest (a.put o.dst (.agg y))) : wpQuiet P ops C Q (o :: rest) a := by
  subst hy
  exact wpQuiet_loadA hw ty x ho B off hx hg m hd hi hle h
end Go.Proofs.YtlbgmkengkgnfaaGreatDoor
end
