/- Pours: the program's and the reference's. -/
import Derived.Test.YtbiplciklmagoaaPourP
import Derived.Test.YtbiplciklmagoaaBnd
import Derived.Test.YtbiplciklmagoaaEqv
namespace Go.Proofs.Ytbiplciklmagoaa
set_option linter.unusedSimpArgs false
set_option linter.unusedVariables false
set_option maxRecDepth 20000
open Go.RowKit
theorem l1Least_any (x y : Int) (w : World) : Calls Try.prog 67 #[.int .i64 x, .int .i64 y] w fun e w' => e = .returned (.int .i64 (min x y)) ∧ w = w' := by
  by_cases h : x < y
  · go_enter Try.func67, Try.ntmps67
    go_wp2
    go_ret
    exact ⟨ret_int (by omega), rfl⟩
  · go_enter Try.func67, Try.ntmps67
    go_wp2
    go_ret
    exact ⟨ret_int (by omega), rfl⟩
theorem l2Pour_any (f : Nat → Int) (hf : rackB f = true) (n m : Nat) (hn : n ≤ 5) (hm : m ≤ 5) (hnm : n ≠ m) (w : World) : Calls Try.prog 54 #[.agg (arr 24 f), .int .i64 n, .int .i64 m] w fun e w' => e = .returned (.tuple #[.agg (arr 24 (pourF f n m)), .int .i64 (mvd f n m : Nat)]) ∧ Below w.heap.size w w' := by
  have h1 : ((w.alloc (.cells (arr 24 f) 28)).alloc (.cells (arr 24 fun _ => 0) 28)).heap[w.heap.size]? = some (.cells (arr 24 f) 28 (0, 0)) := by rw [heap_old (by simp), heap_new rfl]
  have h2 : ((w.alloc (.cells (arr 24 f) 28)).alloc (.cells (arr 24 fun _ => 0) 28)).heap[w.heap.size + 1]? = some (.cells (arr 24 fun _ => 0) 28 (0, 0)) := heap_new (by simp)
  have hbel : Below w.heap.size w ((w.alloc (.cells (arr 24 f) 28)).alloc (.cells (arr 24 fun _ => 0) 28)) := ((Below.refl _ _).alloc (by simp) _).alloc (by simp) _
  have ti := tube_of_rack hf hn
  have tj := tube_of_rack hf hm
  have n1 : (n : Int) < 6 := by omega
  have n2 : (m : Int) < 6 := by omega
  obtain ⟨l1, l2, l3⟩ := mvd_le (j := m) ti
  have hs := tpF_sign ti
  have k1 := nlay_le (tub f n)
  have k2 := nlay_le (tub f m)
  have HMV : Hid (min (tpF (tub f n)).2 (4 - (nlay (tub f m) : Int)) = ((mvd f n m : Nat) : Int)) := by show min _ _ = _; unfold mvd; omega
  obtain ⟨N, hN⟩ : ∃ N, nlay (tub f n) = N := ⟨_, rfl⟩
  obtain ⟨T, hT⟩ : ∃ T, nlay (tub f m) = T := ⟨_, rfl⟩
  obtain ⟨M, hM⟩ : ∃ M, mvd f n m = M := ⟨_, rfl⟩
  have HP : Hid (pourF f n m = pS f n m M ∧ mvd f n m = M) := ⟨by unfold pourF; rw [hM], hM⟩
  have HS : Hid (∀ k, pS f n m (k + 1) = upd (upd (pS f n m k) (n * 4 + (N - 1 - k)) 0) (m * 4 + (T + k)) (tpF (tub f n)).1) := fun k => by rw [← hN, ← hT]; rfl
  have HN : Hid _ := hN
  have HT : Hid _ := hT
  rw [hN] at l1 k1
  rw [hT] at l2 k2
  rw [hM] at l1 l2 l3
  have s1 := hs.2.2.2.2.1
  have s2 : (tpF (tub f n)).2 ≤ 4 := by have := hs.2.2.2.2.2; rw [hN] at this; omega
  clear hN hT hs
  go_enter Try.func54, Try.ntmps54
  go_wp2_with first
    | (with_reducible refine wpList_allocA rfl 28 rfl 24 zero24r ?_; (try simp only [size_al]))
    | (with_reducible refine wpList_loadA rfl _ _ rfl _ _ rfl h1 4 agg4 size4 (by omega) ?_)
    | (go_at_call 45; (with_reducible refine (l2Top_any (tub f n) ti _).mono ?_); rintro e w1 ⟨rfl, hb1⟩; replace hbel := hbel.trans (hb1.mono hbel.size); replace h1 := row_keep hb1 h1; replace h2 := row_keep hb1 h2; clear hb1)
  refine wp_region_held 12 (Cls w1 []) (by kernel_rfl) (by kernel_rfl) (Cls.zero (Below.refl _ _)) ?_; simp only [List.take_succ_cons, List.take_zero, List.drop_succ_cons, List.drop_zero]
  repeat (first
    | (with_reducible refine wpQuiet_loadA rfl _ _ rfl _ _ rfl (fun _ h => h.kp h1) 4 agg4 size4 (by omega) ?_)
    | ((with_reducible refine wpQuiet_callE rfl 79 _ _ rfl (.int .i64 (nlay (tub f n) : Nat)) (#[.agg (arr 4 (tub f n))]) rfl ?_ ?_ ?_); (exact enters_of Try.func79 (by kernel_rfl) rfl); (intro w' h'; with_reducible exact (l2Many_ok (tub f n) ti w').mono fun _ _ ⟨he, hb⟩ => ⟨he, h'.keep hb⟩))
    | ((with_reducible refine wpQuiet_callE rfl 79 _ _ rfl (.int .i64 (nlay (tub f m) : Nat)) (#[.agg (arr 4 (tub f m))]) rfl ?_ ?_ ?_); (exact enters_of Try.func79 (by kernel_rfl) rfl); (intro w' h'; with_reducible exact (l2Many_ok (tub f m) tj w').mono fun _ _ ⟨he, hb⟩ => ⟨he, h'.keep hb⟩))
    | ((with_reducible refine wpQuiet_step (fun K hK => ?_)); go_simp; (first | (refine ⟨_, fun _ _ => rfl, hK _ ?_⟩) | (refine ⟨_, fun _ _ => ⟨rfl, rfl⟩, hK _ ?_⟩) | (refine hK _ ?_)); clear hK K))
  refine wpQuiet_nil ?_; intro wt hCt; replace hCt := hCt.2; replace hbel := hbel.trans (hCt.mono hbel.size); replace h1 := row_keep hCt h1; replace h2 := row_keep hCt h2; clear hCt
  rw [HN.out, HT.out]
  have HMV2 := HMV.out
  rw [HT.out, HP.out.2] at HMV2
  have HM2 : Hid _ := HMV2
  clear HMV2
  go_wp2_with first
    | (go_at_call 67; (with_reducible refine (l1Least_any _ _ _).mono ?_); rw [HM2.out]; rintro e w1 ⟨rfl, rfl⟩)
  go_loopw [13] (fun i wr => ∃ k : Nat, k ≤ M ∧ i = .int .i64 k ∧ wr.heap[w.heap.size]? = some (.cells (arr 24 (pS f n m k)) 28 (0, 0)) ∧ wr.heap[w.heap.size + 1]? = some (.cells (arr 24 fun _ => 0) 28 (0, 0)) ∧ Below w.heap.size w wr) (fun i _ => 4 - (intOf i).toNat)
  case atStart => exact ⟨0, by omega, rfl, h1, h2, hbel⟩
  case round =>
    clear h1 h2 hbel
    obtain ⟨k, hk, rfl, h1, h2, hbel⟩ := hrel
    by_cases hlt : k < M
    · have hlt' : (k : Int) < (M : Int) := by omega
      have e1 : N - 1 - k < 4 := by omega
      have e2 : T + k < 4 := by omega
      have e3 : ((N - 1 - k : Nat) : Int) < 4 := by omega
      have e4 : (T : Int) + (k : Int) < 4 := by omega
      have e5 : k + 1 ≤ N := by omega
      have q1 := setRow_heap wr _ _ (arr 24 (upd (pS f n m k) (n * 4 + (N - 1 - k)) 0)) _ _ h1
      go_wp2_with first
        | (with_reducible refine wpList_storeI rfl 3 _ _ rfl _ _ rfl rfl h1 size1 (by omega) ?_)
        | (with_reducible refine wpList_storeI rfl 3 _ _ rfl _ _ rfl rfl q1 size1 (by omega) ?_)
      go_roundw
      case rel =>
        refine ⟨k + 1, by omega, by go_num, ?_, ?_, below_setRow2 (below_setRow2 hbel (by omega) _) (by omega) _⟩
        · rw [setRow_heap _ _ _ _ _ _ q1, HS.out]
        · rw [setRow_other _ _ _ _ (by omega), setRow_other _ _ _ _ (by omega), h2]
      case measure => simp [intOf]; omega
    · obtain rfl : k = M := by omega
      have h3 := h2
      go_wp2_with first
        | (with_reducible refine wpList_loadW rfl _ _ rfl _ rfl h1 agg24r size24r ?_)
        | (with_reducible refine wpList_storeW rfl _ _ _ rfl _ rfl rfl h3 size24r ?_)
      refine bodyPost_ret_by (results_ct _ _ _ _ _ _ _ rfl rfl (setRow_heap _ _ _ _ _ _ h2) agg24r size24r) rfl ⟨?_, below_setRow2 hbel (by omega) _⟩
      rw [HP.out.1, HP.out.2]
      rfl
theorem pour_any (f : Nat → Int) (hf : rackB f = true) (n m : Nat) (hn : n ≤ 5) (hm : m ≤ 5) (hnm : n ≠ m) (w : World) : Calls Try.prog 56 #[.agg (arr 24 f), .int .i64 n, .int .i64 m] w fun e w' => e = .returned (.tuple #[.agg (arr 24 (pourF f n m)), .int .i64 (mvd f n m : Nat)]) ∧ Below w.heap.size w w' := by
  have h1 : ((w.alloc (.cells (arr 24 f) 28)).alloc (.cells (arr 24 fun _ => 0) 28)).heap[w.heap.size]? = some (.cells (arr 24 f) 28 (0, 0)) := by rw [heap_old (by simp), heap_new rfl]
  have h2 : ((w.alloc (.cells (arr 24 f) 28)).alloc (.cells (arr 24 fun _ => 0) 28)).heap[w.heap.size + 1]? = some (.cells (arr 24 fun _ => 0) 28 (0, 0)) := heap_new (by simp)
  have hbel : Below w.heap.size w ((w.alloc (.cells (arr 24 f) 28)).alloc (.cells (arr 24 fun _ => 0) 28)) := ((Below.refl _ _).alloc (by simp) _).alloc (by simp) _
  have ti := tube_of_rack hf hn
  have tj := tube_of_rack hf hm
  have n1 : (n : Int) < 6 := by omega
  have n2 : (m : Int) < 6 := by omega
  obtain ⟨l1, l2, l3⟩ := mvd_le (j := m) ti
  have hs := tpF_sign ti
  have k1 := nlay_le (tub f n)
  have k2 := nlay_le (tub f m)
  have HMV : Hid (min (tpF (tub f n)).2 (4 - (nlay (tub f m) : Int)) = ((mvd f n m : Nat) : Int)) := by show min _ _ = _; unfold mvd; omega
  obtain ⟨N, hN⟩ : ∃ N, nlay (tub f n) = N := ⟨_, rfl⟩
  obtain ⟨T, hT⟩ : ∃ T, nlay (tub f m) = T := ⟨_, rfl⟩
  obtain ⟨M, hM⟩ : ∃ M, mvd f n m = M := ⟨_, rfl⟩
  have HP : Hid (pourF f n m = pS f n m M ∧ mvd f n m = M) := ⟨by unfold pourF; rw [hM], hM⟩
  have HS : Hid (∀ k, pS f n m (k + 1) = upd (upd (pS f n m k) (n * 4 + (N - 1 - k)) 0) (m * 4 + (T + k)) (tpF (tub f n)).1) := fun k => by rw [← hN, ← hT]; rfl
  have HN : Hid _ := hN
  have HT : Hid _ := hT
  rw [hN] at l1 k1
  rw [hT] at l2 k2
  rw [hM] at l1 l2 l3
  have s1 := hs.2.2.2.2.1
  have s2 : (tpF (tub f n)).2 ≤ 4 := by have := hs.2.2.2.2.2; rw [hN] at this; omega
  clear hN hT hs
  go_enter Try.func56, Try.ntmps56
  go_wp2_with first
    | (with_reducible refine wpList_allocA rfl 28 rfl 24 zero24r ?_; (try simp only [size_al]))
    | (with_reducible refine wpList_loadA rfl _ _ rfl _ _ rfl h1 4 agg4 size4 (by omega) ?_)
    | (go_at_call 49; (with_reducible refine (top_any (tub f n) ti _).mono ?_); rintro e w1 ⟨rfl, hb1⟩; replace hbel := hbel.trans (hb1.mono hbel.size); replace h1 := row_keep hb1 h1; replace h2 := row_keep hb1 h2; clear hb1)
  refine wp_region_held 12 (Cls w1 []) (by kernel_rfl) (by kernel_rfl) (Cls.zero (Below.refl _ _)) ?_; simp only [List.take_succ_cons, List.take_zero, List.drop_succ_cons, List.drop_zero]
  repeat (first
    | (with_reducible refine wpQuiet_loadA rfl _ _ rfl _ _ rfl (fun _ h => h.kp h1) 4 agg4 size4 (by omega) ?_)
    | ((with_reducible refine wpQuiet_callE rfl 48 _ _ rfl (.int .i64 (nlay (tub f n) : Nat)) (#[.agg (arr 4 (tub f n))]) rfl ?_ ?_ ?_); (exact enters_of Try.func48 (by kernel_rfl) rfl); (intro w' h'; with_reducible exact (layers_any (tub f n) w').mono fun _ _ ⟨he, hb⟩ => ⟨he, h'.keep hb⟩))
    | ((with_reducible refine wpQuiet_callE rfl 48 _ _ rfl (.int .i64 (nlay (tub f m) : Nat)) (#[.agg (arr 4 (tub f m))]) rfl ?_ ?_ ?_); (exact enters_of Try.func48 (by kernel_rfl) rfl); (intro w' h'; with_reducible exact (layers_any (tub f m) w').mono fun _ _ ⟨he, hb⟩ => ⟨he, h'.keep hb⟩))
    | ((with_reducible refine wpQuiet_step (fun K hK => ?_)); go_simp; (first | (refine ⟨_, fun _ _ => rfl, hK _ ?_⟩) | (refine ⟨_, fun _ _ => ⟨rfl, rfl⟩, hK _ ?_⟩) | (refine hK _ ?_)); clear hK K))
  refine wpQuiet_nil ?_; intro wt hCt; replace hCt := hCt.2; replace hbel := hbel.trans (hCt.mono hbel.size); replace h1 := row_keep hCt h1; replace h2 := row_keep hCt h2; clear hCt
  rw [HN.out, HT.out]
  have HMV2 := HMV.out
  rw [HT.out, HP.out.2] at HMV2
  have HM2 : Hid _ := HMV2
  clear HMV2
  go_wp2_with fail
  all_goals
    have HM3 := HM2.out
    first
      | rw [show (4 - (T : Int)) = (M : Int) by omega]
      | rw [show (tpF (tub f n)).2 = (M : Int) by omega]
    clear HM3
    go_loopw [36] (fun i wr => ∃ k : Nat, k ≤ M ∧ i = .int .i64 k ∧ wr.heap[w.heap.size]? = some (.cells (arr 24 (pS f n m k)) 28 (0, 0)) ∧ wr.heap[w.heap.size + 1]? = some (.cells (arr 24 fun _ => 0) 28 (0, 0)) ∧ Below w.heap.size w wr) (fun i _ => 4 - (intOf i).toNat)
    case atStart => exact ⟨0, by omega, rfl, h1, h2, hbel⟩
    case round =>
      clear h1 h2 hbel
      obtain ⟨k, hk, rfl, h1, h2, hbel⟩ := hrel
      by_cases hlt : k < M
      · have hlt' : (k : Int) < (M : Int) := by omega
        have e1 : N - 1 - k < 4 := by omega
        have e2 : T + k < 4 := by omega
        have e3 : ((N - 1 - k : Nat) : Int) < 4 := by omega
        have e4 : (T : Int) + (k : Int) < 4 := by omega
        have e5 : k + 1 ≤ N := by omega
        have q1 := setRow_heap wr _ _ (arr 24 (upd (pS f n m k) (n * 4 + (N - 1 - k)) 0)) _ _ h1
        go_wp2_with first
          | (with_reducible refine wpList_storeI rfl 3 _ _ rfl _ _ rfl rfl h1 size1 (by omega) ?_)
          | (with_reducible refine wpList_storeI rfl 3 _ _ rfl _ _ rfl rfl q1 size1 (by omega) ?_)
        go_roundw
        case rel =>
          refine ⟨k + 1, by omega, by go_num, ?_, ?_, below_setRow2 (below_setRow2 hbel (by omega) _) (by omega) _⟩
          · rw [setRow_heap _ _ _ _ _ _ q1, HS.out]
          · rw [setRow_other _ _ _ _ (by omega), setRow_other _ _ _ _ (by omega), h2]
        case measure => simp [intOf]; omega
      · obtain rfl : k = M := by omega
        have h3 := h2
        go_wp2_with first
          | (with_reducible refine wpList_loadW rfl _ _ rfl _ rfl h1 agg24r size24r ?_)
          | (with_reducible refine wpList_storeW rfl _ _ _ rfl _ rfl rfl h3 size24r ?_)
        refine bodyPost_ret_by (results_ct _ _ _ _ _ _ _ rfl rfl (setRow_heap _ _ _ _ _ _ h2) agg24r size24r) rfl ⟨?_, below_setRow2 hbel (by omega) _⟩
        rw [HP.out.1, HP.out.2]
        rfl
/-- Is a pour undone by the one back? -/
def undF (f : Nat → Int) (i j : Nat) : Bool := canF (pourF f i j) j i && eqv 24 (pourF (pourF f i j) j i) f
end Go.Proofs.Ytbiplciklmagoaa
