/- Runs of a tube: the reference's and the program's. -/
import Derived.Test.YtbiplciklmagoaaRunP
import Derived.Test.YtbiplciklmagoaaRackD
import Derived.Test.YtbiplciklmagoaaFloat
namespace Go.Proofs.Ytbiplciklmagoaa
set_option linter.unusedSimpArgs false
set_option linter.unusedVariables false
set_option maxRecDepth 20000
open Go.RowKit
theorem slP : SlOK Try.prog 38 51 2 16 := ⟨by kernel_rfl, by kernel_rfl, by kernel_rfl⟩
theorem pairS : (Try.prog.info? 51).map (·.size) = some 2 := by kernel_rfl
theorem pairA : aggB Try.prog 51 = true := by kernel_rfl
theorem arr_none (f : Nat → Int) : #[] = arr 0 f := by
  refine Array.ext_getElem? fun i => ?_
  rw [arr_get, if_neg (by omega)]; rfl
theorem Sl.made {w : World} {base : Nat} {e : TypeId} {s : Nat} {f : Nat → Int} (h : base ≤ w.heap.size) : Sl (w.alloc (.cells #[] e)) base e s (.slice (some ⟨w.heap.size, 0, none⟩) 0 0) 0 f :=
  .inr ⟨w.heap.size, 0, fun _ => 0, rfl, h, by rw [arr_none fun _ => 0, Nat.zero_mul]; exact heap_new rfl, Nat.le_refl _, Nat.zero_le _, fun j hj => by omega⟩
theorem Sl.nil {w : World} {base : Nat} {e : TypeId} {s : Nat} {f : Nat → Int} : Sl w base e s (.slice none 0 0) 0 f := .inl ⟨rfl, rfl⟩
theorem nlay_pos {g : Nat → Int} (h : tubeB g = true) : ∀ k, k < nlay g → 1 ≤ g k ∧ g k ≤ 5 := fun k hk => by
  have e := tubeB_layers g
  rw [h, Bool.and_eq_true, List.all_eq_true] at e
  have := e.1 k (List.mem_range.2 hk)
  simpa using this
set_option maxRecDepth 8000 in
theorem l2Runs_any (g : Nat → Int) (hg : tubeB g = true) (w : World) : Calls Try.prog 89 #[.agg (arr 4 g)] w (RetSl w 51 2 (rN g (nlay g)) (rF g (nlay g))) := by
  have h0 : (w.alloc (.cells (arr 4 g) 22)).heap[w.heap.size]? = some (.cells (arr 4 g) 22 (0, 0)) := heap_new rfl
  have h1 := row_alloc (x := .cells #[] 51) h0
  have hbel : Below w.heap.size w ((w.alloc (.cells (arr 4 g) 22)).alloc (.cells #[] 51)) := ((Below.refl _ _).alloc (by simp) _).alloc (by simp) _
  have hS : Sl ((w.alloc (.cells (arr 4 g) 22)).alloc (.cells #[] 51)) (w.heap.size + 1) 51 2 (.slice (some ⟨w.heap.size + 1, 0, none⟩) 0 0) (rN g 0) (rF g 0) := by
    have := Sl.made (w := w.alloc (.cells (arr 4 g) 22)) (base := w.heap.size + 1) (e := 51) (s := 2) (f := rF g 0) (by simp)
    simpa [rN] using this
  have hn4 := nlay_le g
  have HP : Hid _ := nlay_pos hg
  go_enter Try.func89, Try.ntmps89
  go_wp2_with fail
  go_loopw [3, 4] (fun out i wr => ∃ k : Nat, ∃ v : Value, k ≤ nlay g ∧ i = .int .i64 k ∧ out = v ∧ Sl wr (w.heap.size + 1) 51 2 v (rN g k) (rF g k) ∧ wr.heap[w.heap.size]? = some (.cells (arr 4 g) 22 (0, 0)) ∧ Below w.heap.size w wr) (fun _ i _ => 4 - (intOf i).toNat)
  case atStart => exact ⟨0, _, by omega, rfl, rfl, hS, h1, hbel⟩
  case round =>
    clear h0 h1 hbel hS
    obtain ⟨k, v, hk, rfl, rfl, hS, h1, hbel⟩ := hrel
    have hsz := row_lt h1
    by_cases hlt : k < nlay g
    · have hlt' : (k : Int) < (nlay g : Int) := by omega
      have hk4 : k < 4 := by omega
      have hk4i : (k : Int) < 4 := by omega
      by_cases hm : 0 < k ∧ g k = g (k - 1)
      · obtain ⟨hk0, he⟩ := hm
        have hkd : decide (0 < (k : Int)) = true := by simpa using hk0
        have hed : (g k == g (k - 1)) = true := by simpa using he
        obtain ⟨hn1, hf1⟩ := rN_yes hk0 he
        have hnp := rN_pos g k hk0
        have hnl := rN_le g k
        obtain ⟨m, hm⟩ : ∃ m, rN g k = m + 1 := ⟨rN g k - 1, by omega⟩
        have hbd := rF_bd g k m (by omega)
        have hm4 : m < 4 := by omega
        rw [hm] at hS hn1 hf1
        obtain ⟨q, cap, F, rfl, hq1, hq2, hq3, hq4, hq5⟩ := hS.blk (by omega)
        simp only [Nat.add_sub_cancel] at hf1
        have HF : Hid _ := hq5
        have HN : Hid _ := hn1
        have HFF : Hid _ := hf1
        have HM : Hid _ := hm
        have hv := hq5 (m * 2 + 1) (by omega)
        rw [← hv] at hbd
        clear hed
        have hed : (g k == g (k - 1)) = true := by simpa using he
        clear he hn1 hf1 hm hq5 hv hS hnp
        go_wp2_with first
          | (with_reducible refine wpList_loadW rfl _ _ rfl _ rfl h1 agg4 size4 ?_)
          | (go_at_call 79; (with_reducible refine (l2Many_ok g hg _).mono ?_); rintro e w1 ⟨rfl, hb1⟩; replace hbel := hbel.trans (hb1.mono hbel.size); replace h1 := row_keep hb1 h1; replace hq2 := row_keep hb1 hq2; clear hb1)
        have hw1 : IntKind.i64.wrap ((k : Int) - 1) = ((k - 1 : Nat) : Int) := wrapN (by omega) (by omega)
        have hk5 : ((k - 1 : Nat) : Int) < 4 := by omega
        have hk6 : k - 1 < 4 := by omega
        refine wp_region_held 12 (Cls w1 []) (by kernel_rfl) (by kernel_rfl) (Cls.zero (Below.refl _ _)) ?_; simp only [List.take_succ_cons, List.take_zero, List.drop_succ_cons, List.drop_zero]
        repeat (first
          | (with_reducible refine wpQuiet_loadI rfl _ _ rfl _ _ rfl (fun _ h => h.kp h1) aggI undI (by omega) ?_)
          | ((with_reducible refine wpQuiet_step (fun K hK => ?_)); go_simp; (first | (refine ⟨_, fun _ _ => rfl, hK _ ?_⟩) | (refine ⟨_, fun _ _ => ⟨rfl, rfl⟩, hK _ ?_⟩) | (refine hK _ ?_)); clear hK K))
        refine wpQuiet_nil ?_; intro wt hCt; replace hCt := hCt.2; replace hbel := hbel.trans (hCt.mono hbel.size); replace h1 := row_keep hCt h1; replace hq2 := row_keep hCt hq2; clear hCt
        clear hw1
        go_wp2_with fail
        have hmi : (m : Int) < (m : Int) + 1 := by omega
        have hw2 : IntKind.i64.wrap (m : Int) = (m : Int) := wrapN (by omega) (by omega)
        have hw3 : IntKind.i64.wrap (F (m * 2 + 1) + 1) = F (m * 2 + 1) + 1 := by clear hw2; exact IntWalk.i64_in _ ⟨by omega, by omega⟩
        refine wp_region_held 10 (Cls wt []) (by kernel_rfl) (by kernel_rfl) (Cls.zero (Below.refl _ _)) ?_; simp only [List.take_succ_cons, List.take_zero, List.drop_succ_cons, List.drop_zero]
        repeat (first
          | (with_reducible refine wpQuiet_loadI rfl _ _ rfl _ _ rfl (fun _ h => h.kp hq2) aggI undI (by omega) ?_)
          | ((with_reducible refine wpQuiet_step (fun K hK => ?_)); go_simp; (first | (refine ⟨_, fun _ _ => rfl, hK _ ?_⟩) | (refine ⟨_, fun _ _ => ⟨rfl, rfl⟩, hK _ ?_⟩) | (refine hK _ ?_)); clear hK K))
        refine wpQuiet_nil ?_; intro wt hCt; replace hCt := hCt.2; replace hbel := hbel.trans (hCt.mono hbel.size); replace h1 := row_keep hCt h1; replace hq2 := row_keep hCt hq2; clear hCt
        clear hw2 hw3
        go_wp2_with first
          | (with_reducible refine wpList_storeI rfl 3 _ _ rfl _ _ rfl rfl hq2 size1 (by omega) ?_)
        go_roundw
        case rel =>
          refine ⟨k + 1, _, by omega, by go_num, rfl, .inr ⟨q, cap, _, by rw [HN.out], hq1, setRow_heap _ _ _ _ _ _ hq2, by rw [HN.out]; exact hq3, hq4, fun j hj => ?_⟩, ?_, below_setRow2 hbel (by omega) _⟩
          · rw [HN.out] at hj
            rw [HFF.out]
            unfold upd
            split
            · rw [HF.out _ (by omega)]
            · exact HF.out j hj
          · rw [setRow_other _ _ _ _ (by omega), h1]
        case measure => simp [intOf]; omega
      · by_cases hk0 : 0 < k
        · have hkd : decide (0 < (k : Int)) = true := by simpa using hk0
          have hed : (g k == g (k - 1)) = false := by simpa using fun h => hm ⟨hk0, h⟩
          have HM : Hid _ := hm
          clear hm
          go_wp2_with first
            | (with_reducible refine wpList_loadW rfl _ _ rfl _ rfl h1 agg4 size4 ?_)
            | (go_at_call 79; (with_reducible refine (l2Many_ok g hg _).mono ?_); rintro e w1 ⟨rfl, hb1⟩; replace hbel := hbel.trans (hb1.mono hbel.size); replace h1 := row_keep hb1 h1; replace hS := hS.keep hb1; clear hb1)
          have hw1 : IntKind.i64.wrap ((k : Int) - 1) = ((k - 1 : Nat) : Int) := wrapN (by omega) (by omega)
          have hk5 : ((k - 1 : Nat) : Int) < 4 := by omega
          have hk6 : k - 1 < 4 := by omega
          refine wp_region_held 12 (Cls w1 []) (by kernel_rfl) (by kernel_rfl) (Cls.zero (Below.refl _ _)) ?_; simp only [List.take_succ_cons, List.take_zero, List.drop_succ_cons, List.drop_zero]
          repeat (first
            | (with_reducible refine wpQuiet_loadI rfl _ _ rfl _ _ rfl (fun _ h => h.kp h1) aggI undI (by omega) ?_)
            | ((with_reducible refine wpQuiet_step (fun K hK => ?_)); go_simp; (first | (refine ⟨_, fun _ _ => rfl, hK _ ?_⟩) | (refine ⟨_, fun _ _ => ⟨rfl, rfl⟩, hK _ ?_⟩) | (refine hK _ ?_)); clear hK K))
          have hm := HM.out
          clear HM hed
          refine wpQuiet_nil ?_; intro wt hCt; replace hCt := hCt.2; replace hbel := hbel.trans (hCt.mono hbel.size); replace h1 := row_keep hCt h1; replace hS := hS.keep hCt; clear hCt
          try clear hw1
          obtain ⟨hn1, hf1⟩ := rN_no hm
          have HN : Hid _ := hn1
          have HFF : Hid _ := hf1
          clear hn1 hf1 hm
          have hnl := rN_le g k
          have hB : (wt.alloc (.cells #[.int .i64 (g k), .int .i64 1] 51)).heap[wt.heap.size]? = some (.cells (arr 2 fun j => if j = 0 then g k else 1) 51 (0, 0)) := by rw [arr_two]; exact heap_new rfl
          have hsz2 := row_lt h1
          go_wp2_with first
            | (with_reducible refine wpList_loadI rfl _ _ rfl _ _ rfl h1 aggI undI (by omega) ?_)
            | ((with_reducible refine wpList_appendS slP (by omega) rfl _ _ rfl rfl (hS.keep ((Below.refl _ _).alloc (Nat.le_refl _) _)) rfl hB (by omega) (by omega) (by unfold maxLen; omega) (by omega) (by simp; omega) ?_); intro v2 w2 hS2 hb2)
          go_roundw
          case rel =>
            refine ⟨k + 1, v2, by omega, by go_num, rfl, ?_, row_kept hb2 (row_alloc h1) (by omega), hbel.trans (((Below.refl _ _).alloc (Nat.le_of_lt hsz2) _).trans (hb2.mono (by omega)))⟩
            rw [HN.out, HFF.out]
            exact hS2.congr rfl fun j hj => by simp only [Nat.zero_add]
          case measure => simp [intOf]; omega
        · have hkd : decide (0 < (k : Int)) = false := by simpa using hk0
          have HM : Hid _ := hm
          clear hm
          go_wp2_with first
            | (with_reducible refine wpList_loadW rfl _ _ rfl _ rfl h1 agg4 size4 ?_)
            | (go_at_call 79; (with_reducible refine (l2Many_ok g hg _).mono ?_); rintro e w1 ⟨rfl, hb1⟩; replace hbel := hbel.trans (hb1.mono hbel.size); replace h1 := row_keep hb1 h1; replace hS := hS.keep hb1; clear hb1)
          refine wp_region_held 12 (Cls w1 []) (by kernel_rfl) (by kernel_rfl) (Cls.zero (Below.refl _ _)) ?_; simp only [List.take_succ_cons, List.take_zero, List.drop_succ_cons, List.drop_zero]
          repeat (first
            | (with_reducible refine wpQuiet_loadI rfl _ _ rfl _ _ rfl (fun _ h => h.kp h1) aggI undI (by omega) ?_)
            | ((with_reducible refine wpQuiet_step (fun K hK => ?_)); go_simp; (first | (refine ⟨_, fun _ _ => rfl, hK _ ?_⟩) | (refine ⟨_, fun _ _ => ⟨rfl, rfl⟩, hK _ ?_⟩) | (refine hK _ ?_)); clear hK K))
          have hm := HM.out
          clear HM
          refine wpQuiet_nil ?_; intro wt hCt; replace hCt := hCt.2; replace hbel := hbel.trans (hCt.mono hbel.size); replace h1 := row_keep hCt h1; replace hS := hS.keep hCt; clear hCt
          try clear hw1
          obtain ⟨hn1, hf1⟩ := rN_no hm
          have HN : Hid _ := hn1
          have HFF : Hid _ := hf1
          clear hn1 hf1 hm
          have hnl := rN_le g k
          have hB : (wt.alloc (.cells #[.int .i64 (g k), .int .i64 1] 51)).heap[wt.heap.size]? = some (.cells (arr 2 fun j => if j = 0 then g k else 1) 51 (0, 0)) := by rw [arr_two]; exact heap_new rfl
          have hsz2 := row_lt h1
          go_wp2_with first
            | (with_reducible refine wpList_loadI rfl _ _ rfl _ _ rfl h1 aggI undI (by omega) ?_)
            | ((with_reducible refine wpList_appendS slP (by omega) rfl _ _ rfl rfl (hS.keep ((Below.refl _ _).alloc (Nat.le_refl _) _)) rfl hB (by omega) (by omega) (by unfold maxLen; omega) (by omega) (by simp; omega) ?_); intro v2 w2 hS2 hb2)
          go_roundw
          case rel =>
            refine ⟨k + 1, v2, by omega, by go_num, rfl, ?_, row_kept hb2 (row_alloc h1) (by omega), hbel.trans (((Below.refl _ _).alloc (Nat.le_of_lt hsz2) _).trans (hb2.mono (by omega)))⟩
            rw [HN.out, HFF.out]
            exact hS2.congr rfl fun j hj => by simp only [Nat.zero_add]
          case measure => simp [intOf]; omega
    · obtain rfl : k = nlay g := by omega
      go_wp2_with first
        | (with_reducible refine wpList_loadW rfl _ _ rfl _ rfl h1 agg4 size4 ?_)
        | (go_at_call 79; (with_reducible refine (l2Many_ok g hg _).mono ?_); rintro e w1 ⟨rfl, hb1⟩; replace hbel := hbel.trans (hb1.mono hbel.size); replace h1 := row_keep hb1 h1; replace hS := hS.keep hb1; clear hb1)
      go_ret
      exact ⟨_, rfl, hS.lower (by omega), hbel⟩
set_option maxRecDepth 8000 in
theorem runs_any (g : Nat → Int) (hg : tubeB g = true) (w : World) : Calls Try.prog 88 #[.agg (arr 4 g)] w (RetSl w 51 2 (rN g (nlay g)) (rF g (nlay g))) := by
  have h1 : (w.alloc (.cells (arr 4 g) 22)).heap[w.heap.size]? = some (.cells (arr 4 g) 22 (0, 0)) := heap_new rfl
  have hbel : Below w.heap.size w (w.alloc (.cells (arr 4 g) 22)) := (Below.refl _ _).alloc (by simp) _
  have hn4 := nlay_le g
  have hn1 : (0 : Int) ≤ (nlay g : Int) := by omega
  have hn2 : (nlay g : Int) ≤ 4 := by omega
  have HP : Hid _ := nlay_pos hg
  go_enter Try.func88, Try.ntmps88
  go_wp2_with first
    | (with_reducible refine wpList_loadW rfl _ _ rfl _ rfl h1 agg4 size4 ?_)
    | (go_at_call 48; (with_reducible refine (layers_any g _).mono ?_); rintro e w1 ⟨rfl, hb1⟩; replace hbel := hbel.trans (hb1.mono hbel.size); replace h1 := row_keep hb1 h1; clear hb1)
  go_loopw [3, 11] (fun out i wr => ∃ k : Nat, ∃ v : Value, k ≤ nlay g ∧ i = .int .i64 k ∧ out = v ∧ Sl wr (w.heap.size + 1) 51 2 v (rN g k) (rF g k) ∧ wr.heap[w.heap.size]? = some (.cells (arr 4 g) 22 (0, 0)) ∧ Below w.heap.size w wr) (fun _ i _ => 4 - (intOf i).toNat)
  case atStart => exact ⟨0, _, by omega, rfl, rfl, Sl.nil, h1, hbel⟩
  case round =>
    clear h1 hbel
    obtain ⟨k, v, hk, rfl, rfl, hS, h1, hbel⟩ := hrel
    have hsz := row_lt h1
    by_cases hlt : k < nlay g
    · have hlt' : (k : Int) < (nlay g : Int) := by omega
      have hk4 : k < 4 := by omega
      have hk4i : (k : Int) < 4 := by omega
      by_cases hm : 0 < k ∧ g k = g (k - 1)
      · obtain ⟨hk0, he⟩ := hm
        obtain ⟨hn1, hf1⟩ := rN_yes hk0 he
        have hnp := rN_pos g k hk0
        have hnl := rN_le g k
        obtain ⟨m, hm⟩ : ∃ m, rN g k = m + 1 := ⟨rN g k - 1, by omega⟩
        have hbd := rF_bd g k m (by omega)
        have hla := rF_last g k hk0
        have hm4 : m < 4 := by omega
        rw [hm] at hS hn1 hf1 hla
        obtain ⟨q, cap, F, rfl, hq1, hq2, hq3, hq4, hq5⟩ := hS.blk (by omega)
        simp only [Nat.add_sub_cancel] at hf1 hla
        have HF : Hid _ := hq5
        have HN : Hid _ := hn1
        have HFF : Hid _ := hf1
        have HM : Hid _ := hm
        have hv := hq5 (m * 2 + 1) (by omega)
        have hv0 := hq5 (m * 2) (by omega)
        rw [← hv] at hbd
        rw [hla, ← he] at hv0
        have hed : (F (m * 2) == g k) = true := by simpa using hv0
        have hm1 : decide (0 < (m : Int) + 1) = true := decide_eq_true (by omega)
        clear he hn1 hf1 hm hq5 hv hS hnp hla hv0
        go_wp2_with first
          | (with_reducible refine wpList_loadI rfl _ _ rfl _ _ rfl h1 aggI undI (by omega) ?_)
          | (with_reducible refine wpList_loadI rfl _ _ rfl _ _ rfl hq2 aggI undI (by omega) ?_)
        have hmi : (m : Int) < (m : Int) + 1 := by omega
        have hw2 : IntKind.i64.wrap (m : Int) = (m : Int) := wrapN (by omega) (by omega)
        have hw3 : IntKind.i64.wrap (F (m * 2 + 1) + 1) = F (m * 2 + 1) + 1 := by clear hw2; exact IntWalk.i64_in _ ⟨by omega, by omega⟩
        refine wp_region_held 9 (Cls wr []) (by kernel_rfl) (by kernel_rfl) (Cls.zero (Below.refl _ _)) ?_; simp only [List.take_succ_cons, List.take_zero, List.drop_succ_cons, List.drop_zero]
        repeat (first
          | (with_reducible refine wpQuiet_loadI rfl _ _ rfl _ _ rfl (fun _ h => h.kp hq2) aggI undI (by omega) ?_)
          | ((with_reducible refine wpQuiet_step (fun K hK => ?_)); go_simp; (first | (refine ⟨_, fun _ _ => rfl, hK _ ?_⟩) | (refine ⟨_, fun _ _ => ⟨rfl, rfl⟩, hK _ ?_⟩) | (refine hK _ ?_)); clear hK K))
        refine wpQuiet_nil ?_; intro wt hCt; replace hCt := hCt.2; replace hbel := hbel.trans (hCt.mono hbel.size); replace h1 := row_keep hCt h1; replace hq2 := row_keep hCt hq2; clear hCt
        clear hw2 hw3
        go_wp2_with first
          | (with_reducible refine wpList_storeI rfl 3 _ _ rfl _ _ rfl rfl hq2 size1 (by omega) ?_)
        go_roundw
        case rel =>
          refine ⟨k + 1, _, by omega, by go_num, rfl, .inr ⟨q, cap, _, by rw [HN.out], hq1, setRow_heap _ _ _ _ _ _ hq2, by rw [HN.out]; exact hq3, hq4, fun j hj => ?_⟩, ?_, below_setRow2 hbel (by omega) _⟩
          · rw [HN.out] at hj
            rw [HFF.out]
            unfold upd
            split
            · rw [HF.out _ (by omega)]
            · exact HF.out j hj
          · rw [setRow_other _ _ _ _ (by omega), h1]
        case measure => simp [intOf]; omega
      · by_cases hk0 : 0 < k
        · have hnp := rN_pos g k hk0
          have hnl := rN_le g k
          obtain ⟨m, hm2⟩ : ∃ m, rN g k = m + 1 := ⟨rN g k - 1, by omega⟩
          have hla := rF_last g k hk0
          have hm4 : m < 4 := by omega
          rw [hm2] at hS hla
          have hS0 := hS
          obtain ⟨q, cap, F, rfl, hq1, hq2, hq3, hq4, hq5⟩ := hS.blk (by omega)
          simp only [Nat.add_sub_cancel] at hla
          have hv0 := hq5 (m * 2) (by omega)
          rw [hla] at hv0
          have hed : (F (m * 2) == g k) = false := by simpa [hv0] using fun h => hm ⟨hk0, h.symm⟩
          have hm1 : decide (0 < (m : Int) + 1) = true := decide_eq_true (by omega)
          have HQ5 : Hid _ := hq5
          clear hq5 hla hv0
          have hB : (wr.alloc (.cells #[.int .i64 (g k), .int .i64 1] 51)).heap[wr.heap.size]? = some (.cells (arr 2 fun j => if j = 0 then g k else 1) 51 (0, 0)) := by rw [arr_two]; exact heap_new rfl
          have HM : Hid _ := hm
          have HM2 : Hid _ := hm2
          clear hm hm2
          go_wp2_with first
            | (with_reducible refine wpList_loadI rfl _ _ rfl _ _ rfl h1 aggI undI (by omega) ?_)
            | (with_reducible refine wpList_loadI rfl _ _ rfl _ _ rfl hq2 aggI undI (by omega) ?_)
            | ((with_reducible refine wpList_appendS slP (by omega) rfl _ _ rfl rfl (hS0.keep ((Below.refl _ _).alloc (Nat.le_refl _) _)) rfl hB (by omega) (by omega) (by unfold maxLen; omega) (by omega) (by simp; omega) ?_); intro v2 w2 hS2 hb2)
          go_roundw
          case rel =>
            obtain ⟨hn1, hf1⟩ := rN_no HM.out
            refine ⟨k + 1, v2, by omega, by go_num, rfl, ?_, row_kept hb2 (row_alloc h1) (by omega), hbel.trans (((Below.refl _ _).alloc (Nat.le_of_lt hsz) _).trans (hb2.mono (by omega)))⟩
            rw [hn1, hf1, HM2.out]
            exact hS2.congr rfl fun j hj => by simp only [Nat.zero_add]
          case measure => simp [intOf]; omega
        · obtain rfl : k = 0 := by omega
          have hB : (wr.alloc (.cells #[.int .i64 (g 0), .int .i64 1] 51)).heap[wr.heap.size]? = some (.cells (arr 2 fun j => if j = 0 then g 0 else 1) 51 (0, 0)) := by rw [arr_two]; exact heap_new rfl
          have HM : Hid _ := hm
          clear hm
          rw [show rN g 0 = 0 from rfl] at hS
          go_wp2_with first
            | (with_reducible refine wpList_loadI rfl _ _ rfl _ _ rfl h1 aggI undI (by omega) ?_)
            | (with_reducible refine wpList_lenS slP.ht rfl _ rfl rfl hS ?_)
            | ((with_reducible refine wpList_appendS slP (by omega) rfl _ _ rfl rfl (hS.keep ((Below.refl _ _).alloc (Nat.le_refl _) _)) rfl hB (by omega) (by omega) (by unfold maxLen; omega) (by omega) (by simp; omega) ?_); intro v2 w2 hS2 hb2)
          go_roundw
          case rel =>
            obtain ⟨hn1, hf1⟩ := rN_no HM.out
            refine ⟨1, v2, by omega, by go_num, rfl, ?_, row_kept hb2 (row_alloc h1) (by omega), hbel.trans (((Below.refl _ _).alloc (Nat.le_of_lt hsz) _).trans (hb2.mono (by omega)))⟩
            rw [hn1, hf1, show rN g 0 = 0 from rfl]
            exact hS2.congr rfl fun j hj => by simp only [Nat.zero_add]
          case measure => simp [intOf]
    · obtain rfl : k = nlay g := by omega
      go_wp2_with first
        | fail
      go_ret
      exact ⟨_, rfl, hS.lower (by omega), hbel⟩
end Go.Proofs.Ytbiplciklmagoaa
