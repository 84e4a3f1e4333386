/- The names behind, and the names behind names: the program's; the laws. -/
import Derived.Test.YtljajgaicdffkaaNb
import Derived.Test.YtljajgaicdffkaaIsO
import Derived.Test.YtljajgaicdffkaaFlo
namespace Go.Proofs.Ytljajgaicdffkaa
set_option linter.unusedSimpArgs false
set_option linter.unusedVariables false
set_option maxRecDepth 20000
open Go.RowKit
theorem implBack_any (p : Nat → Int) (w : World) : Calls Try.prog 20 #[.agg (arr 6 p)] w fun e w' => e = .returned (.tuple #[.agg (arr 6 (bnR p).1), .bool (bnR p).2]) ∧ Below w.heap.size w w' := by
  have h1 : ((w.alloc (.cells (arr 6 p) 22)).alloc (.cells (arr 6 fun _ => 0) 22)).heap[w.heap.size]? = some (.cells (arr 6 p) 22 (0, 0)) := by rw [heap_old (by simp), heap_new rfl]
  have h2 : ((w.alloc (.cells (arr 6 p) 22)).alloc (.cells (arr 6 fun _ => 0) 22)).heap[w.heap.size + 1]? = some (.cells (arr 6 fun _ => 0) 22 (0, 0)) := heap_new (by simp)
  have hbel : Below w.heap.size w ((w.alloc (.cells (arr 6 p) 22)).alloc (.cells (arr 6 fun _ => 0) 22)) := ((Below.refl _ _).alloc (by simp) _).alloc (by simp) _
  have tok_h4 : True := trivial
  have tok_r : True := trivial
  cases hf : (p 0 == 0) && pB p 6 with
  | false =>
    rw [show bnR p = (fun _ => 0, false) from if_neg (by simp [hf])]
    have HF : Hid _ := hf
    clear hf
    go_enter Try.func20, Try.ntmps20
    go_wp2_with first
      | (have _t := tok_r; (with_reducible refine wpList_allocA rfl 22 rfl 6 zeroO ?_; (try simp only [size_al])); clear _t tok_r)
      | (with_reducible refine wpList_build0 rfl 22 rfl 6 builtO ?_)
      | (with_reducible refine wpList_loadW rfl _ _ rfl _ rfl h1 aggO sizeO ?_)
      | (go_at_call 43; (with_reducible refine (isRenaming_any p _).mono ?_); rw [HF.out]; rintro e w1 ⟨rfl, hb1⟩; replace hbel := hbel.trans (hb1.mono hbel.size); replace h1 := row_keep hb1 h1; replace h2 := row_keep hb1 h2; clear hb1)
      | (with_reducible refine wpList_storeW rfl _ _ _ rfl _ rfl rfl h2 sizeO ?_)
    exact bodyPost_ret_by (results_ct _ _ _ _ _ _ _ rfl rfl (setRow_heap _ _ _ _ _ _ h2) aggO sizeO) rfl ⟨rfl, below_setRow2 hbel (by omega) _⟩
  | true =>
    rw [show bnR p = (bN p 6, true) from if_pos hf]
    have HF : Hid _ := hf
    have HB : Hid _ := (pB_iff 6).1 (by rw [Bool.and_eq_true] at hf; exact hf.2)
    clear hf
    go_enter Try.func20, Try.ntmps20
    go_wp2_with first
      | (have _t := tok_r; (with_reducible refine wpList_allocA rfl 22 rfl 6 zeroO ?_; (try simp only [size_al])); clear _t tok_r)
      | (have _t := tok_h4; with_reducible refine wpList_allocN rfl 22 rfl 6 zeroO ?_; intro Bh4 w1 hBh4 h4 hb1; have hWh4 := Nat.le_trans hbel.size hBh4; have hLh1h4 := Nat.lt_of_lt_of_le (row_lt h1) hBh4; have hLh2h4 := Nat.lt_of_lt_of_le (row_lt h2) hBh4; replace hbel := hbel.trans (hb1.mono hbel.size); replace h1 := row_keep hb1 h1; replace h2 := row_keep hb1 h2; clear hb1 _t tok_h4)
      | (with_reducible refine wpList_loadW rfl _ _ rfl _ rfl h1 aggO sizeO ?_)
      | (go_at_call 43; (with_reducible refine (isRenaming_any p _).mono ?_); rw [HF.out]; rintro e w1 ⟨rfl, hb1⟩; replace hbel := hbel.trans (hb1.mono hbel.size); replace h1 := row_keep hb1 h1; replace h2 := row_keep hb1 h2; clear hb1)
    go_loopw [12] (fun i wr => ∃ n : Nat, n ≤ 6 ∧ i = .int .i64 n ∧ wr.heap[w.heap.size]? = some (.cells (arr 6 p) 22 (0, 0)) ∧ wr.heap[w.heap.size + 1]? = some (.cells (arr 6 fun _ => 0) 22 (0, 0)) ∧ wr.heap[Bh4]? = some (.cells (arr 6 (bN p n)) 22 (0, 0)) ∧ Below w.heap.size w wr) (fun i _ => 6 - (intOf i).toNat)
    case atStart => exact ⟨0, by omega, rfl, h1, h2, h4, hbel⟩
    case round =>
      clear h1 h2 h4 hbel
      obtain ⟨n, hn, rfl, h1, h2, h4, hbel⟩ := hrel
      by_cases hlt : n < 6
      · have hlt' : (n : Int) < 6 := by omega
        obtain ⟨⟨pa, pb⟩, _⟩ := HB.out n hlt
        obtain ⟨c, hc⟩ : ∃ c : Nat, p n = c := ⟨(p n).toNat, by omega⟩
        have hc6 : c < 6 := by omega
        have hc6' : (c : Int) < 6 := by omega
        have HC : Hid _ := hc
        have HS : Hid (bN p (n + 1) = upd (bN p n) c n) := by show bN p (n + 1) = _; rw [bN, hc, Int.toNat_natCast]
        clear pa pb hc
        go_wp2_with first
          | ((with_reducible refine wpList_indexI rfl _ _ _ rfl rfl rfl _ Try.underlying22 aggI undI size1 (by omega) ?_); rw [HC.out])
          | (with_reducible refine wpList_storePI rfl 3 _ _ rfl _ _ rfl rfl h4 size1 (by omega) hbel (by omega) ?_; intro w1 g3 ho g4; replace h1 := (ho _ (by omega)).trans h1; replace h2 := (ho _ (by omega)).trans h2; clear h4 hbel; have h4 := g3; have hbel := g4; clear g3 g4 ho)
        go_roundw
        case rel => exact ⟨n + 1, by omega, by go_num, h1, h2, by rw [HS.out]; exact h4, hbel⟩
        case measure => simp [intOf]; omega
      · obtain rfl : n = 6 := by omega
        go_wp2_with first
          | (with_reducible refine wpList_loadW rfl _ _ rfl _ rfl h4 aggO sizeO ?_)
          | (with_reducible refine wpList_storeW rfl _ _ _ rfl _ rfl rfl h2 sizeO ?_)
        exact bodyPost_ret_by (results_ct _ _ _ _ _ _ _ rfl rfl (setRow_heap _ _ _ _ _ _ h2) aggO sizeO) rfl ⟨rfl, below_setRow2 hbel (by omega) _⟩
set_option linter.unusedVariables false in
theorem FnExactBackNames_walk (x0 : Nat → Int) (hx0 : ∀ j, I64 (x0 j)) (w : World) : Calls Try.prog 5 #[.agg (arr 6 x0)] w fun e w' => e = .returned (.bool true) ∧ Below w.heap.size w w' := by
  have hr0 : (w.alloc (.cells (arr 6 x0) 22)).heap[w.heap.size]? = some (.cells (arr 6 x0) 22 (0, 0)) := by rw [heap_new (by simp)]
  have hbel : Below w.heap.size w (w.alloc (.cells (arr 6 x0) 22)) := ((Below.refl _ _).alloc (by simp) _)
  have tok_hA0 : True := trivial
  have tok_hB0 : True := trivial
  go_enter Try.func5, Try.ntmps5
  go_wp2_with first
    | (with_reducible refine wpList_loadW rfl _ _ rfl _ rfl hr0 agg6 size6 ?_)
    | (go_at_call 15; (with_reducible refine (toIntA6_any _ _).mono ?_); (rintro e w1 ⟨rfl, hb1⟩; replace hbel := hbel.trans (hb1.mono hbel.size); replace hr0 := row_keep hb1 hr0; (try replace hA0 := row_keep hb1 hA0); (try replace hB0 := row_keep hb1 hB0); clear hb1))
    | (go_at_call 19; (with_reducible refine (specBack_any _ _).mono ?_); (rintro e w1 ⟨rfl, hb1⟩; replace hbel := hbel.trans (hb1.mono hbel.size); replace hr0 := row_keep hb1 hr0; (try replace hA0 := row_keep hb1 hA0); (try replace hB0 := row_keep hb1 hB0); clear hb1))
    | (go_at_call 20; (with_reducible refine (implBack_any _ _).mono ?_); (rintro e w1 ⟨rfl, hb1⟩; replace hbel := hbel.trans (hb1.mono hbel.size); replace hr0 := row_keep hb1 hr0; (try replace hA0 := row_keep hb1 hA0); (try replace hB0 := row_keep hb1 hB0); clear hb1))
    | (with_reducible refine wpList_allocA rfl 22 rfl 6 zero6 ?_; (try simp only [size_al]))
    | (go_at_call 21; (with_reducible refine (eqIntA6_same _ _).mono ?_); (rintro e w1 ⟨rfl, hb1⟩; replace hbel := hbel.trans (hb1.mono hbel.size); replace hr0 := row_keep hb1 hr0; (try replace hA0 := row_keep hb1 hA0); (try replace hB0 := row_keep hb1 hB0); clear hb1))
    | (have _t := tok_hA0; with_reducible refine wpList_storeN rfl _ _ _ rfl rfl rfl size6 ?_; intro w1 hA0 hb1; replace hbel := hbel.trans (hb1.mono hbel.size); replace hr0 := row_keep hb1 hr0; clear hb1 _t tok_hA0)
    | (with_reducible refine wpList_loadWG rfl _ _ rfl _ rfl hA0 agg6 size6 ?_)
    | (have _t := tok_hB0; with_reducible refine wpList_storeN rfl _ _ _ rfl rfl rfl size6 ?_; intro w1 hB0 hb1; replace hbel := hbel.trans (hb1.mono hbel.size); replace hr0 := row_keep hb1 hr0; replace hA0 := row_keep hb1 hA0; clear hb1 _t tok_hB0)
    | (with_reducible refine wpList_loadWG rfl _ _ rfl _ rfl hB0 agg6 size6 ?_)
  go_ret
  exact ⟨rfl, hbel⟩
theorem implNb_any (p g : Nat → Int) (w : World) : Calls Try.prog 23 #[.agg (arr 6 p), .agg (arr 6 g)] w fun e w' => e = .returned (.tuple #[.agg (arr 6 (nbR p g).1), .bool (nbR p g).2]) ∧ Below w.heap.size w w' := by
  have h1 : (((w.alloc (.cells (arr 6 p) 22)).alloc (.cells (arr 6 g) 22)).alloc (.cells (arr 6 fun _ => 0) 22)).heap[w.heap.size]? = some (.cells (arr 6 p) 22 (0, 0)) := by rw [heap_old (by simp <;> omega), heap_old (by simp), heap_new rfl]
  have h3 : (((w.alloc (.cells (arr 6 p) 22)).alloc (.cells (arr 6 g) 22)).alloc (.cells (arr 6 fun _ => 0) 22)).heap[w.heap.size + 1]? = some (.cells (arr 6 g) 22 (0, 0)) := by rw [heap_old (by simp), heap_new (by simp)]
  have h2 : (((w.alloc (.cells (arr 6 p) 22)).alloc (.cells (arr 6 g) 22)).alloc (.cells (arr 6 fun _ => 0) 22)).heap[w.heap.size + 1 + 1]? = some (.cells (arr 6 fun _ => 0) 22 (0, 0)) := heap_new (by simp)
  have hbel : Below w.heap.size w (((w.alloc (.cells (arr 6 p) 22)).alloc (.cells (arr 6 g) 22)).alloc (.cells (arr 6 fun _ => 0) 22)) := (((Below.refl _ _).alloc (by simp) _).alloc (by simp) _).alloc (by simp <;> omega) _
  have tok_h4 : True := trivial
  have tok_r : True := trivial
  cases hf : (p 0 == 0) && pB p 6 with
  | false =>
    rw [show nbR p g = (fun _ => 0, false) from if_neg (by simp [hf])]
    have HG : Hid (1 = 1) := rfl
    have HF : Hid _ := hf
    clear hf
    go_enter Try.func23, Try.ntmps23
    go_wp2_with first
      | (have _t := tok_r; (with_reducible refine wpList_allocA rfl 22 rfl 6 zeroO ?_; (try simp only [size_al])); clear _t tok_r)
      | (with_reducible refine wpList_build0 rfl 22 rfl 6 builtO ?_)
      | (with_reducible refine wpList_loadW rfl _ _ rfl _ rfl h1 aggO sizeO ?_)
      | (with_reducible refine wpList_loadWG rfl _ _ rfl _ rfl h3 aggO sizeO ?_)
      | (go_at_call 43; (with_reducible refine (isRenaming_any p _).mono ?_); rw [HF.out]; rintro e w1 ⟨rfl, hb1⟩; replace hbel := hbel.trans (hb1.mono hbel.size); replace h1 := row_keep hb1 h1; replace h2 := row_keep hb1 h2; replace h3 := row_keep hb1 h3; clear hb1)
      | (go_at_call 43; (with_reducible refine (isRenaming_any g _).mono ?_); rw [HG.out]; rintro e w1 ⟨rfl, hb1⟩; replace hbel := hbel.trans (hb1.mono hbel.size); replace h1 := row_keep hb1 h1; replace h2 := row_keep hb1 h2; replace h3 := row_keep hb1 h3; clear hb1)
      | (with_reducible refine wpList_storeW rfl _ _ _ rfl _ rfl rfl h2 sizeO ?_)
    exact bodyPost_ret_by (results_ct _ _ _ _ _ _ _ rfl rfl (setRow_heap _ _ _ _ _ _ h2) aggO sizeO) rfl ⟨rfl, below_setRow2 hbel (by omega) _⟩
  | true =>
    cases hg : (g 0 == 0) && pB g 6 with
    | false =>
      rw [show nbR p g = (fun _ => 0, false) from if_neg (by simp [hg])]
      have HG : Hid _ := hg
      clear hg
      have HF : Hid _ := hf
      clear hf
      go_enter Try.func23, Try.ntmps23
      go_wp2_with first
        | (have _t := tok_r; (with_reducible refine wpList_allocA rfl 22 rfl 6 zeroO ?_; (try simp only [size_al])); clear _t tok_r)
        | (with_reducible refine wpList_build0 rfl 22 rfl 6 builtO ?_)
        | (with_reducible refine wpList_loadW rfl _ _ rfl _ rfl h1 aggO sizeO ?_)
        | (with_reducible refine wpList_loadWG rfl _ _ rfl _ rfl h3 aggO sizeO ?_)
        | (go_at_call 43; (with_reducible refine (isRenaming_any p _).mono ?_); rw [HF.out]; rintro e w1 ⟨rfl, hb1⟩; replace hbel := hbel.trans (hb1.mono hbel.size); replace h1 := row_keep hb1 h1; replace h2 := row_keep hb1 h2; replace h3 := row_keep hb1 h3; clear hb1)
        | (go_at_call 43; (with_reducible refine (isRenaming_any g _).mono ?_); rw [HG.out]; rintro e w1 ⟨rfl, hb1⟩; replace hbel := hbel.trans (hb1.mono hbel.size); replace h1 := row_keep hb1 h1; replace h2 := row_keep hb1 h2; replace h3 := row_keep hb1 h3; clear hb1)
        | (with_reducible refine wpList_storeW rfl _ _ _ rfl _ rfl rfl h2 sizeO ?_)
      exact bodyPost_ret_by (results_ct _ _ _ _ _ _ _ rfl rfl (setRow_heap _ _ _ _ _ _ h2) aggO sizeO) rfl ⟨rfl, below_setRow2 hbel (by omega) _⟩
    | true =>
      rw [show nbR p g = (nN p g 6, true) from if_pos ⟨hf, hg⟩]
      have HG : Hid _ := hg
      clear hg
      have HF : Hid _ := hf
      have HB : Hid _ := (pB_iff 6).1 (by rw [Bool.and_eq_true] at hf; exact hf.2)
      clear hf
      go_enter Try.func23, Try.ntmps23
      go_wp2_with first
        | (have _t := tok_r; (with_reducible refine wpList_allocA rfl 22 rfl 6 zeroO ?_; (try simp only [size_al])); clear _t tok_r)
        | (have _t := tok_h4; with_reducible refine wpList_allocN rfl 22 rfl 6 zeroO ?_; intro Bh4 w1 hBh4 h4 hb1; have hWh4 := Nat.le_trans hbel.size hBh4; have hLh1h4 := Nat.lt_of_lt_of_le (row_lt h1) hBh4; have hLh2h4 := Nat.lt_of_lt_of_le (row_lt h2) hBh4; have hLh3h4 := Nat.lt_of_lt_of_le (row_lt h3) hBh4; replace hbel := hbel.trans (hb1.mono hbel.size); replace h1 := row_keep hb1 h1; replace h2 := row_keep hb1 h2; replace h3 := row_keep hb1 h3; clear hb1 _t tok_h4)
        | (with_reducible refine wpList_loadW rfl _ _ rfl _ rfl h1 aggO sizeO ?_)
        | (with_reducible refine wpList_loadWG rfl _ _ rfl _ rfl h3 aggO sizeO ?_)
        | (go_at_call 43; (with_reducible refine (isRenaming_any p _).mono ?_); rw [HF.out]; rintro e w1 ⟨rfl, hb1⟩; replace hbel := hbel.trans (hb1.mono hbel.size); replace h1 := row_keep hb1 h1; replace h2 := row_keep hb1 h2; replace h3 := row_keep hb1 h3; (try replace h4 := row_keep hb1 h4); clear hb1)
        | (go_at_call 43; (with_reducible refine (isRenaming_any g _).mono ?_); rw [HG.out]; rintro e w1 ⟨rfl, hb1⟩; replace hbel := hbel.trans (hb1.mono hbel.size); replace h1 := row_keep hb1 h1; replace h2 := row_keep hb1 h2; replace h3 := row_keep hb1 h3; (try replace h4 := row_keep hb1 h4); clear hb1)
      rw [nN_start p g] at h4
      go_loopw [19] (fun i wr => ∃ n : Nat, n ≤ 6 ∧ i = .int .i64 n ∧ wr.heap[w.heap.size]? = some (.cells (arr 6 p) 22 (0, 0)) ∧ wr.heap[w.heap.size + 1]? = some (.cells (arr 6 g) 22 (0, 0)) ∧ wr.heap[w.heap.size + 1 + 1]? = some (.cells (arr 6 fun _ => 0) 22 (0, 0)) ∧ wr.heap[Bh4]? = some (.cells (arr 6 (nN p g n)) 22 (0, 0)) ∧ Below w.heap.size w wr) (fun i _ => 6 - (intOf i).toNat)
      case atStart => exact ⟨0, by omega, rfl, h1, h3, h2, h4, hbel⟩
      case round =>
        clear h1 h2 h3 h4 hbel
        obtain ⟨n, hn, rfl, h1, h3, h2, h4, hbel⟩ := hrel
        by_cases hlt : n < 6
        · have hlt' : (n : Int) < 6 := by omega
          obtain ⟨⟨pa, pb⟩, _⟩ := HB.out n hlt
          obtain ⟨c, hc⟩ : ∃ c : Nat, p n = c := ⟨(p n).toNat, by omega⟩
          have hc6 : c < 6 := by omega
          have hc6' : (c : Int) < 6 := by omega
          have HC : Hid _ := hc
          clear pa pb hc
          go_wp2_with first
            | ((with_reducible refine wpList_indexI rfl _ _ _ rfl rfl rfl _ Try.underlying22 aggI undI size1 (by omega) ?_); rw [HC.out])
            | (with_reducible refine wpList_loadI rfl _ _ rfl _ _ rfl h3 aggI undI (by omega) ?_)
            | (with_reducible refine wpList_storePI rfl 3 _ _ rfl _ _ rfl rfl h4 size1 (by omega) hbel (by omega) ?_; intro w1 g3 ho g4; replace h1 := (ho _ (by omega)).trans h1; replace h2 := (ho _ (by omega)).trans h2; replace h3 := (ho _ (by omega)).trans h3; clear h4 hbel; have h4 := g3; have hbel := g4; clear g3 g4 ho)
          rw [nN_step p g HC.out] at h4
          go_roundw
          case rel => exact ⟨n + 1, by omega, by go_num, h1, h3, h2, h4, hbel⟩
          case measure => simp [intOf]; omega
        · obtain rfl : n = 6 := by omega
          go_wp2_with first
            | (with_reducible refine wpList_loadW rfl _ _ rfl _ rfl h4 aggO sizeO ?_)
            | (with_reducible refine wpList_storeW rfl _ _ _ rfl _ rfl rfl h2 sizeO ?_)
          exact bodyPost_ret_by (results_ct _ _ _ _ _ _ _ rfl rfl (setRow_heap _ _ _ _ _ _ h2) aggO sizeO) rfl ⟨rfl, below_setRow2 hbel (by omega) _⟩
set_option linter.unusedVariables false in
set_option maxHeartbeats 1000000 in
theorem FnExactNamesBehind_walk (x0 : Nat → Int) (hx0 : ∀ j, I64 (x0 j)) (x1 : Nat → Int) (hx1 : ∀ j, I64 (x1 j)) (w : World) : Calls Try.prog 6 #[.agg (arr 6 x0), .agg (arr 6 x1)] w fun e w' => e = .returned (.bool true) ∧ Below w.heap.size w w' := by
  have hr0 : ((w.alloc (.cells (arr 6 x0) 22)).alloc (.cells (arr 6 x1) 22)).heap[w.heap.size]? = some (.cells (arr 6 x0) 22 (0, 0)) := by rw [heap_old (by simp <;> omega), heap_new (by simp)]
  have hr1 : ((w.alloc (.cells (arr 6 x0) 22)).alloc (.cells (arr 6 x1) 22)).heap[w.heap.size + 1]? = some (.cells (arr 6 x1) 22 (0, 0)) := by rw [heap_new (by simp)]
  have hbel : Below w.heap.size w ((w.alloc (.cells (arr 6 x0) 22)).alloc (.cells (arr 6 x1) 22)) := (((Below.refl _ _).alloc (by simp) _).alloc (by simp) _)
  go_enter Try.func6, Try.ntmps6
  go_wp2_with fail
  obtain ⟨wm, hwm⟩ : ∃ wm : World, wm = ((w.alloc (.cells (arr 6 x0) 22)).alloc (.cells (arr 6 x1) 22)) := ⟨_, rfl⟩
  rw [← hwm] at hr0 hr1 hbel ⊢
  clear hwm
  have hLhr0hA := row_lt hr0
  have hLhr1hA := row_lt hr1
  refine wp_region_flo 8 2 [7] _ _ 22 6 zero6 _ rfl rfl (by kernel_rfl) (by kernel_rfl) (Cls.two hr0 hr1 (Below.refl _ _)) ?_; simp only [List.take_succ_cons, List.take_zero, List.drop_succ_cons, List.drop_zero]
  repeat (first
    | (with_reducible refine wpR_loadW rfl _ _ rfl _ rfl (fun _ h => h.r1) agg6 size6 ?_)
    | (with_reducible refine wpR_loadW rfl _ _ rfl _ rfl (fun _ h => h.r2) agg6 size6 ?_)
    | ((with_reducible refine wpR_callE rfl 15 _ _ rfl (.agg (arr 6 x0)) (#[.agg (arr 6 x0)]) rfl ?_ ?_ ?_); (exact enters_of Try.func15 (by kernel_rfl) rfl); (intro w' h'; with_reducible exact toIntA6_any x0 w'))
    | ((with_reducible refine wpR_callE rfl 15 _ _ rfl (.agg (arr 6 x1)) (#[.agg (arr 6 x1)]) rfl ?_ ?_ ?_); (exact enters_of Try.func15 (by kernel_rfl) rfl); (intro w' h'; with_reducible exact toIntA6_any x1 w'))
    | ((with_reducible refine wpR_callE rfl 22 _ _ rfl (.tuple #[.agg (arr 6 (nbR x0 x1).1), .bool (nbR x0 x1).2]) (#[.agg (arr 6 x0), .agg (arr 6 x1)]) rfl ?_ ?_ ?_); (exact enters_of Try.func22 (by kernel_rfl) rfl); (intro w' h'; with_reducible exact specNb_any x0 x1 w'))
    | ((with_reducible refine wpR_step (fun K hK => ?_)); go_simp; (first | (refine ⟨_, fun _ _ => rfl, hK _ ?_⟩) | (refine hK _ ?_)); clear hK K))
  refine wpR_nil ?_
  intro BhA wt hWhA hCt hA
  replace hbel := hbel.trans (hCt.2.mono hbel.size)
  replace hr0 := hCt.r1
  replace hr1 := hCt.r2
  clear hCt
  go_wp2_with first
    | (with_reducible refine wpList_storeWN rfl _ _ _ rfl _ rfl rfl hA size6 hbel (by have := hbel.size; omega) ?_; intro w1 g3 ho g4; replace hr0 := (ho _ (by omega)).trans hr0; replace hr1 := (ho _ (by omega)).trans hr1; clear hbel hA; have hA := g3; have hbel := g4; clear g3 g4 ho)
  refine QN.intro ?_
  go_wp2_with first
    | fail
  have hLhr0hB := row_lt hr0
  have hLhr1hB := row_lt hr1
  have hLhAhB := row_lt hA
  refine wp_region_flo 8 2 [7] _ _ 22 6 zero6 _ rfl rfl (by kernel_rfl) (by kernel_rfl) (Cls.three hr0 hr1 hA (Below.refl _ _)) ?_; simp only [List.take_succ_cons, List.take_zero, List.drop_succ_cons, List.drop_zero]
  repeat (first
    | (with_reducible refine wpR_loadW rfl _ _ rfl _ rfl (fun _ h => h.r1) agg6 size6 ?_)
    | (with_reducible refine wpR_loadW rfl _ _ rfl _ rfl (fun _ h => h.r2) agg6 size6 ?_)
    | ((with_reducible refine wpR_callE rfl 15 _ _ rfl (.agg (arr 6 x0)) (#[.agg (arr 6 x0)]) rfl ?_ ?_ ?_); (exact enters_of Try.func15 (by kernel_rfl) rfl); (intro w' h'; with_reducible exact toIntA6_any x0 w'))
    | ((with_reducible refine wpR_callE rfl 15 _ _ rfl (.agg (arr 6 x1)) (#[.agg (arr 6 x1)]) rfl ?_ ?_ ?_); (exact enters_of Try.func15 (by kernel_rfl) rfl); (intro w' h'; with_reducible exact toIntA6_any x1 w'))
    | ((with_reducible refine wpR_callE rfl 23 _ _ rfl (.tuple #[.agg (arr 6 (nbR x0 x1).1), .bool (nbR x0 x1).2]) (#[.agg (arr 6 x0), .agg (arr 6 x1)]) rfl ?_ ?_ ?_); (exact enters_of Try.func23 (by kernel_rfl) rfl); (intro w' h'; with_reducible exact implNb_any x0 x1 w'))
    | ((with_reducible refine wpR_step (fun K hK => ?_)); go_simp; (first | (refine ⟨_, fun _ _ => rfl, hK _ ?_⟩) | (refine hK _ ?_)); clear hK K))
  refine wpR_nil ?_
  intro BhB wt hWhB hCt hB
  replace hbel := hbel.trans (hCt.2.mono hbel.size)
  replace hr0 := hCt.r1
  replace hr1 := hCt.r2
  replace hA := hCt.r3
  clear hCt
  go_wp2_with first
    | (with_reducible refine wpList_storeWN rfl _ _ _ rfl _ rfl rfl hB size6 hbel (by have := hbel.size; omega) ?_; intro w2 g3 ho g4; replace hr0 := (ho _ (by omega)).trans hr0; replace hr1 := (ho _ (by omega)).trans hr1; replace hA := (ho _ (by omega)).trans hA; clear hbel hB; have hB := g3; have hbel := g4; clear g3 g4 ho)
  refine QN.intro ?_
  go_wp2_with first
    | (with_reducible refine wpList_loadW rfl _ _ rfl _ rfl hA agg6 size6 ?_)
    | (with_reducible refine wpList_loadW rfl _ _ rfl _ rfl hB agg6 size6 ?_)
    | (go_at_call 21; (with_reducible refine (eqIntA6_same _ _).mono ?_); (rintro e w3 ⟨rfl, hb1⟩; replace hbel := hbel.trans (hb1.mono hbel.size); clear hb1))
  go_ret
  exact ⟨rfl, hbel⟩
end Go.Proofs.Ytljajgaicdffkaa
