/- FirstCandidate and CandidateAt: the program's and the reference's, and the laws. -/
import Derived.Test.YtbiplciklmagoaaMade
namespace Go.Proofs.Ytbiplciklmagoaa
set_option linter.unusedSimpArgs false
set_option linter.unusedVariables false
set_option maxRecDepth 20000
open Go.RowKit
noncomputable def caR (v : Nat → Int) (k : Int) : (Nat → Int) × Bool := if viewB v = true ∧ (0 ≤ k ∧ k ≤ (mul (lfN v) 6 : Nat) - 1) then (candR v k.toNat, true) else (fun _ => 0, false)
theorem caR_bad {v : Nat → Int} {k : Int} (h : ¬ (viewB v = true ∧ (0 ≤ k ∧ k ≤ (mul (lfN v) 6 : Nat) - 1))) : caR v k = (fun _ => 0, false) := if_neg h
theorem caR_ok {v : Nat → Int} {k : Int} (h : viewB v = true ∧ (0 ≤ k ∧ k ≤ (mul (lfN v) 6 : Nat) - 1)) : caR v k = (candR v k.toNat, true) := if_pos h
theorem wA_lft {v : Nat → Int} (hx : ∀ j, I64 (v j)) (h : viewB v = true) : wA (lft v 6) 6 = (mul (lfN v) 6 : Nat) := by
  have := candF_mul hx h
  unfold candF at this
  rw [if_pos h] at this
  exact (Prod.mk.inj this).1
theorem specCa_any (v : Nat → Int) (hx : ∀ j, I64 (v j)) (k : Int) (w : World) : Calls Try.prog 32 #[.agg (arr 18 v), .int .i64 k] w fun e w' => e = .returned (.tuple #[.agg (arr 24 (caR v k).1), .bool (caR v k).2]) ∧ Below w.heap.size w w' := by
  have h1 : ((w.alloc (.cells (arr 18 v) 48)).alloc (.cells (arr 24 fun _ => 0) 28)).heap[w.heap.size]? = some (.cells (arr 18 v) 48 (0, 0)) := by rw [heap_old (by simp), heap_new rfl]
  have h2 : ((w.alloc (.cells (arr 18 v) 48)).alloc (.cells (arr 24 fun _ => 0) 28)).heap[w.heap.size + 1]? = some (.cells (arr 24 fun _ => 0) 28 (0, 0)) := heap_new (by simp)
  have hbel : Below w.heap.size w ((w.alloc (.cells (arr 18 v) 48)).alloc (.cells (arr 24 fun _ => 0) 28)) := ((Below.refl _ _).alloc (by simp) _).alloc (by simp) _
  cases hf : viewB v with
  | false =>
    rw [caR_bad (by simp [hf])]
    have HF : Hid _ := hf
    have HC : Hid _ := show candF v = (0, false) from by unfold candF; rw [if_neg (by simp [hf])]
    have HB : Hid (1 = 1) := rfl
    clear hf
    go_enter Try.func32, Try.ntmps32
    go_wp2_with first
      | (with_reducible refine wpList_allocA rfl 28 rfl 24 zero24r ?_; (try simp only [size_al]))
      | (with_reducible refine wpList_loadW rfl _ _ rfl _ rfl h1 agg18r size18r ?_)
      | (with_reducible refine wpList_build0 rfl 28 rfl 24 zbuild24 ?_)
      | (with_reducible refine wpList_storeW rfl _ _ _ rfl _ rfl rfl h2 size24r ?_)
      | (go_at_call 72; (with_reducible refine (specCand_any v hx _).mono ?_); rw [HC.out]; rintro e w1 ⟨rfl, hb1⟩; replace hbel := hbel.trans (hb1.mono hbel.size); replace h1 := row_keep hb1 h1; replace h2 := row_keep hb1 h2; clear hb1)
      | (go_at_call 73; (with_reducible refine (l1In_any _ _ _ _).mono ?_); rw [HB.out]; rintro e w' ⟨rfl, rfl⟩)
      | (go_at_call 61; (with_reducible refine (l7Made_any v hx HF.out q HQ.out _).mono ?_); rintro e w1 ⟨rfl, hb1⟩; replace hbel := hbel.trans (hb1.mono hbel.size); replace h1 := row_keep hb1 h1; replace h2 := row_keep hb1 h2; clear hb1)
    exact bodyPost_ret_by (results_ct _ _ _ _ _ _ _ rfl rfl (setRow_heap _ _ _ _ _ _ h2) agg24r size24r) rfl ⟨rfl, below_setRow2 hbel (by omega) _⟩
  | true =>
    have HF : Hid _ := hf
    have HV : Hid (∀ i, i < 6 → vok v i) := (viewB_iff.1 hf).1
    have HS : Hid _ := lft_small hx hf
    have HW : Hid _ := wA_lft hx hf
    have HC : Hid _ := candF_mul hx hf
    obtain ⟨W, hW⟩ : ∃ W, mul (lfN v) 6 = W := ⟨_, rfl⟩
    have hWb : W ≤ 101559956668416 := by
      have e := lfN_lft hx hf
      have := mul_small (l := lfN v) (by rw [e.2.2.1]; exact e.2.2.2)
      omega
    have hW0 : 0 < W := by have := mul_pos (lfN v) 6; omega
    rw [hW] at HW HC
    by_cases hk : 0 ≤ k ∧ k ≤ (W : Int) - 1
    · rw [caR_ok (by rw [hW]; exact ⟨hf, hk⟩)]
      have HB : Hid _ := show decide (0 ≤ k ∧ k ≤ (W : Int) - 1) = true from by simpa using hk
      obtain ⟨q, rfl⟩ : ∃ q : Nat, k = q := ⟨k.toNat, by omega⟩
      simp only [Int.toNat_natCast]
      have hqW : q < mul (lfN v) 6 := by omega
      have HQ : Hid _ := hqW
      clear hf hk hW hqW
      go_enter Try.func32, Try.ntmps32
      go_wp2_with first
        | (with_reducible refine wpList_allocA rfl 28 rfl 24 zero24r ?_; (try simp only [size_al]))
        | (with_reducible refine wpList_loadW rfl _ _ rfl _ rfl h1 agg18r size18r ?_)
        | (with_reducible refine wpList_build0 rfl 28 rfl 24 zbuild24 ?_)
        | (with_reducible refine wpList_storeW rfl _ _ _ rfl _ rfl rfl h2 size24r ?_)
        | (go_at_call 72; (with_reducible refine (specCand_any v hx _).mono ?_); rw [HC.out]; rintro e w1 ⟨rfl, hb1⟩; replace hbel := hbel.trans (hb1.mono hbel.size); replace h1 := row_keep hb1 h1; replace h2 := row_keep hb1 h2; clear hb1)
        | (go_at_call 73; (with_reducible refine (l1In_any _ _ _ _).mono ?_); rw [HB.out]; rintro e w' ⟨rfl, rfl⟩)
        | (go_at_call 61; (with_reducible refine (l7Made_any v hx HF.out q HQ.out _).mono ?_); rintro e w1 ⟨rfl, hb1⟩; replace hbel := hbel.trans (hb1.mono hbel.size); replace h1 := row_keep hb1 h1; replace h2 := row_keep hb1 h2; clear hb1)
      exact bodyPost_ret_by (results_ct _ _ _ _ _ _ _ rfl rfl (setRow_heap _ _ _ _ _ _ h2) agg24r size24r) rfl ⟨rfl, below_setRow2 hbel (by omega) _⟩
    · rw [caR_bad (by rw [hW]; simp only [not_and]; intro _ h; exact fun h2 => hk ⟨h, h2⟩)]
      have HB : Hid _ := show decide (0 ≤ k ∧ k ≤ (W : Int) - 1) = false from by simpa using hk
      clear hf hk hW
      go_enter Try.func32, Try.ntmps32
      go_wp2_with first
        | (with_reducible refine wpList_allocA rfl 28 rfl 24 zero24r ?_; (try simp only [size_al]))
        | (with_reducible refine wpList_loadW rfl _ _ rfl _ rfl h1 agg18r size18r ?_)
        | (with_reducible refine wpList_build0 rfl 28 rfl 24 zbuild24 ?_)
        | (with_reducible refine wpList_storeW rfl _ _ _ rfl _ rfl rfl h2 size24r ?_)
        | (go_at_call 72; (with_reducible refine (specCand_any v hx _).mono ?_); rw [HC.out]; rintro e w1 ⟨rfl, hb1⟩; replace hbel := hbel.trans (hb1.mono hbel.size); replace h1 := row_keep hb1 h1; replace h2 := row_keep hb1 h2; clear hb1)
        | (go_at_call 73; (with_reducible refine (l1In_any _ _ _ _).mono ?_); rw [HB.out]; rintro e w' ⟨rfl, rfl⟩)
        | (go_at_call 61; (with_reducible refine (l7Made_any v hx HF.out q HQ.out _).mono ?_); rintro e w1 ⟨rfl, hb1⟩; replace hbel := hbel.trans (hb1.mono hbel.size); replace h1 := row_keep hb1 h1; replace h2 := row_keep hb1 h2; clear hb1)
      exact bodyPost_ret_by (results_ct _ _ _ _ _ _ _ rfl rfl (setRow_heap _ _ _ _ _ _ h2) agg24r size24r) rfl ⟨rfl, below_setRow2 hbel (by omega) _⟩
theorem implCa_any (v : Nat → Int) (hx : ∀ j, I64 (v j)) (k : Int) (w : World) : Calls Try.prog 33 #[.agg (arr 18 v), .int .i64 k] w fun e w' => e = .returned (.tuple #[.agg (arr 24 (caR v k).1), .bool (caR v k).2]) ∧ Below w.heap.size w w' := by
  have h1 : ((w.alloc (.cells (arr 18 v) 48)).alloc (.cells (arr 24 fun _ => 0) 28)).heap[w.heap.size]? = some (.cells (arr 18 v) 48 (0, 0)) := by rw [heap_old (by simp), heap_new rfl]
  have h2 : ((w.alloc (.cells (arr 18 v) 48)).alloc (.cells (arr 24 fun _ => 0) 28)).heap[w.heap.size + 1]? = some (.cells (arr 24 fun _ => 0) 28 (0, 0)) := heap_new (by simp)
  have hbel : Below w.heap.size w ((w.alloc (.cells (arr 18 v) 48)).alloc (.cells (arr 24 fun _ => 0) 28)) := ((Below.refl _ _).alloc (by simp) _).alloc (by simp) _
  cases hf : viewB v with
  | false =>
    rw [caR_bad (by simp [hf])]
    have HF : Hid _ := hf
    have HC : Hid _ := show candF v = (0, false) from by unfold candF; rw [if_neg (by simp [hf])]
    have HB : Hid (1 = 1) := rfl
    clear hf
    go_enter Try.func33, Try.ntmps33
    go_wp2_with first
      | (with_reducible refine wpList_allocA rfl 28 rfl 24 zero24r ?_; (try simp only [size_al]))
      | (with_reducible refine wpList_loadW rfl _ _ rfl _ rfl h1 agg18r size18r ?_)
      | (with_reducible refine wpList_loadWG rfl _ _ rfl _ rfl h1 agg18r size18r ?_)
      | (with_reducible refine wpList_build0 rfl 28 rfl 24 zbuild24 ?_)
      | (with_reducible refine wpList_storeW rfl _ _ _ rfl _ rfl rfl h2 size24r ?_)
      | (go_at_call 74; (with_reducible refine (IsView_any v hx _).mono ?_); rw [HF.out]; rintro e w1 ⟨rfl, hb1⟩; replace hbel := hbel.trans (hb1.mono hbel.size); replace h1 := row_keep hb1 h1; replace h2 := row_keep hb1 h2; clear hb1)
      | (go_at_call 77; (with_reducible refine (hidden_any v HV.out _).mono ?_); rintro e w1 ⟨rfl, hb1⟩; replace hbel := hbel.trans (hb1.mono hbel.size); replace h1 := row_keep hb1 h1; replace h2 := row_keep hb1 h2; clear hb1)
      | (go_at_call 76; (with_reducible refine (arrangements_any _ HS.out.1 _).mono ?_); rw [HW.out]; rintro e w1 ⟨rfl, hb1⟩; replace hbel := hbel.trans (hb1.mono hbel.size); replace h1 := row_keep hb1 h1; replace h2 := row_keep hb1 h2; clear hb1)
      | (go_at_call 75; (with_reducible refine (within_any _ _ _ _).mono ?_); rw [HB.out]; rintro e w' ⟨rfl, rfl⟩)
      | (go_at_call 78; (with_reducible refine (candidate_any v hx HF.out q HQ.out _).mono ?_); rintro e w1 ⟨rfl, hb1⟩; replace hbel := hbel.trans (hb1.mono hbel.size); replace h1 := row_keep hb1 h1; replace h2 := row_keep hb1 h2; clear hb1)
    exact bodyPost_ret_by (results_ct _ _ _ _ _ _ _ rfl rfl (setRow_heap _ _ _ _ _ _ h2) agg24r size24r) rfl ⟨rfl, below_setRow2 hbel (by omega) _⟩
  | true =>
    have HF : Hid _ := hf
    have HV : Hid (∀ i, i < 6 → vok v i) := (viewB_iff.1 hf).1
    have HS : Hid _ := lft_small hx hf
    have HW : Hid _ := wA_lft hx hf
    have HC : Hid _ := candF_mul hx hf
    obtain ⟨W, hW⟩ : ∃ W, mul (lfN v) 6 = W := ⟨_, rfl⟩
    have hWb : W ≤ 101559956668416 := by
      have e := lfN_lft hx hf
      have := mul_small (l := lfN v) (by rw [e.2.2.1]; exact e.2.2.2)
      omega
    have hW0 : 0 < W := by have := mul_pos (lfN v) 6; omega
    rw [hW] at HW HC
    by_cases hk : 0 ≤ k ∧ k ≤ (W : Int) - 1
    · rw [caR_ok (by rw [hW]; exact ⟨hf, hk⟩)]
      have HB : Hid _ := show decide (0 ≤ k ∧ k ≤ (W : Int) - 1) = true from by simpa using hk
      obtain ⟨q, rfl⟩ : ∃ q : Nat, k = q := ⟨k.toNat, by omega⟩
      simp only [Int.toNat_natCast]
      have hqW : q < mul (lfN v) 6 := by omega
      have HQ : Hid _ := hqW
      clear hf hk hW hqW
      go_enter Try.func33, Try.ntmps33
      go_wp2_with first
        | (with_reducible refine wpList_allocA rfl 28 rfl 24 zero24r ?_; (try simp only [size_al]))
        | (with_reducible refine wpList_loadW rfl _ _ rfl _ rfl h1 agg18r size18r ?_)
        | (with_reducible refine wpList_loadWG rfl _ _ rfl _ rfl h1 agg18r size18r ?_)
        | (with_reducible refine wpList_build0 rfl 28 rfl 24 zbuild24 ?_)
        | (with_reducible refine wpList_storeW rfl _ _ _ rfl _ rfl rfl h2 size24r ?_)
        | (go_at_call 74; (with_reducible refine (IsView_any v hx _).mono ?_); rw [HF.out]; rintro e w1 ⟨rfl, hb1⟩; replace hbel := hbel.trans (hb1.mono hbel.size); replace h1 := row_keep hb1 h1; replace h2 := row_keep hb1 h2; clear hb1)
        | (go_at_call 77; (with_reducible refine (hidden_any v HV.out _).mono ?_); rintro e w1 ⟨rfl, hb1⟩; replace hbel := hbel.trans (hb1.mono hbel.size); replace h1 := row_keep hb1 h1; replace h2 := row_keep hb1 h2; clear hb1)
        | (go_at_call 76; (with_reducible refine (arrangements_any _ HS.out.1 _).mono ?_); rw [HW.out]; rintro e w1 ⟨rfl, hb1⟩; replace hbel := hbel.trans (hb1.mono hbel.size); replace h1 := row_keep hb1 h1; replace h2 := row_keep hb1 h2; clear hb1)
        | (go_at_call 75; (with_reducible refine (within_any _ _ _ _).mono ?_); rw [HB.out]; rintro e w' ⟨rfl, rfl⟩)
        | (go_at_call 78; (with_reducible refine (candidate_any v hx HF.out q HQ.out _).mono ?_); rintro e w1 ⟨rfl, hb1⟩; replace hbel := hbel.trans (hb1.mono hbel.size); replace h1 := row_keep hb1 h1; replace h2 := row_keep hb1 h2; clear hb1)
      exact bodyPost_ret_by (results_ct _ _ _ _ _ _ _ rfl rfl (setRow_heap _ _ _ _ _ _ h2) agg24r size24r) rfl ⟨rfl, below_setRow2 hbel (by omega) _⟩
    · rw [caR_bad (by rw [hW]; simp only [not_and]; intro _ h; exact fun h2 => hk ⟨h, h2⟩)]
      have HB : Hid _ := show decide (0 ≤ k ∧ k ≤ (W : Int) - 1) = false from by simpa using hk
      clear hf hk hW
      go_enter Try.func33, Try.ntmps33
      go_wp2_with first
        | (with_reducible refine wpList_allocA rfl 28 rfl 24 zero24r ?_; (try simp only [size_al]))
        | (with_reducible refine wpList_loadW rfl _ _ rfl _ rfl h1 agg18r size18r ?_)
        | (with_reducible refine wpList_loadWG rfl _ _ rfl _ rfl h1 agg18r size18r ?_)
        | (with_reducible refine wpList_build0 rfl 28 rfl 24 zbuild24 ?_)
        | (with_reducible refine wpList_storeW rfl _ _ _ rfl _ rfl rfl h2 size24r ?_)
        | (go_at_call 74; (with_reducible refine (IsView_any v hx _).mono ?_); rw [HF.out]; rintro e w1 ⟨rfl, hb1⟩; replace hbel := hbel.trans (hb1.mono hbel.size); replace h1 := row_keep hb1 h1; replace h2 := row_keep hb1 h2; clear hb1)
        | (go_at_call 77; (with_reducible refine (hidden_any v HV.out _).mono ?_); rintro e w1 ⟨rfl, hb1⟩; replace hbel := hbel.trans (hb1.mono hbel.size); replace h1 := row_keep hb1 h1; replace h2 := row_keep hb1 h2; clear hb1)
        | (go_at_call 76; (with_reducible refine (arrangements_any _ HS.out.1 _).mono ?_); rw [HW.out]; rintro e w1 ⟨rfl, hb1⟩; replace hbel := hbel.trans (hb1.mono hbel.size); replace h1 := row_keep hb1 h1; replace h2 := row_keep hb1 h2; clear hb1)
        | (go_at_call 75; (with_reducible refine (within_any _ _ _ _).mono ?_); rw [HB.out]; rintro e w' ⟨rfl, rfl⟩)
        | (go_at_call 78; (with_reducible refine (candidate_any v hx HF.out q HQ.out _).mono ?_); rintro e w1 ⟨rfl, hb1⟩; replace hbel := hbel.trans (hb1.mono hbel.size); replace h1 := row_keep hb1 h1; replace h2 := row_keep hb1 h2; clear hb1)
      exact bodyPost_ret_by (results_ct _ _ _ _ _ _ _ rfl rfl (setRow_heap _ _ _ _ _ _ h2) agg24r size24r) rfl ⟨rfl, below_setRow2 hbel (by omega) _⟩
set_option linter.unusedVariables false in
theorem FnExactCandidateAt_walk (x0 : Nat → Int) (hx0 : ∀ j, I64 (x0 j)) (x1 : Int) (hx1 : I64 x1) (w : World) : Calls Try.prog 9 #[.agg (arr 18 x0), .int .i64 x1] w fun e w' => e = .returned (.bool true) ∧ Below w.heap.size w w' := by
  have hr0 : (w.alloc (.cells (arr 18 x0) 45)).heap[w.heap.size]? = some (.cells (arr 18 x0) 45 (0, 0)) := by rw [heap_new (by simp)]
  have hbel : Below w.heap.size w (w.alloc (.cells (arr 18 x0) 45)) := ((Below.refl _ _).alloc (by simp) _)
  have tok_hA0 : True := trivial
  have tok_hB0 : True := trivial
  go_enter Try.func9, Try.ntmps9
  go_wp2_with first
    | (with_reducible refine wpList_loadW rfl _ _ rfl _ rfl hr0 agg18l size18l ?_)
    | (go_at_call 27; (with_reducible refine (toView_any _ _).mono ?_); (rintro e w1 ⟨rfl, hb1⟩; replace hbel := hbel.trans (hb1.mono hbel.size); replace hr0 := row_keep hb1 hr0; (try replace hA0 := row_keep hb1 hA0); (try replace hB0 := row_keep hb1 hB0); clear hb1))
    | (go_at_call 32; (with_reducible refine (specCa_any _ hx0 _ _).mono ?_); (rintro e w1 ⟨rfl, hb1⟩; replace hbel := hbel.trans (hb1.mono hbel.size); replace hr0 := row_keep hb1 hr0; (try replace hA0 := row_keep hb1 hA0); (try replace hB0 := row_keep hb1 hB0); clear hb1))
    | (go_at_call 33; (with_reducible refine (implCa_any _ hx0 _ _).mono ?_); (rintro e w1 ⟨rfl, hb1⟩; replace hbel := hbel.trans (hb1.mono hbel.size); replace hr0 := row_keep hb1 hr0; (try replace hA0 := row_keep hb1 hA0); (try replace hB0 := row_keep hb1 hB0); clear hb1))
    | (with_reducible refine wpList_allocA rfl 28 rfl 24 zero24r ?_; (try simp only [size_al]))
    | (go_at_call 20; (with_reducible refine (eqRack_same _ _).mono ?_); (rintro e w1 ⟨rfl, hb1⟩; replace hbel := hbel.trans (hb1.mono hbel.size); replace hr0 := row_keep hb1 hr0; (try replace hA0 := row_keep hb1 hA0); (try replace hB0 := row_keep hb1 hB0); clear hb1))
    | (have _t := tok_hA0; with_reducible refine wpList_storeN rfl _ _ _ rfl rfl rfl size24r ?_; intro w1 hA0 hb1; replace hbel := hbel.trans (hb1.mono hbel.size); replace hr0 := row_keep hb1 hr0; clear hb1 _t tok_hA0)
    | (with_reducible refine wpList_loadWG rfl _ _ rfl _ rfl hA0 agg24r size24r ?_)
    | (have _t := tok_hB0; with_reducible refine wpList_storeN rfl _ _ _ rfl rfl rfl size24r ?_; intro w1 hB0 hb1; replace hbel := hbel.trans (hb1.mono hbel.size); replace hr0 := row_keep hb1 hr0; replace hA0 := row_keep hb1 hA0; clear hb1 _t tok_hB0)
    | (with_reducible refine wpList_loadWG rfl _ _ rfl _ rfl hB0 agg24r size24r ?_)
  go_ret
  exact ⟨rfl, hbel⟩
theorem fcR {v : Nat → Int} (hx : ∀ j, I64 (v j)) : (viewB v = true → caR v 0 = (candR v 0, true) ∧ 0 < mul (lfN v) 6) ∧ (viewB v = false → caR v 0 = (fun _ => 0, false)) := by
  constructor
  · intro h
    have := mul_pos (lfN v) 6
    exact ⟨caR_ok ⟨h, by omega, by omega⟩, this⟩
  · intro h
    exact caR_bad (by simp [h])
theorem l7Made_zero (v : Nat → Int) (hx : ∀ j, I64 (v j)) (hf : viewB v = true) (hr : 0 < mul (lfN v) 6) (w : World) : Calls Try.prog 61 #[.agg (arr 18 v), .int .i64 0] w fun e w' => e = .returned (.agg (arr 24 (candR v 0))) ∧ Below w.heap.size w w' := l7Made_any v hx hf 0 hr w
theorem specFc_any (v : Nat → Int) (hx : ∀ j, I64 (v j)) (w : World) : Calls Try.prog 26 #[.agg (arr 18 v)] w fun e w' => e = .returned (.tuple #[.agg (arr 24 (caR v 0).1), .bool (caR v 0).2]) ∧ Below w.heap.size w w' := by
  have h1 : ((w.alloc (.cells (arr 18 v) 48)).alloc (.cells (arr 24 fun _ => 0) 28)).heap[w.heap.size]? = some (.cells (arr 18 v) 48 (0, 0)) := by rw [heap_old (by simp), heap_new rfl]
  have h2 : ((w.alloc (.cells (arr 18 v) 48)).alloc (.cells (arr 24 fun _ => 0) 28)).heap[w.heap.size + 1]? = some (.cells (arr 24 fun _ => 0) 28 (0, 0)) := heap_new (by simp)
  have hbel : Below w.heap.size w ((w.alloc (.cells (arr 18 v) 48)).alloc (.cells (arr 24 fun _ => 0) 28)) := ((Below.refl _ _).alloc (by simp) _).alloc (by simp) _
  cases hf : viewB v with
  | false =>
    rw [(fcR hx).2 hf]
    have HF : Hid _ := hf
    clear hf
    go_enter Try.func26, Try.ntmps26
    go_wp2_with first
      | (with_reducible refine wpList_allocA rfl 28 rfl 24 zero24r ?_; (try simp only [size_al]))
      | (with_reducible refine wpList_loadW rfl _ _ rfl _ rfl h1 agg18r size18r ?_)
      | (with_reducible refine wpList_build0 rfl 28 rfl 24 zbuild24 ?_)
      | (with_reducible refine wpList_storeW rfl _ _ _ rfl _ rfl rfl h2 size24r ?_)
      | (go_at_call 60; (with_reducible refine (l7Good_any v hx _).mono ?_); rw [HF.out]; rintro e w1 ⟨rfl, hb1⟩; replace hbel := hbel.trans (hb1.mono hbel.size); replace h1 := row_keep hb1 h1; replace h2 := row_keep hb1 h2; clear hb1)
    exact bodyPost_ret_by (results_ct _ _ _ _ _ _ _ rfl rfl (setRow_heap _ _ _ _ _ _ h2) agg24r size24r) rfl ⟨rfl, below_setRow2 hbel (by omega) _⟩
  | true =>
    rw [((fcR hx).1 hf).1]
    have HF : Hid _ := hf
    have HQ : Hid _ := ((fcR hx).1 hf).2
    clear hf
    go_enter Try.func26, Try.ntmps26
    go_wp2_with first
      | (with_reducible refine wpList_allocA rfl 28 rfl 24 zero24r ?_; (try simp only [size_al]))
      | (with_reducible refine wpList_loadW rfl _ _ rfl _ rfl h1 agg18r size18r ?_)
      | (with_reducible refine wpList_storeW rfl _ _ _ rfl _ rfl rfl h2 size24r ?_)
      | (go_at_call 60; (with_reducible refine (l7Good_any v hx _).mono ?_); rw [HF.out]; rintro e w1 ⟨rfl, hb1⟩; replace hbel := hbel.trans (hb1.mono hbel.size); replace h1 := row_keep hb1 h1; replace h2 := row_keep hb1 h2; clear hb1)
      | (go_at_call 61; (with_reducible refine (l7Made_zero v hx HF.out HQ.out _).mono ?_); rintro e w1 ⟨rfl, hb1⟩; replace hbel := hbel.trans (hb1.mono hbel.size); replace h1 := row_keep hb1 h1; replace h2 := row_keep hb1 h2; clear hb1)
    exact bodyPost_ret_by (results_ct _ _ _ _ _ _ _ rfl rfl (setRow_heap _ _ _ _ _ _ h2) agg24r size24r) rfl ⟨rfl, below_setRow2 hbel (by omega) _⟩
theorem implFc_any (v : Nat → Int) (hx : ∀ j, I64 (v j)) (w : World) : Calls Try.prog 28 #[.agg (arr 18 v)] w fun e w' => e = .returned (.tuple #[.agg (arr 24 (caR v 0).1), .bool (caR v 0).2]) ∧ Below w.heap.size w w' := by
  have h1 : ((w.alloc (.cells (arr 18 v) 48)).alloc (.cells (arr 24 fun _ => 0) 28)).heap[w.heap.size]? = some (.cells (arr 18 v) 48 (0, 0)) := by rw [heap_old (by simp), heap_new rfl]
  have h2 : ((w.alloc (.cells (arr 18 v) 48)).alloc (.cells (arr 24 fun _ => 0) 28)).heap[w.heap.size + 1]? = some (.cells (arr 24 fun _ => 0) 28 (0, 0)) := heap_new (by simp)
  have hbel : Below w.heap.size w ((w.alloc (.cells (arr 18 v) 48)).alloc (.cells (arr 24 fun _ => 0) 28)) := ((Below.refl _ _).alloc (by simp) _).alloc (by simp) _
  go_enter Try.func28, Try.ntmps28
  go_wp2_with first
    | (with_reducible refine wpList_allocA rfl 28 rfl 24 zero24r ?_; (try simp only [size_al]))
    | (with_reducible refine wpList_loadW rfl _ _ rfl _ rfl h1 agg18r size18r ?_)
    | (with_reducible refine wpList_storeW rfl _ _ _ rfl _ rfl rfl h2 size24r ?_)
    | (go_at_call 33; (with_reducible refine (implCa_any v hx 0 _).mono ?_); rintro e w1 ⟨rfl, hb1⟩; replace hbel := hbel.trans (hb1.mono hbel.size); replace h1 := row_keep hb1 h1; replace h2 := row_keep hb1 h2; clear hb1)
  exact bodyPost_ret_by (results_ct _ _ _ _ _ _ _ rfl rfl (setRow_heap _ _ _ _ _ _ h2) agg24r size24r) rfl ⟨rfl, below_setRow2 hbel (by omega) _⟩
set_option linter.unusedVariables false in
theorem FnExactFirstCandidate_walk (x0 : Nat → Int) (hx0 : ∀ j, I64 (x0 j)) (w : World) : Calls Try.prog 7 #[.agg (arr 18 x0)] w fun e w' => e = .returned (.bool true) ∧ Below w.heap.size w w' := by
  have hr0 : (w.alloc (.cells (arr 18 x0) 45)).heap[w.heap.size]? = some (.cells (arr 18 x0) 45 (0, 0)) := by rw [heap_new (by simp)]
  have hbel : Below w.heap.size w (w.alloc (.cells (arr 18 x0) 45)) := ((Below.refl _ _).alloc (by simp) _)
  have tok_hA0 : True := trivial
  have tok_hB0 : True := trivial
  go_enter Try.func7, Try.ntmps7
  go_wp2_with first
    | (with_reducible refine wpList_loadW rfl _ _ rfl _ rfl hr0 agg18l size18l ?_)
    | (go_at_call 27; (with_reducible refine (toView_any _ _).mono ?_); (rintro e w1 ⟨rfl, hb1⟩; replace hbel := hbel.trans (hb1.mono hbel.size); replace hr0 := row_keep hb1 hr0; (try replace hA0 := row_keep hb1 hA0); (try replace hB0 := row_keep hb1 hB0); clear hb1))
    | (go_at_call 26; (with_reducible refine (specFc_any _ hx0 _).mono ?_); (rintro e w1 ⟨rfl, hb1⟩; replace hbel := hbel.trans (hb1.mono hbel.size); replace hr0 := row_keep hb1 hr0; (try replace hA0 := row_keep hb1 hA0); (try replace hB0 := row_keep hb1 hB0); clear hb1))
    | (go_at_call 28; (with_reducible refine (implFc_any _ hx0 _).mono ?_); (rintro e w1 ⟨rfl, hb1⟩; replace hbel := hbel.trans (hb1.mono hbel.size); replace hr0 := row_keep hb1 hr0; (try replace hA0 := row_keep hb1 hA0); (try replace hB0 := row_keep hb1 hB0); clear hb1))
    | (with_reducible refine wpList_allocA rfl 28 rfl 24 zero24r ?_; (try simp only [size_al]))
    | (go_at_call 20; (with_reducible refine (eqRack_same _ _).mono ?_); (rintro e w1 ⟨rfl, hb1⟩; replace hbel := hbel.trans (hb1.mono hbel.size); replace hr0 := row_keep hb1 hr0; (try replace hA0 := row_keep hb1 hA0); (try replace hB0 := row_keep hb1 hB0); clear hb1))
    | (have _t := tok_hA0; with_reducible refine wpList_storeN rfl _ _ _ rfl rfl rfl size24r ?_; intro w1 hA0 hb1; replace hbel := hbel.trans (hb1.mono hbel.size); replace hr0 := row_keep hb1 hr0; clear hb1 _t tok_hA0)
    | (with_reducible refine wpList_loadWG rfl _ _ rfl _ rfl hA0 agg24r size24r ?_)
    | (have _t := tok_hB0; with_reducible refine wpList_storeN rfl _ _ _ rfl rfl rfl size24r ?_; intro w1 hB0 hb1; replace hbel := hbel.trans (hb1.mono hbel.size); replace hr0 := row_keep hb1 hr0; replace hA0 := row_keep hb1 hA0; clear hb1 _t tok_hB0)
    | (with_reducible refine wpList_loadWG rfl _ _ rfl _ rfl hB0 agg24r size24r ?_)
  go_ret
  exact ⟨rfl, hbel⟩
end Go.Proofs.Ytbiplciklmagoaa
