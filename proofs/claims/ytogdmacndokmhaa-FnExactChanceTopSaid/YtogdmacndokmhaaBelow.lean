/- ChanceBelow: the program's and the reference's, and the law. -/
import Derived.Test.YtogdmacndokmhaaCut
import Derived.Test.YtogdmacndokmhaaViewAt
import Derived.Test.YtogdmacndokmhaaCntHid
import Derived.Test.YtogdmacndokmhaaSlaw
namespace Go.Proofs.Ytogdmacndokmhaa
set_option linter.unusedSimpArgs false
set_option linter.unusedVariables false
set_option maxRecDepth 20000
open Go.RowKit
theorem lft_sm {v : Nat → Int} (hx : ∀ j, I64 (v j)) (hf : viewB v = true) {k : Nat} (hk : k < 6) : 0 ≤ lft v 6 k ∧ lft v 6 k ≤ 1000 := by
  have := (hid_sum hx hf).1 k hk
  rwa [Nat.zero_add] at this
theorem hsum_nat {v : Nat → Int} (hv : ∀ i, i < 6 → vok v i) : hsum v 6 = ((hsum v 6).toNat : Int) ∧ (hsum v 6).toNat ≤ 18 := by
  have := hsum_bd hv 6 (by omega)
  omega
theorem hsum_ge {v : Nat → Int} (hv : ∀ i, i < 6 → vok v i) {n : Nat} (hn : n < 6) (h : 1 ≤ v (6 + n)) : v (6 + n) - 1 ≤ hsum v 6 := by
  have m : ∀ a b, a ≤ b → b ≤ 6 → hsum v a ≤ hsum v b := fun a b hab hb => by
    induction b with
    | zero => rw [show a = 0 by omega]; exact Int.le_refl _
    | succ b ih =>
      by_cases e : a = b + 1
      · rw [e]; exact Int.le_refl _
      · have := ih (by omega) (by omega)
        have hb := (hv b (by omega)).1
        rw [show hsum v (b + 1) = if v (6 + b) = 0 then hsum v b else hsum v b + v (6 + b) - 1 from rfl]
        split <;> omega
  have h1 := m (n + 1) 6 (by omega) (by omega)
  have h2 := hsum_bd hv n (by omega)
  rw [show hsum v (n + 1) = if v (6 + n) = 0 then hsum v n else hsum v n + v (6 + n) - 1 from rfl, if_neg (by omega)] at h1
  omega
noncomputable def cbR (v : Nat → Int) (i c : Int) : (Nat → Int) × Bool := if viewB v = true ∧ (0 ≤ i ∧ i ≤ 5) ∧ (1 ≤ c ∧ c ≤ 5) ∧ 2 ≤ v (6 + i.toNat) then (rw2 (fr (lft v 6 c.toNat).toNat (hsum v 6).toNat), true) else (fun _ => 0, false)
theorem cbR_bad {v : Nat → Int} {i c : Int} (h : ¬ (viewB v = true ∧ (0 ≤ i ∧ i ≤ 5) ∧ (1 ≤ c ∧ c ≤ 5) ∧ 2 ≤ v (6 + i.toNat))) : cbR v i c = (fun _ => 0, false) := if_neg h
theorem cbR_ok {v : Nat → Int} {i c : Int} (h : viewB v = true ∧ (0 ≤ i ∧ i ≤ 5) ∧ (1 ≤ c ∧ c ≤ 5) ∧ 2 ≤ v (6 + i.toNat)) : cbR v i c = (rw2 (fr (lft v 6 c.toNat).toNat (hsum v 6).toNat), true) := if_pos h
theorem c2b0 : Try.prog.built 25 [] = some (arr 2 fun _ => 0) := by kernel_rfl
theorem specCbw_any (v : Nat → Int) (hx : ∀ j, I64 (v j)) (i c : Int) (w : World) : Calls Try.prog 15 #[.agg (arr 18 v), .int .i64 i, .int .i64 c] w fun e w' => e = .returned (.tuple #[.agg (arr 2 (cbR v i c).1), .bool (cbR v i c).2]) ∧ Below w.heap.size w w' := by
  have h1 : ((w.alloc (.cells (arr 18 v) 28)).alloc (.cells (arr 2 fun _ => 0) 25)).heap[w.heap.size]? = some (.cells (arr 18 v) 28 (0, 0)) := by rw [heap_old (by simp), heap_new rfl]
  have h2 : ((w.alloc (.cells (arr 18 v) 28)).alloc (.cells (arr 2 fun _ => 0) 25)).heap[w.heap.size + 1]? = some (.cells (arr 2 fun _ => 0) 25 (0, 0)) := heap_new (by simp)
  have hbel : Below w.heap.size w ((w.alloc (.cells (arr 18 v) 28)).alloc (.cells (arr 2 fun _ => 0) 25)) := ((Below.refl _ _).alloc (by simp) _).alloc (by simp) _
  have tok_h8 : True := trivial
  cases hf : viewB v with
  | false =>
    rw [cbR_bad (by simp [hf])]
    have HF : Hid _ := hf
    have HI : Hid (1 = 1) := rfl
    have HC : Hid (1 = 1) := rfl
    have HC2 : Hid (1 = 1) := rfl
    clear hf
    go_enter Try.func15, Try.ntmps15
    go_wp2_with first
      | (with_reducible refine wpList_allocA rfl 25 rfl 2 c2z ?_; (try simp only [size_al]))
      | (with_reducible refine wpList_loadW rfl _ _ rfl _ rfl h1 agg18r size18r ?_)
      | (with_reducible refine wpList_loadI rfl _ _ rfl _ _ rfl h1 aggI undI (by omega) ?_)
      | (with_reducible refine wpList_build0 rfl 25 rfl 2 c2b0 ?_)
      | (with_reducible refine wpList_storeW rfl _ _ _ rfl _ rfl rfl h2 c2s ?_)
      | (go_at_call 46; (with_reducible refine (l7Good_any v hx _).mono ?_); rw [HF.out]; rintro e w1 ⟨rfl, hb1⟩; replace hbel := hbel.trans (hb1.mono hbel.size); replace h1 := row_keep hb1 h1; replace h2 := row_keep hb1 h2; clear hb1)
      | (go_at_call 47; (with_reducible refine (l2Place_any _ _).mono ?_); rw [HI.out]; rintro e w' ⟨rfl, rfl⟩)
      | (go_at_call 48; (with_reducible refine (l1In_any _ _ _ _).mono ?_); rw [HC.out]; rintro e w' ⟨rfl, rfl⟩)
    exact bodyPost_ret_by (results_ct _ _ _ _ _ _ _ rfl rfl (setRow_heap _ _ _ _ _ _ h2) c2a c2s) rfl ⟨rfl, below_setRow2 hbel (by omega) _⟩
  | true =>
    have HF : Hid _ := hf
    have HV : Hid (∀ i, i < 6 → vok v i) := (viewB_iff.1 hf).1
    by_cases hi : 0 ≤ i ∧ i ≤ 5
    · have HI : Hid _ := show (decide (0 ≤ i) && decide (i ≤ 5)) = true by simpa using hi
      obtain ⟨n, rfl⟩ : ∃ n : Nat, i = n := ⟨i.toNat, by omega⟩
      have hn : n < 6 := by omega
      have hn6 : (n : Int) < 6 := by omega
      by_cases hc : 1 ≤ c ∧ c ≤ 5
      · have HC : Hid _ := show decide (1 ≤ c ∧ c ≤ 5) = true by simpa using hc
        have HC2 : Hid _ := show (decide (1 ≤ c) && decide (c ≤ 5)) = true by simpa using hc
        by_cases hm : v (6 + n) < 2
        · rw [cbR_bad (by simp; intros; omega)]
          have hmd : decide (v (6 + n) < 2) = true := decide_eq_true hm
          clear hf hi hc hm
          go_enter Try.func15, Try.ntmps15
          go_wp2_with first
            | (with_reducible refine wpList_allocA rfl 25 rfl 2 c2z ?_; (try simp only [size_al]))
            | (with_reducible refine wpList_loadW rfl _ _ rfl _ rfl h1 agg18r size18r ?_)
            | (with_reducible refine wpList_loadI rfl _ _ rfl _ _ rfl h1 aggI undI (by omega) ?_)
            | (with_reducible refine wpList_build0 rfl 25 rfl 2 c2b0 ?_)
            | (with_reducible refine wpList_storeW rfl _ _ _ rfl _ rfl rfl h2 c2s ?_)
            | (go_at_call 46; (with_reducible refine (l7Good_any v hx _).mono ?_); rw [HF.out]; rintro e w1 ⟨rfl, hb1⟩; replace hbel := hbel.trans (hb1.mono hbel.size); replace h1 := row_keep hb1 h1; replace h2 := row_keep hb1 h2; clear hb1)
            | (go_at_call 47; (with_reducible refine (l2Place_any _ _).mono ?_); rw [HI.out]; rintro e w' ⟨rfl, rfl⟩)
            | (go_at_call 48; (with_reducible refine (l1In_any _ _ _ _).mono ?_); rw [HC.out]; rintro e w' ⟨rfl, rfl⟩)
          exact bodyPost_ret_by (results_ct _ _ _ _ _ _ _ rfl rfl (setRow_heap _ _ _ _ _ _ h2) c2a c2s) rfl ⟨rfl, below_setRow2 hbel (by omega) _⟩
        · rw [cbR_ok ⟨hf, hi, hc, by simp; omega⟩]
          have hmd : decide (v (6 + n) < 2) = false := decide_eq_false hm
          obtain ⟨k, rfl⟩ : ∃ k : Nat, c = k := ⟨c.toNat, by omega⟩
          simp only [Int.toNat_natCast]
          have hk6 : k < 6 := by omega
          have hk6' : (k : Int) < 6 := by omega
          have HS : Hid _ := hid_sum hx hf
          obtain ⟨A, hA⟩ : ∃ A : Nat, lft v 6 k = A := ⟨(lft v 6 k).toNat, by have := lft_sm hx hf hk6; omega⟩
          have hA0 : A < 1000000 := by have := lft_sm hx hf hk6; omega
          obtain ⟨B, hB⟩ : ∃ B : Nat, hsum v 6 = B := ⟨(hsum v 6).toNat, (hsum_nat HV.out).1⟩
          have hB0 : 0 < B ∧ B ≤ 18 := by have := hsum_ge HV.out hn (by omega); have := hsum_nat HV.out; omega
          have HA : Hid _ := hA
          have HB : Hid _ := hB
          rw [hA, hB]
          simp only [Int.toNat_natCast]
          clear hf hi hc hm hA hB
          go_enter Try.func15, Try.ntmps15
          go_wp2_with first
            | (with_reducible refine wpList_loadW rfl _ _ rfl _ rfl h1 agg18r size18r ?_)
            | ((with_reducible refine wpList_loadI rfl _ _ rfl _ _ rfl h8 aggI undI (by omega) ?_); rw [HA.out])
            | (with_reducible refine wpList_loadI rfl _ _ rfl _ _ rfl h1 aggI undI (by omega) ?_)
            | (with_reducible refine wpList_storeWN rfl _ _ _ rfl _ rfl rfl h8 v6s hbel hWh8 ?_; intro w1 g3 ho g4; replace h1 := (ho _ (by omega)).trans h1; replace h2 := (ho _ (by omega)).trans h2; clear h8 hbel; have h8 := g3; have hbel := g4; clear g3 g4 ho)
            | (with_reducible refine wpList_storeW rfl _ _ _ rfl _ rfl rfl h2 c2s ?_)
            | (go_at_call 46; (with_reducible refine (l7Good_any v hx _).mono ?_); rw [HF.out]; rintro e w1 ⟨rfl, hb1⟩; replace hbel := hbel.trans (hb1.mono hbel.size); replace h1 := row_keep hb1 h1; replace h2 := row_keep hb1 h2; clear hb1)
            | (go_at_call 47; (with_reducible refine (l2Place_any _ _).mono ?_); rw [HI.out]; rintro e w' ⟨rfl, rfl⟩)
            | (go_at_call 48; (with_reducible refine (l1In_any _ _ _ _).mono ?_); rw [HC.out]; rintro e w' ⟨rfl, rfl⟩)
            | (go_at_call 49; (with_reducible refine (l7Hidden_any v HV.out _).mono ?_); rw [HB.out]; rintro e w1 ⟨rfl, hb1⟩; replace hbel := hbel.trans (hb1.mono hbel.size); replace h1 := row_keep hb1 h1; replace h2 := row_keep hb1 h2; clear hb1)
            | (have _t := tok_h8; with_reducible refine wpList_allocN rfl 22 rfl 6 v6z ?_; intro Bh8 w1 hBh8 h8 hb1; have hWh8 := Nat.le_trans hbel.size hBh8; have hLh1h8 := Nat.lt_of_lt_of_le (row_lt h1) hBh8; have hLh2h8 := Nat.lt_of_lt_of_le (row_lt h2) hBh8; replace hbel := hbel.trans (hb1.mono hbel.size); replace h1 := row_keep hb1 h1; replace h2 := row_keep hb1 h2; clear hb1 _t tok_h8)
            | (with_reducible refine wpList_allocA rfl 25 rfl 2 c2z ?_; (try simp only [size_al]))
            | (go_at_call 50; (with_reducible refine (l7Cut_any A B hB0.1 (by omega) (by omega) _).mono ?_); rintro e w1 ⟨rfl, hb1⟩; replace hbel := hbel.trans (hb1.mono hbel.size); replace h1 := row_keep hb1 h1; replace h2 := row_keep hb1 h2; replace h8 := row_keep hb1 h8; clear hb1)
          exact bodyPost_ret_by (results_ct _ _ _ _ _ _ _ rfl rfl (setRow_heap _ _ _ _ _ _ h2) c2a c2s) rfl ⟨rfl, below_setRow2 hbel (by omega) _⟩
      · rw [cbR_bad (by simp only [not_and]; intro _ _ h; exact absurd h hc)]
        have HC : Hid _ := show decide (1 ≤ c ∧ c ≤ 5) = false by simpa using hc
        have HC2 : Hid _ := show (decide (1 ≤ c) && decide (c ≤ 5)) = false by simpa using hc
        by_cases hm : v (6 + n) < 2
        · have hmd : decide (v (6 + n) < 2) = true := decide_eq_true hm
          clear hf hi hc hm
          go_enter Try.func15, Try.ntmps15
          go_wp2_with first
            | (with_reducible refine wpList_allocA rfl 25 rfl 2 c2z ?_; (try simp only [size_al]))
            | (with_reducible refine wpList_loadW rfl _ _ rfl _ rfl h1 agg18r size18r ?_)
            | (with_reducible refine wpList_loadI rfl _ _ rfl _ _ rfl h1 aggI undI (by omega) ?_)
            | (with_reducible refine wpList_build0 rfl 25 rfl 2 c2b0 ?_)
            | (with_reducible refine wpList_storeW rfl _ _ _ rfl _ rfl rfl h2 c2s ?_)
            | (go_at_call 46; (with_reducible refine (l7Good_any v hx _).mono ?_); rw [HF.out]; rintro e w1 ⟨rfl, hb1⟩; replace hbel := hbel.trans (hb1.mono hbel.size); replace h1 := row_keep hb1 h1; replace h2 := row_keep hb1 h2; clear hb1)
            | (go_at_call 47; (with_reducible refine (l2Place_any _ _).mono ?_); rw [HI.out]; rintro e w' ⟨rfl, rfl⟩)
            | (go_at_call 48; (with_reducible refine (l1In_any _ _ _ _).mono ?_); rw [HC.out]; rintro e w' ⟨rfl, rfl⟩)
          exact bodyPost_ret_by (results_ct _ _ _ _ _ _ _ rfl rfl (setRow_heap _ _ _ _ _ _ h2) c2a c2s) rfl ⟨rfl, below_setRow2 hbel (by omega) _⟩
        · have hmd : decide (v (6 + n) < 2) = false := decide_eq_false hm
          clear hf hi hc hm
          go_enter Try.func15, Try.ntmps15
          go_wp2_with first
            | (with_reducible refine wpList_allocA rfl 25 rfl 2 c2z ?_; (try simp only [size_al]))
            | (with_reducible refine wpList_loadW rfl _ _ rfl _ rfl h1 agg18r size18r ?_)
            | (with_reducible refine wpList_loadI rfl _ _ rfl _ _ rfl h1 aggI undI (by omega) ?_)
            | (with_reducible refine wpList_build0 rfl 25 rfl 2 c2b0 ?_)
            | (with_reducible refine wpList_storeW rfl _ _ _ rfl _ rfl rfl h2 c2s ?_)
            | (go_at_call 46; (with_reducible refine (l7Good_any v hx _).mono ?_); rw [HF.out]; rintro e w1 ⟨rfl, hb1⟩; replace hbel := hbel.trans (hb1.mono hbel.size); replace h1 := row_keep hb1 h1; replace h2 := row_keep hb1 h2; clear hb1)
            | (go_at_call 47; (with_reducible refine (l2Place_any _ _).mono ?_); rw [HI.out]; rintro e w' ⟨rfl, rfl⟩)
            | (go_at_call 48; (with_reducible refine (l1In_any _ _ _ _).mono ?_); rw [HC.out]; rintro e w' ⟨rfl, rfl⟩)
          exact bodyPost_ret_by (results_ct _ _ _ _ _ _ _ rfl rfl (setRow_heap _ _ _ _ _ _ h2) c2a c2s) rfl ⟨rfl, below_setRow2 hbel (by omega) _⟩
    · rw [cbR_bad (by simp only [not_and]; intro _ h; exact absurd h hi)]
      have HI : Hid _ := show (decide (0 ≤ i) && decide (i ≤ 5)) = false by simpa using hi
      have HC : Hid (1 = 1) := rfl
      have HC2 : Hid (1 = 1) := rfl
      clear hf hi
      go_enter Try.func15, Try.ntmps15
      go_wp2_with first
        | (with_reducible refine wpList_allocA rfl 25 rfl 2 c2z ?_; (try simp only [size_al]))
        | (with_reducible refine wpList_loadW rfl _ _ rfl _ rfl h1 agg18r size18r ?_)
        | (with_reducible refine wpList_loadI rfl _ _ rfl _ _ rfl h1 aggI undI (by omega) ?_)
        | (with_reducible refine wpList_build0 rfl 25 rfl 2 c2b0 ?_)
        | (with_reducible refine wpList_storeW rfl _ _ _ rfl _ rfl rfl h2 c2s ?_)
        | (go_at_call 46; (with_reducible refine (l7Good_any v hx _).mono ?_); rw [HF.out]; rintro e w1 ⟨rfl, hb1⟩; replace hbel := hbel.trans (hb1.mono hbel.size); replace h1 := row_keep hb1 h1; replace h2 := row_keep hb1 h2; clear hb1)
        | (go_at_call 47; (with_reducible refine (l2Place_any _ _).mono ?_); rw [HI.out]; rintro e w' ⟨rfl, rfl⟩)
        | (go_at_call 48; (with_reducible refine (l1In_any _ _ _ _).mono ?_); rw [HC.out]; rintro e w' ⟨rfl, rfl⟩)
      exact bodyPost_ret_by (results_ct _ _ _ _ _ _ _ rfl rfl (setRow_heap _ _ _ _ _ _ h2) c2a c2s) rfl ⟨rfl, below_setRow2 hbel (by omega) _⟩
theorem implCbw_any (v : Nat → Int) (hx : ∀ j, I64 (v j)) (i c : Int) (w : World) : Calls Try.prog 17 #[.agg (arr 18 v), .int .i64 i, .int .i64 c] w fun e w' => e = .returned (.tuple #[.agg (arr 2 (cbR v i c).1), .bool (cbR v i c).2]) ∧ Below w.heap.size w w' := by
  have h1 : ((w.alloc (.cells (arr 18 v) 28)).alloc (.cells (arr 2 fun _ => 0) 25)).heap[w.heap.size]? = some (.cells (arr 18 v) 28 (0, 0)) := by rw [heap_old (by simp), heap_new rfl]
  have h2 : ((w.alloc (.cells (arr 18 v) 28)).alloc (.cells (arr 2 fun _ => 0) 25)).heap[w.heap.size + 1]? = some (.cells (arr 2 fun _ => 0) 25 (0, 0)) := heap_new (by simp)
  have hbel : Below w.heap.size w ((w.alloc (.cells (arr 18 v) 28)).alloc (.cells (arr 2 fun _ => 0) 25)) := ((Below.refl _ _).alloc (by simp) _).alloc (by simp) _
  have tok_h8 : True := trivial
  have h5 : (((w.alloc (.cells (arr 18 v) 28)).alloc (.cells (arr 2 fun _ => 0) 25)).alloc (.cells #[.int .i64 i] 3)).heap[w.heap.size + 1 + 1]? = some (.cells #[.int .i64 i] 3 (0, 0)) := heap_new (by simp)
  cases hf : viewB v with
  | false =>
    rw [cbR_bad (by simp [hf])]
    have HF : Hid _ := hf
    have HI : Hid (1 = 1) := rfl
    have HC : Hid (1 = 1) := rfl
    have HC2 : Hid (1 = 1) := rfl
    clear hf
    go_enter Try.func17, Try.ntmps17
    go_wp2_with first
      | (with_reducible refine wpList_allocA rfl 25 rfl 2 c2z ?_; (try simp only [size_al]))
      | (with_reducible refine wpList_loadW rfl _ _ rfl _ rfl h1 agg18r size18r ?_)
      | (with_reducible refine wpList_loadI rfl _ _ rfl _ _ rfl h1 aggI undI (by omega) ?_)
      | (with_reducible refine wpList_build0 rfl 25 rfl 2 c2b0 ?_)
      | (with_reducible refine wpList_storeW rfl _ _ _ rfl _ rfl rfl h2 c2s ?_)
      | (go_at_call 52; (with_reducible refine (isViewAt_bad v hx HF.out _ _).mono ?_); rintro e w1 ⟨rfl, hb1⟩; replace hb1 := below_of_alloc hb1; replace hbel := hbel.trans (hb1.mono hbel.size); replace h1 := row_keep hb1 h1; replace h2 := row_keep hb1 h2; clear hb1)
      | (go_at_call 52; (with_reducible refine (isViewAt_one v hx HF.out _ _ h5).mono ?_); rw [HI.out]; rintro e w1 ⟨rfl, hb1⟩; replace hb1 := below_of_alloc hb1; replace hbel := hbel.trans (hb1.mono hbel.size); replace h1 := row_keep hb1 h1; replace h2 := row_keep hb1 h2; clear hb1)
      | (go_at_call 53; (with_reducible refine (isColor_any _ _).mono ?_); rw [HC2.out]; rintro e w1 ⟨rfl, hb1⟩; replace hbel := hbel.trans (hb1.mono hbel.size); replace h1 := row_keep hb1 h1; replace h2 := row_keep hb1 h2; clear hb1)
    exact bodyPost_ret_by (results_ct _ _ _ _ _ _ _ rfl rfl (setRow_heap _ _ _ _ _ _ h2) c2a c2s) rfl ⟨rfl, below_setRow2 hbel (by omega) _⟩
  | true =>
    have HF : Hid _ := hf
    have HV : Hid (∀ i, i < 6 → vok v i) := (viewB_iff.1 hf).1
    by_cases hi : 0 ≤ i ∧ i ≤ 5
    · have HI : Hid _ := show (decide (0 ≤ i) && decide (i ≤ 5)) = true by simpa using hi
      obtain ⟨n, rfl⟩ : ∃ n : Nat, i = n := ⟨i.toNat, by omega⟩
      have hn : n < 6 := by omega
      have hn6 : (n : Int) < 6 := by omega
      by_cases hc : 1 ≤ c ∧ c ≤ 5
      · have HC : Hid _ := show decide (1 ≤ c ∧ c ≤ 5) = true by simpa using hc
        have HC2 : Hid _ := show (decide (1 ≤ c) && decide (c ≤ 5)) = true by simpa using hc
        by_cases hm : v (6 + n) < 2
        · rw [cbR_bad (by simp; intros; omega)]
          have hmd : decide (v (6 + n) < 2) = true := decide_eq_true hm
          clear hf hi hc hm
          go_enter Try.func17, Try.ntmps17
          go_wp2_with first
            | (with_reducible refine wpList_allocA rfl 25 rfl 2 c2z ?_; (try simp only [size_al]))
            | (with_reducible refine wpList_loadW rfl _ _ rfl _ rfl h1 agg18r size18r ?_)
            | (with_reducible refine wpList_loadI rfl _ _ rfl _ _ rfl h1 aggI undI (by omega) ?_)
            | (with_reducible refine wpList_build0 rfl 25 rfl 2 c2b0 ?_)
            | (with_reducible refine wpList_storeW rfl _ _ _ rfl _ rfl rfl h2 c2s ?_)
            | (go_at_call 52; (with_reducible refine (isViewAt_bad v hx HF.out _ _).mono ?_); rintro e w1 ⟨rfl, hb1⟩; replace hb1 := below_of_alloc hb1; replace hbel := hbel.trans (hb1.mono hbel.size); replace h1 := row_keep hb1 h1; replace h2 := row_keep hb1 h2; clear hb1)
            | (go_at_call 52; (with_reducible refine (isViewAt_one v hx HF.out _ _ h5).mono ?_); rw [HI.out]; rintro e w1 ⟨rfl, hb1⟩; replace hb1 := below_of_alloc hb1; replace hbel := hbel.trans (hb1.mono hbel.size); replace h1 := row_keep hb1 h1; replace h2 := row_keep hb1 h2; clear hb1)
            | (go_at_call 53; (with_reducible refine (isColor_any _ _).mono ?_); rw [HC2.out]; rintro e w1 ⟨rfl, hb1⟩; replace hbel := hbel.trans (hb1.mono hbel.size); replace h1 := row_keep hb1 h1; replace h2 := row_keep hb1 h2; clear hb1)
          exact bodyPost_ret_by (results_ct _ _ _ _ _ _ _ rfl rfl (setRow_heap _ _ _ _ _ _ h2) c2a c2s) rfl ⟨rfl, below_setRow2 hbel (by omega) _⟩
        · rw [cbR_ok ⟨hf, hi, hc, by simp; omega⟩]
          have hmd : decide (v (6 + n) < 2) = false := decide_eq_false hm
          obtain ⟨k, rfl⟩ : ∃ k : Nat, c = k := ⟨c.toNat, by omega⟩
          simp only [Int.toNat_natCast]
          have hk6 : k < 6 := by omega
          have hk6' : (k : Int) < 6 := by omega
          have HS : Hid _ := hid_sum hx hf
          obtain ⟨A, hA⟩ : ∃ A : Nat, lft v 6 k = A := ⟨(lft v 6 k).toNat, by have := lft_sm hx hf hk6; omega⟩
          have hA0 : A < 1000000 := by have := lft_sm hx hf hk6; omega
          obtain ⟨B, hB⟩ : ∃ B : Nat, hsum v 6 = B := ⟨(hsum v 6).toNat, (hsum_nat HV.out).1⟩
          have hB0 : 0 < B ∧ B ≤ 18 := by have := hsum_ge HV.out hn (by omega); have := hsum_nat HV.out; omega
          have HA : Hid _ := hA
          have HB : Hid _ := hB
          rw [hA, hB]
          simp only [Int.toNat_natCast]
          clear hf hi hc hm hA hB
          go_enter Try.func17, Try.ntmps17
          go_wp2_with first
            | (with_reducible refine wpList_loadW rfl _ _ rfl _ rfl h1 agg18r size18r ?_)
            | (with_reducible refine wpList_loadI rfl _ _ rfl _ _ rfl h1 aggI undI (by omega) ?_)
            | (with_reducible refine wpList_storeWN rfl _ _ _ rfl _ rfl rfl h8 v6s hbel hWh8 ?_; intro w1 g3 ho g4; replace h1 := (ho _ (by omega)).trans h1; replace h2 := (ho _ (by omega)).trans h2; clear h8 hbel; have h8 := g3; have hbel := g4; clear g3 g4 ho)
            | (go_at_call 52; (with_reducible refine (isViewAt_one v hx HF.out _ _ h5).mono ?_); rw [HI.out]; rintro e w1 ⟨rfl, hb1⟩; replace hb1 := below_of_alloc hb1; replace hbel := hbel.trans (hb1.mono hbel.size); replace h1 := row_keep hb1 h1; replace h2 := row_keep hb1 h2; clear hb1)
            | (go_at_call 53; (with_reducible refine (isColor_any _ _).mono ?_); rw [HC2.out]; rintro e w1 ⟨rfl, hb1⟩; replace hbel := hbel.trans (hb1.mono hbel.size); replace h1 := row_keep hb1 h1; replace h2 := row_keep hb1 h2; clear hb1)
            | (go_at_call 54; (with_reducible refine (hidden_any v HV.out _).mono ?_); rintro e w1 ⟨rfl, hb1⟩; replace hbel := hbel.trans (hb1.mono hbel.size); replace h1 := row_keep hb1 h1; replace h2 := row_keep hb1 h2; clear hb1)
            | (have _t := tok_h8; with_reducible refine wpList_allocN rfl 22 rfl 6 v6z ?_; intro Bh8 w1 hBh8 h8 hb1; have hWh8 := Nat.le_trans hbel.size hBh8; have hLh1h8 := Nat.lt_of_lt_of_le (row_lt h1) hBh8; have hLh2h8 := Nat.lt_of_lt_of_le (row_lt h2) hBh8; replace hbel := hbel.trans (hb1.mono hbel.size); replace h1 := row_keep hb1 h1; replace h2 := row_keep hb1 h2; clear hb1 _t tok_h8)
            | (with_reducible refine wpList_allocA rfl 25 rfl 2 c2z ?_; (try simp only [size_al]))
          refine wp_region_held 6 (Cls w1 []) (by kernel_rfl) (by kernel_rfl) (Cls.zero (Below.refl _ _)) ?_; simp only [List.take_succ_cons, List.take_zero, List.drop_succ_cons, List.drop_zero]
          repeat (first
            | ((with_reducible refine wpQuiet_loadI rfl _ _ rfl _ _ rfl (fun _ h => h.kp h8) aggI undI (by omega) ?_); rw [HA.out])
            | ((with_reducible refine wpQuiet_call rfl 56 _ _ rfl (.int .i64 (B : Nat)) ?_ ?_ ?_); (exact enters_of Try.func56 (by kernel_rfl) rfl); (intro w' h'; exact (sum_eq w' (h'.kp h8) (by omega) (by omega) HS.out.1 (HS.out.2.trans HB.out)).mono fun _ _ ⟨he, hb⟩ => ⟨he, h'.keep hb⟩))
            | ((with_reducible refine wpQuiet_call rfl 55 _ _ rfl (.agg (arr 2 (rw2 (fr A B)))) ?_ ?_ ?_); (exact enters_of Try.func55 (by kernel_rfl) rfl); (intro w' h'; exact (fraction_any A B hB0.1 (by omega) (by omega) w').mono fun _ _ ⟨he, hb⟩ => ⟨he, h'.keep hb⟩))
            | ((with_reducible refine wpQuiet_step (fun K hK => ?_)); go_simp; (first | (refine ⟨_, fun _ _ => rfl, hK _ ?_⟩) | (refine ⟨_, fun _ _ => ⟨rfl, rfl⟩, hK _ ?_⟩) | (refine hK _ ?_)); clear hK K))
          refine wpQuiet_nil ?_; intro wt hCt; replace hCt := hCt.2; replace hbel := hbel.trans (hCt.mono hbel.size); replace h1 := row_keep hCt h1; replace h2 := row_keep hCt h2; clear hCt
          go_wp2_with first
            | (with_reducible refine wpList_storeW rfl _ _ _ rfl _ rfl rfl h2 c2s ?_)
          exact bodyPost_ret_by (results_ct _ _ _ _ _ _ _ rfl rfl (setRow_heap _ _ _ _ _ _ h2) c2a c2s) rfl ⟨rfl, below_setRow2 hbel (by omega) _⟩
      · rw [cbR_bad (by simp only [not_and]; intro _ _ h; exact absurd h hc)]
        have HC : Hid _ := show decide (1 ≤ c ∧ c ≤ 5) = false by simpa using hc
        have HC2 : Hid _ := show (decide (1 ≤ c) && decide (c ≤ 5)) = false by simpa using hc
        by_cases hm : v (6 + n) < 2
        · have hmd : decide (v (6 + n) < 2) = true := decide_eq_true hm
          clear hf hi hc hm
          go_enter Try.func17, Try.ntmps17
          go_wp2_with first
            | (with_reducible refine wpList_allocA rfl 25 rfl 2 c2z ?_; (try simp only [size_al]))
            | (with_reducible refine wpList_loadW rfl _ _ rfl _ rfl h1 agg18r size18r ?_)
            | (with_reducible refine wpList_loadI rfl _ _ rfl _ _ rfl h1 aggI undI (by omega) ?_)
            | (with_reducible refine wpList_build0 rfl 25 rfl 2 c2b0 ?_)
            | (with_reducible refine wpList_storeW rfl _ _ _ rfl _ rfl rfl h2 c2s ?_)
            | (go_at_call 52; (with_reducible refine (isViewAt_bad v hx HF.out _ _).mono ?_); rintro e w1 ⟨rfl, hb1⟩; replace hb1 := below_of_alloc hb1; replace hbel := hbel.trans (hb1.mono hbel.size); replace h1 := row_keep hb1 h1; replace h2 := row_keep hb1 h2; clear hb1)
            | (go_at_call 52; (with_reducible refine (isViewAt_one v hx HF.out _ _ h5).mono ?_); rw [HI.out]; rintro e w1 ⟨rfl, hb1⟩; replace hb1 := below_of_alloc hb1; replace hbel := hbel.trans (hb1.mono hbel.size); replace h1 := row_keep hb1 h1; replace h2 := row_keep hb1 h2; clear hb1)
            | (go_at_call 53; (with_reducible refine (isColor_any _ _).mono ?_); rw [HC2.out]; rintro e w1 ⟨rfl, hb1⟩; replace hbel := hbel.trans (hb1.mono hbel.size); replace h1 := row_keep hb1 h1; replace h2 := row_keep hb1 h2; clear hb1)
          exact bodyPost_ret_by (results_ct _ _ _ _ _ _ _ rfl rfl (setRow_heap _ _ _ _ _ _ h2) c2a c2s) rfl ⟨rfl, below_setRow2 hbel (by omega) _⟩
        · have hmd : decide (v (6 + n) < 2) = false := decide_eq_false hm
          clear hf hi hc hm
          go_enter Try.func17, Try.ntmps17
          go_wp2_with first
            | (with_reducible refine wpList_allocA rfl 25 rfl 2 c2z ?_; (try simp only [size_al]))
            | (with_reducible refine wpList_loadW rfl _ _ rfl _ rfl h1 agg18r size18r ?_)
            | (with_reducible refine wpList_loadI rfl _ _ rfl _ _ rfl h1 aggI undI (by omega) ?_)
            | (with_reducible refine wpList_build0 rfl 25 rfl 2 c2b0 ?_)
            | (with_reducible refine wpList_storeW rfl _ _ _ rfl _ rfl rfl h2 c2s ?_)
            | (go_at_call 52; (with_reducible refine (isViewAt_bad v hx HF.out _ _).mono ?_); rintro e w1 ⟨rfl, hb1⟩; replace hb1 := below_of_alloc hb1; replace hbel := hbel.trans (hb1.mono hbel.size); replace h1 := row_keep hb1 h1; replace h2 := row_keep hb1 h2; clear hb1)
            | (go_at_call 52; (with_reducible refine (isViewAt_one v hx HF.out _ _ h5).mono ?_); rw [HI.out]; rintro e w1 ⟨rfl, hb1⟩; replace hb1 := below_of_alloc hb1; replace hbel := hbel.trans (hb1.mono hbel.size); replace h1 := row_keep hb1 h1; replace h2 := row_keep hb1 h2; clear hb1)
            | (go_at_call 53; (with_reducible refine (isColor_any _ _).mono ?_); rw [HC2.out]; rintro e w1 ⟨rfl, hb1⟩; replace hbel := hbel.trans (hb1.mono hbel.size); replace h1 := row_keep hb1 h1; replace h2 := row_keep hb1 h2; clear hb1)
          exact bodyPost_ret_by (results_ct _ _ _ _ _ _ _ rfl rfl (setRow_heap _ _ _ _ _ _ h2) c2a c2s) rfl ⟨rfl, below_setRow2 hbel (by omega) _⟩
    · rw [cbR_bad (by simp only [not_and]; intro _ h; exact absurd h hi)]
      have HI : Hid _ := show (decide (0 ≤ i) && decide (i ≤ 5)) = false by simpa using hi
      have HC : Hid (1 = 1) := rfl
      have HC2 : Hid (1 = 1) := rfl
      clear hf hi
      go_enter Try.func17, Try.ntmps17
      go_wp2_with first
        | (with_reducible refine wpList_allocA rfl 25 rfl 2 c2z ?_; (try simp only [size_al]))
        | (with_reducible refine wpList_loadW rfl _ _ rfl _ rfl h1 agg18r size18r ?_)
        | (with_reducible refine wpList_loadI rfl _ _ rfl _ _ rfl h1 aggI undI (by omega) ?_)
        | (with_reducible refine wpList_build0 rfl 25 rfl 2 c2b0 ?_)
        | (with_reducible refine wpList_storeW rfl _ _ _ rfl _ rfl rfl h2 c2s ?_)
        | (go_at_call 52; (with_reducible refine (isViewAt_bad v hx HF.out _ _).mono ?_); rintro e w1 ⟨rfl, hb1⟩; replace hb1 := below_of_alloc hb1; replace hbel := hbel.trans (hb1.mono hbel.size); replace h1 := row_keep hb1 h1; replace h2 := row_keep hb1 h2; clear hb1)
        | (go_at_call 52; (with_reducible refine (isViewAt_one v hx HF.out _ _ h5).mono ?_); rw [HI.out]; rintro e w1 ⟨rfl, hb1⟩; replace hb1 := below_of_alloc hb1; replace hbel := hbel.trans (hb1.mono hbel.size); replace h1 := row_keep hb1 h1; replace h2 := row_keep hb1 h2; clear hb1)
        | (go_at_call 53; (with_reducible refine (isColor_any _ _).mono ?_); rw [HC2.out]; rintro e w1 ⟨rfl, hb1⟩; replace hbel := hbel.trans (hb1.mono hbel.size); replace h1 := row_keep hb1 h1; replace h2 := row_keep hb1 h2; clear hb1)
      exact bodyPost_ret_by (results_ct _ _ _ _ _ _ _ rfl rfl (setRow_heap _ _ _ _ _ _ h2) c2a c2s) rfl ⟨rfl, below_setRow2 hbel (by omega) _⟩
theorem zero2 : ((Try.prog.info? 25).bind (·.zero)).map (·.cells) = some (arr 2 fun _ => 0) := c2z
theorem size2 : (Try.prog.info? 25).map (·.size) = some 2 := c2s
theorem agg2 : aggB Try.prog 25 = true := c2a
set_option linter.unusedVariables false in
theorem FnExactChanceBelow_walk (x0 : Nat → Int) (hx0 : ∀ j, I64 (x0 j)) (x1 : Int) (hx1 : I64 x1) (x2 : Int) (hx2 : I64 x2) (w : World) : Calls Try.prog 3 #[.agg (arr 18 x0), .int .i64 x1, .int .i64 x2] w fun e w' => e = .returned (.bool true) ∧ Below w.heap.size w w' := by
  have hr0 : (w.alloc (.cells (arr 18 x0) 24)).heap[w.heap.size]? = some (.cells (arr 18 x0) 24 (0, 0)) := by rw [heap_new (by simp)]
  have hbel : Below w.heap.size w (w.alloc (.cells (arr 18 x0) 24)) := ((Below.refl _ _).alloc (by simp) _)
  have tok_hA0 : True := trivial
  have tok_hB0 : True := trivial
  go_enter Try.func3, Try.ntmps3
  go_wp2_with first
    | (with_reducible refine wpList_loadW rfl _ _ rfl _ rfl hr0 agg18l size18l ?_)
    | (go_at_call 16; (with_reducible refine (toView_any _ _).mono ?_); (rintro e w1 ⟨rfl, hb1⟩; replace hbel := hbel.trans (hb1.mono hbel.size); replace hr0 := row_keep hb1 hr0; (try replace hA0 := row_keep hb1 hA0); (try replace hB0 := row_keep hb1 hB0); clear hb1))
    | (go_at_call 15; (with_reducible refine (specCbw_any _ hx0 _ _ _).mono ?_); (rintro e w1 ⟨rfl, hb1⟩; replace hbel := hbel.trans (hb1.mono hbel.size); replace hr0 := row_keep hb1 hr0; (try replace hA0 := row_keep hb1 hA0); (try replace hB0 := row_keep hb1 hB0); clear hb1))
    | (go_at_call 17; (with_reducible refine (implCbw_any _ hx0 _ _ _).mono ?_); (rintro e w1 ⟨rfl, hb1⟩; replace hbel := hbel.trans (hb1.mono hbel.size); replace hr0 := row_keep hb1 hr0; (try replace hA0 := row_keep hb1 hA0); (try replace hB0 := row_keep hb1 hB0); clear hb1))
    | (with_reducible refine wpList_allocA rfl 25 rfl 2 zero2 ?_; (try simp only [size_al]))
    | (go_at_call 18; (with_reducible refine (eqIntA2_same _ _).mono ?_); (rintro e w1 ⟨rfl, hb1⟩; replace hbel := hbel.trans (hb1.mono hbel.size); replace hr0 := row_keep hb1 hr0; (try replace hA0 := row_keep hb1 hA0); (try replace hB0 := row_keep hb1 hB0); clear hb1))
    | (have _t := tok_hA0; with_reducible refine wpList_storeN rfl _ _ _ rfl rfl rfl size2 ?_; intro w1 hA0 hb1; replace hbel := hbel.trans (hb1.mono hbel.size); replace hr0 := row_keep hb1 hr0; clear hb1 _t tok_hA0)
    | (with_reducible refine wpList_loadWG rfl _ _ rfl _ rfl hA0 agg2 size2 ?_)
    | (have _t := tok_hB0; with_reducible refine wpList_storeN rfl _ _ _ rfl rfl rfl size2 ?_; intro w1 hB0 hb1; replace hbel := hbel.trans (hb1.mono hbel.size); replace hr0 := row_keep hb1 hr0; replace hA0 := row_keep hb1 hA0; clear hb1 _t tok_hB0)
    | (with_reducible refine wpList_loadWG rfl _ _ rfl _ rfl hB0 agg2 size2 ?_)
  go_ret
  exact ⟨rfl, hbel⟩
end Go.Proofs.Ytogdmacndokmhaa
