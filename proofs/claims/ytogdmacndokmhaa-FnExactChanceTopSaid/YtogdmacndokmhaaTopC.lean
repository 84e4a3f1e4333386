/- ChanceTop: the program's and the reference's, and the law. -/
import Derived.Test.YtogdmacndokmhaaTopL
import Derived.Test.YtogdmacndokmhaaBelow
namespace Go.Proofs.Ytogdmacndokmhaa
set_option linter.unusedSimpArgs false
set_option linter.unusedVariables false
set_option maxRecDepth 20000
open Go.RowKit
/-- Of a good view: the whole unknown, and the unknown of the top's color. -/
noncomputable def ctR (v : Nat → Int) (i c : Int) : (Nat → Int) × Bool := if viewB v = true ∧ (0 ≤ i ∧ i ≤ 5) ∧ v (6 + i.toNat) ≠ 0 ∧ (1 ≤ c ∧ c ≤ 4) then (rw2 (spT (hsum v 6).toNat (lft v 6 (v i.toNat).toNat).toNat (v (6 + i.toNat)).toNat c.toNat), true) else (fun _ => 0, false)
theorem ctR_bad {v : Nat → Int} {i c : Int} (h : ¬ (viewB v = true ∧ (0 ≤ i ∧ i ≤ 5) ∧ v (6 + i.toNat) ≠ 0 ∧ (1 ≤ c ∧ c ≤ 4))) : ctR v i c = (fun _ => 0, false) := if_neg h
theorem ctR_ok {v : Nat → Int} {i c : Int} (h : viewB v = true ∧ (0 ≤ i ∧ i ≤ 5) ∧ v (6 + i.toNat) ≠ 0 ∧ (1 ≤ c ∧ c ≤ 4)) : ctR v i c = (rw2 (spT (hsum v 6).toNat (lft v 6 (v i.toNat).toNat).toNat (v (6 + i.toNat)).toNat c.toNat), true) := if_pos h
theorem ownT_bd {A S m k : Nat} (hS : S ≤ A) (hA : A ≤ 18) (hm : m ≤ 4) : ownT A S m k < 1000000000000000000 := by
  unfold ownT
  split
  · omega
  · split
    · have h0 := wys_bd (t := k - 1) (show S ≤ 18 by omega) (by omega)
      have h1 : wys S (k - 1) * (A - S) ≤ 104976 * 18 := Nat.mul_le_mul h0 (by omega)
      have h2 : wys S (k - 1) * (A - S) * chs A k (m - 1 - k) ≤ 104976 * 18 * 104976 := Nat.mul_le_mul h1 (chs_bd hA (by omega))
      omega
    · split
      · have h0 := wys_bd (t := k - 1) (show S ≤ 18 by omega) (by omega)
        omega
      · omega
theorem chs_pos {A : Nat} : ∀ t, t ≤ A → 0 < chs A 0 t
  | 0, _ => by simp [chs]
  | t + 1, h => by
    unfold chs
    exact Nat.mul_pos (chs_pos t (by omega)) (by omega)
theorem allT_bd {A m : Nat} (hA : A ≤ 18) (hm : m ≤ 4) (hmA : m ≤ A + 1) : 0 < allT A m ∧ allT A m < 1000000000000000000 := by
  have h := chs_bd (b := 0) hA (show m - 1 ≤ 4 by omega)
  exact ⟨chs_pos _ (by omega), show chs A 0 (m - 1) < _ by omega⟩
theorem specCtop_any (v : Nat → Int) (hx : ∀ j, I64 (v j)) (i c : Int) (w : World) : Calls Try.prog 37 #[.agg (arr 18 v), .int .i64 i, .int .i64 c] w fun e w' => e = .returned (.tuple #[.agg (arr 2 (ctR v i c).1), .bool (ctR v i c).2]) ∧ Below w.heap.size w w' := by
  have h1 : ((w.alloc (.cells (arr 18 v) 28)).alloc (.cells (arr 2 fun _ => 0) 25)).heap[w.heap.size]? = some (.cells (arr 18 v) 28 (0, 0)) := by rw [heap_old (by simp), heap_new rfl]
  have h2 : ((w.alloc (.cells (arr 18 v) 28)).alloc (.cells (arr 2 fun _ => 0) 25)).heap[w.heap.size + 1]? = some (.cells (arr 2 fun _ => 0) 25 (0, 0)) := heap_new (by simp)
  have hbel : Below w.heap.size w ((w.alloc (.cells (arr 18 v) 28)).alloc (.cells (arr 2 fun _ => 0) 25)) := ((Below.refl _ _).alloc (by simp) _).alloc (by simp) _
  have tok_h8 : True := trivial
  cases hf : viewB v with
  | false =>
    rw [ctR_bad (by simp [hf])]
    have HF : Hid _ := hf
    have HI : Hid (1 = 1) := rfl
    have HC : Hid (1 = 1) := rfl
    clear hf
    go_enter Try.func37, Try.ntmps37
    go_wp2_with first
      | (with_reducible refine wpList_allocA rfl 25 rfl 2 c2z ?_; (try simp only [size_al]))
      | (with_reducible refine wpList_loadW rfl _ _ rfl _ rfl h1 agg18r size18r ?_)
      | (with_reducible refine wpList_loadI rfl _ _ rfl _ _ rfl h1 aggI undI (by omega) ?_)
      | (with_reducible refine wpList_build0 rfl 25 rfl 2 c2b0 ?_)
      | (with_reducible refine wpList_storeW rfl _ _ _ rfl _ rfl rfl h2 c2s ?_)
      | (go_at_call 46; (with_reducible refine (l7Good_any v hx _).mono ?_); rw [HF.out]; rintro e w1 ⟨rfl, hb1⟩; replace hbel := hbel.trans (hb1.mono hbel.size); replace h1 := row_keep hb1 h1; replace h2 := row_keep hb1 h2; clear hb1)
      | (go_at_call 47; (with_reducible refine (l2Place_any _ _).mono ?_); rw [HI.out]; rintro e w' ⟨rfl, rfl⟩)
      | (go_at_call 48; (with_reducible refine (l1In_any _ _ _ _).mono ?_); rw [HC.out]; rintro e w' ⟨rfl, rfl⟩)
    exact bodyPost_ret_by (results_ct _ _ _ _ _ _ _ rfl rfl (setRow_heap _ _ _ _ _ _ h2) c2a c2s) rfl ⟨rfl, below_setRow2 hbel (by omega) _⟩
  | true =>
    have HF : Hid _ := hf
    have HV : Hid (∀ i, i < 6 → vok v i) := (viewB_iff.1 hf).1
    by_cases hi : 0 ≤ i ∧ i ≤ 5
    · have HI : Hid _ := show (decide (0 ≤ i) && decide (i ≤ 5)) = true by simpa using hi
      obtain ⟨n, rfl⟩ : ∃ n : Nat, i = n := ⟨i.toNat, by omega⟩
      have hn : n < 6 := by omega
      have hn6 : (n : Int) < 6 := by omega
      by_cases hm : v (6 + n) = 0
      · have hmd : (v (6 + n) == 0) = true := by simpa using hm
        rw [ctR_bad (by simp [hm])]
        have HC : Hid (1 = 1) := rfl
        clear hf hi hm
        go_enter Try.func37, Try.ntmps37
        go_wp2_with first
          | (with_reducible refine wpList_allocA rfl 25 rfl 2 c2z ?_; (try simp only [size_al]))
          | (with_reducible refine wpList_loadW rfl _ _ rfl _ rfl h1 agg18r size18r ?_)
          | (with_reducible refine wpList_loadI rfl _ _ rfl _ _ rfl h1 aggI undI (by omega) ?_)
          | (with_reducible refine wpList_build0 rfl 25 rfl 2 c2b0 ?_)
          | (with_reducible refine wpList_storeW rfl _ _ _ rfl _ rfl rfl h2 c2s ?_)
          | (go_at_call 46; (with_reducible refine (l7Good_any v hx _).mono ?_); rw [HF.out]; rintro e w1 ⟨rfl, hb1⟩; replace hbel := hbel.trans (hb1.mono hbel.size); replace h1 := row_keep hb1 h1; replace h2 := row_keep hb1 h2; clear hb1)
          | (go_at_call 47; (with_reducible refine (l2Place_any _ _).mono ?_); rw [HI.out]; rintro e w' ⟨rfl, rfl⟩)
          | (go_at_call 48; (with_reducible refine (l1In_any _ _ _ _).mono ?_); rw [HC.out]; rintro e w' ⟨rfl, rfl⟩)
        exact bodyPost_ret_by (results_ct _ _ _ _ _ _ _ rfl rfl (setRow_heap _ _ _ _ _ _ h2) c2a c2s) rfl ⟨rfl, below_setRow2 hbel (by omega) _⟩
      · have hmd : (v (6 + n) == 0) = false := by simpa using hm
        by_cases hc : 1 ≤ c ∧ c ≤ 4
        · have HC : Hid _ := show decide (1 ≤ c ∧ c ≤ 4) = true by simpa using hc
          rw [ctR_ok ⟨hf, hi, hm, hc⟩]
          obtain ⟨k, rfl⟩ : ∃ k : Nat, c = k := ⟨c.toNat, by omega⟩
          obtain ⟨⟨va, vb⟩, ⟨vc, vd⟩, ve⟩ := HV.out n hn
          obtain ⟨A, hA⟩ : ∃ A : Nat, hsum v 6 = A := ⟨(hsum v 6).toNat, (hsum_nat HV.out).1⟩
          obtain ⟨S, hS⟩ : ∃ S : Nat, lft v 6 (v n).toNat = S := ⟨(lft v 6 (v n).toNat).toNat, by have := lft_sm hx hf (show (v n).toNat < 6 by omega); omega⟩
          obtain ⟨m, hM⟩ : ∃ m : Nat, v (6 + n) = m := ⟨(v (6 + n)).toNat, by omega⟩
          have hm1 : 1 ≤ m := by omega
          have hm4 : m ≤ 4 := by omega
          have hA18 : A ≤ 18 := by have := hsum_nat HV.out; omega
          have hmA : m ≤ A + 1 := by have := hsum_ge HV.out hn (by omega); omega
          have hSA : S ≤ A := by have := lft_le_hsum hx hf (show (v n).toNat < 6 by omega); omega
          have hk1 : 1 ≤ k := by omega
          have hk4 : k ≤ 4 := by omega
          have hk5 : (k : Int) < 5 := by omega
          simp only [Int.toNat_natCast]
          rw [hA, hS, hM]
          simp only [Int.toNat_natCast]
          have HA : Hid _ := hA
          have HSS : Hid _ := hS
          have HM : Hid _ := hM
          clear hf hi hc hm hA hS hM va vb vc vd ve
          go_enter Try.func37, Try.ntmps37
          go_wp2_with first
            | (with_reducible refine wpList_allocA rfl 25 rfl 2 c2z ?_; (try simp only [size_al]))
            | (with_reducible refine wpList_loadW rfl _ _ rfl _ rfl h1 agg18r size18r ?_)
            | (with_reducible refine wpList_loadI rfl _ _ rfl _ _ rfl h1 aggI undI (by omega) ?_)
            | (with_reducible refine wpList_storeW rfl _ _ _ rfl _ rfl rfl h2 c2s ?_)
            | (go_at_call 46; (with_reducible refine (l7Good_any v hx _).mono ?_); rw [HF.out]; rintro e w1 ⟨rfl, hb1⟩; replace hbel := hbel.trans (hb1.mono hbel.size); replace h1 := row_keep hb1 h1; replace h2 := row_keep hb1 h2; clear hb1)
            | (go_at_call 47; (with_reducible refine (l2Place_any _ _).mono ?_); rw [HI.out]; rintro e w' ⟨rfl, rfl⟩)
            | (go_at_call 48; (with_reducible refine (l1In_any _ _ _ _).mono ?_); rw [HC.out]; rintro e w' ⟨rfl, rfl⟩)
            | (go_at_call 77; (with_reducible refine (l7Top_any v hx HF.out n A S m k hn HA.out HSS.out HM.out hm1 hk1 hk4 _).mono ?_); rintro e w1 ⟨rfl, hb1⟩; replace hbel := hbel.trans (hb1.mono hbel.size); replace h1 := row_keep hb1 h1; replace h2 := row_keep hb1 h2; clear hb1)
          exact bodyPost_ret_by (results_ct _ _ _ _ _ _ _ rfl rfl (setRow_heap _ _ _ _ _ _ h2) c2a c2s) rfl ⟨rfl, below_setRow2 hbel (by omega) _⟩
        · have HC : Hid _ := show decide (1 ≤ c ∧ c ≤ 4) = false by simpa using hc
          rw [ctR_bad (fun h => hc h.2.2.2)]
          clear hf hi hm hc
          go_enter Try.func37, Try.ntmps37
          go_wp2_with first
            | (with_reducible refine wpList_allocA rfl 25 rfl 2 c2z ?_; (try simp only [size_al]))
            | (with_reducible refine wpList_loadW rfl _ _ rfl _ rfl h1 agg18r size18r ?_)
            | (with_reducible refine wpList_loadI rfl _ _ rfl _ _ rfl h1 aggI undI (by omega) ?_)
            | (with_reducible refine wpList_build0 rfl 25 rfl 2 c2b0 ?_)
            | (with_reducible refine wpList_storeW rfl _ _ _ rfl _ rfl rfl h2 c2s ?_)
            | (go_at_call 46; (with_reducible refine (l7Good_any v hx _).mono ?_); rw [HF.out]; rintro e w1 ⟨rfl, hb1⟩; replace hbel := hbel.trans (hb1.mono hbel.size); replace h1 := row_keep hb1 h1; replace h2 := row_keep hb1 h2; clear hb1)
            | (go_at_call 47; (with_reducible refine (l2Place_any _ _).mono ?_); rw [HI.out]; rintro e w' ⟨rfl, rfl⟩)
            | (go_at_call 48; (with_reducible refine (l1In_any _ _ _ _).mono ?_); rw [HC.out]; rintro e w' ⟨rfl, rfl⟩)
          exact bodyPost_ret_by (results_ct _ _ _ _ _ _ _ rfl rfl (setRow_heap _ _ _ _ _ _ h2) c2a c2s) rfl ⟨rfl, below_setRow2 hbel (by omega) _⟩
    · rw [ctR_bad (fun h => hi h.2.1)]
      have HI : Hid _ := show (decide (0 ≤ i) && decide (i ≤ 5)) = false by simpa using hi
      have HC : Hid (1 = 1) := rfl
      clear hf hi
      go_enter Try.func37, Try.ntmps37
      go_wp2_with first
        | (with_reducible refine wpList_allocA rfl 25 rfl 2 c2z ?_; (try simp only [size_al]))
        | (with_reducible refine wpList_loadW rfl _ _ rfl _ rfl h1 agg18r size18r ?_)
        | (with_reducible refine wpList_loadI rfl _ _ rfl _ _ rfl h1 aggI undI (by omega) ?_)
        | (with_reducible refine wpList_build0 rfl 25 rfl 2 c2b0 ?_)
        | (with_reducible refine wpList_storeW rfl _ _ _ rfl _ rfl rfl h2 c2s ?_)
        | (go_at_call 46; (with_reducible refine (l7Good_any v hx _).mono ?_); rw [HF.out]; rintro e w1 ⟨rfl, hb1⟩; replace hbel := hbel.trans (hb1.mono hbel.size); replace h1 := row_keep hb1 h1; replace h2 := row_keep hb1 h2; clear hb1)
        | (go_at_call 47; (with_reducible refine (l2Place_any _ _).mono ?_); rw [HI.out]; rintro e w' ⟨rfl, rfl⟩)
        | (go_at_call 48; (with_reducible refine (l1In_any _ _ _ _).mono ?_); rw [HC.out]; rintro e w' ⟨rfl, rfl⟩)
      exact bodyPost_ret_by (results_ct _ _ _ _ _ _ _ rfl rfl (setRow_heap _ _ _ _ _ _ h2) c2a c2s) rfl ⟨rfl, below_setRow2 hbel (by omega) _⟩
theorem implCtop_any (v : Nat → Int) (hx : ∀ j, I64 (v j)) (i c : Int) (w : World) : Calls Try.prog 38 #[.agg (arr 18 v), .int .i64 i, .int .i64 c] w fun e w' => e = .returned (.tuple #[.agg (arr 2 (ctR v i c).1), .bool (ctR v i c).2]) ∧ Below w.heap.size w w' := by
  have h1 : ((w.alloc (.cells (arr 18 v) 28)).alloc (.cells (arr 2 fun _ => 0) 25)).heap[w.heap.size]? = some (.cells (arr 18 v) 28 (0, 0)) := by rw [heap_old (by simp), heap_new rfl]
  have h2 : ((w.alloc (.cells (arr 18 v) 28)).alloc (.cells (arr 2 fun _ => 0) 25)).heap[w.heap.size + 1]? = some (.cells (arr 2 fun _ => 0) 25 (0, 0)) := heap_new (by simp)
  have hbel : Below w.heap.size w ((w.alloc (.cells (arr 18 v) 28)).alloc (.cells (arr 2 fun _ => 0) 25)) := ((Below.refl _ _).alloc (by simp) _).alloc (by simp) _
  have tok_h8 : True := trivial
  have h5 : (((w.alloc (.cells (arr 18 v) 28)).alloc (.cells (arr 2 fun _ => 0) 25)).alloc (.cells #[.int .i64 i] 3)).heap[w.heap.size + 1 + 1]? = some (.cells #[.int .i64 i] 3 (0, 0)) := heap_new (by simp)
  cases hf : viewB v with
  | false =>
    rw [ctR_bad (by simp [hf])]
    have HF : Hid _ := hf
    have HI : Hid (1 = 1) := rfl
    have HC : Hid (1 = 1) := rfl
    clear hf
    go_enter Try.func38, Try.ntmps38
    go_wp2_with first
      | (with_reducible refine wpList_allocA rfl 25 rfl 2 c2z ?_; (try simp only [size_al]))
      | (with_reducible refine wpList_loadW rfl _ _ rfl _ rfl h1 agg18r size18r ?_)
      | (with_reducible refine wpList_loadI rfl _ _ rfl _ _ rfl h1 aggI undI (by omega) ?_)
      | (with_reducible refine wpList_build0 rfl 25 rfl 2 c2b0 ?_)
      | (with_reducible refine wpList_storeW rfl _ _ _ rfl _ rfl rfl h2 c2s ?_)
      | (go_at_call 52; (with_reducible refine (isViewAt_bad v hx HF.out _ _).mono ?_); rintro e w1 ⟨rfl, hb1⟩; replace hb1 := below_of_alloc hb1; replace hbel := hbel.trans (hb1.mono hbel.size); replace h1 := row_keep hb1 h1; replace h2 := row_keep hb1 h2; clear hb1)
      | (go_at_call 52; (with_reducible refine (isViewAt_one v hx HF.out _ _ h5).mono ?_); rw [HI.out]; rintro e w1 ⟨rfl, hb1⟩; replace hb1 := below_of_alloc hb1; replace hbel := hbel.trans (hb1.mono hbel.size); replace h1 := row_keep hb1 h1; replace h2 := row_keep hb1 h2; clear hb1)
      | (go_at_call 78; (with_reducible refine (within_any _ _ _ _).mono ?_); rw [HC.out]; rintro e w' ⟨rfl, rfl⟩)
    exact bodyPost_ret_by (results_ct _ _ _ _ _ _ _ rfl rfl (setRow_heap _ _ _ _ _ _ h2) c2a c2s) rfl ⟨rfl, below_setRow2 hbel (by omega) _⟩
  | true =>
    have HF : Hid _ := hf
    have HV : Hid (∀ i, i < 6 → vok v i) := (viewB_iff.1 hf).1
    by_cases hi : 0 ≤ i ∧ i ≤ 5
    · have HI : Hid _ := show (decide (0 ≤ i) && decide (i ≤ 5)) = true by simpa using hi
      obtain ⟨n, rfl⟩ : ∃ n : Nat, i = n := ⟨i.toNat, by omega⟩
      have hn : n < 6 := by omega
      have hn6 : (n : Int) < 6 := by omega
      by_cases hm : v (6 + n) = 0
      · have hmd : (v (6 + n) == 0) = true := by simpa using hm
        rw [ctR_bad (by simp [hm])]
        have HC : Hid (1 = 1) := rfl
        clear hf hi hm
        go_enter Try.func38, Try.ntmps38
        go_wp2_with first
          | (with_reducible refine wpList_allocA rfl 25 rfl 2 c2z ?_; (try simp only [size_al]))
          | (with_reducible refine wpList_loadW rfl _ _ rfl _ rfl h1 agg18r size18r ?_)
          | (with_reducible refine wpList_loadI rfl _ _ rfl _ _ rfl h1 aggI undI (by omega) ?_)
          | (with_reducible refine wpList_build0 rfl 25 rfl 2 c2b0 ?_)
          | (with_reducible refine wpList_storeW rfl _ _ _ rfl _ rfl rfl h2 c2s ?_)
          | (go_at_call 52; (with_reducible refine (isViewAt_bad v hx HF.out _ _).mono ?_); rintro e w1 ⟨rfl, hb1⟩; replace hb1 := below_of_alloc hb1; replace hbel := hbel.trans (hb1.mono hbel.size); replace h1 := row_keep hb1 h1; replace h2 := row_keep hb1 h2; clear hb1)
          | (go_at_call 52; (with_reducible refine (isViewAt_one v hx HF.out _ _ h5).mono ?_); rw [HI.out]; rintro e w1 ⟨rfl, hb1⟩; replace hb1 := below_of_alloc hb1; replace hbel := hbel.trans (hb1.mono hbel.size); replace h1 := row_keep hb1 h1; replace h2 := row_keep hb1 h2; clear hb1)
          | (go_at_call 78; (with_reducible refine (within_any _ _ _ _).mono ?_); rw [HC.out]; rintro e w' ⟨rfl, rfl⟩)
        exact bodyPost_ret_by (results_ct _ _ _ _ _ _ _ rfl rfl (setRow_heap _ _ _ _ _ _ h2) c2a c2s) rfl ⟨rfl, below_setRow2 hbel (by omega) _⟩
      · have hmd : (v (6 + n) == 0) = false := by simpa using hm
        by_cases hc : 1 ≤ c ∧ c ≤ 4
        · have HC : Hid _ := show decide (1 ≤ c ∧ c ≤ 4) = true by simpa using hc
          rw [ctR_ok ⟨hf, hi, hm, hc⟩]
          obtain ⟨k, rfl⟩ : ∃ k : Nat, c = k := ⟨c.toNat, by omega⟩
          obtain ⟨⟨va, vb⟩, ⟨vc, vd⟩, ve⟩ := HV.out n hn
          obtain ⟨A, hA⟩ : ∃ A : Nat, hsum v 6 = A := ⟨(hsum v 6).toNat, (hsum_nat HV.out).1⟩
          obtain ⟨S, hS⟩ : ∃ S : Nat, lft v 6 (v n).toNat = S := ⟨(lft v 6 (v n).toNat).toNat, by have := lft_sm hx hf (show (v n).toNat < 6 by omega); omega⟩
          obtain ⟨m, hM⟩ : ∃ m : Nat, v (6 + n) = m := ⟨(v (6 + n)).toNat, by omega⟩
          have hm1 : 1 ≤ m := by omega
          have hm4 : m ≤ 4 := by omega
          have hA18 : A ≤ 18 := by have := hsum_nat HV.out; omega
          have hmA : m ≤ A + 1 := by have := hsum_ge HV.out hn (by omega); omega
          have hSA : S ≤ A := by have := lft_le_hsum hx hf (show (v n).toNat < 6 by omega); omega
          have hk1 : 1 ≤ k := by omega
          have hk4 : k ≤ 4 := by omega
          have hk5 : (k : Int) < 5 := by omega
          simp only [Int.toNat_natCast]
          rw [hA, hS, hM]
          simp only [Int.toNat_natCast]
          have HA : Hid _ := hA
          have HSS : Hid _ := hS
          have HM : Hid _ := hM
          clear hf hi hc hm hA hS hM va vb vc vd ve
          have HCT : Hid (fr (ownT A S m k) (allT A m) = spT A S m k) := chance_top (by omega) hSA (by omega) (by omega) hmA (by omega) (by omega)
          have HOB : Hid (ownT A S m k < 1000000000000000000) := ownT_bd hSA hA18 hm4
          have HAB : Hid (0 < allT A m ∧ allT A m < 1000000000000000000) := allT_bd hA18 hm4 hmA
          go_enter Try.func38, Try.ntmps38
          go_wp2_with first
            | (with_reducible refine wpList_loadW rfl _ _ rfl _ rfl h1 agg18r size18r ?_)
            | (with_reducible refine wpList_loadI rfl _ _ rfl _ _ rfl h1 aggI undI (by omega) ?_)
            | (with_reducible refine wpList_loadI rfl _ _ rfl _ _ rfl h8 aggI undI (by omega) ?_)
            | (with_reducible refine wpList_storeWN rfl _ _ _ rfl _ rfl rfl h8 size5 hbel hWh8 ?_; intro w1 g3 ho g4; replace h1 := (ho _ (by omega)).trans h1; replace h2 := (ho _ (by omega)).trans h2; clear h8 hbel; have h8 := g3; have hbel := g4; clear g3 g4 ho)
            | (go_at_call 52; (with_reducible refine (isViewAt_one v hx HF.out _ _ h5).mono ?_); rw [HI.out]; rintro e w1 ⟨rfl, hb1⟩; replace hb1 := below_of_alloc hb1; replace hbel := hbel.trans (hb1.mono hbel.size); replace h1 := row_keep hb1 h1; replace h2 := row_keep hb1 h2; clear hb1)
            | (go_at_call 78; (with_reducible refine (within_any _ _ _ _).mono ?_); rw [HC.out]; rintro e w' ⟨rfl, rfl⟩)
            | (go_at_call 79; (with_reducible refine (tops_any v hx HF.out n A S m hn HA.out HSS.out HM.out hm1 _).mono ?_); rintro e w1 ⟨rfl, hb1⟩; replace hbel := hbel.trans (hb1.mono hbel.size); replace h1 := row_keep hb1 h1; replace h2 := row_keep hb1 h2; clear hb1)
            | (have _t := tok_h8; with_reducible refine wpList_allocN rfl 79 rfl 5 zero5 ?_; intro Bh8 w1 hBh8 h8 hb1; have hWh8 := Nat.le_trans hbel.size hBh8; have hLh1h8 := Nat.lt_of_lt_of_le (row_lt h1) hBh8; have hLh2h8 := Nat.lt_of_lt_of_le (row_lt h2) hBh8; replace hbel := hbel.trans (hb1.mono hbel.size); replace h1 := row_keep hb1 h1; replace h2 := row_keep hb1 h2; clear hb1 _t tok_h8)
            | (with_reducible refine wpList_allocA rfl 25 rfl 2 c2z ?_; (try simp only [size_al]))
            | (go_at_call 55; (with_reducible refine (fraction_any (ownT A S m k) (allT A m) HAB.out.1 HOB.out HAB.out.2 _).mono ?_); rw [HCT.out]; rintro e w1 ⟨rfl, hb1⟩; replace hbel := hbel.trans (hb1.mono hbel.size); replace h1 := row_keep hb1 h1; replace h2 := row_keep hb1 h2; clear hb1)
            | (with_reducible refine wpList_storeW rfl _ _ _ rfl _ rfl rfl h2 c2s ?_)
          exact bodyPost_ret_by (results_ct _ _ _ _ _ _ _ rfl rfl (setRow_heap _ _ _ _ _ _ h2) c2a c2s) rfl ⟨rfl, below_setRow2 hbel (by omega) _⟩
        · have HC : Hid _ := show decide (1 ≤ c ∧ c ≤ 4) = false by simpa using hc
          rw [ctR_bad (fun h => hc h.2.2.2)]
          clear hf hi hm hc
          go_enter Try.func38, Try.ntmps38
          go_wp2_with first
            | (with_reducible refine wpList_allocA rfl 25 rfl 2 c2z ?_; (try simp only [size_al]))
            | (with_reducible refine wpList_loadW rfl _ _ rfl _ rfl h1 agg18r size18r ?_)
            | (with_reducible refine wpList_loadI rfl _ _ rfl _ _ rfl h1 aggI undI (by omega) ?_)
            | (with_reducible refine wpList_build0 rfl 25 rfl 2 c2b0 ?_)
            | (with_reducible refine wpList_storeW rfl _ _ _ rfl _ rfl rfl h2 c2s ?_)
            | (go_at_call 52; (with_reducible refine (isViewAt_bad v hx HF.out _ _).mono ?_); rintro e w1 ⟨rfl, hb1⟩; replace hb1 := below_of_alloc hb1; replace hbel := hbel.trans (hb1.mono hbel.size); replace h1 := row_keep hb1 h1; replace h2 := row_keep hb1 h2; clear hb1)
            | (go_at_call 52; (with_reducible refine (isViewAt_one v hx HF.out _ _ h5).mono ?_); rw [HI.out]; rintro e w1 ⟨rfl, hb1⟩; replace hb1 := below_of_alloc hb1; replace hbel := hbel.trans (hb1.mono hbel.size); replace h1 := row_keep hb1 h1; replace h2 := row_keep hb1 h2; clear hb1)
            | (go_at_call 78; (with_reducible refine (within_any _ _ _ _).mono ?_); rw [HC.out]; rintro e w' ⟨rfl, rfl⟩)
          exact bodyPost_ret_by (results_ct _ _ _ _ _ _ _ rfl rfl (setRow_heap _ _ _ _ _ _ h2) c2a c2s) rfl ⟨rfl, below_setRow2 hbel (by omega) _⟩
    · rw [ctR_bad (fun h => hi h.2.1)]
      have HI : Hid _ := show (decide (0 ≤ i) && decide (i ≤ 5)) = false by simpa using hi
      have HC : Hid (1 = 1) := rfl
      clear hf hi
      go_enter Try.func38, Try.ntmps38
      go_wp2_with first
        | (with_reducible refine wpList_allocA rfl 25 rfl 2 c2z ?_; (try simp only [size_al]))
        | (with_reducible refine wpList_loadW rfl _ _ rfl _ rfl h1 agg18r size18r ?_)
        | (with_reducible refine wpList_loadI rfl _ _ rfl _ _ rfl h1 aggI undI (by omega) ?_)
        | (with_reducible refine wpList_build0 rfl 25 rfl 2 c2b0 ?_)
        | (with_reducible refine wpList_storeW rfl _ _ _ rfl _ rfl rfl h2 c2s ?_)
        | (go_at_call 52; (with_reducible refine (isViewAt_bad v hx HF.out _ _).mono ?_); rintro e w1 ⟨rfl, hb1⟩; replace hb1 := below_of_alloc hb1; replace hbel := hbel.trans (hb1.mono hbel.size); replace h1 := row_keep hb1 h1; replace h2 := row_keep hb1 h2; clear hb1)
        | (go_at_call 52; (with_reducible refine (isViewAt_one v hx HF.out _ _ h5).mono ?_); rw [HI.out]; rintro e w1 ⟨rfl, hb1⟩; replace hb1 := below_of_alloc hb1; replace hbel := hbel.trans (hb1.mono hbel.size); replace h1 := row_keep hb1 h1; replace h2 := row_keep hb1 h2; clear hb1)
        | (go_at_call 78; (with_reducible refine (within_any _ _ _ _).mono ?_); rw [HC.out]; rintro e w' ⟨rfl, rfl⟩)
      exact bodyPost_ret_by (results_ct _ _ _ _ _ _ _ rfl rfl (setRow_heap _ _ _ _ _ _ h2) c2a c2s) rfl ⟨rfl, below_setRow2 hbel (by omega) _⟩
set_option linter.unusedVariables false in
theorem FnExactChanceTop_walk (x0 : Nat → Int) (hx0 : ∀ j, I64 (x0 j)) (x1 : Int) (hx1 : I64 x1) (x2 : Int) (hx2 : I64 x2) (w : World) : Calls Try.prog 11 #[.agg (arr 18 x0), .int .i64 x1, .int .i64 x2] w fun e w' => e = .returned (.bool true) ∧ Below w.heap.size w w' := by
  have hr0 : (w.alloc (.cells (arr 18 x0) 24)).heap[w.heap.size]? = some (.cells (arr 18 x0) 24 (0, 0)) := by rw [heap_new (by simp)]
  have hbel : Below w.heap.size w (w.alloc (.cells (arr 18 x0) 24)) := ((Below.refl _ _).alloc (by simp) _)
  have tok_hA0 : True := trivial
  have tok_hB0 : True := trivial
  go_enter Try.func11, Try.ntmps11
  go_wp2_with first
    | (with_reducible refine wpList_loadW rfl _ _ rfl _ rfl hr0 agg18l size18l ?_)
    | (go_at_call 16; (with_reducible refine (toView_any _ _).mono ?_); (rintro e w1 ⟨rfl, hb1⟩; replace hbel := hbel.trans (hb1.mono hbel.size); replace hr0 := row_keep hb1 hr0; (try replace hA0 := row_keep hb1 hA0); (try replace hB0 := row_keep hb1 hB0); clear hb1))
    | (go_at_call 37; (with_reducible refine (specCtop_any _ hx0 _ _ _).mono ?_); (rintro e w1 ⟨rfl, hb1⟩; replace hbel := hbel.trans (hb1.mono hbel.size); replace hr0 := row_keep hb1 hr0; (try replace hA0 := row_keep hb1 hA0); (try replace hB0 := row_keep hb1 hB0); clear hb1))
    | (go_at_call 38; (with_reducible refine (implCtop_any _ hx0 _ _ _).mono ?_); (rintro e w1 ⟨rfl, hb1⟩; replace hbel := hbel.trans (hb1.mono hbel.size); replace hr0 := row_keep hb1 hr0; (try replace hA0 := row_keep hb1 hA0); (try replace hB0 := row_keep hb1 hB0); clear hb1))
    | (with_reducible refine wpList_allocA rfl 25 rfl 2 zero2 ?_; (try simp only [size_al]))
    | (go_at_call 18; (with_reducible refine (eqIntA2_same _ _).mono ?_); (rintro e w1 ⟨rfl, hb1⟩; replace hbel := hbel.trans (hb1.mono hbel.size); replace hr0 := row_keep hb1 hr0; (try replace hA0 := row_keep hb1 hA0); (try replace hB0 := row_keep hb1 hB0); clear hb1))
    | (have _t := tok_hA0; with_reducible refine wpList_storeN rfl _ _ _ rfl rfl rfl size2 ?_; intro w1 hA0 hb1; replace hbel := hbel.trans (hb1.mono hbel.size); replace hr0 := row_keep hb1 hr0; clear hb1 _t tok_hA0)
    | (with_reducible refine wpList_loadWG rfl _ _ rfl _ rfl hA0 agg2 size2 ?_)
    | (have _t := tok_hB0; with_reducible refine wpList_storeN rfl _ _ _ rfl rfl rfl size2 ?_; intro w1 hB0 hb1; replace hbel := hbel.trans (hb1.mono hbel.size); replace hr0 := row_keep hb1 hr0; replace hA0 := row_keep hb1 hA0; clear hb1 _t tok_hB0)
    | (with_reducible refine wpList_loadWG rfl _ _ rfl _ rfl hB0 agg2 size2 ?_)
  go_ret
  exact ⟨rfl, hbel⟩
end Go.Proofs.Ytogdmacndokmhaa
