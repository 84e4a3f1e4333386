/- PlainRack: the program's, and the law. -/
import Derived.Test.YtfecfdjobljbnaaPlain
namespace Go.Proofs.Ytfecfdjobljbnaa
set_option linter.unusedSimpArgs false
set_option linter.unusedVariables false
open Go.RowKit
theorem implPlain_any (a : Nat → Int) (w : World) : Calls Try.prog 19 #[.agg (arr 6 a)] w fun e w' => e = .returned (.tuple #[.agg (arr 24 (plainF a).1), .bool (plainF a).2]) ∧ Below w.heap.size w w' := by
  have h1 : ((w.alloc (.cells (arr 6 a) 35)).alloc (.cells (arr 24 fun _ => 0) 32)).heap[w.heap.size]? = some (.cells (arr 6 a) 35 (0, 0)) := by rw [heap_old (by simp), heap_new rfl]
  have h2 : ((w.alloc (.cells (arr 6 a) 35)).alloc (.cells (arr 24 fun _ => 0) 32)).heap[w.heap.size + 1]? = some (.cells (arr 24 fun _ => 0) 32 (0, 0)) := heap_new (by simp)
  have hbel : Below w.heap.size w ((w.alloc (.cells (arr 6 a) 35)).alloc (.cells (arr 24 fun _ => 0) 32)) := ((Below.refl _ _).alloc (by simp) _).alloc (by simp) _
  by_cases h0 : a 0 = 0
  · have hq0 : (a 0 != 0) = false := by simpa using h0
    cases hA : (List.range 6).all fun k => decide (0 ≤ a (0 + k) ∧ a (0 + k) ≤ 4) with
    | false =>
      have HV : Hid (plainF a = (fun _ => 0, false)) := plain_bad fun h => by
        have : ((List.range 6).all fun k => decide (0 ≤ a (0 + k) ∧ a (0 + k) ≤ 4)) = true := List.all_eq_true.2 fun k hk => by rw [Nat.zero_add]; simpa using h.2 k (List.mem_range.1 hk)
        rw [hA] at this
        cases this
      have HA : Hid _ := hA
      clear hA
      go_enter Try.func19, Try.ntmps19
      go_wp2_with first
        | (with_reducible refine wpList_allocA rfl 32 rfl 24 zero24r ?_; (try simp only [size_al]))
        | (with_reducible refine wpList_loadI rfl _ _ rfl _ _ rfl h1 aggI undI (by omega) ?_)
        | (go_at_call 33; (with_reducible refine (areAll_b false 34 _ pl_pred _ h1 (by omega) (by omega) HA.out).mono ?_); rintro e w1 ⟨rfl, hb1⟩; replace hbel := hbel.trans (hb1.mono hbel.size); replace h1 := row_keep hb1 h1; replace h2 := row_keep hb1 h2; clear hb1)
        | (with_reducible refine wpList_build0 rfl 32 rfl 24 p24b ?_)
        | (with_reducible refine wpList_storeW rfl _ _ _ rfl _ rfl rfl h2 size24r ?_)
      exact bodyPost_ret_by (results_ct _ _ _ _ _ _ _ rfl rfl (setRow_heap _ _ _ _ _ _ h2) agg24r size24r) rfl ⟨by rw [HV.out]; rfl, below_setRow2 hbel (by omega) _⟩
    | true =>
      have HA : Hid _ := hA
      have hok : okA a := ⟨h0, fun k hk => by
        have := List.all_eq_true.1 hA k (List.mem_range.2 hk)
        rw [Nat.zero_add] at this
        simpa using this⟩
      have HO : Hid _ := hok
      have HV : Hid (plainF a = (pF a 6, true)) := plain_ok hok
      clear hA hok
      go_enter Try.func19, Try.ntmps19
      go_wp2_with first
        | (with_reducible refine wpList_allocA rfl 32 rfl 24 zero24r ?_; (try simp only [size_al]))
        | (with_reducible refine wpList_loadI rfl _ _ rfl _ _ rfl h1 aggI undI (by omega) ?_)
        | ((go_at_call 33; (with_reducible refine (areAll_b true 34 _ pl_pred _ h1 (by omega) (by omega) HA.out).mono ?_); (rintro e w1 ⟨rfl, hb1⟩; replace hbel := hbel.trans (hb1.mono hbel.size); replace h1 := row_keep hb1 h1; replace h2 := row_keep hb1 h2; clear hb1; have h4 := row_alloc (x := .cells (arr 24 fun _ => 0) 32) h1)))
        | (with_reducible refine wpList_loadW rfl _ _ rfl _ rfl h4 agg6 size6 ?_)
      have hlt2 := (Array.getElem?_eq_some_iff.1 h2).1
      have h3 : (w1.alloc (.cells (arr 24 (pF a 0)) 32)).heap[w1.heap.size]? = some (.cells (arr 24 (pF a 0)) 32 (0, 0)) := heap_new rfl
      replace h2 := row_alloc (x := .cells (arr 24 (pF a 0)) 32) h2
      replace hbel := hbel.alloc hbel.size (.cells (arr 24 (pF a 0)) 32)
      go_loopw [5, 19] (fun t c wr => ∃ n : Nat, n ≤ 6 ∧ c = .int .i64 n ∧ t = .int .i64 (pT a n : Nat) ∧ wr.heap[w.heap.size + 1]? = some (.cells (arr 24 fun _ => 0) 32 (0, 0)) ∧ wr.heap[w1.heap.size]? = some (.cells (arr 24 (pF a n)) 32 (0, 0)) ∧ Below w.heap.size w wr) (fun _ c _ => 6 - (intOf c).toNat)
      case atStart => exact ⟨0, by omega, rfl, rfl, h2, h3, hbel⟩
      case round =>
        clear h1 h2 h3 h4 hbel h0 hq0
        obtain ⟨n, hn, rfl, rfl, h2, h3, hbel⟩ := hrel
        have htn := pT_le a n
        by_cases hlt : n < 6
        · have hc := HO.out.2 n hlt
          obtain ⟨l, hl⟩ : ∃ l : Nat, a n = l := ⟨(a n).toNat, by omega⟩
          have hl4 : l ≤ 4 := by omega
          have hlt' : (n : Int) < 6 := by omega
          have HL : Hid (a n = l) := hl
          have HL2 : Hid (a (0 + n) = l) := by rw [Nat.zero_add]; exact hl
          have HS : Hid (pF a (n + 1) = fill (pF a n) (pT a n) n l) := by
            show Hid (fill (pF a n) (pT a n) n (a n).toNat = _)
            rw [hl, Int.toNat_natCast]
            exact rfl
          have HT : Hid (pT a (n + 1) = if 0 < (l : Int) then pT a n + 1 else pT a n) := by
            show Hid ((if 0 < a n then pT a n + 1 else pT a n) = _)
            rw [hl]
            exact rfl
          clear hl hc
          go_wp2_with first
            | ((with_reducible refine wpList_indexI rfl _ _ _ rfl rfl rfl _ Try.underlying35 aggI undI size1 (by omega) ?_); first | rw [HL.out] | rw [HL2.out])
          obtain ⟨wo, hwo⟩ : ∃ wo : World, wo = wr := ⟨_, rfl⟩
          rw [← hwo] at h2 h3 hbel
          go_loopw [24] (fun k wq => ∃ m : Nat, m ≤ l ∧ k = .int .i64 m ∧ wq.heap[w.heap.size + 1]? = some (.cells (arr 24 fun _ => 0) 32 (0, 0)) ∧ wq.heap[w1.heap.size]? = some (.cells (arr 24 (fill (pF a n) (pT a n) n m)) 32 (0, 0)) ∧ Below w.heap.size w wq) (fun k _ => 6 - (intOf k).toNat)
          case atStart => exact ⟨0, by omega, rfl, hwo ▸ h2, hwo ▸ h3, hwo ▸ hbel⟩
          case round =>
            clear h2 h3 hbel hwo
            obtain ⟨m, hm, rfl, h2, h3, hbel⟩ := hrel
            have hm4 : (m : Int) ≤ 4 := by omega
            by_cases hml : m < l
            · have hm3 : (m : Int) < 4 := by omega
              have ht6 : ((pT a n : Nat) : Int) < 6 := by omega
              go_wp2_with first
                | (with_reducible refine wpList_storeI rfl 3 _ _ rfl _ _ rfl rfl h3 size1 (by omega) ?_)
              go_roundw
              case rel =>
                refine ⟨m + 1, by omega, by go_num, ?_, ?_, below_setRow2 hbel (by omega) _⟩
                · rw [setRow_other _ _ _ _ (by omega), h2]
                · rw [setRow_heap _ _ _ _ _ _ h3]; rfl
              case measure => simp [intOf]; omega
            · obtain rfl : m = l := by omega
              by_cases hp : 0 < (m : Int)
              · go_wp2_with first
                  | fail
                go_roundw
                case rel => exact ⟨n + 1, by omega, by go_num, by rw [HT.out, if_pos hp]; go_num, h2, by rw [HS.out]; exact h3, hbel⟩
                case measure => simp [intOf]; omega
              · go_wp2_with first
                  | fail
                go_roundw
                case rel => exact ⟨n + 1, by omega, by go_num, by rw [HT.out, if_neg hp], h2, by rw [HS.out]; exact h3, hbel⟩
                case measure => simp [intOf]; omega
        · obtain rfl : n = 6 := by omega
          go_wp2_with first
            | (with_reducible refine wpList_loadW rfl _ _ rfl _ rfl h3 agg24r size24r ?_)
            | (with_reducible refine wpList_storeW rfl _ _ _ rfl _ rfl rfl h2 size24r ?_)
          exact bodyPost_ret_by (results_ct _ _ _ _ _ _ _ rfl rfl (setRow_heap _ _ _ _ _ _ h2) agg24r size24r) rfl ⟨by rw [HV.out]; rfl, below_setRow2 hbel (by omega) _⟩
  · have HV : Hid (plainF a = (fun _ => 0, false)) := plain_bad fun h => h0 h.1
    have hq0 : (a 0 != 0) = true := by simpa using h0
    have HA : Hid (1 = 1) := rfl
    go_enter Try.func19, Try.ntmps19
    go_wp2_with first
      | (with_reducible refine wpList_allocA rfl 32 rfl 24 zero24r ?_; (try simp only [size_al]))
      | (with_reducible refine wpList_loadI rfl _ _ rfl _ _ rfl h1 aggI undI (by omega) ?_)
      | (go_at_call 33; (with_reducible refine (areAll_b false 34 _ pl_pred _ h1 (by omega) (by omega) HA.out).mono ?_); rintro e w1 ⟨rfl, hb1⟩; replace hbel := hbel.trans (hb1.mono hbel.size); replace h1 := row_keep hb1 h1; replace h2 := row_keep hb1 h2; clear hb1)
      | (with_reducible refine wpList_build0 rfl 32 rfl 24 p24b ?_)
      | (with_reducible refine wpList_storeW rfl _ _ _ rfl _ rfl rfl h2 size24r ?_)
    exact bodyPost_ret_by (results_ct _ _ _ _ _ _ _ rfl rfl (setRow_heap _ _ _ _ _ _ h2) agg24r size24r) rfl ⟨by rw [HV.out]; rfl, below_setRow2 hbel (by omega) _⟩
set_option linter.unusedVariables false in
theorem FnExactPlainRack_walk (x0 : Nat → Int) (hx0 : ∀ j, I64 (x0 j)) (w : World) : Calls Try.prog 7 #[.agg (arr 6 x0)] w fun e w' => e = .returned (.bool true) ∧ Below w.heap.size w w' := by
  have hr0 : (w.alloc (.cells (arr 6 x0) 35)).heap[w.heap.size]? = some (.cells (arr 6 x0) 35 (0, 0)) := by rw [heap_new (by simp)]
  have hbel : Below w.heap.size w (w.alloc (.cells (arr 6 x0) 35)) := ((Below.refl _ _).alloc (by simp) _)
  have tok_hA0 : True := trivial
  have tok_hB0 : True := trivial
  go_enter Try.func7, Try.ntmps7
  go_wp2_with first
    | (with_reducible refine wpList_loadW rfl _ _ rfl _ rfl hr0 agg6 size6 ?_)
    | (go_at_call 18; (with_reducible refine (toIntA6_any _ _).mono ?_); (rintro e w1 ⟨rfl, hb1⟩; replace hbel := hbel.trans (hb1.mono hbel.size); replace hr0 := row_keep hb1 hr0; (try replace hA0 := row_keep hb1 hA0); (try replace hB0 := row_keep hb1 hB0); clear hb1))
    | (go_at_call 17; (with_reducible refine (specPlain_any _ _).mono ?_); (rintro e w1 ⟨rfl, hb1⟩; replace hbel := hbel.trans (hb1.mono hbel.size); replace hr0 := row_keep hb1 hr0; (try replace hA0 := row_keep hb1 hA0); (try replace hB0 := row_keep hb1 hB0); clear hb1))
    | (go_at_call 19; (with_reducible refine (implPlain_any _ _).mono ?_); (rintro e w1 ⟨rfl, hb1⟩; replace hbel := hbel.trans (hb1.mono hbel.size); replace hr0 := row_keep hb1 hr0; (try replace hA0 := row_keep hb1 hA0); (try replace hB0 := row_keep hb1 hB0); clear hb1))
    | (with_reducible refine wpList_allocA rfl 32 rfl 24 zero24r ?_; (try simp only [size_al]))
    | (go_at_call 20; (with_reducible refine (eqRack_same _ _).mono ?_); (rintro e w1 ⟨rfl, hb1⟩; replace hbel := hbel.trans (hb1.mono hbel.size); replace hr0 := row_keep hb1 hr0; (try replace hA0 := row_keep hb1 hA0); (try replace hB0 := row_keep hb1 hB0); clear hb1))
    | (have _t := tok_hA0; with_reducible refine wpList_storeN rfl _ _ _ rfl rfl rfl size24r ?_; intro w1 hA0 hb1; replace hbel := hbel.trans (hb1.mono hbel.size); replace hr0 := row_keep hb1 hr0; clear hb1 _t tok_hA0)
    | (with_reducible refine wpList_loadWG rfl _ _ rfl _ rfl hA0 agg24r size24r ?_)
    | (have _t := tok_hB0; with_reducible refine wpList_storeN rfl _ _ _ rfl rfl rfl size24r ?_; intro w1 hB0 hb1; replace hbel := hbel.trans (hb1.mono hbel.size); replace hr0 := row_keep hb1 hr0; replace hA0 := row_keep hb1 hA0; clear hb1 _t tok_hB0)
    | (with_reducible refine wpList_loadWG rfl _ _ rfl _ rfl hB0 agg24r size24r ?_)
  go_ret
  exact ⟨rfl, hbel⟩
end Go.Proofs.Ytfecfdjobljbnaa
