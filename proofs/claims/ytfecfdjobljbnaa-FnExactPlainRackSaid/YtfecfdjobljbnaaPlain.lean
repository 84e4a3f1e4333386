/- PlainRack: the program's and the reference's, and the law. -/
import Derived.Test.YtfecfdjobljbnaaView2
import Derived.Test.YtfecfdjobljbnaaView3
import Derived.Test.YtfecfdjobljbnaaConvV
namespace Go.Proofs.Ytfecfdjobljbnaa
set_option linter.unusedSimpArgs false
set_option linter.unusedVariables false
open Go.RowKit
theorem size6 : (Try.prog.info? 35).map (·.size) = some 6 := v6s
theorem agg6 : aggB Try.prog 35 = true := v6a
theorem p24b : Try.prog.built 32 [] = some (arr 24 fun _ => 0) := by kernel_rfl
/-- k layers of colour c, put into stack t. -/
def fill (f : Nat → Int) (t c : Nat) : Nat → (Nat → Int)
  | 0 => f
  | k + 1 => upd (fill f t c k) (t * 4 + k) c
def pT (a : Nat → Int) : Nat → Nat
  | 0 => 0
  | c + 1 => if 0 < a c then pT a c + 1 else pT a c
def pF (a : Nat → Int) : Nat → (Nat → Int)
  | 0 => fun _ => 0
  | c + 1 => fill (pF a c) (pT a c) c (a c).toNat
theorem pT_le (a : Nat → Int) : ∀ c, pT a c ≤ c
  | 0 => by simp [pT]
  | c + 1 => by
    have := pT_le a c
    unfold pT
    split <;> omega
def okA (a : Nat → Int) : Prop := a 0 = 0 ∧ ∀ c, c < 6 → 0 ≤ a c ∧ a c ≤ 4
open Classical in
noncomputable def plainF (a : Nat → Int) : (Nat → Int) × Bool := if okA a then (pF a 6, true) else (fun _ => 0, false)
theorem plain_bad {a : Nat → Int} (h : ¬ okA a) : plainF a = (fun _ => 0, false) := if_neg h
theorem plain_ok {a : Nat → Int} (h : okA a) : plainF a = (pF a 6, true) := if_pos h
theorem pl_pred : PredI 34 (fun x => decide (0 ≤ x ∧ x ≤ 4)) := by
  refine ⟨enters_of Try.func34 (by kernel_rfl) rfl, fun x w => ?_⟩
  go_enter Try.func34, Try.ntmps34
  go_wp2_with (go_at_call 35; (with_reducible refine (within_any _ _ _ _).mono ?_); rintro e w' ⟨rfl, rfl⟩)
  go_ret
  exact ⟨ret_bool (by simp), Below.refl _ _⟩
theorem specPlain_any (a : Nat → Int) (w : World) : Calls Try.prog 17 #[.agg (arr 6 a)] w fun e w' => e = .returned (.tuple #[.agg (arr 24 (plainF a).1), .bool (plainF a).2]) ∧ Below w.heap.size w w' := by
  have h1 : (((w.alloc (.cells (arr 6 a) 35)).alloc (.cells (arr 24 fun _ => 0) 32)).alloc (.cells (arr 24 fun _ => 0) 32)).heap[w.heap.size]? = some (.cells (arr 6 a) 35 (0, 0)) := by rw [heap_old (by simp; omega), heap_old (by simp), heap_new rfl]
  have h2 : (((w.alloc (.cells (arr 6 a) 35)).alloc (.cells (arr 24 fun _ => 0) 32)).alloc (.cells (arr 24 fun _ => 0) 32)).heap[w.heap.size + 1]? = some (.cells (arr 24 fun _ => 0) 32 (0, 0)) := by rw [heap_old (by simp), heap_new (by simp)]
  have h3 : (((w.alloc (.cells (arr 6 a) 35)).alloc (.cells (arr 24 fun _ => 0) 32)).alloc (.cells (arr 24 fun _ => 0) 32)).heap[w.heap.size + 1 + 1]? = some (.cells (arr 24 fun _ => 0) 32 (0, 0)) := heap_new (by simp)
  have hbel : Below w.heap.size w (((w.alloc (.cells (arr 6 a) 35)).alloc (.cells (arr 24 fun _ => 0) 32)).alloc (.cells (arr 24 fun _ => 0) 32)) := (((Below.refl _ _).alloc (by simp) _).alloc (by simp) _).alloc (by simp; omega) _
  have h4 := setRow_heap _ _ _ (arr 24 fun _ => 0) _ _ h3
  have h5 := (setRow_other (((w.alloc (.cells (arr 6 a) 35)).alloc (.cells (arr 24 fun _ => 0) 32)).alloc (.cells (arr 24 fun _ => 0) 32)) (w.heap.size + 1 + 1) w.heap.size (arr 24 fun _ => 0) (by omega)).trans h1
  have h6 := (setRow_other (((w.alloc (.cells (arr 6 a) 35)).alloc (.cells (arr 24 fun _ => 0) 32)).alloc (.cells (arr 24 fun _ => 0) 32)) (w.heap.size + 1 + 1) (w.heap.size + 1) (arr 24 fun _ => 0) (by omega)).trans h2
  by_cases h0 : a 0 = 0
  · have t1 : pT a 1 = 0 := by simp [pT, h0]
    have f1 : pF a 1 = fun _ => 0 := by simp [pF, h0, fill]
    have H0 : Hid (a 0 = 0) := h0
    have hq0 : (a 0 != 0) = false := by simpa using h0
    go_enter Try.func17, Try.ntmps17
    go_wp2_with first
      | (with_reducible refine wpList_allocA rfl 32 rfl 24 zero24r ?_; (try simp only [size_al]))
      | (with_reducible refine wpList_build0 rfl 32 rfl 24 p24b ?_)
      | (with_reducible refine wpList_storeW rfl _ _ _ rfl _ rfl rfl h3 size24r ?_)
      | (with_reducible refine wpList_loadI rfl _ _ rfl _ _ rfl h5 aggI undI (by omega) ?_)
    go_loopw [5, 6] (fun t c wr => ∃ n : Nat, 1 ≤ n ∧ n ≤ 6 ∧ c = .int .i64 n ∧ t = .int .i64 (pT a n : Nat) ∧ (∀ c, 1 ≤ c → c < n → 0 ≤ a c ∧ a c ≤ 4) ∧ wr.heap[w.heap.size]? = some (.cells (arr 6 a) 35 (0, 0)) ∧ wr.heap[w.heap.size + 1]? = some (.cells (arr 24 fun _ => 0) 32 (0, 0)) ∧ wr.heap[w.heap.size + 1 + 1]? = some (.cells (arr 24 (pF a n)) 32 (0, 0)) ∧ Below w.heap.size w wr) (fun _ c _ => 6 - (intOf c).toNat)
    case atStart => exact ⟨1, by omega, by omega, rfl, by rw [t1]; rfl, by intro c h1 h2; omega, h5, h6, by rw [f1]; exact h4, below_setRow2 hbel (by omega) _⟩
    case round =>
      clear h1 h2 h3 h4 h5 h6 hbel h0 hq0
      obtain ⟨n, hn1, hn, rfl, rfl, hL, h1, h2, h3, hbel⟩ := hrel
      have HL : Hid _ := hL
      clear hL
      have htn := pT_le a n
      by_cases hlt : n < 6
      · cases hc : decide (0 ≤ a n ∧ a n ≤ 4) with
        | false =>
          have HV : Hid (plainF a = (fun _ => 0, false)) := plain_bad fun h => by
            have := h.2 n hlt
            simp [this.1, this.2] at hc
          have HC : Hid _ := hc
          clear hc
          go_wp2_with first
            | (with_reducible refine wpList_loadI rfl _ _ rfl _ _ rfl h1 aggI undI (by omega) ?_)
            | (go_at_call 32; (with_reducible refine (l1In_b false HC.out _).mono ?_); rintro e w1 ⟨rfl, hb1⟩; replace hbel := hbel.trans (hb1.mono hbel.size); replace h1 := row_keep hb1 h1; replace h2 := row_keep hb1 h2; replace h3 := row_keep hb1 h3; clear hb1)
            | (with_reducible refine wpList_build0 rfl 32 rfl 24 p24b ?_)
            | (with_reducible refine wpList_storeW rfl _ _ _ rfl _ rfl rfl h2 size24r ?_)
          exact bodyPost_ret_by (results_ct _ _ _ _ _ _ _ rfl rfl (setRow_heap _ _ _ _ _ _ h2) agg24r size24r) rfl ⟨by rw [HV.out]; rfl, below_setRow2 hbel (by omega) _⟩
        | true =>
          have HC : Hid _ := hc
          simp only [decide_eq_true_eq] at hc
          obtain ⟨l, hl⟩ : ∃ l : Nat, a n = l := ⟨(a n).toNat, by omega⟩
          have hl4 : l ≤ 4 := by omega
          have HA : Hid (a n = l) := hl
          have HN : Hid (∀ c, 1 ≤ c → c < n + 1 → 0 ≤ a c ∧ a c ≤ 4) := fun c h1 h2 => by
            by_cases e : c = n
            · subst e; exact hc
            · exact HL.out c h1 (by omega)
          have HS : Hid (pF a (n + 1) = fill (pF a n) (pT a n) n l) := by
            show Hid (fill (pF a n) (pT a n) n (a n).toNat = _)
            rw [hl, Int.toNat_natCast]
            exact rfl
          have HT : Hid (pT a (n + 1) = if 0 < (l : Int) then pT a n + 1 else pT a n) := by
            show Hid ((if 0 < a n then pT a n + 1 else pT a n) = _)
            rw [hl]
            exact rfl
          have HC : Hid (decide (0 ≤ (l : Int) ∧ (l : Int) ≤ 4) = true) := by rw [← hl]; exact HC
          clear hl hc
          go_wp2_with first
            | ((with_reducible refine wpList_loadI rfl _ _ rfl _ _ rfl h1 aggI undI (by omega) ?_); rw [HA.out])
            | (go_at_call 32; (with_reducible refine (l1In_b true HC.out _).mono ?_); rintro e w1 ⟨rfl, hb1⟩; replace hbel := hbel.trans (hb1.mono hbel.size); replace h1 := row_keep hb1 h1; replace h2 := row_keep hb1 h2; replace h3 := row_keep hb1 h3; clear hb1)
          go_loopw [7] (fun k wq => ∃ m : Nat, m ≤ l ∧ k = .int .i64 m ∧ wq.heap[w.heap.size]? = some (.cells (arr 6 a) 35 (0, 0)) ∧ wq.heap[w.heap.size + 1]? = some (.cells (arr 24 fun _ => 0) 32 (0, 0)) ∧ wq.heap[w.heap.size + 1 + 1]? = some (.cells (arr 24 (fill (pF a n) (pT a n) n m)) 32 (0, 0)) ∧ Below w.heap.size w wq) (fun k _ => 6 - (intOf k).toNat)
          case atStart => exact ⟨0, by omega, rfl, h1, h2, h3, hbel⟩
          case round =>
            clear h1 h2 h3 hbel
            obtain ⟨m, hm, rfl, h1, h2, h3, hbel⟩ := hrel
            have hm4 : (m : Int) ≤ 4 := by omega
            by_cases hml : m < l
            · have hm3 : (m : Int) < 4 := by omega
              have ht6 : ((pT a n : Nat) : Int) < 6 := by omega
              go_wp2_with first
                | ((with_reducible refine wpList_loadI rfl _ _ rfl _ _ rfl h1 aggI undI (by omega) ?_); rw [HA.out])
                | (with_reducible refine wpList_storeI rfl 3 _ _ rfl _ _ rfl rfl h3 size1 (by omega) ?_)
              go_roundw
              case rel =>
                refine ⟨m + 1, by omega, by go_num, ?_, ?_, ?_, below_setRow2 hbel (by omega) _⟩
                · rw [setRow_other _ _ _ _ (by omega), h1]
                · rw [setRow_other _ _ _ _ (by omega), h2]
                · rw [setRow_heap _ _ _ _ _ _ h3]; rfl
              case measure => simp [intOf]; omega
            · obtain rfl : m = l := by omega
              by_cases hp : 0 < (m : Int)
              · go_wp2_with first
                  | ((with_reducible refine wpList_loadI rfl _ _ rfl _ _ rfl h1 aggI undI (by omega) ?_); rw [HA.out])
                go_roundw
                case rel => exact ⟨n + 1, by omega, by omega, by go_num, by rw [HT.out, if_pos hp]; go_num, HN.out, h1, h2, by rw [HS.out]; exact h3, hbel⟩
                case measure => simp [intOf]; omega
              · go_wp2_with first
                  | ((with_reducible refine wpList_loadI rfl _ _ rfl _ _ rfl h1 aggI undI (by omega) ?_); rw [HA.out])
                go_roundw
                case rel => exact ⟨n + 1, by omega, by omega, by go_num, by rw [HT.out, if_neg hp], HN.out, h1, h2, by rw [HS.out]; exact h3, hbel⟩
                case measure => simp [intOf]; omega
      · obtain rfl : n = 6 := by omega
        have HV : Hid (plainF a = (pF a 6, true)) := plain_ok ⟨H0.out, fun c hc => by
          by_cases e : c = 0
          · subst e; rw [H0.out]; omega
          · exact HL.out c (by omega) hc⟩
        go_wp2_with first
          | (with_reducible refine wpList_loadW rfl _ _ rfl _ rfl h3 agg24r size24r ?_)
          | (with_reducible refine wpList_storeW rfl _ _ _ rfl _ rfl rfl h2 size24r ?_)
        exact bodyPost_ret_by (results_ct _ _ _ _ _ _ _ rfl rfl (setRow_heap _ _ _ _ _ _ h2) agg24r size24r) rfl ⟨by rw [HV.out]; rfl, below_setRow2 hbel (by omega) _⟩
  · have HV : Hid (plainF a = (fun _ => 0, false)) := plain_bad fun h => h0 h.1
    have hq0 : (a 0 != 0) = true := by simpa using h0
    go_enter Try.func17, Try.ntmps17
    go_wp2_with first
      | (with_reducible refine wpList_allocA rfl 32 rfl 24 zero24r ?_; (try simp only [size_al]))
      | (with_reducible refine wpList_build0 rfl 32 rfl 24 p24b ?_)
      | (with_reducible refine wpList_storeW rfl _ _ _ rfl _ rfl rfl h3 size24r ?_)
      | (with_reducible refine wpList_loadI rfl _ _ rfl _ _ rfl h5 aggI undI (by omega) ?_)
      | (with_reducible refine wpList_storeW rfl _ _ _ rfl _ rfl rfl h6 size24r ?_)
    exact bodyPost_ret_by (results_ct _ _ _ _ _ _ _ rfl rfl (setRow_heap _ _ _ _ _ _ h6) agg24r size24r) rfl ⟨by rw [HV.out]; rfl, below_setRow2 (below_setRow2 hbel (by omega) _) (by omega) _⟩
end Go.Proofs.Ytfecfdjobljbnaa
