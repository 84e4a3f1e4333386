/- The tests on views: the program's. -/
import Derived.Test.YtbiplciklmagoaaViewP
namespace Go.Proofs.Ytbiplciklmagoaa
set_option linter.unusedSimpArgs false
set_option linter.unusedVariables false
set_option maxRecDepth 20000
open Go.RowKit
theorem within_b {x a c : Int} (b : Bool) (h : decide (a ≤ x ∧ x ≤ c) = b) (w : World) : Calls Try.prog 75 #[.int .i64 x, .int .i64 a, .int .i64 c] w fun e w' => e = .returned (.bool b) ∧ Below w.heap.size w w' := (within_any x a c w).mono fun _ _ ⟨he, hw⟩ => ⟨by rw [he, h], by subst hw; exact Below.refl _ _⟩
theorem isV1_pred : PredI 99 (fun x => decide (0 ≤ x ∧ x ≤ 24)) := by
  refine ⟨enters_of Try.func99 (by kernel_rfl) rfl, fun x w => ?_⟩
  go_enter Try.func99, Try.ntmps99
  go_wp2_with (go_at_call 75; (with_reducible refine (within_any _ _ _ _).mono ?_); rintro e w' ⟨rfl, rfl⟩)
  go_ret
  exact ⟨ret_bool (by simp), Below.refl _ _⟩
theorem isV2_pred : PredI 100 (fun x => decide (0 ≤ x)) := by
  refine ⟨enters_of Try.func100 (by kernel_rfl) rfl, fun x w => ?_⟩
  go_enter Try.func100, Try.ntmps100
  go_wp2
  go_ret
  exact ⟨rfl, Below.refl _ _⟩
theorem areAll_b {B off len cap n : Nat} {f : Nat → Int} {T : TypeId} {fr : Nat × Nat} (b : Bool) (g : FuncId) (p : Int → Bool) (hp : PredI g p) (w : World)
    (hg : w.heap[B]? = some (.cells (arr n f) T fr)) (hle : off + len ≤ n) (hm : len ≤ 1000000) (hb : ((List.range len).all fun k => p (f (off + k))) = b) :
    Calls Try.prog 85 #[.slice (some ⟨B, off, none⟩) len cap, .func (.func g) #[] #[]] w fun e w' => e = .returned (.bool b) ∧ Below w.heap.size w w' := by
  subst hb
  exact areAll_int g p hp w hg hle hm
set_option maxHeartbeats 2000000 in
theorem IsView_any (v : Nat → Int) (hx : ∀ j, I64 (v j)) (w : World) : Calls Try.prog 74 #[.agg (arr 18 v)] w fun e w' => e = .returned (.bool (viewB v)) ∧ Below w.heap.size w w' := by
  have h1 : (w.alloc (.cells (arr 18 v) 48)).heap[w.heap.size]? = some (.cells (arr 18 v) 48 (0, 0))   := heap_new rfl
  have hbel : Below w.heap.size w (w.alloc (.cells (arr 18 v) 48)) := (Below.refl _ _).alloc (by simp) _
  go_enter Try.func74, Try.ntmps74
  go_wp2_with first
    | (with_reducible refine wpList_loadA rfl _ _ rfl _ _ rfl h1 6 v6a v6s (by omega) ?_)
  go_loopw [8] (fun i wr => ∃ n : Nat, n ≤ 6 ∧ i = .int .i64 n ∧ (∀ k, k < n → vok v k) ∧ wr.heap[w.heap.size]? = some (.cells (arr 18 v) 48 (0, 0)) ∧ Below w.heap.size w wr) (fun i _ => 6 - (intOf i).toNat)
  case atStart => exact ⟨0, by omega, rfl, by intro k hk; omega, h1, hbel⟩
  case round =>
    clear h1 hbel
    obtain ⟨n, hn, rfl, hok, h1, hbel⟩ := hrel
    have HOK : Hid _ := hok
    clear hok
    by_cases hlt : n < 6
    · have hlt' : (n : Int) < 6 := by omega
      cases hT : decide (0 ≤ v n ∧ v n ≤ 5) with
      | false =>
        have HV : Hid (viewB v = false) := viewB_bad hlt fun h => by simp [h.2.1.1, h.2.1.2] at hT
        have HT : Hid _ := hT
        clear hT
        have HH : Hid _ := HT
        go_wp2_with first
          | ((with_reducible refine wpList_indexI rfl _ _ _ rfl rfl rfl _ Try.underlying43 aggI undI size1 (by omega) ?_); try simp only [Nat.zero_add])
          | ((with_reducible refine wpList_loadI rfl _ _ rfl _ _ rfl h1 aggI undI (by omega) ?_); try simp only [Nat.zero_add])
          | (go_at_call 75; (with_reducible refine (within_b true HT.out _).mono ?_); rintro e w1 ⟨rfl, hb1⟩; replace hbel := hbel.trans (hb1.mono hbel.size); replace h1 := row_keep hb1 h1; clear hb1)
          | (go_at_call 75; (with_reducible refine (within_b true HH.out _).mono ?_); rintro e w1 ⟨rfl, hb1⟩; replace hbel := hbel.trans (hb1.mono hbel.size); replace h1 := row_keep hb1 h1; clear hb1)
          | (go_at_call 75; (with_reducible refine (within_b false HT.out _).mono ?_); rintro e w1 ⟨rfl, hb1⟩; replace hbel := hbel.trans (hb1.mono hbel.size); replace h1 := row_keep hb1 h1; clear hb1)
          | (go_at_call 75; (with_reducible refine (within_b false HH.out _).mono ?_); rintro e w1 ⟨rfl, hb1⟩; replace hbel := hbel.trans (hb1.mono hbel.size); replace h1 := row_keep hb1 h1; clear hb1)
        go_ret
        exact ⟨ret_bool HV.out.symm, hbel⟩
      | true =>
        have HT : Hid _ := hT
        simp only [decide_eq_true_eq] at hT
        cases hH : decide (0 ≤ v (6 + n) ∧ v (6 + n) ≤ 4) with
        | false =>
          have HV : Hid (viewB v = false) := viewB_bad hlt fun h => by simp [h.1.1, h.1.2] at hH
          have HH : Hid _ := hH
          clear hT hH
          go_wp2_with first
            | ((with_reducible refine wpList_indexI rfl _ _ _ rfl rfl rfl _ Try.underlying43 aggI undI size1 (by omega) ?_); try simp only [Nat.zero_add])
            | ((with_reducible refine wpList_loadI rfl _ _ rfl _ _ rfl h1 aggI undI (by omega) ?_); try simp only [Nat.zero_add])
            | (go_at_call 75; (with_reducible refine (within_b true HT.out _).mono ?_); rintro e w1 ⟨rfl, hb1⟩; replace hbel := hbel.trans (hb1.mono hbel.size); replace h1 := row_keep hb1 h1; clear hb1)
            | (go_at_call 75; (with_reducible refine (within_b true HH.out _).mono ?_); rintro e w1 ⟨rfl, hb1⟩; replace hbel := hbel.trans (hb1.mono hbel.size); replace h1 := row_keep hb1 h1; clear hb1)
            | (go_at_call 75; (with_reducible refine (within_b false HT.out _).mono ?_); rintro e w1 ⟨rfl, hb1⟩; replace hbel := hbel.trans (hb1.mono hbel.size); replace h1 := row_keep hb1 h1; clear hb1)
            | (go_at_call 75; (with_reducible refine (within_b false HH.out _).mono ?_); rintro e w1 ⟨rfl, hb1⟩; replace hbel := hbel.trans (hb1.mono hbel.size); replace h1 := row_keep hb1 h1; clear hb1)
          go_ret
          exact ⟨ret_bool HV.out.symm, hbel⟩
        | true =>
          have HH : Hid _ := hH
          simp only [decide_eq_true_eq] at hH
          by_cases e1 : 0 < v (6 + n) <;> by_cases e2 : 0 < v n
          · have hq1 : decide (0 < v (6 + n)) = true := by simpa using e1
            have hq2 : decide (0 < v n) = true := by simpa using e2
            have HN : Hid (∀ k, k < n + 1 → vok v k) := fun k hk => by
              by_cases e : k = n
              · subst e; exact ⟨hH, hT, ⟨fun h => by omega, fun h => by omega⟩⟩
              · exact HOK.out k (by omega)
            clear hH hT
            go_wp2_with first
              | ((with_reducible refine wpList_indexI rfl _ _ _ rfl rfl rfl _ Try.underlying43 aggI undI size1 (by omega) ?_); try simp only [Nat.zero_add])
              | ((with_reducible refine wpList_loadI rfl _ _ rfl _ _ rfl h1 aggI undI (by omega) ?_); try simp only [Nat.zero_add])
              | (go_at_call 75; (with_reducible refine (within_b true HT.out _).mono ?_); rintro e w1 ⟨rfl, hb1⟩; replace hbel := hbel.trans (hb1.mono hbel.size); replace h1 := row_keep hb1 h1; clear hb1)
              | (go_at_call 75; (with_reducible refine (within_b true HH.out _).mono ?_); rintro e w1 ⟨rfl, hb1⟩; replace hbel := hbel.trans (hb1.mono hbel.size); replace h1 := row_keep hb1 h1; clear hb1)
              | (go_at_call 75; (with_reducible refine (within_b false HT.out _).mono ?_); rintro e w1 ⟨rfl, hb1⟩; replace hbel := hbel.trans (hb1.mono hbel.size); replace h1 := row_keep hb1 h1; clear hb1)
              | (go_at_call 75; (with_reducible refine (within_b false HH.out _).mono ?_); rintro e w1 ⟨rfl, hb1⟩; replace hbel := hbel.trans (hb1.mono hbel.size); replace h1 := row_keep hb1 h1; clear hb1)
            go_roundw
            case rel => exact ⟨n + 1, by omega, by go_num, HN.out, h1, hbel⟩
            case measure => simp [intOf]; omega
          · have hq1 : decide (0 < v (6 + n)) = true := by simpa using e1
            have hq2 : decide (0 < v n) = false := by simpa using e2
            have HV : Hid (viewB v = false) := viewB_bad hlt fun h => by have := h.2.2; omega
            clear hH hT
            go_wp2_with first
              | ((with_reducible refine wpList_indexI rfl _ _ _ rfl rfl rfl _ Try.underlying43 aggI undI size1 (by omega) ?_); try simp only [Nat.zero_add])
              | ((with_reducible refine wpList_loadI rfl _ _ rfl _ _ rfl h1 aggI undI (by omega) ?_); try simp only [Nat.zero_add])
              | (go_at_call 75; (with_reducible refine (within_b true HT.out _).mono ?_); rintro e w1 ⟨rfl, hb1⟩; replace hbel := hbel.trans (hb1.mono hbel.size); replace h1 := row_keep hb1 h1; clear hb1)
              | (go_at_call 75; (with_reducible refine (within_b true HH.out _).mono ?_); rintro e w1 ⟨rfl, hb1⟩; replace hbel := hbel.trans (hb1.mono hbel.size); replace h1 := row_keep hb1 h1; clear hb1)
              | (go_at_call 75; (with_reducible refine (within_b false HT.out _).mono ?_); rintro e w1 ⟨rfl, hb1⟩; replace hbel := hbel.trans (hb1.mono hbel.size); replace h1 := row_keep hb1 h1; clear hb1)
              | (go_at_call 75; (with_reducible refine (within_b false HH.out _).mono ?_); rintro e w1 ⟨rfl, hb1⟩; replace hbel := hbel.trans (hb1.mono hbel.size); replace h1 := row_keep hb1 h1; clear hb1)
            go_ret
            exact ⟨ret_bool HV.out.symm, hbel⟩
          · have hq1 : decide (0 < v (6 + n)) = false := by simpa using e1
            have hq2 : decide (0 < v n) = true := by simpa using e2
            have HV : Hid (viewB v = false) := viewB_bad hlt fun h => by have := h.2.2; omega
            clear hH hT
            go_wp2_with first
              | ((with_reducible refine wpList_indexI rfl _ _ _ rfl rfl rfl _ Try.underlying43 aggI undI size1 (by omega) ?_); try simp only [Nat.zero_add])
              | ((with_reducible refine wpList_loadI rfl _ _ rfl _ _ rfl h1 aggI undI (by omega) ?_); try simp only [Nat.zero_add])
              | (go_at_call 75; (with_reducible refine (within_b true HT.out _).mono ?_); rintro e w1 ⟨rfl, hb1⟩; replace hbel := hbel.trans (hb1.mono hbel.size); replace h1 := row_keep hb1 h1; clear hb1)
              | (go_at_call 75; (with_reducible refine (within_b true HH.out _).mono ?_); rintro e w1 ⟨rfl, hb1⟩; replace hbel := hbel.trans (hb1.mono hbel.size); replace h1 := row_keep hb1 h1; clear hb1)
              | (go_at_call 75; (with_reducible refine (within_b false HT.out _).mono ?_); rintro e w1 ⟨rfl, hb1⟩; replace hbel := hbel.trans (hb1.mono hbel.size); replace h1 := row_keep hb1 h1; clear hb1)
              | (go_at_call 75; (with_reducible refine (within_b false HH.out _).mono ?_); rintro e w1 ⟨rfl, hb1⟩; replace hbel := hbel.trans (hb1.mono hbel.size); replace h1 := row_keep hb1 h1; clear hb1)
            go_ret
            exact ⟨ret_bool HV.out.symm, hbel⟩
          · have hq1 : decide (0 < v (6 + n)) = false := by simpa using e1
            have hq2 : decide (0 < v n) = false := by simpa using e2
            have HN : Hid (∀ k, k < n + 1 → vok v k) := fun k hk => by
              by_cases e : k = n
              · subst e; exact ⟨hH, hT, ⟨fun h => by omega, fun h => by omega⟩⟩
              · exact HOK.out k (by omega)
            clear hH hT
            go_wp2_with first
              | ((with_reducible refine wpList_indexI rfl _ _ _ rfl rfl rfl _ Try.underlying43 aggI undI size1 (by omega) ?_); try simp only [Nat.zero_add])
              | ((with_reducible refine wpList_loadI rfl _ _ rfl _ _ rfl h1 aggI undI (by omega) ?_); try simp only [Nat.zero_add])
              | (go_at_call 75; (with_reducible refine (within_b true HT.out _).mono ?_); rintro e w1 ⟨rfl, hb1⟩; replace hbel := hbel.trans (hb1.mono hbel.size); replace h1 := row_keep hb1 h1; clear hb1)
              | (go_at_call 75; (with_reducible refine (within_b true HH.out _).mono ?_); rintro e w1 ⟨rfl, hb1⟩; replace hbel := hbel.trans (hb1.mono hbel.size); replace h1 := row_keep hb1 h1; clear hb1)
              | (go_at_call 75; (with_reducible refine (within_b false HT.out _).mono ?_); rintro e w1 ⟨rfl, hb1⟩; replace hbel := hbel.trans (hb1.mono hbel.size); replace h1 := row_keep hb1 h1; clear hb1)
              | (go_at_call 75; (with_reducible refine (within_b false HH.out _).mono ?_); rintro e w1 ⟨rfl, hb1⟩; replace hbel := hbel.trans (hb1.mono hbel.size); replace h1 := row_keep hb1 h1; clear hb1)
            go_roundw
            case rel => exact ⟨n + 1, by omega, by go_num, HN.out, h1, hbel⟩
            case measure => simp [intOf]; omega
    · obtain rfl : n = 6 := by omega
      have hv : ∀ i, i < 6 → vok v i := HOK.out
      have HVI : Hid (viewI v → viewB v = true) := viewB_okI hx hv
      have HVN : Hid (¬ viewI v → viewB v = false) := viewB_nI hx hv
      have HS2 : Hid (∀ k, k < 6 → 0 ≤ v (6 + k) ∧ v (6 + k) ≤ 1000) := fun k hk => by
        have := (hv k hk).1
        omega
      have tok_h5 : True := trivial
      go_wp2_with first
        | (with_reducible refine wpList_loadW rfl _ _ rfl _ rfl h1 agg18r size18r ?_)
        | (go_at_call 77; (with_reducible refine (hidden_any v hv _).mono ?_); rintro e w1 ⟨rfl, hb1⟩; replace hbel := hbel.trans (hb1.mono hbel.size); replace h1 := row_keep hb1 h1; clear hb1)
        | (with_reducible refine wpList_allocA rfl 43 rfl 6 v6z ?_; (try simp only [size_al]))
        | (have _t := tok_h5; with_reducible refine wpList_storeN rfl _ _ _ rfl rfl rfl v6s ?_; intro w1 h5 hb1; replace hbel := hbel.trans (hb1.mono hbel.size); replace h1 := row_keep hb1 h1; clear hb1 _t tok_h5)
      by_cases h12 : v 12 = 0
      · cases hA : (List.range 6).all fun k => decide (0 ≤ v (12 + k) ∧ v (12 + k) ≤ 24) with
        | false =>
          have HV : Hid (viewB v = false) := HVN.out fun h => by
            have : ((List.range 6).all fun k => decide (0 ≤ v (12 + k) ∧ v (12 + k) ≤ 24)) = true := List.all_eq_true.2 fun k hk => by simpa using h.2.1 k (List.mem_range.1 hk)
            rw [hA] at this; cases this
          have HA : Hid _ := hA
          have HB : Hid _ := hA
          have HS1 : Hid _ := HS2
          clear hA
          refine wp_region_held 23 (Cls w _) (by kernel_rfl) (by kernel_rfl) (Cls.two h1 h5 hbel) ?_; simp only [List.take_succ_cons, List.take_zero, List.drop_succ_cons, List.drop_zero]
          repeat (first
            | (with_reducible refine wpQuiet_loadI rfl _ _ rfl _ _ rfl (fun _ h => h.r1) aggI undI (by omega) ?_)
            | ((with_reducible refine wpQuiet_callE rfl 85 _ _ rfl (.bool true) (#[.slice (some ⟨_, _, none⟩) _ _, .func (.func _) #[] #[]]) rfl ?_ ?_ ?_); (exact enters_of Try.func85 (by kernel_rfl) rfl); (intro w' h'; with_reducible exact (areAll_b true 99 _ isV1_pred w' h'.r1 (by omega) (by omega) HA.out).mono fun _ _ ⟨he, hb⟩ => ⟨he, h'.keep hb⟩))
            | ((with_reducible refine wpQuiet_callE rfl 85 _ _ rfl (.bool false) (#[.slice (some ⟨_, _, none⟩) _ _, .func (.func _) #[] #[]]) rfl ?_ ?_ ?_); (exact enters_of Try.func85 (by kernel_rfl) rfl); (intro w' h'; with_reducible exact (areAll_b false 99 _ isV1_pred w' h'.r1 (by omega) (by omega) HA.out).mono fun _ _ ⟨he, hb⟩ => ⟨he, h'.keep hb⟩))
            | ((with_reducible refine wpQuiet_callE rfl 85 _ _ rfl (.bool true) (#[.slice (some ⟨_, _, none⟩) _ _, .func (.func _) #[] #[]]) rfl ?_ ?_ ?_); (exact enters_of Try.func85 (by kernel_rfl) rfl); (intro w' h'; with_reducible exact (areAll_b true 100 _ isV2_pred w' h'.r2 (by omega) (by omega) HB.out).mono fun _ _ ⟨he, hb⟩ => ⟨he, h'.keep hb⟩))
            | ((with_reducible refine wpQuiet_callE rfl 85 _ _ rfl (.bool false) (#[.slice (some ⟨_, _, none⟩) _ _, .func (.func _) #[] #[]]) rfl ?_ ?_ ?_); (exact enters_of Try.func85 (by kernel_rfl) rfl); (intro w' h'; with_reducible exact (areAll_b false 100 _ isV2_pred w' h'.r2 (by omega) (by omega) HB.out).mono fun _ _ ⟨he, hb⟩ => ⟨he, h'.keep hb⟩))
            | ((with_reducible refine wpQuiet_callE rfl 96 _ _ rfl (.int .i64 (isum (fun k => v (12 + k)) 6)) (#[.slice (some ⟨_, _, none⟩) _ _]) rfl ?_ ?_ ?_); (exact enters_of Try.func96 (by kernel_rfl) rfl); (intro w' h'; with_reducible exact (sum_any w' h'.r1 (by omega) (by omega) HS1.out).mono fun _ _ ⟨he, hb⟩ => ⟨he, h'.keep hb⟩))
            | ((with_reducible refine wpQuiet_callE rfl 96 _ _ rfl (.int .i64 (isum (fun k => v (6 + k)) 6)) (#[.slice (some ⟨_, _, none⟩) _ _]) rfl ?_ ?_ ?_); (exact enters_of Try.func96 (by kernel_rfl) rfl); (intro w' h'; with_reducible exact (sum_any w' h'.r1 (by omega) (by omega) HS2.out).mono fun _ _ ⟨he, hb⟩ => ⟨he, h'.keep hb⟩))
            | ((with_reducible refine wpQuiet_step (fun K hK => ?_)); go_simp; (first | (refine ⟨_, fun _ _ => rfl, hK _ ?_⟩) | (refine ⟨_, fun _ _ => ⟨rfl, rfl⟩, hK _ ?_⟩) | (refine hK _ ?_)); clear hK K))
          refine wpQuiet_nil ?_
          intro wt hCt
          replace hbel := hCt.2
          go_wp2_with first
            | fail
          go_ret
          exact ⟨ret_bool HV.out.symm, hbel⟩
        | true =>
          have HA : Hid _ := hA
          have hA2 : ∀ k, k < 6 → 0 ≤ v (12 + k) ∧ v (12 + k) ≤ 24 := fun k hk => by simpa using List.all_eq_true.1 hA k (List.mem_range.2 hk)
          have HA2 : Hid _ := hA2
          have HS1 : Hid (∀ k, k < 6 → 0 ≤ v (12 + k) ∧ v (12 + k) ≤ 1000) := fun k hk => by
            have := hA2 k hk
            omega
          clear hA hA2
          cases hB : (List.range 6).all fun k => decide (0 ≤ lft v 6 (0 + k)) with
          | false =>
            have HV : Hid (viewB v = false) := HVN.out fun h => by
              have : ((List.range 6).all fun k => decide (0 ≤ lft v 6 (0 + k))) = true := List.all_eq_true.2 fun k hk => by rw [Nat.zero_add]; simpa using h.2.2.1 k (List.mem_range.1 hk)
              rw [hB] at this; cases this
            have HB : Hid _ := hB
            clear hB
            refine wp_region_held 23 (Cls w _) (by kernel_rfl) (by kernel_rfl) (Cls.two h1 h5 hbel) ?_; simp only [List.take_succ_cons, List.take_zero, List.drop_succ_cons, List.drop_zero]
            repeat (first
              | (with_reducible refine wpQuiet_loadI rfl _ _ rfl _ _ rfl (fun _ h => h.r1) aggI undI (by omega) ?_)
              | ((with_reducible refine wpQuiet_callE rfl 85 _ _ rfl (.bool true) (#[.slice (some ⟨_, _, none⟩) _ _, .func (.func _) #[] #[]]) rfl ?_ ?_ ?_); (exact enters_of Try.func85 (by kernel_rfl) rfl); (intro w' h'; with_reducible exact (areAll_b true 99 _ isV1_pred w' h'.r1 (by omega) (by omega) HA.out).mono fun _ _ ⟨he, hb⟩ => ⟨he, h'.keep hb⟩))
              | ((with_reducible refine wpQuiet_callE rfl 85 _ _ rfl (.bool false) (#[.slice (some ⟨_, _, none⟩) _ _, .func (.func _) #[] #[]]) rfl ?_ ?_ ?_); (exact enters_of Try.func85 (by kernel_rfl) rfl); (intro w' h'; with_reducible exact (areAll_b false 99 _ isV1_pred w' h'.r1 (by omega) (by omega) HA.out).mono fun _ _ ⟨he, hb⟩ => ⟨he, h'.keep hb⟩))
              | ((with_reducible refine wpQuiet_callE rfl 85 _ _ rfl (.bool true) (#[.slice (some ⟨_, _, none⟩) _ _, .func (.func _) #[] #[]]) rfl ?_ ?_ ?_); (exact enters_of Try.func85 (by kernel_rfl) rfl); (intro w' h'; with_reducible exact (areAll_b true 100 _ isV2_pred w' h'.r2 (by omega) (by omega) HB.out).mono fun _ _ ⟨he, hb⟩ => ⟨he, h'.keep hb⟩))
              | ((with_reducible refine wpQuiet_callE rfl 85 _ _ rfl (.bool false) (#[.slice (some ⟨_, _, none⟩) _ _, .func (.func _) #[] #[]]) rfl ?_ ?_ ?_); (exact enters_of Try.func85 (by kernel_rfl) rfl); (intro w' h'; with_reducible exact (areAll_b false 100 _ isV2_pred w' h'.r2 (by omega) (by omega) HB.out).mono fun _ _ ⟨he, hb⟩ => ⟨he, h'.keep hb⟩))
              | ((with_reducible refine wpQuiet_callE rfl 96 _ _ rfl (.int .i64 (isum (fun k => v (12 + k)) 6)) (#[.slice (some ⟨_, _, none⟩) _ _]) rfl ?_ ?_ ?_); (exact enters_of Try.func96 (by kernel_rfl) rfl); (intro w' h'; with_reducible exact (sum_any w' h'.r1 (by omega) (by omega) HS1.out).mono fun _ _ ⟨he, hb⟩ => ⟨he, h'.keep hb⟩))
              | ((with_reducible refine wpQuiet_callE rfl 96 _ _ rfl (.int .i64 (isum (fun k => v (6 + k)) 6)) (#[.slice (some ⟨_, _, none⟩) _ _]) rfl ?_ ?_ ?_); (exact enters_of Try.func96 (by kernel_rfl) rfl); (intro w' h'; with_reducible exact (sum_any w' h'.r1 (by omega) (by omega) HS2.out).mono fun _ _ ⟨he, hb⟩ => ⟨he, h'.keep hb⟩))
              | ((with_reducible refine wpQuiet_step (fun K hK => ?_)); go_simp; (first | (refine ⟨_, fun _ _ => rfl, hK _ ?_⟩) | (refine ⟨_, fun _ _ => ⟨rfl, rfl⟩, hK _ ?_⟩) | (refine hK _ ?_)); clear hK K))
            refine wpQuiet_nil ?_
            intro wt hCt
            replace hbel := hCt.2
            go_wp2_with first
              | fail
            go_ret
            exact ⟨ret_bool HV.out.symm, hbel⟩
          | true =>
            have HB : Hid _ := hB
            have HB2 : Hid (∀ k, k < 6 → 0 ≤ lft v 6 k) := fun k hk => by
              have := List.all_eq_true.1 hB k (List.mem_range.2 hk)
              rw [Nat.zero_add] at this
              simpa using this
            clear hB
            by_cases hs : isum (fun k => v (12 + k)) 6 = isum (fun k => v (6 + k)) 6
            · have HV : Hid (viewB v = true) := HVI.out ⟨h12, HA2.out, HB2.out, hs⟩
              have HS : Hid _ := hs
              clear hs
              refine wp_region_held 23 (Cls w _) (by kernel_rfl) (by kernel_rfl) (Cls.two h1 h5 hbel) ?_; simp only [List.take_succ_cons, List.take_zero, List.drop_succ_cons, List.drop_zero]
              repeat (first
                | (with_reducible refine wpQuiet_loadI rfl _ _ rfl _ _ rfl (fun _ h => h.r1) aggI undI (by omega) ?_)
                | ((with_reducible refine wpQuiet_callE rfl 85 _ _ rfl (.bool true) (#[.slice (some ⟨_, _, none⟩) _ _, .func (.func _) #[] #[]]) rfl ?_ ?_ ?_); (exact enters_of Try.func85 (by kernel_rfl) rfl); (intro w' h'; with_reducible exact (areAll_b true 99 _ isV1_pred w' h'.r1 (by omega) (by omega) HA.out).mono fun _ _ ⟨he, hb⟩ => ⟨he, h'.keep hb⟩))
                | ((with_reducible refine wpQuiet_callE rfl 85 _ _ rfl (.bool false) (#[.slice (some ⟨_, _, none⟩) _ _, .func (.func _) #[] #[]]) rfl ?_ ?_ ?_); (exact enters_of Try.func85 (by kernel_rfl) rfl); (intro w' h'; with_reducible exact (areAll_b false 99 _ isV1_pred w' h'.r1 (by omega) (by omega) HA.out).mono fun _ _ ⟨he, hb⟩ => ⟨he, h'.keep hb⟩))
                | ((with_reducible refine wpQuiet_callE rfl 85 _ _ rfl (.bool true) (#[.slice (some ⟨_, _, none⟩) _ _, .func (.func _) #[] #[]]) rfl ?_ ?_ ?_); (exact enters_of Try.func85 (by kernel_rfl) rfl); (intro w' h'; with_reducible exact (areAll_b true 100 _ isV2_pred w' h'.r2 (by omega) (by omega) HB.out).mono fun _ _ ⟨he, hb⟩ => ⟨he, h'.keep hb⟩))
                | ((with_reducible refine wpQuiet_callE rfl 85 _ _ rfl (.bool false) (#[.slice (some ⟨_, _, none⟩) _ _, .func (.func _) #[] #[]]) rfl ?_ ?_ ?_); (exact enters_of Try.func85 (by kernel_rfl) rfl); (intro w' h'; with_reducible exact (areAll_b false 100 _ isV2_pred w' h'.r2 (by omega) (by omega) HB.out).mono fun _ _ ⟨he, hb⟩ => ⟨he, h'.keep hb⟩))
                | ((with_reducible refine wpQuiet_callE rfl 96 _ _ rfl (.int .i64 (isum (fun k => v (12 + k)) 6)) (#[.slice (some ⟨_, _, none⟩) _ _]) rfl ?_ ?_ ?_); (exact enters_of Try.func96 (by kernel_rfl) rfl); (intro w' h'; with_reducible exact (sum_any w' h'.r1 (by omega) (by omega) HS1.out).mono fun _ _ ⟨he, hb⟩ => ⟨he, h'.keep hb⟩))
                | ((with_reducible refine wpQuiet_callE rfl 96 _ _ rfl (.int .i64 (isum (fun k => v (6 + k)) 6)) (#[.slice (some ⟨_, _, none⟩) _ _]) rfl ?_ ?_ ?_); (exact enters_of Try.func96 (by kernel_rfl) rfl); (intro w' h'; with_reducible exact (sum_any w' h'.r1 (by omega) (by omega) HS2.out).mono fun _ _ ⟨he, hb⟩ => ⟨he, h'.keep hb⟩))
                | ((with_reducible refine wpQuiet_step (fun K hK => ?_)); go_simp; (first | (refine ⟨_, fun _ _ => rfl, hK _ ?_⟩) | (refine ⟨_, fun _ _ => ⟨rfl, rfl⟩, hK _ ?_⟩) | (refine hK _ ?_)); clear hK K))
              refine wpQuiet_nil ?_
              intro wt hCt
              replace hbel := hCt.2
              go_wp2_with first
                | fail
              go_ret
              exact ⟨ret_bool (by rw [HV.out]; simpa using HS.out), hbel⟩
            · have HV : Hid (viewB v = false) := HVN.out fun h => hs h.2.2.2
              have HS : Hid _ := hs
              clear hs
              refine wp_region_held 23 (Cls w _) (by kernel_rfl) (by kernel_rfl) (Cls.two h1 h5 hbel) ?_; simp only [List.take_succ_cons, List.take_zero, List.drop_succ_cons, List.drop_zero]
              repeat (first
                | (with_reducible refine wpQuiet_loadI rfl _ _ rfl _ _ rfl (fun _ h => h.r1) aggI undI (by omega) ?_)
                | ((with_reducible refine wpQuiet_callE rfl 85 _ _ rfl (.bool true) (#[.slice (some ⟨_, _, none⟩) _ _, .func (.func _) #[] #[]]) rfl ?_ ?_ ?_); (exact enters_of Try.func85 (by kernel_rfl) rfl); (intro w' h'; with_reducible exact (areAll_b true 99 _ isV1_pred w' h'.r1 (by omega) (by omega) HA.out).mono fun _ _ ⟨he, hb⟩ => ⟨he, h'.keep hb⟩))
                | ((with_reducible refine wpQuiet_callE rfl 85 _ _ rfl (.bool false) (#[.slice (some ⟨_, _, none⟩) _ _, .func (.func _) #[] #[]]) rfl ?_ ?_ ?_); (exact enters_of Try.func85 (by kernel_rfl) rfl); (intro w' h'; with_reducible exact (areAll_b false 99 _ isV1_pred w' h'.r1 (by omega) (by omega) HA.out).mono fun _ _ ⟨he, hb⟩ => ⟨he, h'.keep hb⟩))
                | ((with_reducible refine wpQuiet_callE rfl 85 _ _ rfl (.bool true) (#[.slice (some ⟨_, _, none⟩) _ _, .func (.func _) #[] #[]]) rfl ?_ ?_ ?_); (exact enters_of Try.func85 (by kernel_rfl) rfl); (intro w' h'; with_reducible exact (areAll_b true 100 _ isV2_pred w' h'.r2 (by omega) (by omega) HB.out).mono fun _ _ ⟨he, hb⟩ => ⟨he, h'.keep hb⟩))
                | ((with_reducible refine wpQuiet_callE rfl 85 _ _ rfl (.bool false) (#[.slice (some ⟨_, _, none⟩) _ _, .func (.func _) #[] #[]]) rfl ?_ ?_ ?_); (exact enters_of Try.func85 (by kernel_rfl) rfl); (intro w' h'; with_reducible exact (areAll_b false 100 _ isV2_pred w' h'.r2 (by omega) (by omega) HB.out).mono fun _ _ ⟨he, hb⟩ => ⟨he, h'.keep hb⟩))
                | ((with_reducible refine wpQuiet_callE rfl 96 _ _ rfl (.int .i64 (isum (fun k => v (12 + k)) 6)) (#[.slice (some ⟨_, _, none⟩) _ _]) rfl ?_ ?_ ?_); (exact enters_of Try.func96 (by kernel_rfl) rfl); (intro w' h'; with_reducible exact (sum_any w' h'.r1 (by omega) (by omega) HS1.out).mono fun _ _ ⟨he, hb⟩ => ⟨he, h'.keep hb⟩))
                | ((with_reducible refine wpQuiet_callE rfl 96 _ _ rfl (.int .i64 (isum (fun k => v (6 + k)) 6)) (#[.slice (some ⟨_, _, none⟩) _ _]) rfl ?_ ?_ ?_); (exact enters_of Try.func96 (by kernel_rfl) rfl); (intro w' h'; with_reducible exact (sum_any w' h'.r1 (by omega) (by omega) HS2.out).mono fun _ _ ⟨he, hb⟩ => ⟨he, h'.keep hb⟩))
                | ((with_reducible refine wpQuiet_step (fun K hK => ?_)); go_simp; (first | (refine ⟨_, fun _ _ => rfl, hK _ ?_⟩) | (refine ⟨_, fun _ _ => ⟨rfl, rfl⟩, hK _ ?_⟩) | (refine hK _ ?_)); clear hK K))
              refine wpQuiet_nil ?_
              intro wt hCt
              replace hbel := hCt.2
              go_wp2_with first
                | fail
              go_ret
              exact ⟨ret_bool (by rw [HV.out]; simpa using HS.out), hbel⟩
      · have HV : Hid (viewB v = false) := HVN.out fun h => h12 h.1
        have HA : Hid _ := HV
        have HB : Hid _ := HV
        have HS1 : Hid _ := HS2
        refine wp_region_held 23 (Cls w _) (by kernel_rfl) (by kernel_rfl) (Cls.two h1 h5 hbel) ?_; simp only [List.take_succ_cons, List.take_zero, List.drop_succ_cons, List.drop_zero]
        repeat (first
          | (with_reducible refine wpQuiet_loadI rfl _ _ rfl _ _ rfl (fun _ h => h.r1) aggI undI (by omega) ?_)
          | ((with_reducible refine wpQuiet_callE rfl 85 _ _ rfl (.bool true) (#[.slice (some ⟨_, _, none⟩) _ _, .func (.func _) #[] #[]]) rfl ?_ ?_ ?_); (exact enters_of Try.func85 (by kernel_rfl) rfl); (intro w' h'; with_reducible exact (areAll_b true 99 _ isV1_pred w' h'.r1 (by omega) (by omega) HA.out).mono fun _ _ ⟨he, hb⟩ => ⟨he, h'.keep hb⟩))
          | ((with_reducible refine wpQuiet_callE rfl 85 _ _ rfl (.bool false) (#[.slice (some ⟨_, _, none⟩) _ _, .func (.func _) #[] #[]]) rfl ?_ ?_ ?_); (exact enters_of Try.func85 (by kernel_rfl) rfl); (intro w' h'; with_reducible exact (areAll_b false 99 _ isV1_pred w' h'.r1 (by omega) (by omega) HA.out).mono fun _ _ ⟨he, hb⟩ => ⟨he, h'.keep hb⟩))
          | ((with_reducible refine wpQuiet_callE rfl 85 _ _ rfl (.bool true) (#[.slice (some ⟨_, _, none⟩) _ _, .func (.func _) #[] #[]]) rfl ?_ ?_ ?_); (exact enters_of Try.func85 (by kernel_rfl) rfl); (intro w' h'; with_reducible exact (areAll_b true 100 _ isV2_pred w' h'.r2 (by omega) (by omega) HB.out).mono fun _ _ ⟨he, hb⟩ => ⟨he, h'.keep hb⟩))
          | ((with_reducible refine wpQuiet_callE rfl 85 _ _ rfl (.bool false) (#[.slice (some ⟨_, _, none⟩) _ _, .func (.func _) #[] #[]]) rfl ?_ ?_ ?_); (exact enters_of Try.func85 (by kernel_rfl) rfl); (intro w' h'; with_reducible exact (areAll_b false 100 _ isV2_pred w' h'.r2 (by omega) (by omega) HB.out).mono fun _ _ ⟨he, hb⟩ => ⟨he, h'.keep hb⟩))
          | ((with_reducible refine wpQuiet_callE rfl 96 _ _ rfl (.int .i64 (isum (fun k => v (12 + k)) 6)) (#[.slice (some ⟨_, _, none⟩) _ _]) rfl ?_ ?_ ?_); (exact enters_of Try.func96 (by kernel_rfl) rfl); (intro w' h'; with_reducible exact (sum_any w' h'.r1 (by omega) (by omega) HS1.out).mono fun _ _ ⟨he, hb⟩ => ⟨he, h'.keep hb⟩))
          | ((with_reducible refine wpQuiet_callE rfl 96 _ _ rfl (.int .i64 (isum (fun k => v (6 + k)) 6)) (#[.slice (some ⟨_, _, none⟩) _ _]) rfl ?_ ?_ ?_); (exact enters_of Try.func96 (by kernel_rfl) rfl); (intro w' h'; with_reducible exact (sum_any w' h'.r1 (by omega) (by omega) HS2.out).mono fun _ _ ⟨he, hb⟩ => ⟨he, h'.keep hb⟩))
          | ((with_reducible refine wpQuiet_step (fun K hK => ?_)); go_simp; (first | (refine ⟨_, fun _ _ => rfl, hK _ ?_⟩) | (refine ⟨_, fun _ _ => ⟨rfl, rfl⟩, hK _ ?_⟩) | (refine hK _ ?_)); clear hK K))
        refine wpQuiet_nil ?_
        intro wt hCt
        replace hbel := hCt.2
        go_wp2_with first
          | fail
        go_ret
        exact ⟨ret_bool HV.out.symm, hbel⟩
end Go.Proofs.Ytbiplciklmagoaa
