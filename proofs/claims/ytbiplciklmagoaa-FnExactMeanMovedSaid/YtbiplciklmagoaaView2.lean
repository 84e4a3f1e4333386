/- The tests on views: the reference's. -/
import Derived.Test.YtbiplciklmagoaaViewP
namespace Go.Proofs.Ytbiplciklmagoaa
set_option linter.unusedSimpArgs false
set_option linter.unusedVariables false
set_option maxRecDepth 20000
open Go.RowKit
theorem l1In_b {x a c : Int} (b : Bool) (h : decide (a ≤ x ∧ x ≤ c) = b) (w : World) : Calls Try.prog 73 #[.int .i64 x, .int .i64 a, .int .i64 c] w fun e w' => e = .returned (.bool b) ∧ Below w.heap.size w w' := (l1In_any x a c w).mono fun _ _ ⟨he, hw⟩ => ⟨by rw [he, h], by subst hw; exact Below.refl _ _⟩
set_option maxHeartbeats 2000000 in
theorem l7Good_any (v : Nat → Int) (hx : ∀ j, I64 (v j)) (w : World) : Calls Try.prog 60 #[.agg (arr 18 v)] w fun e w' => e = .returned (.bool (viewB v)) ∧ Below w.heap.size w w' := by
  have h1 : (w.alloc (.cells (arr 18 v) 48)).heap[w.heap.size]? = some (.cells (arr 18 v) 48 (0, 0))   := heap_new rfl
  have hbel : Below w.heap.size w (w.alloc (.cells (arr 18 v) 48)) := (Below.refl _ _).alloc (by simp) _
  go_enter Try.func60, Try.ntmps60
  go_wp2_with first
    | fail
  go_loopw [3] (fun i wr => ∃ n : Nat, n ≤ 6 ∧ i = .int .i64 n ∧ (∀ k, k < n → vok v k) ∧ wr.heap[w.heap.size]? = some (.cells (arr 18 v) 48 (0, 0)) ∧ Below w.heap.size w wr) (fun i _ => 6 - (intOf i).toNat)
  case atStart => exact ⟨0, by omega, rfl, by intro k hk; omega, h1, hbel⟩
  case round =>
    clear h1 hbel
    obtain ⟨n, hn, rfl, hok, h1, hbel⟩ := hrel
    have HOK : Hid _ := hok
    clear hok
    by_cases hlt : n < 6
    · have hlt' : (n : Int) < 6 := by omega
      cases hH : decide (0 ≤ v (6 + n) ∧ v (6 + n) ≤ 4) with
      | false =>
        have HV : Hid (viewB v = false) := viewB_bad hlt fun h => by simp [h.1.1, h.1.2] at hH
        have HH : Hid _ := hH
        clear hH
        have HT : Hid _ := HH
        go_wp2_with first
          | fail
        refine wp_region_held 27 (Cls w _) (by kernel_rfl) (by kernel_rfl) (Cls.one h1 hbel) ?_; simp only [List.take_succ_cons, List.take_zero, List.drop_succ_cons, List.drop_zero]
        repeat (first
          | ((with_reducible refine wpQuiet_loadI rfl _ _ rfl _ _ rfl (fun _ h => h.r1) aggI undI (by omega) ?_); try simp only [Nat.zero_add])
          | ((with_reducible refine wpQuiet_callE rfl 73 _ _ rfl (.bool true) (#[.int .i64 _, .int .i64 _, .int .i64 _]) rfl ?_ ?_ ?_); (exact enters_of Try.func73 (by kernel_rfl) rfl); (intro w' h'; with_reducible exact (l1In_b true HH.out w').mono fun _ _ ⟨he, hb⟩ => ⟨he, h'.keep hb⟩))
          | ((with_reducible refine wpQuiet_callE rfl 73 _ _ rfl (.bool true) (#[.int .i64 _, .int .i64 _, .int .i64 _]) rfl ?_ ?_ ?_); (exact enters_of Try.func73 (by kernel_rfl) rfl); (intro w' h'; with_reducible exact (l1In_b true HT.out w').mono fun _ _ ⟨he, hb⟩ => ⟨he, h'.keep hb⟩))
          | ((with_reducible refine wpQuiet_callE rfl 73 _ _ rfl (.bool false) (#[.int .i64 _, .int .i64 _, .int .i64 _]) rfl ?_ ?_ ?_); (exact enters_of Try.func73 (by kernel_rfl) rfl); (intro w' h'; with_reducible exact (l1In_b false HH.out w').mono fun _ _ ⟨he, hb⟩ => ⟨he, h'.keep hb⟩))
          | ((with_reducible refine wpQuiet_callE rfl 73 _ _ rfl (.bool false) (#[.int .i64 _, .int .i64 _, .int .i64 _]) rfl ?_ ?_ ?_); (exact enters_of Try.func73 (by kernel_rfl) rfl); (intro w' h'; with_reducible exact (l1In_b false HT.out w').mono fun _ _ ⟨he, hb⟩ => ⟨he, h'.keep hb⟩))
          | ((with_reducible refine wpQuiet_step (fun K hK => ?_)); go_simp; (first | (refine ⟨_, fun _ _ => rfl, hK _ ?_⟩) | (refine ⟨_, fun _ _ => ⟨rfl, rfl⟩, hK _ ?_⟩) | (refine hK _ ?_)); clear hK K))
        refine wpQuiet_nil ?_
        intro wt hCt
        replace h1 := hCt.r1
        replace hbel := hCt.2
        go_wp2_with first
          | fail
        go_ret
        exact ⟨ret_bool HV.out.symm, hbel⟩
      | true =>
        have HH : Hid _ := hH
        simp only [decide_eq_true_eq] at hH
        cases hT : decide (0 ≤ v n ∧ v n ≤ 5) with
        | false =>
          have HV : Hid (viewB v = false) := viewB_bad hlt fun h => by simp [h.2.1.1, h.2.1.2] at hT
          have HT : Hid _ := hT
          clear hT hH
          go_wp2_with first
            | fail
          refine wp_region_held 27 (Cls w _) (by kernel_rfl) (by kernel_rfl) (Cls.one h1 hbel) ?_; simp only [List.take_succ_cons, List.take_zero, List.drop_succ_cons, List.drop_zero]
          repeat (first
            | ((with_reducible refine wpQuiet_loadI rfl _ _ rfl _ _ rfl (fun _ h => h.r1) aggI undI (by omega) ?_); try simp only [Nat.zero_add])
            | ((with_reducible refine wpQuiet_callE rfl 73 _ _ rfl (.bool true) (#[.int .i64 _, .int .i64 _, .int .i64 _]) rfl ?_ ?_ ?_); (exact enters_of Try.func73 (by kernel_rfl) rfl); (intro w' h'; with_reducible exact (l1In_b true HH.out w').mono fun _ _ ⟨he, hb⟩ => ⟨he, h'.keep hb⟩))
            | ((with_reducible refine wpQuiet_callE rfl 73 _ _ rfl (.bool true) (#[.int .i64 _, .int .i64 _, .int .i64 _]) rfl ?_ ?_ ?_); (exact enters_of Try.func73 (by kernel_rfl) rfl); (intro w' h'; with_reducible exact (l1In_b true HT.out w').mono fun _ _ ⟨he, hb⟩ => ⟨he, h'.keep hb⟩))
            | ((with_reducible refine wpQuiet_callE rfl 73 _ _ rfl (.bool false) (#[.int .i64 _, .int .i64 _, .int .i64 _]) rfl ?_ ?_ ?_); (exact enters_of Try.func73 (by kernel_rfl) rfl); (intro w' h'; with_reducible exact (l1In_b false HH.out w').mono fun _ _ ⟨he, hb⟩ => ⟨he, h'.keep hb⟩))
            | ((with_reducible refine wpQuiet_callE rfl 73 _ _ rfl (.bool false) (#[.int .i64 _, .int .i64 _, .int .i64 _]) rfl ?_ ?_ ?_); (exact enters_of Try.func73 (by kernel_rfl) rfl); (intro w' h'; with_reducible exact (l1In_b false HT.out w').mono fun _ _ ⟨he, hb⟩ => ⟨he, h'.keep hb⟩))
            | ((with_reducible refine wpQuiet_step (fun K hK => ?_)); go_simp; (first | (refine ⟨_, fun _ _ => rfl, hK _ ?_⟩) | (refine ⟨_, fun _ _ => ⟨rfl, rfl⟩, hK _ ?_⟩) | (refine hK _ ?_)); clear hK K))
          refine wpQuiet_nil ?_
          intro wt hCt
          replace h1 := hCt.r1
          replace hbel := hCt.2
          go_wp2_with first
            | fail
          go_ret
          exact ⟨ret_bool HV.out.symm, hbel⟩
        | true =>
          have HT : Hid _ := hT
          simp only [decide_eq_true_eq] at hT
          by_cases e1 : v (6 + n) = 0 <;> by_cases e2 : v n = 0
          · have hq1 : (v (6 + n) == 0) = true := by simpa using e1
            have hq2 : (v n == 0) = true := by simpa using e2
            have HN : Hid (∀ k, k < n + 1 → vok v k) := fun k hk => by
              by_cases e : k = n
              · subst e; exact ⟨hH, hT, ⟨fun _ => e1, fun _ => e2⟩⟩
              · exact HOK.out k (by omega)
            clear hH hT
            go_wp2_with first
              | fail
            refine wp_region_held 27 (Cls w _) (by kernel_rfl) (by kernel_rfl) (Cls.one h1 hbel) ?_; simp only [List.take_succ_cons, List.take_zero, List.drop_succ_cons, List.drop_zero]
            repeat (first
              | ((with_reducible refine wpQuiet_loadI rfl _ _ rfl _ _ rfl (fun _ h => h.r1) aggI undI (by omega) ?_); try simp only [Nat.zero_add])
              | ((with_reducible refine wpQuiet_callE rfl 73 _ _ rfl (.bool true) (#[.int .i64 _, .int .i64 _, .int .i64 _]) rfl ?_ ?_ ?_); (exact enters_of Try.func73 (by kernel_rfl) rfl); (intro w' h'; with_reducible exact (l1In_b true HH.out w').mono fun _ _ ⟨he, hb⟩ => ⟨he, h'.keep hb⟩))
              | ((with_reducible refine wpQuiet_callE rfl 73 _ _ rfl (.bool true) (#[.int .i64 _, .int .i64 _, .int .i64 _]) rfl ?_ ?_ ?_); (exact enters_of Try.func73 (by kernel_rfl) rfl); (intro w' h'; with_reducible exact (l1In_b true HT.out w').mono fun _ _ ⟨he, hb⟩ => ⟨he, h'.keep hb⟩))
              | ((with_reducible refine wpQuiet_callE rfl 73 _ _ rfl (.bool false) (#[.int .i64 _, .int .i64 _, .int .i64 _]) rfl ?_ ?_ ?_); (exact enters_of Try.func73 (by kernel_rfl) rfl); (intro w' h'; with_reducible exact (l1In_b false HH.out w').mono fun _ _ ⟨he, hb⟩ => ⟨he, h'.keep hb⟩))
              | ((with_reducible refine wpQuiet_callE rfl 73 _ _ rfl (.bool false) (#[.int .i64 _, .int .i64 _, .int .i64 _]) rfl ?_ ?_ ?_); (exact enters_of Try.func73 (by kernel_rfl) rfl); (intro w' h'; with_reducible exact (l1In_b false HT.out w').mono fun _ _ ⟨he, hb⟩ => ⟨he, h'.keep hb⟩))
              | ((with_reducible refine wpQuiet_step (fun K hK => ?_)); go_simp; (first | (refine ⟨_, fun _ _ => rfl, hK _ ?_⟩) | (refine ⟨_, fun _ _ => ⟨rfl, rfl⟩, hK _ ?_⟩) | (refine hK _ ?_)); clear hK K))
            refine wpQuiet_nil ?_
            intro wt hCt
            replace h1 := hCt.r1
            replace hbel := hCt.2
            go_wp2_with first
              | fail
            go_roundw
            case rel => exact ⟨n + 1, by omega, by go_num, HN.out, h1, hbel⟩
            case measure => simp [intOf]; omega
          · have hq1 : (v (6 + n) == 0) = true := by simpa using e1
            have hq2 : (v n == 0) = false := by simpa using e2
            have HV : Hid (viewB v = false) := viewB_bad hlt fun h => e2 (h.2.2.2 e1)
            clear hH hT
            go_wp2_with first
              | fail
            refine wp_region_held 27 (Cls w _) (by kernel_rfl) (by kernel_rfl) (Cls.one h1 hbel) ?_; simp only [List.take_succ_cons, List.take_zero, List.drop_succ_cons, List.drop_zero]
            repeat (first
              | ((with_reducible refine wpQuiet_loadI rfl _ _ rfl _ _ rfl (fun _ h => h.r1) aggI undI (by omega) ?_); try simp only [Nat.zero_add])
              | ((with_reducible refine wpQuiet_callE rfl 73 _ _ rfl (.bool true) (#[.int .i64 _, .int .i64 _, .int .i64 _]) rfl ?_ ?_ ?_); (exact enters_of Try.func73 (by kernel_rfl) rfl); (intro w' h'; with_reducible exact (l1In_b true HH.out w').mono fun _ _ ⟨he, hb⟩ => ⟨he, h'.keep hb⟩))
              | ((with_reducible refine wpQuiet_callE rfl 73 _ _ rfl (.bool true) (#[.int .i64 _, .int .i64 _, .int .i64 _]) rfl ?_ ?_ ?_); (exact enters_of Try.func73 (by kernel_rfl) rfl); (intro w' h'; with_reducible exact (l1In_b true HT.out w').mono fun _ _ ⟨he, hb⟩ => ⟨he, h'.keep hb⟩))
              | ((with_reducible refine wpQuiet_callE rfl 73 _ _ rfl (.bool false) (#[.int .i64 _, .int .i64 _, .int .i64 _]) rfl ?_ ?_ ?_); (exact enters_of Try.func73 (by kernel_rfl) rfl); (intro w' h'; with_reducible exact (l1In_b false HH.out w').mono fun _ _ ⟨he, hb⟩ => ⟨he, h'.keep hb⟩))
              | ((with_reducible refine wpQuiet_callE rfl 73 _ _ rfl (.bool false) (#[.int .i64 _, .int .i64 _, .int .i64 _]) rfl ?_ ?_ ?_); (exact enters_of Try.func73 (by kernel_rfl) rfl); (intro w' h'; with_reducible exact (l1In_b false HT.out w').mono fun _ _ ⟨he, hb⟩ => ⟨he, h'.keep hb⟩))
              | ((with_reducible refine wpQuiet_step (fun K hK => ?_)); go_simp; (first | (refine ⟨_, fun _ _ => rfl, hK _ ?_⟩) | (refine ⟨_, fun _ _ => ⟨rfl, rfl⟩, hK _ ?_⟩) | (refine hK _ ?_)); clear hK K))
            refine wpQuiet_nil ?_
            intro wt hCt
            replace h1 := hCt.r1
            replace hbel := hCt.2
            go_wp2_with first
              | fail
            go_ret
            exact ⟨ret_bool HV.out.symm, hbel⟩
          · have hq1 : (v (6 + n) == 0) = false := by simpa using e1
            have hq2 : (v n == 0) = true := by simpa using e2
            have HV : Hid (viewB v = false) := viewB_bad hlt fun h => e1 (h.2.2.1 e2)
            clear hH hT
            go_wp2_with first
              | fail
            refine wp_region_held 27 (Cls w _) (by kernel_rfl) (by kernel_rfl) (Cls.one h1 hbel) ?_; simp only [List.take_succ_cons, List.take_zero, List.drop_succ_cons, List.drop_zero]
            repeat (first
              | ((with_reducible refine wpQuiet_loadI rfl _ _ rfl _ _ rfl (fun _ h => h.r1) aggI undI (by omega) ?_); try simp only [Nat.zero_add])
              | ((with_reducible refine wpQuiet_callE rfl 73 _ _ rfl (.bool true) (#[.int .i64 _, .int .i64 _, .int .i64 _]) rfl ?_ ?_ ?_); (exact enters_of Try.func73 (by kernel_rfl) rfl); (intro w' h'; with_reducible exact (l1In_b true HH.out w').mono fun _ _ ⟨he, hb⟩ => ⟨he, h'.keep hb⟩))
              | ((with_reducible refine wpQuiet_callE rfl 73 _ _ rfl (.bool true) (#[.int .i64 _, .int .i64 _, .int .i64 _]) rfl ?_ ?_ ?_); (exact enters_of Try.func73 (by kernel_rfl) rfl); (intro w' h'; with_reducible exact (l1In_b true HT.out w').mono fun _ _ ⟨he, hb⟩ => ⟨he, h'.keep hb⟩))
              | ((with_reducible refine wpQuiet_callE rfl 73 _ _ rfl (.bool false) (#[.int .i64 _, .int .i64 _, .int .i64 _]) rfl ?_ ?_ ?_); (exact enters_of Try.func73 (by kernel_rfl) rfl); (intro w' h'; with_reducible exact (l1In_b false HH.out w').mono fun _ _ ⟨he, hb⟩ => ⟨he, h'.keep hb⟩))
              | ((with_reducible refine wpQuiet_callE rfl 73 _ _ rfl (.bool false) (#[.int .i64 _, .int .i64 _, .int .i64 _]) rfl ?_ ?_ ?_); (exact enters_of Try.func73 (by kernel_rfl) rfl); (intro w' h'; with_reducible exact (l1In_b false HT.out w').mono fun _ _ ⟨he, hb⟩ => ⟨he, h'.keep hb⟩))
              | ((with_reducible refine wpQuiet_step (fun K hK => ?_)); go_simp; (first | (refine ⟨_, fun _ _ => rfl, hK _ ?_⟩) | (refine ⟨_, fun _ _ => ⟨rfl, rfl⟩, hK _ ?_⟩) | (refine hK _ ?_)); clear hK K))
            refine wpQuiet_nil ?_
            intro wt hCt
            replace h1 := hCt.r1
            replace hbel := hCt.2
            go_wp2_with first
              | fail
            go_ret
            exact ⟨ret_bool HV.out.symm, hbel⟩
          · have hq1 : (v (6 + n) == 0) = false := by simpa using e1
            have hq2 : (v n == 0) = false := by simpa using e2
            have HN : Hid (∀ k, k < n + 1 → vok v k) := fun k hk => by
              by_cases e : k = n
              · subst e; exact ⟨hH, hT, ⟨fun h => absurd h e2, fun h => absurd h e1⟩⟩
              · exact HOK.out k (by omega)
            clear hH hT
            go_wp2_with first
              | fail
            refine wp_region_held 27 (Cls w _) (by kernel_rfl) (by kernel_rfl) (Cls.one h1 hbel) ?_; simp only [List.take_succ_cons, List.take_zero, List.drop_succ_cons, List.drop_zero]
            repeat (first
              | ((with_reducible refine wpQuiet_loadI rfl _ _ rfl _ _ rfl (fun _ h => h.r1) aggI undI (by omega) ?_); try simp only [Nat.zero_add])
              | ((with_reducible refine wpQuiet_callE rfl 73 _ _ rfl (.bool true) (#[.int .i64 _, .int .i64 _, .int .i64 _]) rfl ?_ ?_ ?_); (exact enters_of Try.func73 (by kernel_rfl) rfl); (intro w' h'; with_reducible exact (l1In_b true HH.out w').mono fun _ _ ⟨he, hb⟩ => ⟨he, h'.keep hb⟩))
              | ((with_reducible refine wpQuiet_callE rfl 73 _ _ rfl (.bool true) (#[.int .i64 _, .int .i64 _, .int .i64 _]) rfl ?_ ?_ ?_); (exact enters_of Try.func73 (by kernel_rfl) rfl); (intro w' h'; with_reducible exact (l1In_b true HT.out w').mono fun _ _ ⟨he, hb⟩ => ⟨he, h'.keep hb⟩))
              | ((with_reducible refine wpQuiet_callE rfl 73 _ _ rfl (.bool false) (#[.int .i64 _, .int .i64 _, .int .i64 _]) rfl ?_ ?_ ?_); (exact enters_of Try.func73 (by kernel_rfl) rfl); (intro w' h'; with_reducible exact (l1In_b false HH.out w').mono fun _ _ ⟨he, hb⟩ => ⟨he, h'.keep hb⟩))
              | ((with_reducible refine wpQuiet_callE rfl 73 _ _ rfl (.bool false) (#[.int .i64 _, .int .i64 _, .int .i64 _]) rfl ?_ ?_ ?_); (exact enters_of Try.func73 (by kernel_rfl) rfl); (intro w' h'; with_reducible exact (l1In_b false HT.out w').mono fun _ _ ⟨he, hb⟩ => ⟨he, h'.keep hb⟩))
              | ((with_reducible refine wpQuiet_step (fun K hK => ?_)); go_simp; (first | (refine ⟨_, fun _ _ => rfl, hK _ ?_⟩) | (refine ⟨_, fun _ _ => ⟨rfl, rfl⟩, hK _ ?_⟩) | (refine hK _ ?_)); clear hK K))
            refine wpQuiet_nil ?_
            intro wt hCt
            replace h1 := hCt.r1
            replace hbel := hCt.2
            go_wp2_with first
              | fail
            go_roundw
            case rel => exact ⟨n + 1, by omega, by go_num, HN.out, h1, hbel⟩
            case measure => simp [intOf]; omega
    · obtain rfl : n = 6 := by omega
      have hv : ∀ i, i < 6 → vok v i := HOK.out
      have HVI : Hid (viewB v = true ↔ viewS v) := ⟨fun h => (viewB_iff.1 h).2, viewB_ok hv⟩
      have HVN : Hid (¬ viewS v → viewB v = false) := viewB_nS
      have tok_h5 : True := trivial
      go_wp2_with first
        | (with_reducible refine wpList_loadW rfl _ _ rfl _ rfl h1 agg18r size18r ?_)
        | (go_at_call 93; (with_reducible refine (l7Hidden_any v hv _).mono ?_); (rintro e w2 ⟨rfl, hb1⟩; replace hbel := hbel.trans (hb1.mono hbel.size); replace h1 := row_keep hb1 h1; clear hb1))
        | (with_reducible refine wpList_allocA rfl 43 rfl 6 v6z ?_; (try simp only [size_al]))
        | (have _t := tok_h5; with_reducible refine wpList_storeN rfl _ _ _ rfl rfl rfl v6s ?_; intro w1 h5 hb1; replace hbel := hbel.trans (hb1.mono hbel.size); replace h1 := row_keep hb1 h1; clear hb1 _t tok_h5)
      go_loopw [6, 7] (fun s i wr => ∃ m : Nat, 1 ≤ m ∧ m ≤ 6 ∧ i = .int .i64 m ∧ s = .int .i64 (lsum (lft v 6) m) ∧ (∀ c, 1 ≤ c → c < m → 0 ≤ lft v 6 c ∧ lft v 6 c ≤ 24) ∧ wr.heap[w.heap.size]? = some (.cells (arr 18 v) 48 (0, 0)) ∧ wr.heap[w2.heap.size]? = some (.cells (arr 6 (lft v 6)) 43 (0, 0)) ∧ Below w.heap.size w wr) (fun _ i _ => 6 - (intOf i).toNat)
      case atStart => exact ⟨1, by omega, by omega, rfl, rfl, by intro c h1 h2; omega, h1, h5, hbel⟩
      case round =>
        clear h1 h5 hbel
        obtain ⟨m, hm1, hm6, rfl, rfl, hL, h1, h5, hbel⟩ := hrel
        have HL : Hid _ := hL
        have hb := lsum_bd m hL
        have hb1 := hb.1
        have hb2 : lsum (lft v 6) m ≤ 1000 := by omega
        clear hL hb
        by_cases hlt : m < 6
        · cases hC : decide (0 ≤ lft v 6 m ∧ lft v 6 m ≤ 24) with
          | false =>
            have HV : Hid (viewB v = false) := HVN.out fun hs => by
              have := hs.1 m hm1 hlt
              simp [this.1, this.2] at hC
            have HC : Hid _ := hC
            clear hC
            go_wp2_with first
              | (with_reducible refine wpList_loadI rfl _ _ rfl _ _ rfl h5 aggI undI (by omega) ?_)
              | (go_at_call 73; (with_reducible refine (l1In_b false HC.out _).mono ?_); rintro e w1 ⟨rfl, hb1⟩; replace hbel := hbel.trans (hb1.mono hbel.size); replace h1 := row_keep hb1 h1; replace h5 := row_keep hb1 h5; clear hb1)
            go_ret
            exact ⟨ret_bool HV.out.symm, hbel⟩
          | true =>
            have HC : Hid _ := hC
            simp only [decide_eq_true_eq] at hC
            obtain ⟨hc1, hc2⟩ := hC
            have HS : Hid (lsum (lft v 6) (m + 1) = lsum (lft v 6) m + lft v 6 m) := if_neg (by omega)
            have HN : Hid (∀ c, 1 ≤ c → c < m + 1 → 0 ≤ lft v 6 c ∧ lft v 6 c ≤ 24) := fun c h1 h2 => by
              by_cases e : c = m
              · subst e; exact ⟨hc1, hc2⟩
              · exact HL.out c h1 (by omega)
            go_wp2_with first
              | (with_reducible refine wpList_loadI rfl _ _ rfl _ _ rfl h5 aggI undI (by omega) ?_)
              | (go_at_call 73; (with_reducible refine (l1In_b true HC.out _).mono ?_); rintro e w1 ⟨rfl, hb1⟩; replace hbel := hbel.trans (hb1.mono hbel.size); replace h1 := row_keep hb1 h1; replace h5 := row_keep hb1 h5; clear hb1)
            go_roundw
            case rel => exact ⟨m + 1, by omega, by omega, by go_num, by rw [HS.out], HN.out, h1, h5, hbel⟩
            case measure => simp [intOf]; omega
        · obtain rfl : m = 6 := by omega
          by_cases h12 : v 12 = 0
          · by_cases hs : lsum (lft v 6) 6 = hsum v 6
            · have HV : Hid (viewB v = true) := HVI.out.2 ⟨fun c h1 h2 => HL.out c h1 h2, h12, hs⟩
              clear hb1 hb2
              go_wp2_with first
                | (with_reducible refine wpList_loadI rfl _ _ rfl _ _ rfl h1 aggI undI (by omega) ?_)
              go_ret
              exact ⟨ret_bool HV.out.symm, hbel⟩
            · have HV : Hid (viewB v = false) := HVN.out fun h => hs h.2.2
              clear hb1 hb2
              go_wp2_with first
                | (with_reducible refine wpList_loadI rfl _ _ rfl _ _ rfl h1 aggI undI (by omega) ?_)
              go_ret
              exact ⟨ret_bool (by rw [HV.out]; simpa using hs), hbel⟩
          · have HV : Hid (viewB v = false) := HVN.out fun h => h12 h.2.1
            clear hb1 hb2
            go_wp2_with first
              | (with_reducible refine wpList_loadI rfl _ _ rfl _ _ rfl h1 aggI undI (by omega) ?_)
            go_ret
            exact ⟨ret_bool HV.out.symm, hbel⟩
end Go.Proofs.Ytbiplciklmagoaa
