/- Whether a view lets pour: the reference's test and the program's. -/
import Derived.Test.YtbiplciklmagoaaView2
import Derived.Test.YtbiplciklmagoaaView3
import Derived.Test.YtbiplciklmagoaaConvV
import Derived.Test.YtbiplciklmagoaaRackD
namespace Go.Proofs.Ytbiplciklmagoaa
set_option linter.unusedSimpArgs false
set_option linter.unusedVariables false
set_option maxRecDepth 20000
open Go.RowKit
def canB (v : Nat → Int) (i k : Nat) : Bool := decide (0 < v (6 + i)) && decide (v (6 + k) < 4) && (v (6 + k) == 0 || v i == v k)
theorem can_false1 {v : Nat → Int} {i k : Nat} (h : decide (0 < v (6 + i)) = false) : canB v i k = false := by simp [canB, h]
theorem can_false2 {v : Nat → Int} {i k : Nat} (h : decide (v (6 + k) < 4) = false) : canB v i k = false := by simp [canB, h]
theorem can_true {v : Nat → Int} {i k : Nat} (h1 : decide (0 < v (6 + i)) = true) (h2 : decide (v (6 + k) < 4) = true) (h3 : (v (6 + k) == 0) = true) : canB v i k = true := by simp [canB, h1, h2, h3]
theorem can_last {v : Nat → Int} {i k : Nat} {b : Bool} (h1 : decide (0 < v (6 + i)) = true) (h2 : decide (v (6 + k) < 4) = true) (h3 : (v (6 + k) == 0) = false) (h4 : (v i == v k) = b) : canB v i k = b := by simp [canB, h1, h2, h3, h4]
set_option maxHeartbeats 1000000 in
theorem l7Can_any (v : Nat → Int) (i k : Nat) (hi : i < 6) (hk : k < 6) (hne : ¬ i = k) (w : World) : Calls Try.prog 63 #[.agg (arr 18 v), .int .i64 i, .int .i64 k] w fun e w' => e = .returned (.bool (canB v i k)) ∧ Below w.heap.size w w' := by
  have h1 : (w.alloc (.cells (arr 18 v) 48)).heap[w.heap.size]? = some (.cells (arr 18 v) 48 (0, 0))   := heap_new rfl
  have hbel : Below w.heap.size w (w.alloc (.cells (arr 18 v) 48)) := (Below.refl _ _).alloc (by simp) _
  have hi' : (i : Int) < 6 := by omega
  have hk' : (k : Int) < 6 := by omega
  have hn1 : ¬ (i : Int) = k := by omega
  have hn2 : ((i : Int) != k) = true := by simpa using hn1
  cases hb : decide (0 < v (6 + i)) with
  | false =>
    rw [can_false1 hb]
    go_enter Try.func63, Try.ntmps63
    go_wp2_with first
      | fail
    refine wp_region_held 36 (Cls w _) (by kernel_rfl) (by kernel_rfl) (Cls.one h1 hbel) ?_; simp only [List.take_succ_cons, List.take_zero, List.drop_succ_cons, List.drop_zero]
    repeat (first
      | ((with_reducible refine wpQuiet_loadI rfl _ _ rfl _ _ rfl (fun _ h => h.r1) aggI undI (by omega) ?_); try simp only [Nat.zero_add])
      | ((with_reducible refine wpQuiet_step (fun K hK => ?_)); go_simp; (first | (refine ⟨_, fun _ _ => rfl, hK _ ?_⟩) | (refine ⟨_, fun _ _ => ⟨rfl, rfl⟩, hK _ ?_⟩) | (refine hK _ ?_)); clear hK K))
    refine wpQuiet_nil ?_
    intro wt hCt
    replace hbel := hCt.2
    go_wp2_with first
      | fail
    go_ret
    exact ⟨rfl, hbel⟩
  | true =>
    cases hc : decide (v (6 + k) < 4) with
    | false =>
      rw [can_false2 hc]
      go_enter Try.func63, Try.ntmps63
      go_wp2_with first
        | fail
      refine wp_region_held 36 (Cls w _) (by kernel_rfl) (by kernel_rfl) (Cls.one h1 hbel) ?_; simp only [List.take_succ_cons, List.take_zero, List.drop_succ_cons, List.drop_zero]
      repeat (first
        | ((with_reducible refine wpQuiet_loadI rfl _ _ rfl _ _ rfl (fun _ h => h.r1) aggI undI (by omega) ?_); try simp only [Nat.zero_add])
        | ((with_reducible refine wpQuiet_step (fun K hK => ?_)); go_simp; (first | (refine ⟨_, fun _ _ => rfl, hK _ ?_⟩) | (refine ⟨_, fun _ _ => ⟨rfl, rfl⟩, hK _ ?_⟩) | (refine hK _ ?_)); clear hK K))
      refine wpQuiet_nil ?_
      intro wt hCt
      replace hbel := hCt.2
      go_wp2_with first
        | fail
      go_ret
      exact ⟨rfl, hbel⟩
    | true =>
      cases hd : v (6 + k) == 0 with
      | true =>
        rw [can_true hb hc hd]
        go_enter Try.func63, Try.ntmps63
        go_wp2_with first
          | fail
        refine wp_region_held 36 (Cls w _) (by kernel_rfl) (by kernel_rfl) (Cls.one h1 hbel) ?_; simp only [List.take_succ_cons, List.take_zero, List.drop_succ_cons, List.drop_zero]
        repeat (first
          | ((with_reducible refine wpQuiet_loadI rfl _ _ rfl _ _ rfl (fun _ h => h.r1) aggI undI (by omega) ?_); try simp only [Nat.zero_add])
          | ((with_reducible refine wpQuiet_step (fun K hK => ?_)); go_simp; (first | (refine ⟨_, fun _ _ => rfl, hK _ ?_⟩) | (refine ⟨_, fun _ _ => ⟨rfl, rfl⟩, hK _ ?_⟩) | (refine hK _ ?_)); clear hK K))
        refine wpQuiet_nil ?_
        intro wt hCt
        replace hbel := hCt.2
        go_wp2_with first
          | fail
        go_ret
        exact ⟨rfl, hbel⟩
      | false =>
        cases he : v i == v k with
        | true =>
          rw [can_last hb hc hd he]
          go_enter Try.func63, Try.ntmps63
          go_wp2_with first
            | fail
          refine wp_region_held 36 (Cls w _) (by kernel_rfl) (by kernel_rfl) (Cls.one h1 hbel) ?_; simp only [List.take_succ_cons, List.take_zero, List.drop_succ_cons, List.drop_zero]
          repeat (first
            | ((with_reducible refine wpQuiet_loadI rfl _ _ rfl _ _ rfl (fun _ h => h.r1) aggI undI (by omega) ?_); try simp only [Nat.zero_add])
            | ((with_reducible refine wpQuiet_step (fun K hK => ?_)); go_simp; (first | (refine ⟨_, fun _ _ => rfl, hK _ ?_⟩) | (refine ⟨_, fun _ _ => ⟨rfl, rfl⟩, hK _ ?_⟩) | (refine hK _ ?_)); clear hK K))
          refine wpQuiet_nil ?_
          intro wt hCt
          replace hbel := hCt.2
          go_wp2_with first
            | fail
          go_ret
          exact ⟨rfl, hbel⟩
        | false =>
          rw [can_last hb hc hd he]
          go_enter Try.func63, Try.ntmps63
          go_wp2_with first
            | fail
          refine wp_region_held 36 (Cls w _) (by kernel_rfl) (by kernel_rfl) (Cls.one h1 hbel) ?_; simp only [List.take_succ_cons, List.take_zero, List.drop_succ_cons, List.drop_zero]
          repeat (first
            | ((with_reducible refine wpQuiet_loadI rfl _ _ rfl _ _ rfl (fun _ h => h.r1) aggI undI (by omega) ?_); try simp only [Nat.zero_add])
            | ((with_reducible refine wpQuiet_step (fun K hK => ?_)); go_simp; (first | (refine ⟨_, fun _ _ => rfl, hK _ ?_⟩) | (refine ⟨_, fun _ _ => ⟨rfl, rfl⟩, hK _ ?_⟩) | (refine hK _ ?_)); clear hK K))
          refine wpQuiet_nil ?_
          intro wt hCt
          replace hbel := hCt.2
          go_wp2_with first
            | fail
          go_ret
          exact ⟨rfl, hbel⟩
set_option maxHeartbeats 1000000 in
theorem viewCan_any (v : Nat → Int) (hv : ∀ i, i < 6 → vok v i) (i k : Nat) (hi : i < 6) (hk : k < 6) (hne : ¬ i = k) (w : World) : Calls Try.prog 69 #[.agg (arr 18 v), .int .i64 i, .int .i64 k] w fun e w' => e = .returned (.bool (canB v i k)) ∧ Below w.heap.size w w' := by
  have h1 : (w.alloc (.cells (arr 18 v) 48)).heap[w.heap.size]? = some (.cells (arr 18 v) 48 (0, 0))   := heap_new rfl
  have hbel : Below w.heap.size w (w.alloc (.cells (arr 18 v) 48)) := (Below.refl _ _).alloc (by simp) _
  have hi' : (i : Int) < 6 := by omega
  have hk' : (k : Int) < 6 := by omega
  have hn1 : ¬ (i : Int) = k := by omega
  have hn2 : ((i : Int) != k) = true := by simpa using hn1
  have e1 : decide (0 < v i) = decide (0 < v (6 + i)) := by
    have := hv i hi
    unfold vok at this
    by_cases h : 0 < v i
    · have h2 : 0 < v (6 + i) := by omega
      simp [h, h2]
    · have h2 : ¬ 0 < v (6 + i) := by omega
      simp [h, h2]
  have e2 : (v k == 0) = (v (6 + k) == 0) := by
    have := hv k hk
    unfold vok at this
    by_cases h : v k = 0
    · have h2 : v (6 + k) = 0 := by omega
      simp [h, h2]
    · have h2 : ¬ v (6 + k) = 0 := by omega
      rw [beq_eq_false_iff_ne.2 h, beq_eq_false_iff_ne.2 h2]
  have e3 : (v k == v i) = (v i == v k) := by
    by_cases h : v i = v k
    · simp [h]
    · have h2 : ¬ v k = v i := fun h3 => h h3.symm
      rw [beq_eq_false_iff_ne.2 h, beq_eq_false_iff_ne.2 h2]
  clear hv
  cases hb : decide (0 < v (6 + i)) with
  | false =>
    rw [can_false1 hb]
    rw [hb] at e1
    go_enter Try.func69, Try.ntmps69
    go_wp2_with first
      | fail
    refine wp_region_held 36 (Cls w _) (by kernel_rfl) (by kernel_rfl) (Cls.one h1 hbel) ?_; simp only [List.take_succ_cons, List.take_zero, List.drop_succ_cons, List.drop_zero]
    repeat (first
      | ((with_reducible refine wpQuiet_loadI rfl _ _ rfl _ _ rfl (fun _ h => h.r1) aggI undI (by omega) ?_); try simp only [Nat.zero_add])
      | ((with_reducible refine wpQuiet_step (fun K hK => ?_)); go_simp; (first | (refine ⟨_, fun _ _ => rfl, hK _ ?_⟩) | (refine ⟨_, fun _ _ => ⟨rfl, rfl⟩, hK _ ?_⟩) | (refine hK _ ?_)); clear hK K))
    refine wpQuiet_nil ?_
    intro wt hCt
    replace hbel := hCt.2
    go_wp2_with first
      | fail
    go_ret
    exact ⟨rfl, hbel⟩
  | true =>
    rw [hb] at e1
    cases hc : decide (v (6 + k) < 4) with
    | false =>
      rw [can_false2 hc]
      go_enter Try.func69, Try.ntmps69
      go_wp2_with first
        | fail
      refine wp_region_held 36 (Cls w _) (by kernel_rfl) (by kernel_rfl) (Cls.one h1 hbel) ?_; simp only [List.take_succ_cons, List.take_zero, List.drop_succ_cons, List.drop_zero]
      repeat (first
        | ((with_reducible refine wpQuiet_loadI rfl _ _ rfl _ _ rfl (fun _ h => h.r1) aggI undI (by omega) ?_); try simp only [Nat.zero_add])
        | ((with_reducible refine wpQuiet_step (fun K hK => ?_)); go_simp; (first | (refine ⟨_, fun _ _ => rfl, hK _ ?_⟩) | (refine ⟨_, fun _ _ => ⟨rfl, rfl⟩, hK _ ?_⟩) | (refine hK _ ?_)); clear hK K))
      refine wpQuiet_nil ?_
      intro wt hCt
      replace hbel := hCt.2
      go_wp2_with first
        | fail
      go_ret
      exact ⟨rfl, hbel⟩
    | true =>
      cases hd : v (6 + k) == 0 with
      | true =>
        rw [can_true hb hc hd]
        rw [hd] at e2
        go_enter Try.func69, Try.ntmps69
        go_wp2_with first
          | fail
        refine wp_region_held 36 (Cls w _) (by kernel_rfl) (by kernel_rfl) (Cls.one h1 hbel) ?_; simp only [List.take_succ_cons, List.take_zero, List.drop_succ_cons, List.drop_zero]
        repeat (first
          | ((with_reducible refine wpQuiet_loadI rfl _ _ rfl _ _ rfl (fun _ h => h.r1) aggI undI (by omega) ?_); try simp only [Nat.zero_add])
          | ((with_reducible refine wpQuiet_step (fun K hK => ?_)); go_simp; (first | (refine ⟨_, fun _ _ => rfl, hK _ ?_⟩) | (refine ⟨_, fun _ _ => ⟨rfl, rfl⟩, hK _ ?_⟩) | (refine hK _ ?_)); clear hK K))
        refine wpQuiet_nil ?_
        intro wt hCt
        replace hbel := hCt.2
        go_wp2_with first
          | fail
        go_ret
        exact ⟨rfl, hbel⟩
      | false =>
        rw [hd] at e2
        cases he : v i == v k with
        | true =>
          rw [can_last hb hc hd he]
          rw [he] at e3
          go_enter Try.func69, Try.ntmps69
          go_wp2_with first
            | fail
          refine wp_region_held 36 (Cls w _) (by kernel_rfl) (by kernel_rfl) (Cls.one h1 hbel) ?_; simp only [List.take_succ_cons, List.take_zero, List.drop_succ_cons, List.drop_zero]
          repeat (first
            | ((with_reducible refine wpQuiet_loadI rfl _ _ rfl _ _ rfl (fun _ h => h.r1) aggI undI (by omega) ?_); try simp only [Nat.zero_add])
            | ((with_reducible refine wpQuiet_step (fun K hK => ?_)); go_simp; (first | (refine ⟨_, fun _ _ => rfl, hK _ ?_⟩) | (refine ⟨_, fun _ _ => ⟨rfl, rfl⟩, hK _ ?_⟩) | (refine hK _ ?_)); clear hK K))
          refine wpQuiet_nil ?_
          intro wt hCt
          replace hbel := hCt.2
          go_wp2_with first
            | fail
          go_ret
          exact ⟨rfl, hbel⟩
        | false =>
          rw [can_last hb hc hd he]
          rw [he] at e3
          go_enter Try.func69, Try.ntmps69
          go_wp2_with first
            | fail
          refine wp_region_held 36 (Cls w _) (by kernel_rfl) (by kernel_rfl) (Cls.one h1 hbel) ?_; simp only [List.take_succ_cons, List.take_zero, List.drop_succ_cons, List.drop_zero]
          repeat (first
            | ((with_reducible refine wpQuiet_loadI rfl _ _ rfl _ _ rfl (fun _ h => h.r1) aggI undI (by omega) ?_); try simp only [Nat.zero_add])
            | ((with_reducible refine wpQuiet_step (fun K hK => ?_)); go_simp; (first | (refine ⟨_, fun _ _ => rfl, hK _ ?_⟩) | (refine ⟨_, fun _ _ => ⟨rfl, rfl⟩, hK _ ?_⟩) | (refine hK _ ?_)); clear hK K))
          refine wpQuiet_nil ?_
          intro wt hCt
          replace hbel := hCt.2
          go_wp2_with first
            | fail
          go_ret
          exact ⟨rfl, hbel⟩

end Go.Proofs.Ytbiplciklmagoaa
