/- CountHidden: the program's and the reference's, and the law. -/
import Derived.Test.YthbnaagheanppaaView2
import Derived.Test.YthbnaagheanppaaView3
import Derived.Test.YthbnaagheanppaaConvV
import Derived.Test.YthbnaagheanppaaCnt
import Derived.Test.YthbnaagheanppaaEq6
namespace Go.Proofs.Ythbnaagheanppaa
set_option linter.unusedSimpArgs false
set_option linter.unusedVariables false
open Go.RowKit
noncomputable def hidF (v : Nat → Int) : Int × (Nat → Int) × Bool := if viewB v = true then (hsum v 6, lft v 6, true) else (0, fun _ => 0, false)
theorem hid_sum {v : Nat → Int} (hx : ∀ j, I64 (v j)) (h : viewB v = true) : (∀ k, k < 6 → 0 ≤ lft v 6 (0 + k) ∧ lft v 6 (0 + k) ≤ 1000) ∧ isum (fun k => lft v 6 (0 + k)) 6 = hsum v 6 := by
  obtain ⟨hv, hc, hz, hs⟩ := viewB_iff.1 h
  have h0 : lft v 6 0 = 0 := by
    rw [lft_eq hx 6 0, (cnt_all hv 6 (by omega)).2.1, show v (12 + 0) = 0 from hz]
    unfold wrap64; omega
  refine ⟨fun k hk => ?_, ?_⟩
  · rw [Nat.zero_add]
    by_cases h1 : k = 0
    · subst h1; omega
    · have := hc k (by omega) hk
      omega
  · rw [← hs]
    simp [isum, lsum, h0]
theorem sum_eq {B off len cap n : Nat} {f : Nat → Int} {T : TypeId} {fr : Nat × Nat} (w : World) (hg : w.heap[B]? = some (.cells (arr n f) T fr)) (hle : off + len ≤ n) (hm : len ≤ 100) (hb : ∀ k, k < len → 0 ≤ f (off + k) ∧ f (off + k) ≤ 1000) {x : Int} (hx : isum (fun k => f (off + k)) len = x) :
    Calls Try.prog 57 #[.slice (some ⟨B, off, none⟩) len cap] w fun e w' => e = .returned (.int .i64 x) ∧ Below w.heap.size w w' := by
  subst hx
  exact sum_any w hg hle hm hb
theorem specHid_any (v : Nat → Int) (hx : ∀ j, I64 (v j)) (w : World) : Calls Try.prog 22 #[.agg (arr 18 v)] w fun e w' => e = .returned (.tuple #[.int .i64 (hidF v).1, .agg (arr 6 (hidF v).2.1), .bool (hidF v).2.2]) ∧ Below w.heap.size w w' := by
  have h1 : ((w.alloc (.cells (arr 18 v) 37)).alloc (.cells (arr 6 fun _ => 0) 26)).heap[w.heap.size]? = some (.cells (arr 18 v) 37 (0, 0)) := by rw [heap_old (by simp), heap_new rfl]
  have h2 : ((w.alloc (.cells (arr 18 v) 37)).alloc (.cells (arr 6 fun _ => 0) 26)).heap[w.heap.size + 1]? = some (.cells (arr 6 fun _ => 0) 26 (0, 0)) := heap_new (by simp)
  have hbel : Below w.heap.size w ((w.alloc (.cells (arr 18 v) 37)).alloc (.cells (arr 6 fun _ => 0) 26)) := ((Below.refl _ _).alloc (by simp) _).alloc (by simp) _
  have tok_h5 : True := trivial
  unfold hidF
  cases hf : viewB v with
  | false =>
    have HF : Hid _ := hf
    simp only [Bool.false_eq_true, if_false]
    clear hf
    go_enter Try.func22, Try.ntmps22
    go_wp2_with first
      | (with_reducible refine wpList_allocA rfl 26 rfl 6 v6z ?_; (try simp only [size_al]))
      | (with_reducible refine wpList_loadW rfl _ _ rfl _ rfl h1 agg18r size18r ?_)
      | (with_reducible refine wpList_build0 rfl 26 rfl 6 v6b ?_)
      | (with_reducible refine wpList_storeW rfl _ _ _ rfl _ rfl rfl h2 v6s ?_)
      | (go_at_call 48; (with_reducible refine (l7Good_any v hx _).mono ?_); rw [HF.out]; rintro e w1 ⟨rfl, hb1⟩; replace hbel := hbel.trans (hb1.mono hbel.size); replace h1 := row_keep hb1 h1; replace h2 := row_keep hb1 h2; clear hb1)
    exact bodyPost_ret_by (results_tct _ _ _ _ _ _ _ rfl rfl (setRow_heap _ _ _ _ _ _ h2) v6a v6s) rfl ⟨rfl, below_setRow2 hbel (by omega) _⟩
  | true =>
    have HF : Hid _ := hf
    have HV : Hid (∀ i, i < 6 → vok v i) := (viewB_iff.1 hf).1
    simp only [if_true]
    clear hf
    go_enter Try.func22, Try.ntmps22
    go_wp2_with first
      | (with_reducible refine wpList_allocA rfl 26 rfl 6 v6z ?_; (try simp only [size_al]))
      | (with_reducible refine wpList_loadW rfl _ _ rfl _ rfl h1 agg18r size18r ?_)
      | (go_at_call 48; (with_reducible refine (l7Good_any v hx _).mono ?_); rw [HF.out]; rintro e w1 ⟨rfl, hb1⟩; replace hbel := hbel.trans (hb1.mono hbel.size); replace h1 := row_keep hb1 h1; replace h2 := row_keep hb1 h2; clear hb1)
      | (go_at_call 54; (with_reducible refine (l7Hidden_any v HV.out _).mono ?_); rintro e w1 ⟨rfl, hb1⟩; replace hbel := hbel.trans (hb1.mono hbel.size); replace h1 := row_keep hb1 h1; replace h2 := row_keep hb1 h2; clear hb1)
      | (have _t := tok_h5; with_reducible refine wpList_storeN rfl _ _ _ rfl rfl rfl v6s ?_; intro w1 h5 hb1; replace hbel := hbel.trans (hb1.mono hbel.size); replace h1 := row_keep hb1 h1; replace h2 := row_keep hb1 h2; clear hb1 _t tok_h5)
    refine wp_region_held 3 (Cls w _) (by kernel_rfl) (by kernel_rfl) (Cls.two h2 h5 hbel) ?_; simp only [List.take_succ_cons, List.take_zero, List.drop_succ_cons, List.drop_zero]
    repeat (first
      | (with_reducible refine wpQuiet_loadW rfl _ _ rfl _ rfl (fun _ h => h.r2) v6a v6s ?_)
      | ((with_reducible refine wpQuiet_step (fun K hK => ?_)); go_simp; (first | (refine ⟨_, fun _ _ => rfl, hK _ ?_⟩) | (refine ⟨_, fun _ _ => ⟨rfl, rfl⟩, hK _ ?_⟩) | (refine hK _ ?_)); clear hK K))
    refine wpQuiet_nil ?_
    intro wt hCt
    replace h2 := hCt.r1
    replace hbel := hCt.2
    go_wp2_with first
      | (with_reducible refine wpList_storeW rfl _ _ _ rfl _ rfl rfl h2 v6s ?_)
    exact bodyPost_ret_by (results_tct _ _ _ _ _ _ _ rfl rfl (setRow_heap _ _ _ _ _ _ h2) v6a v6s) rfl ⟨rfl, below_setRow2 hbel (by omega) _⟩
theorem implHid_any (v : Nat → Int) (hx : ∀ j, I64 (v j)) (w : World) : Calls Try.prog 23 #[.agg (arr 18 v)] w fun e w' => e = .returned (.tuple #[.int .i64 (hidF v).1, .agg (arr 6 (hidF v).2.1), .bool (hidF v).2.2]) ∧ Below w.heap.size w w' := by
  have h1 : ((w.alloc (.cells (arr 18 v) 37)).alloc (.cells (arr 6 fun _ => 0) 26)).heap[w.heap.size]? = some (.cells (arr 18 v) 37 (0, 0)) := by rw [heap_old (by simp), heap_new rfl]
  have h2 : ((w.alloc (.cells (arr 18 v) 37)).alloc (.cells (arr 6 fun _ => 0) 26)).heap[w.heap.size + 1]? = some (.cells (arr 6 fun _ => 0) 26 (0, 0)) := heap_new (by simp)
  have hbel : Below w.heap.size w ((w.alloc (.cells (arr 18 v) 37)).alloc (.cells (arr 6 fun _ => 0) 26)) := ((Below.refl _ _).alloc (by simp) _).alloc (by simp) _
  have tok_h5 : True := trivial
  unfold hidF
  cases hf : viewB v with
  | false =>
    have HF : Hid _ := hf
    simp only [Bool.false_eq_true, if_false]
    clear hf
    go_enter Try.func23, Try.ntmps23
    go_wp2_with first
      | (with_reducible refine wpList_allocA rfl 26 rfl 6 v6z ?_; (try simp only [size_al]))
      | (with_reducible refine wpList_loadW rfl _ _ rfl _ rfl h1 agg18r size18r ?_)
      | (with_reducible refine wpList_build0 rfl 26 rfl 6 v6b ?_)
      | (with_reducible refine wpList_storeW rfl _ _ _ rfl _ rfl rfl h2 v6s ?_)
      | (go_at_call 55; (with_reducible refine (IsView_any v hx _).mono ?_); rw [HF.out]; rintro e w1 ⟨rfl, hb1⟩; replace hbel := hbel.trans (hb1.mono hbel.size); replace h1 := row_keep hb1 h1; replace h2 := row_keep hb1 h2; clear hb1)
    exact bodyPost_ret_by (results_tct _ _ _ _ _ _ _ rfl rfl (setRow_heap _ _ _ _ _ _ h2) v6a v6s) rfl ⟨rfl, below_setRow2 hbel (by omega) _⟩
  | true =>
    have HF : Hid _ := hf
    have HV : Hid (∀ i, i < 6 → vok v i) := (viewB_iff.1 hf).1
    have HS : Hid _ := hid_sum hx hf
    simp only [if_true]
    clear hf
    go_enter Try.func23, Try.ntmps23
    go_wp2_with first
      | (with_reducible refine wpList_allocA rfl 26 rfl 6 v6z ?_; (try simp only [size_al]))
      | (with_reducible refine wpList_loadW rfl _ _ rfl _ rfl h1 agg18r size18r ?_)
      | (go_at_call 55; (with_reducible refine (IsView_any v hx _).mono ?_); rw [HF.out]; rintro e w1 ⟨rfl, hb1⟩; replace hbel := hbel.trans (hb1.mono hbel.size); replace h1 := row_keep hb1 h1; replace h2 := row_keep hb1 h2; clear hb1)
      | (go_at_call 56; (with_reducible refine (hidden_any v HV.out _).mono ?_); rintro e w1 ⟨rfl, hb1⟩; replace hbel := hbel.trans (hb1.mono hbel.size); replace h1 := row_keep hb1 h1; replace h2 := row_keep hb1 h2; clear hb1)
      | (have _t := tok_h5; with_reducible refine wpList_storeN rfl _ _ _ rfl rfl rfl v6s ?_; intro w1 h5 hb1; replace hbel := hbel.trans (hb1.mono hbel.size); replace h1 := row_keep hb1 h1; replace h2 := row_keep hb1 h2; clear hb1 _t tok_h5)
    refine wp_region_held 4 (Cls w _) (by kernel_rfl) (by kernel_rfl) (Cls.two h2 h5 hbel) ?_; simp only [List.take_succ_cons, List.take_zero, List.drop_succ_cons, List.drop_zero]
    repeat (first
      | ((with_reducible refine wpQuiet_callE rfl 57 _ _ rfl (.int .i64 (hsum v 6)) (#[.slice (some ⟨_, _, none⟩) _ _]) rfl ?_ ?_ ?_); (exact enters_of Try.func57 (by kernel_rfl) rfl); (intro w' h'; with_reducible exact (sum_eq w' h'.r2 (by omega) (by omega) HS.out.1 HS.out.2).mono fun _ _ ⟨he, hb⟩ => ⟨he, h'.keep hb⟩))
      | (with_reducible refine wpQuiet_loadW rfl _ _ rfl _ rfl (fun _ h => h.r2) v6a v6s ?_)
      | ((with_reducible refine wpQuiet_step (fun K hK => ?_)); go_simp; (first | (refine ⟨_, fun _ _ => rfl, hK _ ?_⟩) | (refine ⟨_, fun _ _ => ⟨rfl, rfl⟩, hK _ ?_⟩) | (refine hK _ ?_)); clear hK K))
    refine wpQuiet_nil ?_
    intro wt hCt
    replace h2 := hCt.r1
    replace hbel := hCt.2
    go_wp2_with first
      | (with_reducible refine wpList_storeW rfl _ _ _ rfl _ rfl rfl h2 v6s ?_)
    exact bodyPost_ret_by (results_tct _ _ _ _ _ _ _ rfl rfl (setRow_heap _ _ _ _ _ _ h2) v6a v6s) rfl ⟨rfl, below_setRow2 hbel (by omega) _⟩
set_option linter.unusedVariables false in
theorem FnExactCountHidden_walk (x0 : Nat → Int) (hx0 : ∀ j, I64 (x0 j)) (w : World) : Calls Try.prog 5 #[.agg (arr 18 x0)] w fun e w' => e = .returned (.bool true) ∧ Below w.heap.size w w' := by
  have hr0 : (w.alloc (.cells (arr 18 x0) 34)).heap[w.heap.size]? = some (.cells (arr 18 x0) 34 (0, 0)) := by rw [heap_new (by simp)]
  have hbel : Below w.heap.size w (w.alloc (.cells (arr 18 x0) 34)) := ((Below.refl _ _).alloc (by simp) _)
  have tok_hA0 : True := trivial
  have tok_hB0 : True := trivial
  go_enter Try.func5, Try.ntmps5
  go_wp2_with first
    | (with_reducible refine wpList_loadW rfl _ _ rfl _ rfl hr0 agg18l size18l ?_)
    | (go_at_call 20; (with_reducible refine (toView_any _ _).mono ?_); (rintro e w1 ⟨rfl, hb1⟩; replace hbel := hbel.trans (hb1.mono hbel.size); replace hr0 := row_keep hb1 hr0; (try replace hA0 := row_keep hb1 hA0); (try replace hB0 := row_keep hb1 hB0); clear hb1))
    | (go_at_call 22; (with_reducible refine (specHid_any _ hx0 _).mono ?_); (rintro e w1 ⟨rfl, hb1⟩; replace hbel := hbel.trans (hb1.mono hbel.size); replace hr0 := row_keep hb1 hr0; (try replace hA0 := row_keep hb1 hA0); (try replace hB0 := row_keep hb1 hB0); clear hb1))
    | (go_at_call 23; (with_reducible refine (implHid_any _ hx0 _).mono ?_); (rintro e w1 ⟨rfl, hb1⟩; replace hbel := hbel.trans (hb1.mono hbel.size); replace hr0 := row_keep hb1 hr0; (try replace hA0 := row_keep hb1 hA0); (try replace hB0 := row_keep hb1 hB0); clear hb1))
    | (with_reducible refine wpList_allocA rfl 26 rfl 6 zero6 ?_; (try simp only [size_al]))
    | (go_at_call 18; (with_reducible refine (eqIntA6_same _ _).mono ?_); (rintro e w1 ⟨rfl, hb1⟩; replace hbel := hbel.trans (hb1.mono hbel.size); replace hr0 := row_keep hb1 hr0; (try replace hA0 := row_keep hb1 hA0); (try replace hB0 := row_keep hb1 hB0); clear hb1))
    | (have _t := tok_hA0; with_reducible refine wpList_storeN rfl _ _ _ rfl rfl rfl size6 ?_; intro w1 hA0 hb1; replace hbel := hbel.trans (hb1.mono hbel.size); replace hr0 := row_keep hb1 hr0; clear hb1 _t tok_hA0)
    | (with_reducible refine wpList_loadWG rfl _ _ rfl _ rfl hA0 agg6 size6 ?_)
    | (have _t := tok_hB0; with_reducible refine wpList_storeN rfl _ _ _ rfl rfl rfl size6 ?_; intro w1 hB0 hb1; replace hbel := hbel.trans (hb1.mono hbel.size); replace hr0 := row_keep hb1 hr0; replace hA0 := row_keep hb1 hA0; clear hb1 _t tok_hB0)
    | (with_reducible refine wpList_loadWG rfl _ _ rfl _ rfl hB0 agg6 size6 ?_)
  go_ret
  exact ⟨rfl, hbel⟩
end Go.Proofs.Ythbnaagheanppaa
