/- FormOf: the law. -/
import Derived.Test.YtbiplciklmagoaaForm
import Derived.Test.YtbiplciklmagoaaPut
namespace Go.Proofs.Ytbiplciklmagoaa
set_option linter.unusedSimpArgs false
set_option linter.unusedVariables false
set_option maxRecDepth 20000
open Go.RowKit
noncomputable def foR (f : Nat → Int) : (Nat → Int) × Bool := if rackB f = true then (formF f, true) else (fun _ => 0, false)
theorem specFo_any (f : Nat → Int) (w : World) : Calls Try.prog 39 #[.agg (arr 24 f)] w fun e w' => e = .returned (.tuple #[.agg (arr 24 (foR f).1), .bool (foR f).2]) ∧ Below w.heap.size w w' := by
  have h1 : ((w.alloc (.cells (arr 24 f) 28)).alloc (.cells (arr 24 fun _ => 0) 28)).heap[w.heap.size]? = some (.cells (arr 24 f) 28 (0, 0)) := by rw [heap_old (by simp), heap_new rfl]
  have h2 : ((w.alloc (.cells (arr 24 f) 28)).alloc (.cells (arr 24 fun _ => 0) 28)).heap[w.heap.size + 1]? = some (.cells (arr 24 fun _ => 0) 28 (0, 0)) := heap_new (by simp)
  have hbel : Below w.heap.size w ((w.alloc (.cells (arr 24 f) 28)).alloc (.cells (arr 24 fun _ => 0) 28)) := ((Below.refl _ _).alloc (by simp) _).alloc (by simp) _
  cases hf : rackB f with
  | false =>
    rw [show foR f = (fun _ => 0, false) from if_neg (by simp [hf])]
    have HF : Hid _ := hf
    clear hf
    go_enter Try.func39, Try.ntmps39
    go_wp2_with first
      | (with_reducible refine wpList_allocA rfl 28 rfl 24 zero24r ?_; (try simp only [size_al]))
      | (with_reducible refine wpList_loadW rfl _ _ rfl _ rfl h1 agg24r size24r ?_)
      | (with_reducible refine wpList_build0 rfl 28 rfl 24 zbuild24 ?_)
      | (with_reducible refine wpList_storeW rfl _ _ _ rfl _ rfl rfl h2 size24r ?_)
      | (go_at_call 43; (with_reducible refine (l2Rack_any f _).mono ?_); rw [HF.out]; rintro e w1 ⟨rfl, hb1⟩; replace hbel := hbel.trans (hb1.mono hbel.size); replace h1 := row_keep hb1 h1; replace h2 := row_keep hb1 h2; clear hb1)
      | (go_at_call 81; (with_reducible refine (l3Form_any f HF.out _).mono ?_); rintro e w1 ⟨rfl, hb1⟩; replace hbel := hbel.trans (hb1.mono hbel.size); replace h1 := row_keep hb1 h1; replace h2 := row_keep hb1 h2; clear hb1)
    exact bodyPost_ret_by (results_ct _ _ _ _ _ _ _ rfl rfl (setRow_heap _ _ _ _ _ _ h2) agg24r size24r) rfl ⟨rfl, below_setRow2 hbel (by omega) _⟩
  | true =>
    rw [show foR f = (formF f, true) from if_pos hf]
    have HF : Hid _ := hf
    clear hf
    go_enter Try.func39, Try.ntmps39
    go_wp2_with first
      | (with_reducible refine wpList_allocA rfl 28 rfl 24 zero24r ?_; (try simp only [size_al]))
      | (with_reducible refine wpList_loadW rfl _ _ rfl _ rfl h1 agg24r size24r ?_)
      | (with_reducible refine wpList_build0 rfl 28 rfl 24 zbuild24 ?_)
      | (with_reducible refine wpList_storeW rfl _ _ _ rfl _ rfl rfl h2 size24r ?_)
      | (go_at_call 43; (with_reducible refine (l2Rack_any f _).mono ?_); rw [HF.out]; rintro e w1 ⟨rfl, hb1⟩; replace hbel := hbel.trans (hb1.mono hbel.size); replace h1 := row_keep hb1 h1; replace h2 := row_keep hb1 h2; clear hb1)
      | (go_at_call 81; (with_reducible refine (l3Form_any f HF.out _).mono ?_); rintro e w1 ⟨rfl, hb1⟩; replace hbel := hbel.trans (hb1.mono hbel.size); replace h1 := row_keep hb1 h1; replace h2 := row_keep hb1 h2; clear hb1)
    exact bodyPost_ret_by (results_ct _ _ _ _ _ _ _ rfl rfl (setRow_heap _ _ _ _ _ _ h2) agg24r size24r) rfl ⟨rfl, below_setRow2 hbel (by omega) _⟩
theorem implFo_any (f : Nat → Int) (w : World) : Calls Try.prog 40 #[.agg (arr 24 f)] w fun e w' => e = .returned (.tuple #[.agg (arr 24 (foR f).1), .bool (foR f).2]) ∧ Below w.heap.size w w' := by
  have h1 : ((w.alloc (.cells (arr 24 f) 28)).alloc (.cells (arr 24 fun _ => 0) 28)).heap[w.heap.size]? = some (.cells (arr 24 f) 28 (0, 0)) := by rw [heap_old (by simp), heap_new rfl]
  have h2 : ((w.alloc (.cells (arr 24 f) 28)).alloc (.cells (arr 24 fun _ => 0) 28)).heap[w.heap.size + 1]? = some (.cells (arr 24 fun _ => 0) 28 (0, 0)) := heap_new (by simp)
  have hbel : Below w.heap.size w ((w.alloc (.cells (arr 24 f) 28)).alloc (.cells (arr 24 fun _ => 0) 28)) := ((Below.refl _ _).alloc (by simp) _).alloc (by simp) _
  cases hf : rackB f with
  | false =>
    rw [show foR f = (fun _ => 0, false) from if_neg (by simp [hf])]
    have HF : Hid _ := hf
    clear hf
    go_enter Try.func40, Try.ntmps40
    go_wp2_with first
      | (with_reducible refine wpList_allocA rfl 28 rfl 24 zero24r ?_; (try simp only [size_al]))
      | (with_reducible refine wpList_loadW rfl _ _ rfl _ rfl h1 agg24r size24r ?_)
      | (with_reducible refine wpList_build0 rfl 28 rfl 24 zbuild24 ?_)
      | (with_reducible refine wpList_storeW rfl _ _ _ rfl _ rfl rfl h2 size24r ?_)
      | (go_at_call 51; (with_reducible refine (IsRack_any f _).mono ?_); rw [HF.out]; rintro e w1 ⟨rfl, hb1⟩; replace hbel := hbel.trans (hb1.mono hbel.size); replace h1 := row_keep hb1 h1; replace h2 := row_keep hb1 h2; clear hb1)
      | (go_at_call 82; (with_reducible refine (formOf_any f HF.out _).mono ?_); rintro e w1 ⟨rfl, hb1⟩; replace hbel := hbel.trans (hb1.mono hbel.size); replace h1 := row_keep hb1 h1; replace h2 := row_keep hb1 h2; clear hb1)
    exact bodyPost_ret_by (results_ct _ _ _ _ _ _ _ rfl rfl (setRow_heap _ _ _ _ _ _ h2) agg24r size24r) rfl ⟨rfl, below_setRow2 hbel (by omega) _⟩
  | true =>
    rw [show foR f = (formF f, true) from if_pos hf]
    have HF : Hid _ := hf
    clear hf
    go_enter Try.func40, Try.ntmps40
    go_wp2_with first
      | (with_reducible refine wpList_allocA rfl 28 rfl 24 zero24r ?_; (try simp only [size_al]))
      | (with_reducible refine wpList_loadW rfl _ _ rfl _ rfl h1 agg24r size24r ?_)
      | (with_reducible refine wpList_build0 rfl 28 rfl 24 zbuild24 ?_)
      | (with_reducible refine wpList_storeW rfl _ _ _ rfl _ rfl rfl h2 size24r ?_)
      | (go_at_call 51; (with_reducible refine (IsRack_any f _).mono ?_); rw [HF.out]; rintro e w1 ⟨rfl, hb1⟩; replace hbel := hbel.trans (hb1.mono hbel.size); replace h1 := row_keep hb1 h1; replace h2 := row_keep hb1 h2; clear hb1)
      | (go_at_call 82; (with_reducible refine (formOf_any f HF.out _).mono ?_); rintro e w1 ⟨rfl, hb1⟩; replace hbel := hbel.trans (hb1.mono hbel.size); replace h1 := row_keep hb1 h1; replace h2 := row_keep hb1 h2; clear hb1)
    exact bodyPost_ret_by (results_ct _ _ _ _ _ _ _ rfl rfl (setRow_heap _ _ _ _ _ _ h2) agg24r size24r) rfl ⟨rfl, below_setRow2 hbel (by omega) _⟩
set_option linter.unusedVariables false in
theorem FnExactFormOf_walk (x0 : Nat → Int) (hx0 : ∀ j, I64 (x0 j)) (w : World) : Calls Try.prog 11 #[.agg (arr 24 x0)] w fun e w' => e = .returned (.bool true) ∧ Below w.heap.size w w' := by
  have hr0 : (w.alloc (.cells (arr 24 x0) 25)).heap[w.heap.size]? = some (.cells (arr 24 x0) 25 (0, 0)) := by rw [heap_new (by simp)]
  have hbel : Below w.heap.size w (w.alloc (.cells (arr 24 x0) 25)) := ((Below.refl _ _).alloc (by simp) _)
  have tok_hA0 : True := trivial
  have tok_hB0 : True := trivial
  go_enter Try.func11, Try.ntmps11
  go_wp2_with first
    | (with_reducible refine wpList_loadW rfl _ _ rfl _ rfl hr0 agg24l size24l ?_)
    | (go_at_call 14; (with_reducible refine (toRack_any _ _).mono ?_); (rintro e w1 ⟨rfl, hb1⟩; replace hbel := hbel.trans (hb1.mono hbel.size); replace hr0 := row_keep hb1 hr0; (try replace hA0 := row_keep hb1 hA0); (try replace hB0 := row_keep hb1 hB0); clear hb1))
    | (go_at_call 39; (with_reducible refine (specFo_any _ _).mono ?_); (rintro e w1 ⟨rfl, hb1⟩; replace hbel := hbel.trans (hb1.mono hbel.size); replace hr0 := row_keep hb1 hr0; (try replace hA0 := row_keep hb1 hA0); (try replace hB0 := row_keep hb1 hB0); clear hb1))
    | (go_at_call 40; (with_reducible refine (implFo_any _ _).mono ?_); (rintro e w1 ⟨rfl, hb1⟩; replace hbel := hbel.trans (hb1.mono hbel.size); replace hr0 := row_keep hb1 hr0; (try replace hA0 := row_keep hb1 hA0); (try replace hB0 := row_keep hb1 hB0); clear hb1))
    | (with_reducible refine wpList_allocA rfl 28 rfl 24 zero24r ?_; (try simp only [size_al]))
    | (go_at_call 20; (with_reducible refine (eqRack_same _ _).mono ?_); (rintro e w1 ⟨rfl, hb1⟩; replace hbel := hbel.trans (hb1.mono hbel.size); replace hr0 := row_keep hb1 hr0; (try replace hA0 := row_keep hb1 hA0); (try replace hB0 := row_keep hb1 hB0); clear hb1))
    | (have _t := tok_hA0; with_reducible refine wpList_storeN rfl _ _ _ rfl rfl rfl size24r ?_; intro w1 hA0 hb1; replace hbel := hbel.trans (hb1.mono hbel.size); replace hr0 := row_keep hb1 hr0; clear hb1 _t tok_hA0)
    | (with_reducible refine wpList_loadWG rfl _ _ rfl _ rfl hA0 agg24r size24r ?_)
    | (have _t := tok_hB0; with_reducible refine wpList_storeN rfl _ _ _ rfl rfl rfl size24r ?_; intro w1 hB0 hb1; replace hbel := hbel.trans (hb1.mono hbel.size); replace hr0 := row_keep hb1 hr0; replace hA0 := row_keep hb1 hA0; clear hb1 _t tok_hB0)
    | (with_reducible refine wpList_loadWG rfl _ _ rfl _ rfl hB0 agg24r size24r ?_)
  go_ret
  exact ⟨rfl, hbel⟩
end Go.Proofs.Ytbiplciklmagoaa
