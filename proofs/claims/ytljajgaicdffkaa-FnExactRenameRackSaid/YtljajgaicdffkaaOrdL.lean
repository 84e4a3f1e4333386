/- OrderRack and RenameRack: the program's and the reference's, and the laws. -/
import Derived.Test.YtljajgaicdffkaaFlo
import Derived.Test.YtljajgaicdffkaaIsO
import Derived.Test.YtljajgaicdffkaaRen
namespace Go.Proofs.Ytljajgaicdffkaa
set_option linter.unusedSimpArgs false
set_option linter.unusedVariables false
set_option maxRecDepth 20000
open Go.RowKit
noncomputable def orR (f p : Nat → Int) : (Nat → Int) × Bool := if rackB f = true ∧ pB p 6 = true then (ordF f p, true) else (fun _ => 0, false)
noncomputable def rnR (f p : Nat → Int) : (Nat → Int) × Bool := if rackB f = true ∧ ((p 0 == 0) && pB p 6) = true then (fun j => p (f j).toNat, true) else (fun _ => 0, false)
theorem pB_bd {p : Nat → Int} (h : pB p 6 = true) : ∀ i, i < 6 → 0 ≤ p i ∧ p i ≤ 5 := fun i hi => ((pB_iff 6).1 h i hi).1
theorem rack_bd {f : Nat → Int} (h : rackB f = true) : ∀ j, j < 24 → 0 ≤ f j ∧ f j ≤ 5 := fun j hj => by
  have h1 := (tubeB_iff f (j / 4)).1 ((rackB_iff f).1 h (j / 4) (by omega)) (j % 4) (Nat.mod_lt _ (by omega))
  have h2 := h1.1
  rwa [show j / 4 * 4 + j % 4 = j by omega] at h2
theorem specOr_any (f p : Nat → Int) (w : World) : Calls Try.prog 24 #[.agg (arr 24 f), .agg (arr 6 p)] w fun e w' => e = .returned (.tuple #[.agg (arr 24 (orR f p).1), .bool (orR f p).2]) ∧ Below w.heap.size w w' := by
  have h1 : (((w.alloc (.cells (arr 24 f) 33)).alloc (.cells (arr 6 p) 22)).alloc (.cells (arr 24 fun _ => 0) 33)).heap[w.heap.size]? = some (.cells (arr 24 f) 33 (0, 0)) := by rw [heap_old (by simp <;> omega), heap_old (by simp), heap_new rfl]
  have h2 : (((w.alloc (.cells (arr 24 f) 33)).alloc (.cells (arr 6 p) 22)).alloc (.cells (arr 24 fun _ => 0) 33)).heap[w.heap.size + 1]? = some (.cells (arr 6 p) 22 (0, 0)) := by rw [heap_old (by simp), heap_new (by simp)]
  have h4 : (((w.alloc (.cells (arr 24 f) 33)).alloc (.cells (arr 6 p) 22)).alloc (.cells (arr 24 fun _ => 0) 33)).heap[w.heap.size + 1 + 1]? = some (.cells (arr 24 fun _ => 0) 33 (0, 0)) := heap_new (by simp)
  have hbel : Below w.heap.size w (((w.alloc (.cells (arr 24 f) 33)).alloc (.cells (arr 6 p) 22)).alloc (.cells (arr 24 fun _ => 0) 33)) := (((Below.refl _ _).alloc (by simp) _).alloc (by simp) _).alloc (by simp <;> omega) _
  cases hf : rackB f with
  | false =>
    rw [show orR f p = (fun _ => 0, false) from if_neg (by simp [hf])]
    have HF : Hid _ := hf
    clear hf
    go_enter Try.func24, Try.ntmps24
    go_wp2_with first
      | (with_reducible refine wpList_allocA rfl 33 rfl 24 zero24r ?_; (try simp only [size_al]))
      | (with_reducible refine wpList_build0 rfl 33 rfl 24 zbuild24 ?_)
      | (with_reducible refine wpList_loadW rfl _ _ rfl _ rfl h1 agg24r size24r ?_)
      | (with_reducible refine wpList_loadW rfl _ _ rfl _ rfl h2 aggO sizeO ?_)
      | (with_reducible refine wpList_loadWG rfl _ _ rfl _ rfl h2 aggO sizeO ?_)
      | (with_reducible refine wpList_storeW rfl _ _ _ rfl _ rfl rfl h4 size24r ?_)
      | (go_at_call 44; (with_reducible refine (l2Rack_any f _).mono ?_); rw [HF.out]; rintro e w1 ⟨rfl, hb1⟩; replace hbel := hbel.trans (hb1.mono hbel.size); replace h1 := row_keep hb1 h1; replace h2 := row_keep hb1 h2; replace h4 := row_keep hb1 h4; clear hb1)
    exact bodyPost_ret_by (results_ct _ _ _ _ _ _ _ rfl rfl (setRow_heap _ _ _ _ _ _ h4) agg24r size24r) rfl ⟨rfl, below_setRow2 hbel (by omega) _⟩
  | true =>
    cases hp : pB p 6 with
    | false =>
      rw [show orR f p = (fun _ => 0, false) from if_neg (fun h => by rw [hp] at h; cases h.2)]
      have HF : Hid _ := hf
      have HP : Hid _ := hp
      clear hf hp
      go_enter Try.func24, Try.ntmps24
      go_wp2_with first
        | (with_reducible refine wpList_allocA rfl 33 rfl 24 zero24r ?_; (try simp only [size_al]))
        | (with_reducible refine wpList_build0 rfl 33 rfl 24 zbuild24 ?_)
        | (with_reducible refine wpList_loadW rfl _ _ rfl _ rfl h1 agg24r size24r ?_)
        | (with_reducible refine wpList_loadW rfl _ _ rfl _ rfl h2 aggO sizeO ?_)
        | (with_reducible refine wpList_loadWG rfl _ _ rfl _ rfl h2 aggO sizeO ?_)
        | (with_reducible refine wpList_storeW rfl _ _ _ rfl _ rfl rfl h4 size24r ?_)
        | (go_at_call 44; (with_reducible refine (l2Rack_any f _).mono ?_); rw [HF.out]; rintro e w1 ⟨rfl, hb1⟩; replace hbel := hbel.trans (hb1.mono hbel.size); replace h1 := row_keep hb1 h1; replace h2 := row_keep hb1 h2; replace h4 := row_keep hb1 h4; clear hb1)
        | (go_at_call 40; (with_reducible refine (l4Perm_any p _).mono ?_); rw [HP.out]; rintro e w1 ⟨rfl, hb1⟩; replace hbel := hbel.trans (hb1.mono hbel.size); replace h1 := row_keep hb1 h1; replace h2 := row_keep hb1 h2; replace h4 := row_keep hb1 h4; clear hb1)
      exact bodyPost_ret_by (results_ct _ _ _ _ _ _ _ rfl rfl (setRow_heap _ _ _ _ _ _ h4) agg24r size24r) rfl ⟨rfl, below_setRow2 hbel (by omega) _⟩
    | true =>
      rw [show orR f p = (ordF f p, true) from if_pos ⟨hf, hp⟩]
      have HI : Hid _ := pB_bd hp
      have HF : Hid _ := hf
      have HP : Hid _ := hp
      clear hf hp
      go_enter Try.func24, Try.ntmps24
      go_wp2_with first
        | (with_reducible refine wpList_allocA rfl 33 rfl 24 zero24r ?_; (try simp only [size_al]))
        | (with_reducible refine wpList_build0 rfl 33 rfl 24 zbuild24 ?_)
        | (with_reducible refine wpList_loadW rfl _ _ rfl _ rfl h1 agg24r size24r ?_)
        | (with_reducible refine wpList_loadW rfl _ _ rfl _ rfl h2 aggO sizeO ?_)
        | (with_reducible refine wpList_loadWG rfl _ _ rfl _ rfl h2 aggO sizeO ?_)
        | (with_reducible refine wpList_storeW rfl _ _ _ rfl _ rfl rfl h4 size24r ?_)
        | (go_at_call 44; (with_reducible refine (l2Rack_any f _).mono ?_); rw [HF.out]; rintro e w1 ⟨rfl, hb1⟩; replace hbel := hbel.trans (hb1.mono hbel.size); replace h1 := row_keep hb1 h1; replace h2 := row_keep hb1 h2; replace h4 := row_keep hb1 h4; clear hb1)
        | (go_at_call 40; (with_reducible refine (l4Perm_any p _).mono ?_); rw [HP.out]; rintro e w1 ⟨rfl, hb1⟩; replace hbel := hbel.trans (hb1.mono hbel.size); replace h1 := row_keep hb1 h1; replace h2 := row_keep hb1 h2; replace h4 := row_keep hb1 h4; clear hb1)
        | (go_at_call 45; (with_reducible refine (l4Order_any f p HI.out _).mono ?_); rintro e w1 ⟨rfl, hb1⟩; replace hbel := hbel.trans (hb1.mono hbel.size); replace h1 := row_keep hb1 h1; replace h2 := row_keep hb1 h2; replace h4 := row_keep hb1 h4; clear hb1)
      exact bodyPost_ret_by (results_ct _ _ _ _ _ _ _ rfl rfl (setRow_heap _ _ _ _ _ _ h4) agg24r size24r) rfl ⟨rfl, below_setRow2 hbel (by omega) _⟩
theorem implOr_any (f p : Nat → Int) (w : World) : Calls Try.prog 26 #[.agg (arr 24 f), .agg (arr 6 p)] w fun e w' => e = .returned (.tuple #[.agg (arr 24 (orR f p).1), .bool (orR f p).2]) ∧ Below w.heap.size w w' := by
  have h1 : (((w.alloc (.cells (arr 24 f) 33)).alloc (.cells (arr 6 p) 22)).alloc (.cells (arr 24 fun _ => 0) 33)).heap[w.heap.size]? = some (.cells (arr 24 f) 33 (0, 0)) := by rw [heap_old (by simp <;> omega), heap_old (by simp), heap_new rfl]
  have h2 : (((w.alloc (.cells (arr 24 f) 33)).alloc (.cells (arr 6 p) 22)).alloc (.cells (arr 24 fun _ => 0) 33)).heap[w.heap.size + 1]? = some (.cells (arr 6 p) 22 (0, 0)) := by rw [heap_old (by simp), heap_new (by simp)]
  have h4 : (((w.alloc (.cells (arr 24 f) 33)).alloc (.cells (arr 6 p) 22)).alloc (.cells (arr 24 fun _ => 0) 33)).heap[w.heap.size + 1 + 1]? = some (.cells (arr 24 fun _ => 0) 33 (0, 0)) := heap_new (by simp)
  have hbel : Below w.heap.size w (((w.alloc (.cells (arr 24 f) 33)).alloc (.cells (arr 6 p) 22)).alloc (.cells (arr 24 fun _ => 0) 33)) := (((Below.refl _ _).alloc (by simp) _).alloc (by simp) _).alloc (by simp <;> omega) _
  cases hf : rackB f with
  | false =>
    rw [show orR f p = (fun _ => 0, false) from if_neg (by simp [hf])]
    have HF : Hid _ := hf
    clear hf
    go_enter Try.func26, Try.ntmps26
    go_wp2_with first
      | (with_reducible refine wpList_allocA rfl 33 rfl 24 zero24r ?_; (try simp only [size_al]))
      | (with_reducible refine wpList_build0 rfl 33 rfl 24 zbuild24 ?_)
      | (with_reducible refine wpList_loadW rfl _ _ rfl _ rfl h1 agg24r size24r ?_)
      | (with_reducible refine wpList_loadW rfl _ _ rfl _ rfl h2 aggO sizeO ?_)
      | (with_reducible refine wpList_loadWG rfl _ _ rfl _ rfl h2 aggO sizeO ?_)
      | (with_reducible refine wpList_storeW rfl _ _ _ rfl _ rfl rfl h4 size24r ?_)
      | (go_at_call 47; (with_reducible refine (IsRack_any f _).mono ?_); rw [HF.out]; rintro e w1 ⟨rfl, hb1⟩; replace hbel := hbel.trans (hb1.mono hbel.size); replace h1 := row_keep hb1 h1; replace h2 := row_keep hb1 h2; replace h4 := row_keep hb1 h4; clear hb1)
    exact bodyPost_ret_by (results_ct _ _ _ _ _ _ _ rfl rfl (setRow_heap _ _ _ _ _ _ h4) agg24r size24r) rfl ⟨rfl, below_setRow2 hbel (by omega) _⟩
  | true =>
    cases hp : pB p 6 with
    | false =>
      rw [show orR f p = (fun _ => 0, false) from if_neg (fun h => by rw [hp] at h; cases h.2)]
      have HF : Hid _ := hf
      have HP : Hid _ := hp
      clear hf hp
      go_enter Try.func26, Try.ntmps26
      go_wp2_with first
        | (with_reducible refine wpList_allocA rfl 33 rfl 24 zero24r ?_; (try simp only [size_al]))
        | (with_reducible refine wpList_build0 rfl 33 rfl 24 zbuild24 ?_)
        | (with_reducible refine wpList_loadW rfl _ _ rfl _ rfl h1 agg24r size24r ?_)
        | (with_reducible refine wpList_loadW rfl _ _ rfl _ rfl h2 aggO sizeO ?_)
        | (with_reducible refine wpList_loadWG rfl _ _ rfl _ rfl h2 aggO sizeO ?_)
        | (with_reducible refine wpList_storeW rfl _ _ _ rfl _ rfl rfl h4 size24r ?_)
        | (go_at_call 47; (with_reducible refine (IsRack_any f _).mono ?_); rw [HF.out]; rintro e w1 ⟨rfl, hb1⟩; replace hbel := hbel.trans (hb1.mono hbel.size); replace h1 := row_keep hb1 h1; replace h2 := row_keep hb1 h2; replace h4 := row_keep hb1 h4; clear hb1)
        | (go_at_call 41; (with_reducible refine (isOrder_any p _).mono ?_); rw [HP.out]; rintro e w1 ⟨rfl, hb1⟩; replace hbel := hbel.trans (hb1.mono hbel.size); replace h1 := row_keep hb1 h1; replace h2 := row_keep hb1 h2; replace h4 := row_keep hb1 h4; clear hb1)
      exact bodyPost_ret_by (results_ct _ _ _ _ _ _ _ rfl rfl (setRow_heap _ _ _ _ _ _ h4) agg24r size24r) rfl ⟨rfl, below_setRow2 hbel (by omega) _⟩
    | true =>
      rw [show orR f p = (ordF f p, true) from if_pos ⟨hf, hp⟩]
      have HI : Hid _ := pB_bd hp
      have HF : Hid _ := hf
      have HP : Hid _ := hp
      clear hf hp
      go_enter Try.func26, Try.ntmps26
      go_wp2_with first
        | (with_reducible refine wpList_allocA rfl 33 rfl 24 zero24r ?_; (try simp only [size_al]))
        | (with_reducible refine wpList_build0 rfl 33 rfl 24 zbuild24 ?_)
        | (with_reducible refine wpList_loadW rfl _ _ rfl _ rfl h1 agg24r size24r ?_)
        | (with_reducible refine wpList_loadW rfl _ _ rfl _ rfl h2 aggO sizeO ?_)
        | (with_reducible refine wpList_loadWG rfl _ _ rfl _ rfl h2 aggO sizeO ?_)
        | (with_reducible refine wpList_storeW rfl _ _ _ rfl _ rfl rfl h4 size24r ?_)
        | (go_at_call 47; (with_reducible refine (IsRack_any f _).mono ?_); rw [HF.out]; rintro e w1 ⟨rfl, hb1⟩; replace hbel := hbel.trans (hb1.mono hbel.size); replace h1 := row_keep hb1 h1; replace h2 := row_keep hb1 h2; replace h4 := row_keep hb1 h4; clear hb1)
        | (go_at_call 41; (with_reducible refine (isOrder_any p _).mono ?_); rw [HP.out]; rintro e w1 ⟨rfl, hb1⟩; replace hbel := hbel.trans (hb1.mono hbel.size); replace h1 := row_keep hb1 h1; replace h2 := row_keep hb1 h2; replace h4 := row_keep hb1 h4; clear hb1)
        | (go_at_call 48; (with_reducible refine (ordered_any f p HI.out _).mono ?_); rintro e w1 ⟨rfl, hb1⟩; replace hbel := hbel.trans (hb1.mono hbel.size); replace h1 := row_keep hb1 h1; replace h2 := row_keep hb1 h2; replace h4 := row_keep hb1 h4; clear hb1)
      exact bodyPost_ret_by (results_ct _ _ _ _ _ _ _ rfl rfl (setRow_heap _ _ _ _ _ _ h4) agg24r size24r) rfl ⟨rfl, below_setRow2 hbel (by omega) _⟩
theorem specRn_any (f p : Nat → Int) (w : World) : Calls Try.prog 28 #[.agg (arr 24 f), .agg (arr 6 p)] w fun e w' => e = .returned (.tuple #[.agg (arr 24 (rnR f p).1), .bool (rnR f p).2]) ∧ Below w.heap.size w w' := by
  have h1 : (((w.alloc (.cells (arr 24 f) 33)).alloc (.cells (arr 6 p) 22)).alloc (.cells (arr 24 fun _ => 0) 33)).heap[w.heap.size]? = some (.cells (arr 24 f) 33 (0, 0)) := by rw [heap_old (by simp <;> omega), heap_old (by simp), heap_new rfl]
  have h2 : (((w.alloc (.cells (arr 24 f) 33)).alloc (.cells (arr 6 p) 22)).alloc (.cells (arr 24 fun _ => 0) 33)).heap[w.heap.size + 1]? = some (.cells (arr 6 p) 22 (0, 0)) := by rw [heap_old (by simp), heap_new (by simp)]
  have h4 : (((w.alloc (.cells (arr 24 f) 33)).alloc (.cells (arr 6 p) 22)).alloc (.cells (arr 24 fun _ => 0) 33)).heap[w.heap.size + 1 + 1]? = some (.cells (arr 24 fun _ => 0) 33 (0, 0)) := heap_new (by simp)
  have hbel : Below w.heap.size w (((w.alloc (.cells (arr 24 f) 33)).alloc (.cells (arr 6 p) 22)).alloc (.cells (arr 24 fun _ => 0) 33)) := (((Below.refl _ _).alloc (by simp) _).alloc (by simp) _).alloc (by simp <;> omega) _
  cases hf : rackB f with
  | false =>
    rw [show rnR f p = (fun _ => 0, false) from if_neg (by simp [hf])]
    have HF : Hid _ := hf
    clear hf
    go_enter Try.func28, Try.ntmps28
    go_wp2_with first
      | (with_reducible refine wpList_allocA rfl 33 rfl 24 zero24r ?_; (try simp only [size_al]))
      | (with_reducible refine wpList_build0 rfl 33 rfl 24 zbuild24 ?_)
      | (with_reducible refine wpList_loadW rfl _ _ rfl _ rfl h1 agg24r size24r ?_)
      | (with_reducible refine wpList_loadW rfl _ _ rfl _ rfl h2 aggO sizeO ?_)
      | (with_reducible refine wpList_loadWG rfl _ _ rfl _ rfl h2 aggO sizeO ?_)
      | (with_reducible refine wpList_storeW rfl _ _ _ rfl _ rfl rfl h4 size24r ?_)
      | (go_at_call 44; (with_reducible refine (l2Rack_any f _).mono ?_); rw [HF.out]; rintro e w1 ⟨rfl, hb1⟩; replace hbel := hbel.trans (hb1.mono hbel.size); replace h1 := row_keep hb1 h1; replace h2 := row_keep hb1 h2; replace h4 := row_keep hb1 h4; clear hb1)
    exact bodyPost_ret_by (results_ct _ _ _ _ _ _ _ rfl rfl (setRow_heap _ _ _ _ _ _ h4) agg24r size24r) rfl ⟨rfl, below_setRow2 hbel (by omega) _⟩
  | true =>
    cases hp : (p 0 == 0) && pB p 6 with
    | false =>
      rw [show rnR f p = (fun _ => 0, false) from if_neg (fun h => by rw [hp] at h; cases h.2)]
      have HF : Hid _ := hf
      have HP : Hid _ := hp
      clear hf hp
      go_enter Try.func28, Try.ntmps28
      go_wp2_with first
        | (with_reducible refine wpList_allocA rfl 33 rfl 24 zero24r ?_; (try simp only [size_al]))
        | (with_reducible refine wpList_build0 rfl 33 rfl 24 zbuild24 ?_)
        | (with_reducible refine wpList_loadW rfl _ _ rfl _ rfl h1 agg24r size24r ?_)
        | (with_reducible refine wpList_loadW rfl _ _ rfl _ rfl h2 aggO sizeO ?_)
        | (with_reducible refine wpList_loadWG rfl _ _ rfl _ rfl h2 aggO sizeO ?_)
        | (with_reducible refine wpList_storeW rfl _ _ _ rfl _ rfl rfl h4 size24r ?_)
        | (go_at_call 44; (with_reducible refine (l2Rack_any f _).mono ?_); rw [HF.out]; rintro e w1 ⟨rfl, hb1⟩; replace hbel := hbel.trans (hb1.mono hbel.size); replace h1 := row_keep hb1 h1; replace h2 := row_keep hb1 h2; replace h4 := row_keep hb1 h4; clear hb1)
        | (go_at_call 42; (with_reducible refine (l4Names_any p _).mono ?_); rw [HP.out]; rintro e w1 ⟨rfl, hb1⟩; replace hbel := hbel.trans (hb1.mono hbel.size); replace h1 := row_keep hb1 h1; replace h2 := row_keep hb1 h2; replace h4 := row_keep hb1 h4; clear hb1)
      exact bodyPost_ret_by (results_ct _ _ _ _ _ _ _ rfl rfl (setRow_heap _ _ _ _ _ _ h4) agg24r size24r) rfl ⟨rfl, below_setRow2 hbel (by omega) _⟩
    | true =>
      rw [show rnR f p = (fun j => p (f j).toNat, true) from if_pos ⟨hf, hp⟩]
      have HI : Hid _ := rack_bd hf
      have HF : Hid _ := hf
      have HP : Hid _ := hp
      clear hf hp
      go_enter Try.func28, Try.ntmps28
      go_wp2_with first
        | (with_reducible refine wpList_allocA rfl 33 rfl 24 zero24r ?_; (try simp only [size_al]))
        | (with_reducible refine wpList_build0 rfl 33 rfl 24 zbuild24 ?_)
        | (with_reducible refine wpList_loadW rfl _ _ rfl _ rfl h1 agg24r size24r ?_)
        | (with_reducible refine wpList_loadW rfl _ _ rfl _ rfl h2 aggO sizeO ?_)
        | (with_reducible refine wpList_loadWG rfl _ _ rfl _ rfl h2 aggO sizeO ?_)
        | (with_reducible refine wpList_storeW rfl _ _ _ rfl _ rfl rfl h4 size24r ?_)
        | (go_at_call 44; (with_reducible refine (l2Rack_any f _).mono ?_); rw [HF.out]; rintro e w1 ⟨rfl, hb1⟩; replace hbel := hbel.trans (hb1.mono hbel.size); replace h1 := row_keep hb1 h1; replace h2 := row_keep hb1 h2; replace h4 := row_keep hb1 h4; clear hb1)
        | (go_at_call 42; (with_reducible refine (l4Names_any p _).mono ?_); rw [HP.out]; rintro e w1 ⟨rfl, hb1⟩; replace hbel := hbel.trans (hb1.mono hbel.size); replace h1 := row_keep hb1 h1; replace h2 := row_keep hb1 h2; replace h4 := row_keep hb1 h4; clear hb1)
        | (go_at_call 50; (with_reducible refine (l4Rename_any f p HI.out _).mono ?_); rintro e w1 ⟨rfl, hb1⟩; replace hbel := hbel.trans (hb1.mono hbel.size); replace h1 := row_keep hb1 h1; replace h2 := row_keep hb1 h2; replace h4 := row_keep hb1 h4; clear hb1)
      exact bodyPost_ret_by (results_ct _ _ _ _ _ _ _ rfl rfl (setRow_heap _ _ _ _ _ _ h4) agg24r size24r) rfl ⟨rfl, below_setRow2 hbel (by omega) _⟩
theorem implRn_any (f p : Nat → Int) (w : World) : Calls Try.prog 29 #[.agg (arr 24 f), .agg (arr 6 p)] w fun e w' => e = .returned (.tuple #[.agg (arr 24 (rnR f p).1), .bool (rnR f p).2]) ∧ Below w.heap.size w w' := by
  have h1 : (((w.alloc (.cells (arr 24 f) 33)).alloc (.cells (arr 6 p) 22)).alloc (.cells (arr 24 fun _ => 0) 33)).heap[w.heap.size]? = some (.cells (arr 24 f) 33 (0, 0)) := by rw [heap_old (by simp <;> omega), heap_old (by simp), heap_new rfl]
  have h2 : (((w.alloc (.cells (arr 24 f) 33)).alloc (.cells (arr 6 p) 22)).alloc (.cells (arr 24 fun _ => 0) 33)).heap[w.heap.size + 1]? = some (.cells (arr 6 p) 22 (0, 0)) := by rw [heap_old (by simp), heap_new (by simp)]
  have h4 : (((w.alloc (.cells (arr 24 f) 33)).alloc (.cells (arr 6 p) 22)).alloc (.cells (arr 24 fun _ => 0) 33)).heap[w.heap.size + 1 + 1]? = some (.cells (arr 24 fun _ => 0) 33 (0, 0)) := heap_new (by simp)
  have hbel : Below w.heap.size w (((w.alloc (.cells (arr 24 f) 33)).alloc (.cells (arr 6 p) 22)).alloc (.cells (arr 24 fun _ => 0) 33)) := (((Below.refl _ _).alloc (by simp) _).alloc (by simp) _).alloc (by simp <;> omega) _
  cases hf : rackB f with
  | false =>
    rw [show rnR f p = (fun _ => 0, false) from if_neg (by simp [hf])]
    have HF : Hid _ := hf
    clear hf
    go_enter Try.func29, Try.ntmps29
    go_wp2_with first
      | (with_reducible refine wpList_allocA rfl 33 rfl 24 zero24r ?_; (try simp only [size_al]))
      | (with_reducible refine wpList_build0 rfl 33 rfl 24 zbuild24 ?_)
      | (with_reducible refine wpList_loadW rfl _ _ rfl _ rfl h1 agg24r size24r ?_)
      | (with_reducible refine wpList_loadW rfl _ _ rfl _ rfl h2 aggO sizeO ?_)
      | (with_reducible refine wpList_loadWG rfl _ _ rfl _ rfl h2 aggO sizeO ?_)
      | (with_reducible refine wpList_storeW rfl _ _ _ rfl _ rfl rfl h4 size24r ?_)
      | (go_at_call 47; (with_reducible refine (IsRack_any f _).mono ?_); rw [HF.out]; rintro e w1 ⟨rfl, hb1⟩; replace hbel := hbel.trans (hb1.mono hbel.size); replace h1 := row_keep hb1 h1; replace h2 := row_keep hb1 h2; replace h4 := row_keep hb1 h4; clear hb1)
    exact bodyPost_ret_by (results_ct _ _ _ _ _ _ _ rfl rfl (setRow_heap _ _ _ _ _ _ h4) agg24r size24r) rfl ⟨rfl, below_setRow2 hbel (by omega) _⟩
  | true =>
    cases hp : (p 0 == 0) && pB p 6 with
    | false =>
      rw [show rnR f p = (fun _ => 0, false) from if_neg (fun h => by rw [hp] at h; cases h.2)]
      have HF : Hid _ := hf
      have HP : Hid _ := hp
      clear hf hp
      go_enter Try.func29, Try.ntmps29
      go_wp2_with first
        | (with_reducible refine wpList_allocA rfl 33 rfl 24 zero24r ?_; (try simp only [size_al]))
        | (with_reducible refine wpList_build0 rfl 33 rfl 24 zbuild24 ?_)
        | (with_reducible refine wpList_loadW rfl _ _ rfl _ rfl h1 agg24r size24r ?_)
        | (with_reducible refine wpList_loadW rfl _ _ rfl _ rfl h2 aggO sizeO ?_)
        | (with_reducible refine wpList_loadWG rfl _ _ rfl _ rfl h2 aggO sizeO ?_)
        | (with_reducible refine wpList_storeW rfl _ _ _ rfl _ rfl rfl h4 size24r ?_)
        | (go_at_call 47; (with_reducible refine (IsRack_any f _).mono ?_); rw [HF.out]; rintro e w1 ⟨rfl, hb1⟩; replace hbel := hbel.trans (hb1.mono hbel.size); replace h1 := row_keep hb1 h1; replace h2 := row_keep hb1 h2; replace h4 := row_keep hb1 h4; clear hb1)
        | (go_at_call 43; (with_reducible refine (isRenaming_any p _).mono ?_); rw [HP.out]; rintro e w1 ⟨rfl, hb1⟩; replace hbel := hbel.trans (hb1.mono hbel.size); replace h1 := row_keep hb1 h1; replace h2 := row_keep hb1 h2; replace h4 := row_keep hb1 h4; clear hb1)
      exact bodyPost_ret_by (results_ct _ _ _ _ _ _ _ rfl rfl (setRow_heap _ _ _ _ _ _ h4) agg24r size24r) rfl ⟨rfl, below_setRow2 hbel (by omega) _⟩
    | true =>
      rw [show rnR f p = (fun j => p (f j).toNat, true) from if_pos ⟨hf, hp⟩]
      have HI : Hid _ := rack_bd hf
      have HF : Hid _ := hf
      have HP : Hid _ := hp
      clear hf hp
      go_enter Try.func29, Try.ntmps29
      go_wp2_with first
        | (with_reducible refine wpList_allocA rfl 33 rfl 24 zero24r ?_; (try simp only [size_al]))
        | (with_reducible refine wpList_build0 rfl 33 rfl 24 zbuild24 ?_)
        | (with_reducible refine wpList_loadW rfl _ _ rfl _ rfl h1 agg24r size24r ?_)
        | (with_reducible refine wpList_loadW rfl _ _ rfl _ rfl h2 aggO sizeO ?_)
        | (with_reducible refine wpList_loadWG rfl _ _ rfl _ rfl h2 aggO sizeO ?_)
        | (with_reducible refine wpList_storeW rfl _ _ _ rfl _ rfl rfl h4 size24r ?_)
        | (go_at_call 47; (with_reducible refine (IsRack_any f _).mono ?_); rw [HF.out]; rintro e w1 ⟨rfl, hb1⟩; replace hbel := hbel.trans (hb1.mono hbel.size); replace h1 := row_keep hb1 h1; replace h2 := row_keep hb1 h2; replace h4 := row_keep hb1 h4; clear hb1)
        | (go_at_call 43; (with_reducible refine (isRenaming_any p _).mono ?_); rw [HP.out]; rintro e w1 ⟨rfl, hb1⟩; replace hbel := hbel.trans (hb1.mono hbel.size); replace h1 := row_keep hb1 h1; replace h2 := row_keep hb1 h2; replace h4 := row_keep hb1 h4; clear hb1)
        | (go_at_call 51; (with_reducible refine (renamed_any f p HI.out _).mono ?_); rintro e w1 ⟨rfl, hb1⟩; replace hbel := hbel.trans (hb1.mono hbel.size); replace h1 := row_keep hb1 h1; replace h2 := row_keep hb1 h2; replace h4 := row_keep hb1 h4; clear hb1)
      exact bodyPost_ret_by (results_ct _ _ _ _ _ _ _ rfl rfl (setRow_heap _ _ _ _ _ _ h4) agg24r size24r) rfl ⟨rfl, below_setRow2 hbel (by omega) _⟩
set_option linter.unusedVariables false in
set_option maxHeartbeats 1000000 in
theorem FnExactOrderRack_walk (x0 : Nat → Int) (hx0 : ∀ j, I64 (x0 j)) (x1 : Nat → Int) (hx1 : ∀ j, I64 (x1 j)) (w : World) : Calls Try.prog 7 #[.agg (arr 24 x0), .agg (arr 6 x1)] w fun e w' => e = .returned (.bool true) ∧ Below w.heap.size w w' := by
  have hr0 : ((w.alloc (.cells (arr 24 x0) 32)).alloc (.cells (arr 6 x1) 22)).heap[w.heap.size]? = some (.cells (arr 24 x0) 32 (0, 0)) := by rw [heap_old (by simp <;> omega), heap_new (by simp)]
  have hr1 : ((w.alloc (.cells (arr 24 x0) 32)).alloc (.cells (arr 6 x1) 22)).heap[w.heap.size + 1]? = some (.cells (arr 6 x1) 22 (0, 0)) := by rw [heap_new (by simp)]
  have hbel : Below w.heap.size w ((w.alloc (.cells (arr 24 x0) 32)).alloc (.cells (arr 6 x1) 22)) := (((Below.refl _ _).alloc (by simp) _).alloc (by simp) _)
  go_enter Try.func7, Try.ntmps7
  go_wp2_with fail
  obtain ⟨wm, hwm⟩ : ∃ wm : World, wm = ((w.alloc (.cells (arr 24 x0) 32)).alloc (.cells (arr 6 x1) 22)) := ⟨_, rfl⟩
  rw [← hwm] at hr0 hr1 hbel ⊢
  clear hwm
  have hLhr0hA := row_lt hr0
  have hLhr1hA := row_lt hr1
  refine wp_region_flo 8 2 [7] _ _ 33 24 zero24r _ rfl rfl (by kernel_rfl) (by kernel_rfl) (Cls.two hr0 hr1 (Below.refl _ _)) ?_; simp only [List.take_succ_cons, List.take_zero, List.drop_succ_cons, List.drop_zero]
  repeat (first
    | (with_reducible refine wpR_loadW rfl _ _ rfl _ rfl (fun _ h => h.r1) agg24l size24l ?_)
    | (with_reducible refine wpR_loadW rfl _ _ rfl _ rfl (fun _ h => h.r2) agg6 size6 ?_)
    | ((with_reducible refine wpR_callE rfl 25 _ _ rfl (.agg (arr 24 x0)) (#[.agg (arr 24 x0)]) rfl ?_ ?_ ?_); (exact enters_of Try.func25 (by kernel_rfl) rfl); (intro w' h'; with_reducible exact toRack_any x0 w'))
    | ((with_reducible refine wpR_callE rfl 15 _ _ rfl (.agg (arr 6 x1)) (#[.agg (arr 6 x1)]) rfl ?_ ?_ ?_); (exact enters_of Try.func15 (by kernel_rfl) rfl); (intro w' h'; with_reducible exact toIntA6_any x1 w'))
    | ((with_reducible refine wpR_callE rfl 24 _ _ rfl (.tuple #[.agg (arr 24 (orR x0 x1).1), .bool (orR x0 x1).2]) (#[.agg (arr 24 x0), .agg (arr 6 x1)]) rfl ?_ ?_ ?_); (exact enters_of Try.func24 (by kernel_rfl) rfl); (intro w' h'; with_reducible exact specOr_any x0 x1 w'))
    | ((with_reducible refine wpR_step (fun K hK => ?_)); go_simp; (first | (refine ⟨_, fun _ _ => rfl, hK _ ?_⟩) | (refine hK _ ?_)); clear hK K))
  refine wpR_nil ?_
  intro BhA wt hWhA hCt hA
  replace hbel := hbel.trans (hCt.2.mono hbel.size)
  replace hr0 := hCt.r1
  replace hr1 := hCt.r2
  clear hCt
  go_wp2_with first
    | (with_reducible refine wpList_storeWN rfl _ _ _ rfl _ rfl rfl hA size24r hbel (by have := hbel.size; omega) ?_; intro w1 g3 ho g4; replace hr0 := (ho _ (by omega)).trans hr0; replace hr1 := (ho _ (by omega)).trans hr1; clear hbel hA; have hA := g3; have hbel := g4; clear g3 g4 ho)
  refine QN.intro ?_
  go_wp2_with first
    | fail
  have hLhr0hB := row_lt hr0
  have hLhr1hB := row_lt hr1
  have hLhAhB := row_lt hA
  refine wp_region_flo 8 2 [7] _ _ 33 24 zero24r _ rfl rfl (by kernel_rfl) (by kernel_rfl) (Cls.three hr0 hr1 hA (Below.refl _ _)) ?_; simp only [List.take_succ_cons, List.take_zero, List.drop_succ_cons, List.drop_zero]
  repeat (first
    | (with_reducible refine wpR_loadW rfl _ _ rfl _ rfl (fun _ h => h.r1) agg24l size24l ?_)
    | (with_reducible refine wpR_loadW rfl _ _ rfl _ rfl (fun _ h => h.r2) agg6 size6 ?_)
    | ((with_reducible refine wpR_callE rfl 25 _ _ rfl (.agg (arr 24 x0)) (#[.agg (arr 24 x0)]) rfl ?_ ?_ ?_); (exact enters_of Try.func25 (by kernel_rfl) rfl); (intro w' h'; with_reducible exact toRack_any x0 w'))
    | ((with_reducible refine wpR_callE rfl 15 _ _ rfl (.agg (arr 6 x1)) (#[.agg (arr 6 x1)]) rfl ?_ ?_ ?_); (exact enters_of Try.func15 (by kernel_rfl) rfl); (intro w' h'; with_reducible exact toIntA6_any x1 w'))
    | ((with_reducible refine wpR_callE rfl 26 _ _ rfl (.tuple #[.agg (arr 24 (orR x0 x1).1), .bool (orR x0 x1).2]) (#[.agg (arr 24 x0), .agg (arr 6 x1)]) rfl ?_ ?_ ?_); (exact enters_of Try.func26 (by kernel_rfl) rfl); (intro w' h'; with_reducible exact implOr_any x0 x1 w'))
    | ((with_reducible refine wpR_step (fun K hK => ?_)); go_simp; (first | (refine ⟨_, fun _ _ => rfl, hK _ ?_⟩) | (refine hK _ ?_)); clear hK K))
  refine wpR_nil ?_
  intro BhB wt hWhB hCt hB
  replace hbel := hbel.trans (hCt.2.mono hbel.size)
  replace hr0 := hCt.r1
  replace hr1 := hCt.r2
  replace hA := hCt.r3
  clear hCt
  go_wp2_with first
    | (with_reducible refine wpList_storeWN rfl _ _ _ rfl _ rfl rfl hB size24r hbel (by have := hbel.size; omega) ?_; intro w2 g3 ho g4; replace hr0 := (ho _ (by omega)).trans hr0; replace hr1 := (ho _ (by omega)).trans hr1; replace hA := (ho _ (by omega)).trans hA; clear hbel hB; have hB := g3; have hbel := g4; clear g3 g4 ho)
  refine QN.intro ?_
  go_wp2_with first
    | (with_reducible refine wpList_loadW rfl _ _ rfl _ rfl hA agg24r size24r ?_)
    | (with_reducible refine wpList_loadW rfl _ _ rfl _ rfl hB agg24r size24r ?_)
    | (go_at_call 27; (with_reducible refine (eqRack_same _ _).mono ?_); (rintro e w3 ⟨rfl, hb1⟩; replace hbel := hbel.trans (hb1.mono hbel.size); clear hb1))
  go_ret
  exact ⟨rfl, hbel⟩
set_option linter.unusedVariables false in
set_option maxHeartbeats 1000000 in
theorem FnExactRenameRack_walk (x0 : Nat → Int) (hx0 : ∀ j, I64 (x0 j)) (x1 : Nat → Int) (hx1 : ∀ j, I64 (x1 j)) (w : World) : Calls Try.prog 8 #[.agg (arr 24 x0), .agg (arr 6 x1)] w fun e w' => e = .returned (.bool true) ∧ Below w.heap.size w w' := by
  have hr0 : ((w.alloc (.cells (arr 24 x0) 32)).alloc (.cells (arr 6 x1) 22)).heap[w.heap.size]? = some (.cells (arr 24 x0) 32 (0, 0)) := by rw [heap_old (by simp <;> omega), heap_new (by simp)]
  have hr1 : ((w.alloc (.cells (arr 24 x0) 32)).alloc (.cells (arr 6 x1) 22)).heap[w.heap.size + 1]? = some (.cells (arr 6 x1) 22 (0, 0)) := by rw [heap_new (by simp)]
  have hbel : Below w.heap.size w ((w.alloc (.cells (arr 24 x0) 32)).alloc (.cells (arr 6 x1) 22)) := (((Below.refl _ _).alloc (by simp) _).alloc (by simp) _)
  go_enter Try.func8, Try.ntmps8
  go_wp2_with fail
  obtain ⟨wm, hwm⟩ : ∃ wm : World, wm = ((w.alloc (.cells (arr 24 x0) 32)).alloc (.cells (arr 6 x1) 22)) := ⟨_, rfl⟩
  rw [← hwm] at hr0 hr1 hbel ⊢
  clear hwm
  have hLhr0hA := row_lt hr0
  have hLhr1hA := row_lt hr1
  refine wp_region_flo 8 2 [7] _ _ 33 24 zero24r _ rfl rfl (by kernel_rfl) (by kernel_rfl) (Cls.two hr0 hr1 (Below.refl _ _)) ?_; simp only [List.take_succ_cons, List.take_zero, List.drop_succ_cons, List.drop_zero]
  repeat (first
    | (with_reducible refine wpR_loadW rfl _ _ rfl _ rfl (fun _ h => h.r1) agg24l size24l ?_)
    | (with_reducible refine wpR_loadW rfl _ _ rfl _ rfl (fun _ h => h.r2) agg6 size6 ?_)
    | ((with_reducible refine wpR_callE rfl 25 _ _ rfl (.agg (arr 24 x0)) (#[.agg (arr 24 x0)]) rfl ?_ ?_ ?_); (exact enters_of Try.func25 (by kernel_rfl) rfl); (intro w' h'; with_reducible exact toRack_any x0 w'))
    | ((with_reducible refine wpR_callE rfl 15 _ _ rfl (.agg (arr 6 x1)) (#[.agg (arr 6 x1)]) rfl ?_ ?_ ?_); (exact enters_of Try.func15 (by kernel_rfl) rfl); (intro w' h'; with_reducible exact toIntA6_any x1 w'))
    | ((with_reducible refine wpR_callE rfl 28 _ _ rfl (.tuple #[.agg (arr 24 (rnR x0 x1).1), .bool (rnR x0 x1).2]) (#[.agg (arr 24 x0), .agg (arr 6 x1)]) rfl ?_ ?_ ?_); (exact enters_of Try.func28 (by kernel_rfl) rfl); (intro w' h'; with_reducible exact specRn_any x0 x1 w'))
    | ((with_reducible refine wpR_step (fun K hK => ?_)); go_simp; (first | (refine ⟨_, fun _ _ => rfl, hK _ ?_⟩) | (refine hK _ ?_)); clear hK K))
  refine wpR_nil ?_
  intro BhA wt hWhA hCt hA
  replace hbel := hbel.trans (hCt.2.mono hbel.size)
  replace hr0 := hCt.r1
  replace hr1 := hCt.r2
  clear hCt
  go_wp2_with first
    | (with_reducible refine wpList_storeWN rfl _ _ _ rfl _ rfl rfl hA size24r hbel (by have := hbel.size; omega) ?_; intro w1 g3 ho g4; replace hr0 := (ho _ (by omega)).trans hr0; replace hr1 := (ho _ (by omega)).trans hr1; clear hbel hA; have hA := g3; have hbel := g4; clear g3 g4 ho)
  refine QN.intro ?_
  go_wp2_with first
    | fail
  have hLhr0hB := row_lt hr0
  have hLhr1hB := row_lt hr1
  have hLhAhB := row_lt hA
  refine wp_region_flo 8 2 [7] _ _ 33 24 zero24r _ rfl rfl (by kernel_rfl) (by kernel_rfl) (Cls.three hr0 hr1 hA (Below.refl _ _)) ?_; simp only [List.take_succ_cons, List.take_zero, List.drop_succ_cons, List.drop_zero]
  repeat (first
    | (with_reducible refine wpR_loadW rfl _ _ rfl _ rfl (fun _ h => h.r1) agg24l size24l ?_)
    | (with_reducible refine wpR_loadW rfl _ _ rfl _ rfl (fun _ h => h.r2) agg6 size6 ?_)
    | ((with_reducible refine wpR_callE rfl 25 _ _ rfl (.agg (arr 24 x0)) (#[.agg (arr 24 x0)]) rfl ?_ ?_ ?_); (exact enters_of Try.func25 (by kernel_rfl) rfl); (intro w' h'; with_reducible exact toRack_any x0 w'))
    | ((with_reducible refine wpR_callE rfl 15 _ _ rfl (.agg (arr 6 x1)) (#[.agg (arr 6 x1)]) rfl ?_ ?_ ?_); (exact enters_of Try.func15 (by kernel_rfl) rfl); (intro w' h'; with_reducible exact toIntA6_any x1 w'))
    | ((with_reducible refine wpR_callE rfl 29 _ _ rfl (.tuple #[.agg (arr 24 (rnR x0 x1).1), .bool (rnR x0 x1).2]) (#[.agg (arr 24 x0), .agg (arr 6 x1)]) rfl ?_ ?_ ?_); (exact enters_of Try.func29 (by kernel_rfl) rfl); (intro w' h'; with_reducible exact implRn_any x0 x1 w'))
    | ((with_reducible refine wpR_step (fun K hK => ?_)); go_simp; (first | (refine ⟨_, fun _ _ => rfl, hK _ ?_⟩) | (refine hK _ ?_)); clear hK K))
  refine wpR_nil ?_
  intro BhB wt hWhB hCt hB
  replace hbel := hbel.trans (hCt.2.mono hbel.size)
  replace hr0 := hCt.r1
  replace hr1 := hCt.r2
  replace hA := hCt.r3
  clear hCt
  go_wp2_with first
    | (with_reducible refine wpList_storeWN rfl _ _ _ rfl _ rfl rfl hB size24r hbel (by have := hbel.size; omega) ?_; intro w2 g3 ho g4; replace hr0 := (ho _ (by omega)).trans hr0; replace hr1 := (ho _ (by omega)).trans hr1; replace hA := (ho _ (by omega)).trans hA; clear hbel hB; have hB := g3; have hbel := g4; clear g3 g4 ho)
  refine QN.intro ?_
  go_wp2_with first
    | (with_reducible refine wpList_loadW rfl _ _ rfl _ rfl hA agg24r size24r ?_)
    | (with_reducible refine wpList_loadW rfl _ _ rfl _ rfl hB agg24r size24r ?_)
    | (go_at_call 27; (with_reducible refine (eqRack_same _ _).mono ?_); (rintro e w3 ⟨rfl, hb1⟩; replace hbel := hbel.trans (hb1.mono hbel.size); clear hb1))
  go_ret
  exact ⟨rfl, hbel⟩
end Go.Proofs.Ytljajgaicdffkaa
