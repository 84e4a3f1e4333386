/- OrderTo: the program's and the reference's, and the law. -/
import Derived.Test.YtljajgaicdffkaaFlo
import Derived.Test.YtljajgaicdffkaaForm
import Derived.Test.YtljajgaicdffkaaGrP
import Derived.Test.YtljajgaicdffkaaEqq
import Derived.Test.YtljajgaicdffkaaA6
import Derived.Test.YtljajgaicdffkaaRen
namespace Go.Proofs.Ytljajgaicdffkaa
set_option linter.unusedSimpArgs false
set_option linter.unusedVariables false
set_option maxRecDepth 20000
open Go.RowKit
def tc (f : Nat → Int) : Nat → Int := fun k => cod (tub f k)
theorem zeroB6 : ((Try.prog.info? 52).bind (·.zero)).map (·.cells) = some (brr 6 fun _ => false) := by kernel_rfl
theorem zbuildB6 : Try.prog.built 52 [] = some (brr 6 fun _ => false) := by kernel_rfl
theorem sizeB6 : (Try.prog.info? 52).map (·.size) = some 6 := by kernel_rfl
theorem sizeBl : (Try.prog.info? 4).map (·.size) = some 1 := by kernel_rfl
theorem aggBl : aggB Try.prog 4 = false := by kernel_rfl
theorem undBl : (Try.prog.underlying 4).isSome = true := by kernel_rfl
noncomputable def otR (a b : Nat → Int) : (Nat → Int) × Bool := if rackB a = true ∧ rackB b = true ∧ eqv 24 (formF a) (formF b) = true then ((grS (tc a) (tc b) 6).1, true) else (fun _ => 0, false)
theorem tq_eq {a b : Nat → Int} (ha : cellB a) (hb : cellB b) {k n : Nat} (hk : k < 6) (hn : n < 6) : eqv 4 (fun j => a (k * 4 + j)) (fun j => b (n * 4 + j)) = (tc a k == tc b n) := by
  rw [Bool.eq_iff_iff, eqv_iff, beq_iff_eq]
  constructor
  · intro h
    unfold tc cod tub
    rw [h 0 (by omega), h 1 (by omega), h 2 (by omega), h 3 (by omega)]
  · intro h
    exact cod_inj (tub_cell ha hk) (tub_cell hb hn) h
theorem l2Rack_at {f : Nat → Int} {x : Bool} (h : rackB f = x) (w : World) : Calls Try.prog 44 #[.agg (arr 24 f)] w fun e w' => e = .returned (.bool x) ∧ Below w.heap.size w w' := h ▸ l2Rack_any f w
theorem IsRack_at {f : Nat → Int} {x : Bool} (h : rackB f = x) (w : World) : Calls Try.prog 47 #[.agg (arr 24 f)] w fun e w' => e = .returned (.bool x) ∧ Below w.heap.size w w' := h ▸ IsRack_any f w
theorem ot_kf {a b : Nat → Int} (ha : rackB a = true) (hb : rackB b = true) (he : eqv 24 (formF a) (formF b) = true) : ∀ n, n < 6 → kf (tc a) (tc b) (grS (tc a) (tc b) n).2 n < 6 ∧ (grS (tc a) (tc b) n).2 (kf (tc a) (tc b) (grS (tc a) (tc b) n).2 n) = false ∧ tc a (kf (tc a) (tc b) (grS (tc a) (tc b) n).2 n) = tc b n ∧ ∀ k, k < kf (tc a) (tc b) (grS (tc a) (tc b) n).2 n → (grS (tc a) (tc b) n).2 k = true ∨ ((grS (tc a) (tc b) n).2 k = false ∧ tc a k ≠ tc b n) :=
  fun n hn => gr_kf (gr_perm (perm_form (cellB_of_rack ha) (cellB_of_rack hb) (eqv_arr.1 he))) hn
set_option maxHeartbeats 1000000 in
theorem implOt_any (a b : Nat → Int) (w : World) : Calls Try.prog 31 #[.agg (arr 24 a), .agg (arr 24 b)] w fun e w' => e = .returned (.tuple #[.agg (arr 6 (otR a b).1), .bool (otR a b).2]) ∧ Below w.heap.size w w' := by
  have h1 : (((w.alloc (.cells (arr 24 a) 33)).alloc (.cells (arr 24 b) 33)).alloc (.cells (arr 6 fun _ => 0) 22)).heap[w.heap.size]? = some (.cells (arr 24 a) 33 (0, 0)) := by rw [heap_old (by simp <;> omega), heap_old (by simp), heap_new rfl]
  have h2 : (((w.alloc (.cells (arr 24 a) 33)).alloc (.cells (arr 24 b) 33)).alloc (.cells (arr 6 fun _ => 0) 22)).heap[w.heap.size + 1]? = some (.cells (arr 24 b) 33 (0, 0)) := by rw [heap_old (by simp), heap_new (by simp)]
  have h3 : (((w.alloc (.cells (arr 24 a) 33)).alloc (.cells (arr 24 b) 33)).alloc (.cells (arr 6 fun _ => 0) 22)).heap[w.heap.size + 1 + 1]? = some (.cells (arr 6 fun _ => 0) 22 (0, 0)) := heap_new (by simp)
  have hbel : Below w.heap.size w (((w.alloc (.cells (arr 24 a) 33)).alloc (.cells (arr 24 b) 33)).alloc (.cells (arr 6 fun _ => 0) 22)) := (((Below.refl _ _).alloc (by simp) _).alloc (by simp) _).alloc (by simp <;> omega) _
  cases ha : rackB a with
  | false =>
    rw [show otR a b = (fun _ => 0, false) from if_neg (by simp [ha])]
    have HA : Hid _ := ha
    have HB : Hid (1 = 1) := rfl
    have HE : Hid (1 = 1) := rfl
    clear ha
    go_enter Try.func31, Try.ntmps31
    go_wp2_with first
      | (with_reducible refine wpList_allocA rfl 22 rfl 6 zero6 ?_; (try simp only [size_al]))
    refine wp_region_held 15 (Cls w _) (by kernel_rfl) (by kernel_rfl) (Cls.three h1 h2 h3 hbel) ?_; simp only [List.take_succ_cons, List.take_zero, List.drop_succ_cons, List.drop_zero]
    repeat (first
      | (with_reducible refine wpQuiet_loadW rfl _ _ rfl _ rfl (fun _ h => h.r1) agg24r size24r ?_)
      | (with_reducible refine wpQuiet_loadW rfl _ _ rfl _ rfl (fun _ h => h.r2) agg24r size24r ?_)
      | ((with_reducible refine wpQuiet_callE rfl 47 _ _ rfl (.bool false) (#[.agg (arr 24 a)]) rfl ?_ ?_ ?_); (exact enters_of Try.func47 (by kernel_rfl) rfl); (intro w' h'; with_reducible exact (IsRack_at HA.out w').mono fun _ _ ⟨he, hb⟩ => ⟨he, h'.keep hb⟩))
      | ((with_reducible refine wpQuiet_callE rfl 47 _ _ rfl (.bool false) (#[.agg (arr 24 b)]) rfl ?_ ?_ ?_); (exact enters_of Try.func47 (by kernel_rfl) rfl); (intro w' h'; with_reducible exact (IsRack_at HB.out w').mono fun _ _ ⟨he, hb⟩ => ⟨he, h'.keep hb⟩))
      | ((with_reducible refine wpQuiet_callE rfl 53 _ _ rfl (.agg (arr 24 (formF a))) (#[.agg (arr 24 a)]) rfl ?_ ?_ ?_); (exact enters_of Try.func53 (by kernel_rfl) rfl); (intro w' h'; with_reducible exact (formOf_any a HA.out w').mono fun _ _ ⟨he, hb⟩ => ⟨he, h'.keep hb⟩))
      | ((with_reducible refine wpQuiet_callE rfl 53 _ _ rfl (.agg (arr 24 (formF b))) (#[.agg (arr 24 b)]) rfl ?_ ?_ ?_); (exact enters_of Try.func53 (by kernel_rfl) rfl); (intro w' h'; with_reducible exact (formOf_any b HB.out w').mono fun _ _ ⟨he, hb⟩ => ⟨he, h'.keep hb⟩))
      | ((with_reducible refine wpQuiet_neqA eqRk (by decide) gdRk rfl _ _ _ rfl rfl rfl ?_); rw [HE.out])
      | ((with_reducible refine wpQuiet_step (fun K hK => ?_)); go_simp; (first | (refine ⟨_, fun _ _ => rfl, hK _ ?_⟩) | (refine ⟨_, fun _ _ => ⟨rfl, rfl⟩, hK _ ?_⟩) | (refine hK _ ?_)); clear hK K))
    refine wpQuiet_nil ?_
    intro wt hCt
    replace h1 := hCt.r1
    replace h2 := hCt.r2
    replace h3 := hCt.r3
    replace hbel := hCt.2
    clear hCt
    go_wp2_with first
      | (with_reducible refine wpList_build0 rfl 22 rfl 6 zbuild6 ?_)
      | (with_reducible refine wpList_storeW rfl _ _ _ rfl _ rfl rfl h3 size6 ?_)
    exact bodyPost_ret_by (results_ct _ _ _ _ _ _ _ rfl rfl (setRow_heap _ _ _ _ _ _ h3) agg6 size6) rfl ⟨rfl, below_setRow2 hbel (by omega) _⟩
  | true =>
    cases hb : rackB b with
    | false =>
      rw [show otR a b = (fun _ => 0, false) from if_neg (by simp [hb])]
      have HA : Hid _ := ha
      have HB : Hid _ := hb
      have HE : Hid (1 = 1) := rfl
      clear ha hb
      go_enter Try.func31, Try.ntmps31
      go_wp2_with first
        | (with_reducible refine wpList_allocA rfl 22 rfl 6 zero6 ?_; (try simp only [size_al]))
      refine wp_region_held 15 (Cls w _) (by kernel_rfl) (by kernel_rfl) (Cls.three h1 h2 h3 hbel) ?_; simp only [List.take_succ_cons, List.take_zero, List.drop_succ_cons, List.drop_zero]
      repeat (first
        | (with_reducible refine wpQuiet_loadW rfl _ _ rfl _ rfl (fun _ h => h.r1) agg24r size24r ?_)
        | (with_reducible refine wpQuiet_loadW rfl _ _ rfl _ rfl (fun _ h => h.r2) agg24r size24r ?_)
        | ((with_reducible refine wpQuiet_callE rfl 47 _ _ rfl (.bool true) (#[.agg (arr 24 a)]) rfl ?_ ?_ ?_); (exact enters_of Try.func47 (by kernel_rfl) rfl); (intro w' h'; with_reducible exact (IsRack_at HA.out w').mono fun _ _ ⟨he, hb⟩ => ⟨he, h'.keep hb⟩))
        | ((with_reducible refine wpQuiet_callE rfl 47 _ _ rfl (.bool false) (#[.agg (arr 24 b)]) rfl ?_ ?_ ?_); (exact enters_of Try.func47 (by kernel_rfl) rfl); (intro w' h'; with_reducible exact (IsRack_at HB.out w').mono fun _ _ ⟨he, hb⟩ => ⟨he, h'.keep hb⟩))
        | ((with_reducible refine wpQuiet_callE rfl 53 _ _ rfl (.agg (arr 24 (formF a))) (#[.agg (arr 24 a)]) rfl ?_ ?_ ?_); (exact enters_of Try.func53 (by kernel_rfl) rfl); (intro w' h'; with_reducible exact (formOf_any a HA.out w').mono fun _ _ ⟨he, hb⟩ => ⟨he, h'.keep hb⟩))
        | ((with_reducible refine wpQuiet_callE rfl 53 _ _ rfl (.agg (arr 24 (formF b))) (#[.agg (arr 24 b)]) rfl ?_ ?_ ?_); (exact enters_of Try.func53 (by kernel_rfl) rfl); (intro w' h'; with_reducible exact (formOf_any b HB.out w').mono fun _ _ ⟨he, hb⟩ => ⟨he, h'.keep hb⟩))
        | ((with_reducible refine wpQuiet_neqA eqRk (by decide) gdRk rfl _ _ _ rfl rfl rfl ?_); rw [HE.out])
        | ((with_reducible refine wpQuiet_step (fun K hK => ?_)); go_simp; (first | (refine ⟨_, fun _ _ => rfl, hK _ ?_⟩) | (refine ⟨_, fun _ _ => ⟨rfl, rfl⟩, hK _ ?_⟩) | (refine hK _ ?_)); clear hK K))
      refine wpQuiet_nil ?_
      intro wt hCt
      replace h1 := hCt.r1
      replace h2 := hCt.r2
      replace h3 := hCt.r3
      replace hbel := hCt.2
      clear hCt
      go_wp2_with first
        | (with_reducible refine wpList_build0 rfl 22 rfl 6 zbuild6 ?_)
        | (with_reducible refine wpList_storeW rfl _ _ _ rfl _ rfl rfl h3 size6 ?_)
      exact bodyPost_ret_by (results_ct _ _ _ _ _ _ _ rfl rfl (setRow_heap _ _ _ _ _ _ h3) agg6 size6) rfl ⟨rfl, below_setRow2 hbel (by omega) _⟩
    | true =>
      cases he : eqv 24 (formF a) (formF b) with
      | false =>
        rw [show otR a b = (fun _ => 0, false) from if_neg (by simp [he])]
        have HA : Hid _ := ha
        have HB : Hid _ := hb
        have HE : Hid _ := he
        clear ha hb he
        go_enter Try.func31, Try.ntmps31
        go_wp2_with first
          | (with_reducible refine wpList_allocA rfl 22 rfl 6 zero6 ?_; (try simp only [size_al]))
        refine wp_region_held 15 (Cls w _) (by kernel_rfl) (by kernel_rfl) (Cls.three h1 h2 h3 hbel) ?_; simp only [List.take_succ_cons, List.take_zero, List.drop_succ_cons, List.drop_zero]
        repeat (first
          | (with_reducible refine wpQuiet_loadW rfl _ _ rfl _ rfl (fun _ h => h.r1) agg24r size24r ?_)
          | (with_reducible refine wpQuiet_loadW rfl _ _ rfl _ rfl (fun _ h => h.r2) agg24r size24r ?_)
          | ((with_reducible refine wpQuiet_callE rfl 47 _ _ rfl (.bool true) (#[.agg (arr 24 a)]) rfl ?_ ?_ ?_); (exact enters_of Try.func47 (by kernel_rfl) rfl); (intro w' h'; with_reducible exact (IsRack_at HA.out w').mono fun _ _ ⟨he, hb⟩ => ⟨he, h'.keep hb⟩))
          | ((with_reducible refine wpQuiet_callE rfl 47 _ _ rfl (.bool true) (#[.agg (arr 24 b)]) rfl ?_ ?_ ?_); (exact enters_of Try.func47 (by kernel_rfl) rfl); (intro w' h'; with_reducible exact (IsRack_at HB.out w').mono fun _ _ ⟨he, hb⟩ => ⟨he, h'.keep hb⟩))
          | ((with_reducible refine wpQuiet_callE rfl 53 _ _ rfl (.agg (arr 24 (formF a))) (#[.agg (arr 24 a)]) rfl ?_ ?_ ?_); (exact enters_of Try.func53 (by kernel_rfl) rfl); (intro w' h'; with_reducible exact (formOf_any a HA.out w').mono fun _ _ ⟨he, hb⟩ => ⟨he, h'.keep hb⟩))
          | ((with_reducible refine wpQuiet_callE rfl 53 _ _ rfl (.agg (arr 24 (formF b))) (#[.agg (arr 24 b)]) rfl ?_ ?_ ?_); (exact enters_of Try.func53 (by kernel_rfl) rfl); (intro w' h'; with_reducible exact (formOf_any b HB.out w').mono fun _ _ ⟨he, hb⟩ => ⟨he, h'.keep hb⟩))
          | ((with_reducible refine wpQuiet_neqA eqRk (by decide) gdRk rfl _ _ _ rfl rfl rfl ?_); rw [HE.out])
          | ((with_reducible refine wpQuiet_step (fun K hK => ?_)); go_simp; (first | (refine ⟨_, fun _ _ => rfl, hK _ ?_⟩) | (refine ⟨_, fun _ _ => ⟨rfl, rfl⟩, hK _ ?_⟩) | (refine hK _ ?_)); clear hK K))
        refine wpQuiet_nil ?_
        intro wt hCt
        replace h1 := hCt.r1
        replace h2 := hCt.r2
        replace h3 := hCt.r3
        replace hbel := hCt.2
        clear hCt
        go_wp2_with first
          | (with_reducible refine wpList_build0 rfl 22 rfl 6 zbuild6 ?_)
          | (with_reducible refine wpList_storeW rfl _ _ _ rfl _ rfl rfl h3 size6 ?_)
        exact bodyPost_ret_by (results_ct _ _ _ _ _ _ _ rfl rfl (setRow_heap _ _ _ _ _ _ h3) agg6 size6) rfl ⟨rfl, below_setRow2 hbel (by omega) _⟩
      | true =>
        rw [show otR a b = ((grS (tc a) (tc b) 6).1, true) from if_pos ⟨ha, hb, he⟩]
        have HK : Hid _ := ot_kf ha hb he
        have HT : Hid _ := fun (k n : Nat) => tq_eq (k := k) (n := n) (cellB_of_rack ha) (cellB_of_rack hb)
        have HA : Hid _ := ha
        have HB : Hid _ := hb
        have HE : Hid _ := he
        clear ha hb he
        go_enter Try.func31, Try.ntmps31
        go_wp2_with first
          | (with_reducible refine wpList_allocA rfl 22 rfl 6 zero6 ?_; (try simp only [size_al]))
        refine wp_region_held 15 (Cls w _) (by kernel_rfl) (by kernel_rfl) (Cls.three h1 h2 h3 hbel) ?_; simp only [List.take_succ_cons, List.take_zero, List.drop_succ_cons, List.drop_zero]
        repeat (first
          | (with_reducible refine wpQuiet_loadW rfl _ _ rfl _ rfl (fun _ h => h.r1) agg24r size24r ?_)
          | (with_reducible refine wpQuiet_loadW rfl _ _ rfl _ rfl (fun _ h => h.r2) agg24r size24r ?_)
          | ((with_reducible refine wpQuiet_callE rfl 47 _ _ rfl (.bool true) (#[.agg (arr 24 a)]) rfl ?_ ?_ ?_); (exact enters_of Try.func47 (by kernel_rfl) rfl); (intro w' h'; with_reducible exact (IsRack_at HA.out w').mono fun _ _ ⟨he, hb⟩ => ⟨he, h'.keep hb⟩))
          | ((with_reducible refine wpQuiet_callE rfl 47 _ _ rfl (.bool true) (#[.agg (arr 24 b)]) rfl ?_ ?_ ?_); (exact enters_of Try.func47 (by kernel_rfl) rfl); (intro w' h'; with_reducible exact (IsRack_at HB.out w').mono fun _ _ ⟨he, hb⟩ => ⟨he, h'.keep hb⟩))
          | ((with_reducible refine wpQuiet_callE rfl 53 _ _ rfl (.agg (arr 24 (formF a))) (#[.agg (arr 24 a)]) rfl ?_ ?_ ?_); (exact enters_of Try.func53 (by kernel_rfl) rfl); (intro w' h'; with_reducible exact (formOf_any a HA.out w').mono fun _ _ ⟨he, hb⟩ => ⟨he, h'.keep hb⟩))
          | ((with_reducible refine wpQuiet_callE rfl 53 _ _ rfl (.agg (arr 24 (formF b))) (#[.agg (arr 24 b)]) rfl ?_ ?_ ?_); (exact enters_of Try.func53 (by kernel_rfl) rfl); (intro w' h'; with_reducible exact (formOf_any b HB.out w').mono fun _ _ ⟨he, hb⟩ => ⟨he, h'.keep hb⟩))
          | ((with_reducible refine wpQuiet_neqA eqRk (by decide) gdRk rfl _ _ _ rfl rfl rfl ?_); rw [HE.out])
          | ((with_reducible refine wpQuiet_step (fun K hK => ?_)); go_simp; (first | (refine ⟨_, fun _ _ => rfl, hK _ ?_⟩) | (refine ⟨_, fun _ _ => ⟨rfl, rfl⟩, hK _ ?_⟩) | (refine hK _ ?_)); clear hK K))
        refine wpQuiet_nil ?_
        intro wt hCt
        replace h1 := hCt.r1
        replace h2 := hCt.r2
        replace h3 := hCt.r3
        replace hbel := hCt.2
        clear hCt
        have tok_h6 : True := trivial
        go_wp2_with first
          | (have _t := tok_h6; with_reducible refine wpList_allocN rfl 22 rfl 6 zero6 ?_; intro Bh6 w1 hBh6 h6 hb1; have hWh6 := Nat.le_trans hbel.size hBh6; have hLh1h6 := Nat.lt_of_lt_of_le (row_lt h1) hBh6; have hLh2h6 := Nat.lt_of_lt_of_le (row_lt h2) hBh6; have hLh3h6 := Nat.lt_of_lt_of_le (row_lt h3) hBh6; replace hbel := hbel.trans (hb1.mono hbel.size); replace h1 := row_keep hb1 h1; replace h2 := row_keep hb1 h2; replace h3 := row_keep hb1 h3; clear hb1 _t tok_h6)
          | (with_reducible refine wpList_allocB rfl 52 rfl 6 zeroB6 ?_; intro B7 w1 hB7 h7 hb1; have hL67 := row_lt h6; replace hbel := hbel.trans (hb1.mono hbel.size); replace h1 := row_keep hb1 h1; replace h2 := row_keep hb1 h2; replace h3 := row_keep hb1 h3; replace h6 := row_keep hb1 h6; clear hb1)
          | (with_reducible refine wpList_loadW rfl _ _ rfl _ rfl h2 aggO2 sizeO2 ?_)
        go_loopw [29] (fun i wr => ∃ n : Nat, n ≤ 6 ∧ i = .int .i64 n ∧ wr.heap[w.heap.size]? = some (.cells (arr 24 a) 33 (0, 0)) ∧ wr.heap[w.heap.size + 1]? = some (.cells (arr 24 b) 33 (0, 0)) ∧ wr.heap[w.heap.size + 1 + 1]? = some (.cells (arr 6 fun _ => 0) 22 (0, 0)) ∧ wr.heap[Bh6]? = some (.cells (arr 6 (grS (tc a) (tc b) n).1) 22 (0, 0)) ∧ wr.heap[B7]? = some (.cells (brr 6 (grS (tc a) (tc b) n).2) 52 (0, 0)) ∧ Below w.heap.size w wr) (fun i _ => 6 - (intOf i).toNat)
        case atStart => exact ⟨0, by omega, rfl, h1, h2, h3, h6, h7, hbel⟩
        case round =>
          clear h1 h2 h3 h6 h7 hbel
          obtain ⟨n, hn, rfl, h1, h2, h3, h6, h7, hbel⟩ := hrel
          by_cases hlt : n < 6
          · have hlt' : (n : Int) < 6 := by omega
            obtain ⟨hk1, hk2, hk3, hk4⟩ := HK.out n hlt
            have HS : Hid (grS (tc a) (tc b) (n + 1) = (upd (grS (tc a) (tc b) n).1 n (kf (tc a) (tc b) (grS (tc a) (tc b) n).2 n), bup (grS (tc a) (tc b) n).2 (kf (tc a) (tc b) (grS (tc a) (tc b) n).2 n) true)) := rfl
            generalize kf (tc a) (tc b) (grS (tc a) (tc b) n).2 n = K at hk1 hk2 hk3 hk4 HS
            have HK2 : Hid _ := hk2
            have HK3 : Hid _ := hk3
            have HK4 : Hid _ := hk4
            clear hk2 hk3 hk4
            obtain ⟨wo, hwo⟩ : ∃ wo : World, wo = wr := ⟨_, rfl⟩
            rw [← hwo] at h1 h2 h3 h6 h7 hbel ⊢
            clear hwo
            have hl7 := row_lt h7
            have hl6 := row_lt h6
            have hl3 := row_lt h3
            have tok_h9 : True := trivial
            go_wp2_with first
              | (with_reducible refine wpList_indexA rfl _ _ _ rfl rfl rfl 6 _ Try.underlying30 4 agg4 size4 (by omega) rfl ?_)
              | (have _t := tok_h9; with_reducible refine wpList_allocN rfl 29 rfl 4 zero4 ?_; intro Bh9 w1 hBh9 h9 hb1; have hWh9 := Nat.le_trans hbel.size hBh9; have hLh1h9 := Nat.lt_of_lt_of_le (row_lt h1) hBh9; have hLh2h9 := Nat.lt_of_lt_of_le (row_lt h2) hBh9; have hLh3h9 := Nat.lt_of_lt_of_le (row_lt h3) hBh9; have hLh6h9 := Nat.lt_of_lt_of_le (row_lt h6) hBh9; have hLh7h9 := Nat.lt_of_lt_of_le (row_lt h7) hBh9; replace hbel := hbel.trans (hb1.mono hbel.size); replace h1 := row_keep hb1 h1; replace h2 := row_keep hb1 h2; replace h3 := row_keep hb1 h3; replace h6 := row_keep hb1 h6; replace h7 := row_keep hb1 h7; clear hb1 _t tok_h9)
              | (with_reducible refine wpList_storeWN rfl _ _ _ rfl _ rfl rfl h9 size4 hbel hWh9 ?_; intro w1 g3 ho g4; replace h1 := (ho _ (by omega)).trans h1; replace h2 := (ho _ (by omega)).trans h2; replace h3 := (ho _ (by omega)).trans h3; replace h6 := (ho _ (by omega)).trans h6; replace h7 := (ho _ (by omega)).trans h7; clear h9 hbel; have h9 := g3; have hbel := g4; clear g3 g4 ho)
            go_loopw [33] (fun i wr => ∃ k : Nat, k ≤ K ∧ i = .int .i64 k ∧ wr.heap[Bh9]? = some (.cells (arr 4 fun j => b (n * 4 + j)) 29 (0, 0)) ∧ wr.heap[w.heap.size]? = some (.cells (arr 24 a) 33 (0, 0)) ∧ wr.heap[w.heap.size + 1]? = some (.cells (arr 24 b) 33 (0, 0)) ∧ wr.heap[w.heap.size + 1 + 1]? = some (.cells (arr 6 fun _ => 0) 22 (0, 0)) ∧ wr.heap[Bh6]? = some (.cells (arr 6 (grS (tc a) (tc b) n).1) 22 (0, 0)) ∧ wr.heap[B7]? = some (.cells (brr 6 (grS (tc a) (tc b) n).2) 52 (0, 0)) ∧ Below w.heap.size w wr) (fun i _ => 6 - (intOf i).toNat)
            case atStart => exact ⟨0, by omega, rfl, h9, h1, h2, h3, h6, h7, hbel⟩
            case round =>
              clear h1 h2 h3 h6 h7 h9 hbel
              obtain ⟨k, hk, rfl, h9, h1, h2, h3, h6, h7, hbel⟩ := hrel
              have hk6 : (k : Int) < 6 := by omega
              by_cases hkK : k < K
              · rcases HK4.out k hkK with hu | ⟨hu, hq⟩
                · have HU : Hid _ := hu
                  have HQ : Hid (1 = 1) := rfl
                  clear hu
                  go_wp2_with fail
                  refine wp_region_held 12 (Cls wr []) (by kernel_rfl) (by kernel_rfl) (Cls.zero (Below.refl _ _)) ?_; simp only [List.take_succ_cons, List.take_zero, List.drop_succ_cons, List.drop_zero]
                  repeat (first
                    | ((with_reducible refine wpQuiet_loadB rfl _ _ rfl _ _ rfl (fun _ h => h.kp h7) aggBl undBl (by omega) ?_); rw [HU.out])
                    | (with_reducible refine wpQuiet_loadW rfl _ _ rfl _ rfl (fun _ h => h.kp h9) agg4 size4 ?_)
                    | (with_reducible refine wpQuiet_loadA rfl _ _ rfl _ _ rfl (fun _ h => h.kp h1) 4 agg4 size4 (by omega) ?_)
                    | (with_reducible refine wpQuiet_loadA rfl _ _ rfl _ _ rfl (fun _ h => h.kp h2) 4 agg4 size4 (by omega) ?_)
                    | ((with_reducible refine wpQuiet_eqlA eqT (by decide) gdT rfl _ _ _ rfl rfl rfl ?_); rw [HQ.out])
                    | ((with_reducible refine wpQuiet_step (fun K hK => ?_)); go_simp; (first | (refine ⟨_, fun _ _ => rfl, hK _ ?_⟩) | (refine ⟨_, fun _ _ => ⟨rfl, rfl⟩, hK _ ?_⟩) | (refine hK _ ?_)); clear hK K))
                  refine wpQuiet_nil ?_; intro wt hCt; replace hCt := hCt.2; replace hbel := hbel.trans (hCt.mono hbel.size); replace h1 := row_keep hCt h1; replace h2 := row_keep hCt h2; replace h3 := row_keep hCt h3; replace h6 := row_keep hCt h6; replace h7 := row_keep hCt h7; replace h9 := row_keep hCt h9; clear hCt
                  go_wp2_with fail
                  go_roundw
                  case rel => exact ⟨k + 1, by omega, by go_num, h9, h1, h2, h3, h6, h7, hbel⟩
                  case measure => simp [intOf]; omega
                · have HU : Hid _ := hu
                  have HQ : Hid (eqv 4 (fun j => a (k * 4 + j)) (fun j => b (n * 4 + j)) = false) := by show _ = _; rw [HT.out k n (by omega) hlt]; simpa using hq
                  clear hu hq
                  go_wp2_with fail
                  refine wp_region_held 12 (Cls wr []) (by kernel_rfl) (by kernel_rfl) (Cls.zero (Below.refl _ _)) ?_; simp only [List.take_succ_cons, List.take_zero, List.drop_succ_cons, List.drop_zero]
                  repeat (first
                    | ((with_reducible refine wpQuiet_loadB rfl _ _ rfl _ _ rfl (fun _ h => h.kp h7) aggBl undBl (by omega) ?_); rw [HU.out])
                    | (with_reducible refine wpQuiet_loadW rfl _ _ rfl _ rfl (fun _ h => h.kp h9) agg4 size4 ?_)
                    | (with_reducible refine wpQuiet_loadA rfl _ _ rfl _ _ rfl (fun _ h => h.kp h1) 4 agg4 size4 (by omega) ?_)
                    | (with_reducible refine wpQuiet_loadA rfl _ _ rfl _ _ rfl (fun _ h => h.kp h2) 4 agg4 size4 (by omega) ?_)
                    | ((with_reducible refine wpQuiet_eqlA eqT (by decide) gdT rfl _ _ _ rfl rfl rfl ?_); rw [HQ.out])
                    | ((with_reducible refine wpQuiet_step (fun K hK => ?_)); go_simp; (first | (refine ⟨_, fun _ _ => rfl, hK _ ?_⟩) | (refine ⟨_, fun _ _ => ⟨rfl, rfl⟩, hK _ ?_⟩) | (refine hK _ ?_)); clear hK K))
                  refine wpQuiet_nil ?_; intro wt hCt; replace hCt := hCt.2; replace hbel := hbel.trans (hCt.mono hbel.size); replace h1 := row_keep hCt h1; replace h2 := row_keep hCt h2; replace h3 := row_keep hCt h3; replace h6 := row_keep hCt h6; replace h7 := row_keep hCt h7; replace h9 := row_keep hCt h9; clear hCt
                  go_wp2_with fail
                  go_roundw
                  case rel => exact ⟨k + 1, by omega, by go_num, h9, h1, h2, h3, h6, h7, hbel⟩
                  case measure => simp [intOf]; omega
              · obtain rfl : k = K := by omega
                have HU : Hid _ := HK2.out
                have HQ : Hid (eqv 4 (fun j => a (k * 4 + j)) (fun j => b (n * 4 + j)) = true) := by show _ = _; rw [HT.out k n (by omega) hlt]; simpa using HK3.out
                go_wp2_with fail
                refine wp_region_held 12 (Cls wr []) (by kernel_rfl) (by kernel_rfl) (Cls.zero (Below.refl _ _)) ?_; simp only [List.take_succ_cons, List.take_zero, List.drop_succ_cons, List.drop_zero]
                repeat (first
                  | ((with_reducible refine wpQuiet_loadB rfl _ _ rfl _ _ rfl (fun _ h => h.kp h7) aggBl undBl (by omega) ?_); rw [HU.out])
                  | (with_reducible refine wpQuiet_loadW rfl _ _ rfl _ rfl (fun _ h => h.kp h9) agg4 size4 ?_)
                  | (with_reducible refine wpQuiet_loadA rfl _ _ rfl _ _ rfl (fun _ h => h.kp h1) 4 agg4 size4 (by omega) ?_)
                  | (with_reducible refine wpQuiet_loadA rfl _ _ rfl _ _ rfl (fun _ h => h.kp h2) 4 agg4 size4 (by omega) ?_)
                  | ((with_reducible refine wpQuiet_eqlA eqT (by decide) gdT rfl _ _ _ rfl rfl rfl ?_); rw [HQ.out])
                  | ((with_reducible refine wpQuiet_step (fun K hK => ?_)); go_simp; (first | (refine ⟨_, fun _ _ => rfl, hK _ ?_⟩) | (refine ⟨_, fun _ _ => ⟨rfl, rfl⟩, hK _ ?_⟩) | (refine hK _ ?_)); clear hK K))
                refine wpQuiet_nil ?_; intro wt hCt; replace hCt := hCt.2; replace hbel := hbel.trans (hCt.mono hbel.size); replace h1 := row_keep hCt h1; replace h2 := row_keep hCt h2; replace h3 := row_keep hCt h3; replace h6 := row_keep hCt h6; replace h7 := row_keep hCt h7; replace h9 := row_keep hCt h9; clear hCt
                clear h9
                go_wp2_with first
                  | (with_reducible refine wpList_storePI rfl 3 _ _ rfl _ _ rfl rfl h6 size1 (by omega) hbel (by omega) ?_; intro w1 g3 ho g4; replace h1 := (ho _ (by omega)).trans h1; replace h2 := (ho _ (by omega)).trans h2; replace h3 := (ho _ (by omega)).trans h3; replace h7 := (ho _ (by omega)).trans h7; clear h6 hbel; have h6 := g3; have hbel := g4; clear g3 g4 ho)
                  | (with_reducible refine wpList_storeBN rfl _ _ _ rfl _ _ rfl rfl h7 sizeBl (by omega) hbel (by omega) ?_; intro w1 g3 ho g4; replace h1 := (ho _ (by omega)).trans h1; replace h2 := (ho _ (by omega)).trans h2; replace h3 := (ho _ (by omega)).trans h3; replace h6 := (ho _ (by omega)).trans h6; clear h7 hbel; have h7 := g3; have hbel := g4; clear g3 g4 ho)
                go_roundw
                case rel => exact ⟨n + 1, by omega, by go_num, h1, h2, h3, by rw [HS.out]; exact h6, by rw [HS.out]; exact h7, hbel⟩
                case measure => simp [intOf]; omega
          · obtain rfl : n = 6 := by omega
            go_wp2_with first
              | (with_reducible refine wpList_loadW rfl _ _ rfl _ rfl h6 agg6 size6 ?_)
              | (with_reducible refine wpList_storeW rfl _ _ _ rfl _ rfl rfl h3 size6 ?_)
            exact bodyPost_ret_by (results_ct _ _ _ _ _ _ _ rfl rfl (setRow_heap _ _ _ _ _ _ h3) agg6 size6) rfl ⟨rfl, below_setRow2 hbel (by omega) _⟩
set_option maxHeartbeats 1000000 in
theorem specOt_any (a b : Nat → Int) (w : World) : Calls Try.prog 30 #[.agg (arr 24 a), .agg (arr 24 b)] w fun e w' => e = .returned (.tuple #[.agg (arr 6 (otR a b).1), .bool (otR a b).2]) ∧ Below w.heap.size w w' := by
  have h1 : (((w.alloc (.cells (arr 24 a) 33)).alloc (.cells (arr 24 b) 33)).alloc (.cells (arr 6 fun _ => 0) 22)).heap[w.heap.size]? = some (.cells (arr 24 a) 33 (0, 0)) := by rw [heap_old (by simp <;> omega), heap_old (by simp), heap_new rfl]
  have h2 : (((w.alloc (.cells (arr 24 a) 33)).alloc (.cells (arr 24 b) 33)).alloc (.cells (arr 6 fun _ => 0) 22)).heap[w.heap.size + 1]? = some (.cells (arr 24 b) 33 (0, 0)) := by rw [heap_old (by simp), heap_new (by simp)]
  have h3 : (((w.alloc (.cells (arr 24 a) 33)).alloc (.cells (arr 24 b) 33)).alloc (.cells (arr 6 fun _ => 0) 22)).heap[w.heap.size + 1 + 1]? = some (.cells (arr 6 fun _ => 0) 22 (0, 0)) := heap_new (by simp)
  have hbel : Below w.heap.size w (((w.alloc (.cells (arr 24 a) 33)).alloc (.cells (arr 24 b) 33)).alloc (.cells (arr 6 fun _ => 0) 22)) := (((Below.refl _ _).alloc (by simp) _).alloc (by simp) _).alloc (by simp <;> omega) _
  cases ha : rackB a with
  | false =>
    rw [show otR a b = (fun _ => 0, false) from if_neg (by simp [ha])]
    have HA : Hid _ := ha
    have HB : Hid (1 = 1) := rfl
    have HE : Hid (1 = 1) := rfl
    clear ha
    go_enter Try.func30, Try.ntmps30
    go_wp2_with first
      | (with_reducible refine wpList_allocA rfl 22 rfl 6 zero6 ?_; (try simp only [size_al]))
    refine wp_region_held 15 (Cls w _) (by kernel_rfl) (by kernel_rfl) (Cls.three h1 h2 h3 hbel) ?_; simp only [List.take_succ_cons, List.take_zero, List.drop_succ_cons, List.drop_zero]
    repeat (first
      | (with_reducible refine wpQuiet_loadW rfl _ _ rfl _ rfl (fun _ h => h.r1) agg24r size24r ?_)
      | (with_reducible refine wpQuiet_loadW rfl _ _ rfl _ rfl (fun _ h => h.r2) agg24r size24r ?_)
      | ((with_reducible refine wpQuiet_callE rfl 44 _ _ rfl (.bool false) (#[.agg (arr 24 a)]) rfl ?_ ?_ ?_); (exact enters_of Try.func44 (by kernel_rfl) rfl); (intro w' h'; with_reducible exact (l2Rack_at HA.out w').mono fun _ _ ⟨he, hb⟩ => ⟨he, h'.keep hb⟩))
      | ((with_reducible refine wpQuiet_callE rfl 44 _ _ rfl (.bool false) (#[.agg (arr 24 b)]) rfl ?_ ?_ ?_); (exact enters_of Try.func44 (by kernel_rfl) rfl); (intro w' h'; with_reducible exact (l2Rack_at HB.out w').mono fun _ _ ⟨he, hb⟩ => ⟨he, h'.keep hb⟩))
      | ((with_reducible refine wpQuiet_callE rfl 52 _ _ rfl (.agg (arr 24 (formF a))) (#[.agg (arr 24 a)]) rfl ?_ ?_ ?_); (exact enters_of Try.func52 (by kernel_rfl) rfl); (intro w' h'; with_reducible exact (l3Form_any a HA.out w').mono fun _ _ ⟨he, hb⟩ => ⟨he, h'.keep hb⟩))
      | ((with_reducible refine wpQuiet_callE rfl 52 _ _ rfl (.agg (arr 24 (formF b))) (#[.agg (arr 24 b)]) rfl ?_ ?_ ?_); (exact enters_of Try.func52 (by kernel_rfl) rfl); (intro w' h'; with_reducible exact (l3Form_any b HB.out w').mono fun _ _ ⟨he, hb⟩ => ⟨he, h'.keep hb⟩))
      | ((with_reducible refine wpQuiet_neqA eqRk (by decide) gdRk rfl _ _ _ rfl rfl rfl ?_); rw [HE.out])
      | ((with_reducible refine wpQuiet_step (fun K hK => ?_)); go_simp; (first | (refine ⟨_, fun _ _ => rfl, hK _ ?_⟩) | (refine ⟨_, fun _ _ => ⟨rfl, rfl⟩, hK _ ?_⟩) | (refine hK _ ?_)); clear hK K))
    refine wpQuiet_nil ?_
    intro wt hCt
    replace h1 := hCt.r1
    replace h2 := hCt.r2
    replace h3 := hCt.r3
    replace hbel := hCt.2
    clear hCt
    go_wp2_with first
      | (with_reducible refine wpList_build0 rfl 22 rfl 6 zbuild6 ?_)
      | (with_reducible refine wpList_storeW rfl _ _ _ rfl _ rfl rfl h3 size6 ?_)
    exact bodyPost_ret_by (results_ct _ _ _ _ _ _ _ rfl rfl (setRow_heap _ _ _ _ _ _ h3) agg6 size6) rfl ⟨rfl, below_setRow2 hbel (by omega) _⟩
  | true =>
    cases hb : rackB b with
    | false =>
      rw [show otR a b = (fun _ => 0, false) from if_neg (by simp [hb])]
      have HA : Hid _ := ha
      have HB : Hid _ := hb
      have HE : Hid (1 = 1) := rfl
      clear ha hb
      go_enter Try.func30, Try.ntmps30
      go_wp2_with first
        | (with_reducible refine wpList_allocA rfl 22 rfl 6 zero6 ?_; (try simp only [size_al]))
      refine wp_region_held 15 (Cls w _) (by kernel_rfl) (by kernel_rfl) (Cls.three h1 h2 h3 hbel) ?_; simp only [List.take_succ_cons, List.take_zero, List.drop_succ_cons, List.drop_zero]
      repeat (first
        | (with_reducible refine wpQuiet_loadW rfl _ _ rfl _ rfl (fun _ h => h.r1) agg24r size24r ?_)
        | (with_reducible refine wpQuiet_loadW rfl _ _ rfl _ rfl (fun _ h => h.r2) agg24r size24r ?_)
        | ((with_reducible refine wpQuiet_callE rfl 44 _ _ rfl (.bool true) (#[.agg (arr 24 a)]) rfl ?_ ?_ ?_); (exact enters_of Try.func44 (by kernel_rfl) rfl); (intro w' h'; with_reducible exact (l2Rack_at HA.out w').mono fun _ _ ⟨he, hb⟩ => ⟨he, h'.keep hb⟩))
        | ((with_reducible refine wpQuiet_callE rfl 44 _ _ rfl (.bool false) (#[.agg (arr 24 b)]) rfl ?_ ?_ ?_); (exact enters_of Try.func44 (by kernel_rfl) rfl); (intro w' h'; with_reducible exact (l2Rack_at HB.out w').mono fun _ _ ⟨he, hb⟩ => ⟨he, h'.keep hb⟩))
        | ((with_reducible refine wpQuiet_callE rfl 52 _ _ rfl (.agg (arr 24 (formF a))) (#[.agg (arr 24 a)]) rfl ?_ ?_ ?_); (exact enters_of Try.func52 (by kernel_rfl) rfl); (intro w' h'; with_reducible exact (l3Form_any a HA.out w').mono fun _ _ ⟨he, hb⟩ => ⟨he, h'.keep hb⟩))
        | ((with_reducible refine wpQuiet_callE rfl 52 _ _ rfl (.agg (arr 24 (formF b))) (#[.agg (arr 24 b)]) rfl ?_ ?_ ?_); (exact enters_of Try.func52 (by kernel_rfl) rfl); (intro w' h'; with_reducible exact (l3Form_any b HB.out w').mono fun _ _ ⟨he, hb⟩ => ⟨he, h'.keep hb⟩))
        | ((with_reducible refine wpQuiet_neqA eqRk (by decide) gdRk rfl _ _ _ rfl rfl rfl ?_); rw [HE.out])
        | ((with_reducible refine wpQuiet_step (fun K hK => ?_)); go_simp; (first | (refine ⟨_, fun _ _ => rfl, hK _ ?_⟩) | (refine ⟨_, fun _ _ => ⟨rfl, rfl⟩, hK _ ?_⟩) | (refine hK _ ?_)); clear hK K))
      refine wpQuiet_nil ?_
      intro wt hCt
      replace h1 := hCt.r1
      replace h2 := hCt.r2
      replace h3 := hCt.r3
      replace hbel := hCt.2
      clear hCt
      go_wp2_with first
        | (with_reducible refine wpList_build0 rfl 22 rfl 6 zbuild6 ?_)
        | (with_reducible refine wpList_storeW rfl _ _ _ rfl _ rfl rfl h3 size6 ?_)
      exact bodyPost_ret_by (results_ct _ _ _ _ _ _ _ rfl rfl (setRow_heap _ _ _ _ _ _ h3) agg6 size6) rfl ⟨rfl, below_setRow2 hbel (by omega) _⟩
    | true =>
      cases he : eqv 24 (formF a) (formF b) with
      | false =>
        rw [show otR a b = (fun _ => 0, false) from if_neg (by simp [he])]
        have HA : Hid _ := ha
        have HB : Hid _ := hb
        have HE : Hid _ := he
        clear ha hb he
        go_enter Try.func30, Try.ntmps30
        go_wp2_with first
          | (with_reducible refine wpList_allocA rfl 22 rfl 6 zero6 ?_; (try simp only [size_al]))
        refine wp_region_held 15 (Cls w _) (by kernel_rfl) (by kernel_rfl) (Cls.three h1 h2 h3 hbel) ?_; simp only [List.take_succ_cons, List.take_zero, List.drop_succ_cons, List.drop_zero]
        repeat (first
          | (with_reducible refine wpQuiet_loadW rfl _ _ rfl _ rfl (fun _ h => h.r1) agg24r size24r ?_)
          | (with_reducible refine wpQuiet_loadW rfl _ _ rfl _ rfl (fun _ h => h.r2) agg24r size24r ?_)
          | ((with_reducible refine wpQuiet_callE rfl 44 _ _ rfl (.bool true) (#[.agg (arr 24 a)]) rfl ?_ ?_ ?_); (exact enters_of Try.func44 (by kernel_rfl) rfl); (intro w' h'; with_reducible exact (l2Rack_at HA.out w').mono fun _ _ ⟨he, hb⟩ => ⟨he, h'.keep hb⟩))
          | ((with_reducible refine wpQuiet_callE rfl 44 _ _ rfl (.bool true) (#[.agg (arr 24 b)]) rfl ?_ ?_ ?_); (exact enters_of Try.func44 (by kernel_rfl) rfl); (intro w' h'; with_reducible exact (l2Rack_at HB.out w').mono fun _ _ ⟨he, hb⟩ => ⟨he, h'.keep hb⟩))
          | ((with_reducible refine wpQuiet_callE rfl 52 _ _ rfl (.agg (arr 24 (formF a))) (#[.agg (arr 24 a)]) rfl ?_ ?_ ?_); (exact enters_of Try.func52 (by kernel_rfl) rfl); (intro w' h'; with_reducible exact (l3Form_any a HA.out w').mono fun _ _ ⟨he, hb⟩ => ⟨he, h'.keep hb⟩))
          | ((with_reducible refine wpQuiet_callE rfl 52 _ _ rfl (.agg (arr 24 (formF b))) (#[.agg (arr 24 b)]) rfl ?_ ?_ ?_); (exact enters_of Try.func52 (by kernel_rfl) rfl); (intro w' h'; with_reducible exact (l3Form_any b HB.out w').mono fun _ _ ⟨he, hb⟩ => ⟨he, h'.keep hb⟩))
          | ((with_reducible refine wpQuiet_neqA eqRk (by decide) gdRk rfl _ _ _ rfl rfl rfl ?_); rw [HE.out])
          | ((with_reducible refine wpQuiet_step (fun K hK => ?_)); go_simp; (first | (refine ⟨_, fun _ _ => rfl, hK _ ?_⟩) | (refine ⟨_, fun _ _ => ⟨rfl, rfl⟩, hK _ ?_⟩) | (refine hK _ ?_)); clear hK K))
        refine wpQuiet_nil ?_
        intro wt hCt
        replace h1 := hCt.r1
        replace h2 := hCt.r2
        replace h3 := hCt.r3
        replace hbel := hCt.2
        clear hCt
        go_wp2_with first
          | (with_reducible refine wpList_build0 rfl 22 rfl 6 zbuild6 ?_)
          | (with_reducible refine wpList_storeW rfl _ _ _ rfl _ rfl rfl h3 size6 ?_)
        exact bodyPost_ret_by (results_ct _ _ _ _ _ _ _ rfl rfl (setRow_heap _ _ _ _ _ _ h3) agg6 size6) rfl ⟨rfl, below_setRow2 hbel (by omega) _⟩
      | true =>
        rw [show otR a b = ((grS (tc a) (tc b) 6).1, true) from if_pos ⟨ha, hb, he⟩]
        have HK : Hid _ := ot_kf ha hb he
        have HT : Hid _ := fun (k n : Nat) => tq_eq (k := k) (n := n) (cellB_of_rack ha) (cellB_of_rack hb)
        have HA : Hid _ := ha
        have HB : Hid _ := hb
        have HE : Hid _ := he
        clear ha hb he
        go_enter Try.func30, Try.ntmps30
        go_wp2_with first
          | (with_reducible refine wpList_allocA rfl 22 rfl 6 zero6 ?_; (try simp only [size_al]))
        refine wp_region_held 15 (Cls w _) (by kernel_rfl) (by kernel_rfl) (Cls.three h1 h2 h3 hbel) ?_; simp only [List.take_succ_cons, List.take_zero, List.drop_succ_cons, List.drop_zero]
        repeat (first
          | (with_reducible refine wpQuiet_loadW rfl _ _ rfl _ rfl (fun _ h => h.r1) agg24r size24r ?_)
          | (with_reducible refine wpQuiet_loadW rfl _ _ rfl _ rfl (fun _ h => h.r2) agg24r size24r ?_)
          | ((with_reducible refine wpQuiet_callE rfl 44 _ _ rfl (.bool true) (#[.agg (arr 24 a)]) rfl ?_ ?_ ?_); (exact enters_of Try.func44 (by kernel_rfl) rfl); (intro w' h'; with_reducible exact (l2Rack_at HA.out w').mono fun _ _ ⟨he, hb⟩ => ⟨he, h'.keep hb⟩))
          | ((with_reducible refine wpQuiet_callE rfl 44 _ _ rfl (.bool true) (#[.agg (arr 24 b)]) rfl ?_ ?_ ?_); (exact enters_of Try.func44 (by kernel_rfl) rfl); (intro w' h'; with_reducible exact (l2Rack_at HB.out w').mono fun _ _ ⟨he, hb⟩ => ⟨he, h'.keep hb⟩))
          | ((with_reducible refine wpQuiet_callE rfl 52 _ _ rfl (.agg (arr 24 (formF a))) (#[.agg (arr 24 a)]) rfl ?_ ?_ ?_); (exact enters_of Try.func52 (by kernel_rfl) rfl); (intro w' h'; with_reducible exact (l3Form_any a HA.out w').mono fun _ _ ⟨he, hb⟩ => ⟨he, h'.keep hb⟩))
          | ((with_reducible refine wpQuiet_callE rfl 52 _ _ rfl (.agg (arr 24 (formF b))) (#[.agg (arr 24 b)]) rfl ?_ ?_ ?_); (exact enters_of Try.func52 (by kernel_rfl) rfl); (intro w' h'; with_reducible exact (l3Form_any b HB.out w').mono fun _ _ ⟨he, hb⟩ => ⟨he, h'.keep hb⟩))
          | ((with_reducible refine wpQuiet_neqA eqRk (by decide) gdRk rfl _ _ _ rfl rfl rfl ?_); rw [HE.out])
          | ((with_reducible refine wpQuiet_step (fun K hK => ?_)); go_simp; (first | (refine ⟨_, fun _ _ => rfl, hK _ ?_⟩) | (refine ⟨_, fun _ _ => ⟨rfl, rfl⟩, hK _ ?_⟩) | (refine hK _ ?_)); clear hK K))
        refine wpQuiet_nil ?_
        intro wt hCt
        replace h1 := hCt.r1
        replace h2 := hCt.r2
        replace h3 := hCt.r3
        replace hbel := hCt.2
        clear hCt
        have tok_h6 : True := trivial
        go_wp2_with first
          | (with_reducible refine wpList_build0 rfl 22 rfl 6 zbuild6 ?_)
          | (with_reducible refine wpList_build0B rfl 52 rfl 6 zbuildB6 ?_)
          | (have _t := tok_h6; with_reducible refine wpList_allocN rfl 22 rfl 6 zero6 ?_; intro Bh6 w1 hBh6 h6 hb1; have hWh6 := Nat.le_trans hbel.size hBh6; have hLh1h6 := Nat.lt_of_lt_of_le (row_lt h1) hBh6; have hLh2h6 := Nat.lt_of_lt_of_le (row_lt h2) hBh6; have hLh3h6 := Nat.lt_of_lt_of_le (row_lt h3) hBh6; replace hbel := hbel.trans (hb1.mono hbel.size); replace h1 := row_keep hb1 h1; replace h2 := row_keep hb1 h2; replace h3 := row_keep hb1 h3; clear hb1 _t tok_h6)
          | (with_reducible refine wpList_allocB rfl 52 rfl 6 zeroB6 ?_; intro B7 w1 hB7 h7 hb1; have hL67 := row_lt h6; replace hbel := hbel.trans (hb1.mono hbel.size); replace h1 := row_keep hb1 h1; replace h2 := row_keep hb1 h2; replace h3 := row_keep hb1 h3; replace h6 := row_keep hb1 h6; clear hb1)
          | (with_reducible refine wpList_storeWN rfl _ _ _ rfl _ rfl rfl h6 size6 hbel hWh6 ?_; intro w1 g3 ho g4; replace h1 := (ho _ (by omega)).trans h1; replace h2 := (ho _ (by omega)).trans h2; replace h3 := (ho _ (by omega)).trans h3; replace h7 := (ho _ (by omega)).trans h7; clear h6 hbel; have h6 := g3; have hbel := g4; clear g3 g4 ho)
          | (with_reducible refine wpList_storeSB rfl _ _ _ rfl _ rfl rfl h7 sizeB6 ?_)
        go_loopw [8] (fun i wr => ∃ n : Nat, n ≤ 6 ∧ i = .int .i64 n ∧ wr.heap[w.heap.size]? = some (.cells (arr 24 a) 33 (0, 0)) ∧ wr.heap[w.heap.size + 1]? = some (.cells (arr 24 b) 33 (0, 0)) ∧ wr.heap[w.heap.size + 1 + 1]? = some (.cells (arr 6 fun _ => 0) 22 (0, 0)) ∧ wr.heap[Bh6]? = some (.cells (arr 6 (grS (tc a) (tc b) n).1) 22 (0, 0)) ∧ wr.heap[B7]? = some (.cells (brr 6 (grS (tc a) (tc b) n).2) 52 (0, 0)) ∧ Below w.heap.size w wr) (fun i _ => 6 - (intOf i).toNat)
        case atStart => exact ⟨0, by omega, rfl, h1, h2, h3, h6, h7, hbel⟩
        case round =>
          clear h1 h2 h3 h6 h7 hbel
          obtain ⟨n, hn, rfl, h1, h2, h3, h6, h7, hbel⟩ := hrel
          by_cases hlt : n < 6
          · have hlt' : (n : Int) < 6 := by omega
            obtain ⟨hk1, hk2, hk3, hk4⟩ := HK.out n hlt
            have HS : Hid (grS (tc a) (tc b) (n + 1) = (upd (grS (tc a) (tc b) n).1 n (kf (tc a) (tc b) (grS (tc a) (tc b) n).2 n), bup (grS (tc a) (tc b) n).2 (kf (tc a) (tc b) (grS (tc a) (tc b) n).2 n) true)) := rfl
            generalize kf (tc a) (tc b) (grS (tc a) (tc b) n).2 n = K at hk1 hk2 hk3 hk4 HS
            have HK2 : Hid _ := hk2
            have HK3 : Hid _ := hk3
            have HK4 : Hid _ := hk4
            clear hk2 hk3 hk4
            obtain ⟨wo, hwo⟩ : ∃ wo : World, wo = wr := ⟨_, rfl⟩
            rw [← hwo] at h1 h2 h3 h6 h7 hbel ⊢
            clear hwo
            go_wp2_with first
              | fail
            go_loopw [9] (fun i wr => ∃ k : Nat, k ≤ K ∧ i = .int .i64 k ∧ wr.heap[w.heap.size]? = some (.cells (arr 24 a) 33 (0, 0)) ∧ wr.heap[w.heap.size + 1]? = some (.cells (arr 24 b) 33 (0, 0)) ∧ wr.heap[w.heap.size + 1 + 1]? = some (.cells (arr 6 fun _ => 0) 22 (0, 0)) ∧ wr.heap[Bh6]? = some (.cells (arr 6 (grS (tc a) (tc b) n).1) 22 (0, 0)) ∧ wr.heap[B7]? = some (.cells (brr 6 (grS (tc a) (tc b) n).2) 52 (0, 0)) ∧ Below w.heap.size w wr) (fun i _ => 6 - (intOf i).toNat)
            case atStart => exact ⟨0, by omega, rfl, h1, h2, h3, h6, h7, hbel⟩
            case round =>
              clear h1 h2 h3 h6 h7 hbel
              obtain ⟨k, hk, rfl, h1, h2, h3, h6, h7, hbel⟩ := hrel
              have hk6 : (k : Int) < 6 := by omega
              have h9 : True := trivial
              by_cases hkK : k < K
              · rcases HK4.out k hkK with hu | ⟨hu, hq⟩
                · have HU : Hid _ := hu
                  have HQ : Hid (1 = 1) := rfl
                  clear hu
                  go_wp2_with fail
                  refine wp_region_held 14 (Cls wr []) (by kernel_rfl) (by kernel_rfl) (Cls.zero (Below.refl _ _)) ?_; simp only [List.take_succ_cons, List.take_zero, List.drop_succ_cons, List.drop_zero]
                  repeat (first
                    | ((with_reducible refine wpQuiet_loadB rfl _ _ rfl _ _ rfl (fun _ h => h.kp h7) aggBl undBl (by omega) ?_); rw [HU.out])
                    | (with_reducible refine wpQuiet_loadW rfl _ _ rfl _ rfl (fun _ h => h.kp h9) agg4 size4 ?_)
                    | (with_reducible refine wpQuiet_loadA rfl _ _ rfl _ _ rfl (fun _ h => h.kp h1) 4 agg4 size4 (by omega) ?_)
                    | (with_reducible refine wpQuiet_loadA rfl _ _ rfl _ _ rfl (fun _ h => h.kp h2) 4 agg4 size4 (by omega) ?_)
                    | ((with_reducible refine wpQuiet_neqA eqT (by decide) gdT rfl _ _ _ rfl rfl rfl ?_); rw [HQ.out])
                    | ((with_reducible refine wpQuiet_step (fun K hK => ?_)); go_simp; (first | (refine ⟨_, fun _ _ => rfl, hK _ ?_⟩) | (refine ⟨_, fun _ _ => ⟨rfl, rfl⟩, hK _ ?_⟩) | (refine hK _ ?_)); clear hK K))
                  refine wpQuiet_nil ?_; intro wt hCt; replace hCt := hCt.2; replace hbel := hbel.trans (hCt.mono hbel.size); replace h1 := row_keep hCt h1; replace h2 := row_keep hCt h2; replace h3 := row_keep hCt h3; replace h6 := row_keep hCt h6; replace h7 := row_keep hCt h7; clear hCt
                  go_wp2_with fail
                  go_roundw
                  case rel => exact ⟨k + 1, by omega, by go_num, h1, h2, h3, h6, h7, hbel⟩
                  case measure => simp [intOf]; omega
                · have HU : Hid _ := hu
                  have HQ : Hid (eqv 4 (fun j => a (k * 4 + j)) (fun j => b (n * 4 + j)) = false) := by show _ = _; rw [HT.out k n (by omega) hlt]; simpa using hq
                  clear hu hq
                  go_wp2_with fail
                  refine wp_region_held 14 (Cls wr []) (by kernel_rfl) (by kernel_rfl) (Cls.zero (Below.refl _ _)) ?_; simp only [List.take_succ_cons, List.take_zero, List.drop_succ_cons, List.drop_zero]
                  repeat (first
                    | ((with_reducible refine wpQuiet_loadB rfl _ _ rfl _ _ rfl (fun _ h => h.kp h7) aggBl undBl (by omega) ?_); rw [HU.out])
                    | (with_reducible refine wpQuiet_loadW rfl _ _ rfl _ rfl (fun _ h => h.kp h9) agg4 size4 ?_)
                    | (with_reducible refine wpQuiet_loadA rfl _ _ rfl _ _ rfl (fun _ h => h.kp h1) 4 agg4 size4 (by omega) ?_)
                    | (with_reducible refine wpQuiet_loadA rfl _ _ rfl _ _ rfl (fun _ h => h.kp h2) 4 agg4 size4 (by omega) ?_)
                    | ((with_reducible refine wpQuiet_neqA eqT (by decide) gdT rfl _ _ _ rfl rfl rfl ?_); rw [HQ.out])
                    | ((with_reducible refine wpQuiet_step (fun K hK => ?_)); go_simp; (first | (refine ⟨_, fun _ _ => rfl, hK _ ?_⟩) | (refine ⟨_, fun _ _ => ⟨rfl, rfl⟩, hK _ ?_⟩) | (refine hK _ ?_)); clear hK K))
                  refine wpQuiet_nil ?_; intro wt hCt; replace hCt := hCt.2; replace hbel := hbel.trans (hCt.mono hbel.size); replace h1 := row_keep hCt h1; replace h2 := row_keep hCt h2; replace h3 := row_keep hCt h3; replace h6 := row_keep hCt h6; replace h7 := row_keep hCt h7; clear hCt
                  go_wp2_with fail
                  go_roundw
                  case rel => exact ⟨k + 1, by omega, by go_num, h1, h2, h3, h6, h7, hbel⟩
                  case measure => simp [intOf]; omega
              · obtain rfl : k = K := by omega
                have HU : Hid _ := HK2.out
                have HQ : Hid (eqv 4 (fun j => a (k * 4 + j)) (fun j => b (n * 4 + j)) = true) := by show _ = _; rw [HT.out k n (by omega) hlt]; simpa using HK3.out
                go_wp2_with fail
                refine wp_region_held 14 (Cls wr []) (by kernel_rfl) (by kernel_rfl) (Cls.zero (Below.refl _ _)) ?_; simp only [List.take_succ_cons, List.take_zero, List.drop_succ_cons, List.drop_zero]
                repeat (first
                  | ((with_reducible refine wpQuiet_loadB rfl _ _ rfl _ _ rfl (fun _ h => h.kp h7) aggBl undBl (by omega) ?_); rw [HU.out])
                  | (with_reducible refine wpQuiet_loadW rfl _ _ rfl _ rfl (fun _ h => h.kp h9) agg4 size4 ?_)
                  | (with_reducible refine wpQuiet_loadA rfl _ _ rfl _ _ rfl (fun _ h => h.kp h1) 4 agg4 size4 (by omega) ?_)
                  | (with_reducible refine wpQuiet_loadA rfl _ _ rfl _ _ rfl (fun _ h => h.kp h2) 4 agg4 size4 (by omega) ?_)
                  | ((with_reducible refine wpQuiet_neqA eqT (by decide) gdT rfl _ _ _ rfl rfl rfl ?_); rw [HQ.out])
                  | ((with_reducible refine wpQuiet_step (fun K hK => ?_)); go_simp; (first | (refine ⟨_, fun _ _ => rfl, hK _ ?_⟩) | (refine ⟨_, fun _ _ => ⟨rfl, rfl⟩, hK _ ?_⟩) | (refine hK _ ?_)); clear hK K))
                refine wpQuiet_nil ?_; intro wt hCt; replace hCt := hCt.2; replace hbel := hbel.trans (hCt.mono hbel.size); replace h1 := row_keep hCt h1; replace h2 := row_keep hCt h2; replace h3 := row_keep hCt h3; replace h6 := row_keep hCt h6; replace h7 := row_keep hCt h7; clear hCt
                go_wp2_with first
                  | (with_reducible refine wpList_storePI rfl 3 _ _ rfl _ _ rfl rfl h6 size1 (by omega) hbel (by omega) ?_; intro w1 g3 ho g4; replace h1 := (ho _ (by omega)).trans h1; replace h2 := (ho _ (by omega)).trans h2; replace h3 := (ho _ (by omega)).trans h3; replace h7 := (ho _ (by omega)).trans h7; clear h6 hbel; have h6 := g3; have hbel := g4; clear g3 g4 ho)
                  | (with_reducible refine wpList_storeBN rfl _ _ _ rfl _ _ rfl rfl h7 sizeBl (by omega) hbel (by omega) ?_; intro w1 g3 ho g4; replace h1 := (ho _ (by omega)).trans h1; replace h2 := (ho _ (by omega)).trans h2; replace h3 := (ho _ (by omega)).trans h3; replace h6 := (ho _ (by omega)).trans h6; clear h7 hbel; have h7 := g3; have hbel := g4; clear g3 g4 ho)
                go_roundw
                case rel => exact ⟨n + 1, by omega, by go_num, h1, h2, h3, by rw [HS.out]; exact h6, by rw [HS.out]; exact h7, hbel⟩
                case measure => simp [intOf]; omega
          · obtain rfl : n = 6 := by omega
            go_wp2_with first
              | (with_reducible refine wpList_loadW rfl _ _ rfl _ rfl h6 agg6 size6 ?_)
              | (with_reducible refine wpList_storeW rfl _ _ _ rfl _ rfl rfl h3 size6 ?_)
            exact bodyPost_ret_by (results_ct _ _ _ _ _ _ _ rfl rfl (setRow_heap _ _ _ _ _ _ h3) agg6 size6) rfl ⟨rfl, below_setRow2 hbel (by omega) _⟩
set_option linter.unusedVariables false in
set_option maxHeartbeats 1000000 in
theorem FnExactOrderTo_walk (x0 : Nat → Int) (hx0 : ∀ j, I64 (x0 j)) (x1 : Nat → Int) (hx1 : ∀ j, I64 (x1 j)) (w : World) : Calls Try.prog 9 #[.agg (arr 24 x0), .agg (arr 24 x1)] w fun e w' => e = .returned (.bool true) ∧ Below w.heap.size w w' := by
  have hr0 : ((w.alloc (.cells (arr 24 x0) 32)).alloc (.cells (arr 24 x1) 32)).heap[w.heap.size]? = some (.cells (arr 24 x0) 32 (0, 0)) := by rw [heap_old (by simp <;> omega), heap_new (by simp)]
  have hr1 : ((w.alloc (.cells (arr 24 x0) 32)).alloc (.cells (arr 24 x1) 32)).heap[w.heap.size + 1]? = some (.cells (arr 24 x1) 32 (0, 0)) := by rw [heap_new (by simp)]
  have hbel : Below w.heap.size w ((w.alloc (.cells (arr 24 x0) 32)).alloc (.cells (arr 24 x1) 32)) := (((Below.refl _ _).alloc (by simp) _).alloc (by simp) _)
  go_enter Try.func9, Try.ntmps9
  go_wp2_with fail
  obtain ⟨wm, hwm⟩ : ∃ wm : World, wm = ((w.alloc (.cells (arr 24 x0) 32)).alloc (.cells (arr 24 x1) 32)) := ⟨_, rfl⟩
  rw [← hwm] at hr0 hr1 hbel ⊢
  clear hwm
  have hLhr0hA := row_lt hr0
  have hLhr1hA := row_lt hr1
  refine wp_region_flo 8 2 [7] _ _ 22 6 zero6 _ rfl rfl (by kernel_rfl) (by kernel_rfl) (Cls.two hr0 hr1 (Below.refl _ _)) ?_; simp only [List.take_succ_cons, List.take_zero, List.drop_succ_cons, List.drop_zero]
  repeat (first
    | (with_reducible refine wpR_loadW rfl _ _ rfl _ rfl (fun _ h => h.r1) agg24l size24l ?_)
    | (with_reducible refine wpR_loadW rfl _ _ rfl _ rfl (fun _ h => h.r2) agg24l size24l ?_)
    | ((with_reducible refine wpR_callE rfl 25 _ _ rfl (.agg (arr 24 x0)) (#[.agg (arr 24 x0)]) rfl ?_ ?_ ?_); (exact enters_of Try.func25 (by kernel_rfl) rfl); (intro w' h'; with_reducible exact toRack_any x0 w'))
    | ((with_reducible refine wpR_callE rfl 25 _ _ rfl (.agg (arr 24 x1)) (#[.agg (arr 24 x1)]) rfl ?_ ?_ ?_); (exact enters_of Try.func25 (by kernel_rfl) rfl); (intro w' h'; with_reducible exact toRack_any x1 w'))
    | ((with_reducible refine wpR_callE rfl 30 _ _ rfl (.tuple #[.agg (arr 6 (otR x0 x1).1), .bool (otR x0 x1).2]) (#[.agg (arr 24 x0), .agg (arr 24 x1)]) rfl ?_ ?_ ?_); (exact enters_of Try.func30 (by kernel_rfl) rfl); (intro w' h'; with_reducible exact specOt_any x0 x1 w'))
    | ((with_reducible refine wpR_step (fun K hK => ?_)); go_simp; (first | (refine ⟨_, fun _ _ => rfl, hK _ ?_⟩) | (refine hK _ ?_)); clear hK K))
  refine wpR_nil ?_
  intro BhA wt hWhA hCt hA
  replace hbel := hbel.trans (hCt.2.mono hbel.size)
  replace hr0 := hCt.r1
  replace hr1 := hCt.r2
  clear hCt
  go_wp2_with first
    | (with_reducible refine wpList_storeWN rfl _ _ _ rfl _ rfl rfl hA size6 hbel (by have := hbel.size; omega) ?_; intro w1 g3 ho g4; replace hr0 := (ho _ (by omega)).trans hr0; replace hr1 := (ho _ (by omega)).trans hr1; clear hbel hA; have hA := g3; have hbel := g4; clear g3 g4 ho)
  refine QN.intro ?_
  go_wp2_with first
    | fail
  have hLhr0hB := row_lt hr0
  have hLhr1hB := row_lt hr1
  have hLhAhB := row_lt hA
  refine wp_region_flo 8 2 [7] _ _ 22 6 zero6 _ rfl rfl (by kernel_rfl) (by kernel_rfl) (Cls.three hr0 hr1 hA (Below.refl _ _)) ?_; simp only [List.take_succ_cons, List.take_zero, List.drop_succ_cons, List.drop_zero]
  repeat (first
    | (with_reducible refine wpR_loadW rfl _ _ rfl _ rfl (fun _ h => h.r1) agg24l size24l ?_)
    | (with_reducible refine wpR_loadW rfl _ _ rfl _ rfl (fun _ h => h.r2) agg24l size24l ?_)
    | ((with_reducible refine wpR_callE rfl 25 _ _ rfl (.agg (arr 24 x0)) (#[.agg (arr 24 x0)]) rfl ?_ ?_ ?_); (exact enters_of Try.func25 (by kernel_rfl) rfl); (intro w' h'; with_reducible exact toRack_any x0 w'))
    | ((with_reducible refine wpR_callE rfl 25 _ _ rfl (.agg (arr 24 x1)) (#[.agg (arr 24 x1)]) rfl ?_ ?_ ?_); (exact enters_of Try.func25 (by kernel_rfl) rfl); (intro w' h'; with_reducible exact toRack_any x1 w'))
    | ((with_reducible refine wpR_callE rfl 31 _ _ rfl (.tuple #[.agg (arr 6 (otR x0 x1).1), .bool (otR x0 x1).2]) (#[.agg (arr 24 x0), .agg (arr 24 x1)]) rfl ?_ ?_ ?_); (exact enters_of Try.func31 (by kernel_rfl) rfl); (intro w' h'; with_reducible exact implOt_any x0 x1 w'))
    | ((with_reducible refine wpR_step (fun K hK => ?_)); go_simp; (first | (refine ⟨_, fun _ _ => rfl, hK _ ?_⟩) | (refine hK _ ?_)); clear hK K))
  refine wpR_nil ?_
  intro BhB wt hWhB hCt hB
  replace hbel := hbel.trans (hCt.2.mono hbel.size)
  replace hr0 := hCt.r1
  replace hr1 := hCt.r2
  replace hA := hCt.r3
  clear hCt
  go_wp2_with first
    | (with_reducible refine wpList_storeWN rfl _ _ _ rfl _ rfl rfl hB size6 hbel (by have := hbel.size; omega) ?_; intro w2 g3 ho g4; replace hr0 := (ho _ (by omega)).trans hr0; replace hr1 := (ho _ (by omega)).trans hr1; replace hA := (ho _ (by omega)).trans hA; clear hbel hB; have hB := g3; have hbel := g4; clear g3 g4 ho)
  refine QN.intro ?_
  go_wp2_with first
    | (with_reducible refine wpList_loadW rfl _ _ rfl _ rfl hA agg6 size6 ?_)
    | (with_reducible refine wpList_loadW rfl _ _ rfl _ rfl hB agg6 size6 ?_)
    | (go_at_call 21; (with_reducible refine (eqIntA6_same _ _).mono ?_); (rintro e w3 ⟨rfl, hb1⟩; replace hbel := hbel.trans (hb1.mono hbel.size); clear hb1))
  go_ret
  exact ⟨rfl, hbel⟩
end Go.Proofs.Ytljajgaicdffkaa
