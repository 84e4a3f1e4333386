/- RenamingTo: the program's and the reference's, and the law. -/
import Derived.Test.YtljajgaicdffkaaDel
namespace Go.Proofs.Ytljajgaicdffkaa
set_option linter.unusedSimpArgs false
set_option linter.unusedVariables false
set_option maxRecDepth 20000
open Go.RowKit
theorem renamingsTo_any (a b : Nat → Int) (ha : rackB a = true) (hb : rackB b = true) (w : World) : Calls Try.prog 55 #[.agg (arr 24 a), .agg (arr 24 b)] w (RetSl w 22 6 (kp a b 120).length (kpF a b 120)) := by
  have h1 : ((w.alloc (.cells (arr 24 a) 33)).alloc (.cells (arr 24 b) 33)).heap[w.heap.size]? = some (.cells (arr 24 a) 33 (0, 0)) := by rw [heap_old (by simp), heap_new rfl]
  have h2 : ((w.alloc (.cells (arr 24 a) 33)).alloc (.cells (arr 24 b) 33)).heap[w.heap.size + 1]? = some (.cells (arr 24 b) 33 (0, 0)) := heap_new (by simp)
  have hbel : Below w.heap.size w ((w.alloc (.cells (arr 24 a) 33)).alloc (.cells (arr 24 b) 33)) := ((Below.refl _ _).alloc (by simp) _).alloc (by simp) _
  have tok_h6 : True := trivial
  go_enter Try.func55, Try.ntmps55
  go_wp2_with first
    | (with_reducible refine wpList_loadW rfl _ _ rfl _ rfl h2 agg24r size24r ?_)
    | (go_at_call 53; (with_reducible refine (formOf_any b hb _).mono ?_); rintro e w1 ⟨rfl, hb1⟩; replace hbel := hbel.trans (hb1.mono hbel.size); replace h1 := row_keep hb1 h1; replace h2 := row_keep hb1 h2; clear hb1)
    | (have _t := tok_h6; with_reducible refine wpList_allocN rfl 33 rfl 24 zero24r ?_; intro Bh6 w1 hBh6 h6 hb1; have hWh6 := Nat.le_trans hbel.size hBh6; have hLh1h6 := Nat.lt_of_lt_of_le (row_lt h1) hBh6; have hLh2h6 := Nat.lt_of_lt_of_le (row_lt h2) hBh6; replace hbel := hbel.trans (hb1.mono hbel.size); replace h1 := row_keep hb1 h1; replace h2 := row_keep hb1 h2; clear hb1 _t tok_h6)
    | (with_reducible refine wpList_storeWN rfl _ _ _ rfl _ rfl rfl h6 size24r hbel hWh6 ?_; intro w1 g3 ho g4; replace h1 := (ho _ (by omega)).trans h1; replace h2 := (ho _ (by omega)).trans h2; clear h6 hbel; have h6 := g3; have hbel := g4; clear g3 g4 ho)
    | (go_at_call 72; (with_reducible refine (renamings_any _).mono ?_); rintro e w1 ⟨v, rfl, hS, hb1⟩; have hl1 := row_lt h1; have hl6 := row_lt h6; replace h1 := row_keep hb1 h1; replace h6 := row_keep hb1 h6; have hz := hbel.size; replace hbel := hbel.trans (hb1.mono hbel.size); have hz1 := hb1.size; clear hb1; (obtain ⟨g, cap, F, rfl, a1, hg, a3, a4, a5⟩ := hS.blk (by omega)))
    | (go_at_call 71; (with_reducible refine (delF_any (b := b) ha a5 a3 a4 _ hz1 hl1 hl6 a1 h1 h6 hg).mono ?_); rintro e w2 ⟨v, rfl, hS2, hb2⟩)
  go_ret
  exact ⟨_, rfl, hS2.lower hz, hbel.trans (hb2.mono hz)⟩
theorem kp_head {a b : Nat → Int} : (kp a b 120).head? = fd1 a b := List.head?_filter ..
theorem kp_fd_none {a b : Nat → Int} (h : fd1 a b = none) : (kp a b 120).length = 0 := by
  rw [← kp_head, List.head?_eq_none_iff] at h
  rw [h]; rfl
theorem kp_fd_some {a b : Nat → Int} {n : Nat} (h : fd1 a b = some n) : 0 < (kp a b 120).length ∧ ∀ j, j < 6 → kpF a b 120 j = nmS n j := by
  rw [← kp_head] at h
  obtain ⟨t, ht⟩ := List.head?_eq_some_iff.1 h
  rw [ht]
  refine ⟨by simp, fun j hj => ?_⟩
  unfold kpF
  rw [ht]
  have := fls_at (s := 6) ((n :: t).map nmS) (k := 0) hj
  rw [Nat.zero_mul, Nat.zero_add] at this
  rw [this]; rfl
noncomputable def rtR (a b : Nat → Int) : (Nat → Int) × Bool := if rackB a = true ∧ rackB b = true then rgR a b else (fun _ => 0, false)
theorem specRt_any (a b : Nat → Int) (w : World) : Calls Try.prog 36 #[.agg (arr 24 a), .agg (arr 24 b)] w fun e w' => e = .returned (.tuple #[.agg (arr 6 (rtR a b).1), .bool (rtR a b).2]) ∧ Below w.heap.size w w' := by
  have h1 : (((w.alloc (.cells (arr 24 a) 33)).alloc (.cells (arr 24 b) 33)).alloc (.cells (arr 6 fun _ => 0) 22)).heap[w.heap.size]? = some (.cells (arr 24 a) 33 (0, 0)) := by rw [heap_old (by simp <;> omega), heap_old (by simp), heap_new rfl]
  have h2 : (((w.alloc (.cells (arr 24 a) 33)).alloc (.cells (arr 24 b) 33)).alloc (.cells (arr 6 fun _ => 0) 22)).heap[w.heap.size + 1]? = some (.cells (arr 24 b) 33 (0, 0)) := by rw [heap_old (by simp), heap_new (by simp)]
  have h4 : (((w.alloc (.cells (arr 24 a) 33)).alloc (.cells (arr 24 b) 33)).alloc (.cells (arr 6 fun _ => 0) 22)).heap[w.heap.size + 1 + 1]? = some (.cells (arr 6 fun _ => 0) 22 (0, 0)) := heap_new (by simp)
  have hbel : Below w.heap.size w (((w.alloc (.cells (arr 24 a) 33)).alloc (.cells (arr 24 b) 33)).alloc (.cells (arr 6 fun _ => 0) 22)) := (((Below.refl _ _).alloc (by simp) _).alloc (by simp) _).alloc (by simp <;> omega) _
  cases ha : rackB a with
  | false =>
    rw [show rtR a b = (fun _ => 0, false) from if_neg (by simp [ha])]
    have HA : Hid _ := ha
    have HB : Hid (1 = 1) := rfl
    clear ha
    go_enter Try.func36, Try.ntmps36
    go_wp2_with first
      | (with_reducible refine wpList_allocA rfl 22 rfl 6 zero6 ?_; (try simp only [size_al]))
      | (with_reducible refine wpList_loadW rfl _ _ rfl _ rfl h1 agg24r size24r ?_)
      | (with_reducible refine wpList_loadWG rfl _ _ rfl _ rfl h2 agg24r size24r ?_)
      | (go_at_call 44; (with_reducible refine (l2Rack_at HA.out _).mono ?_); rintro e w1 ⟨rfl, hb1⟩; replace hbel := hbel.trans (hb1.mono hbel.size); replace h1 := row_keep hb1 h1; replace h2 := row_keep hb1 h2; replace h4 := row_keep hb1 h4; clear hb1)
      | (go_at_call 44; (with_reducible refine (l2Rack_at HB.out _).mono ?_); rintro e w1 ⟨rfl, hb1⟩; replace hbel := hbel.trans (hb1.mono hbel.size); replace h1 := row_keep hb1 h1; replace h2 := row_keep hb1 h2; replace h4 := row_keep hb1 h4; clear hb1)
      | (with_reducible refine wpList_build0 rfl 22 rfl 6 zbuild6 ?_)
      | (with_reducible refine wpList_loadW rfl _ _ rfl _ rfl h2 agg24r size24r ?_)
      | (go_at_call 56; (with_reducible refine (l4Renaming_any a b HA.out HB.out _).mono ?_); rintro e w1 ⟨rfl, hb1⟩; replace hbel := hbel.trans (hb1.mono hbel.size); replace h1 := row_keep hb1 h1; replace h2 := row_keep hb1 h2; replace h4 := row_keep hb1 h4; clear hb1)
      | (with_reducible refine wpList_storeW rfl _ _ _ rfl _ rfl rfl h4 size6 ?_)
    exact bodyPost_ret_by (results_ct _ _ _ _ _ _ _ rfl rfl (setRow_heap _ _ _ _ _ _ h4) agg6 size6) rfl ⟨rfl, below_setRow2 hbel (by omega) _⟩
  | true =>
    cases hb : rackB b with
    | false =>
      rw [show rtR a b = (fun _ => 0, false) from if_neg (by simp [hb])]
      have HA : Hid _ := ha
      have HB : Hid _ := hb
      clear ha hb
      go_enter Try.func36, Try.ntmps36
      go_wp2_with first
        | (with_reducible refine wpList_allocA rfl 22 rfl 6 zero6 ?_; (try simp only [size_al]))
        | (with_reducible refine wpList_loadW rfl _ _ rfl _ rfl h1 agg24r size24r ?_)
        | (with_reducible refine wpList_loadWG rfl _ _ rfl _ rfl h2 agg24r size24r ?_)
        | (go_at_call 44; (with_reducible refine (l2Rack_at HA.out _).mono ?_); rintro e w1 ⟨rfl, hb1⟩; replace hbel := hbel.trans (hb1.mono hbel.size); replace h1 := row_keep hb1 h1; replace h2 := row_keep hb1 h2; replace h4 := row_keep hb1 h4; clear hb1)
        | (go_at_call 44; (with_reducible refine (l2Rack_at HB.out _).mono ?_); rintro e w1 ⟨rfl, hb1⟩; replace hbel := hbel.trans (hb1.mono hbel.size); replace h1 := row_keep hb1 h1; replace h2 := row_keep hb1 h2; replace h4 := row_keep hb1 h4; clear hb1)
        | (with_reducible refine wpList_build0 rfl 22 rfl 6 zbuild6 ?_)
        | (with_reducible refine wpList_loadW rfl _ _ rfl _ rfl h2 agg24r size24r ?_)
        | (go_at_call 56; (with_reducible refine (l4Renaming_any a b HA.out HB.out _).mono ?_); rintro e w1 ⟨rfl, hb1⟩; replace hbel := hbel.trans (hb1.mono hbel.size); replace h1 := row_keep hb1 h1; replace h2 := row_keep hb1 h2; replace h4 := row_keep hb1 h4; clear hb1)
        | (with_reducible refine wpList_storeW rfl _ _ _ rfl _ rfl rfl h4 size6 ?_)
      exact bodyPost_ret_by (results_ct _ _ _ _ _ _ _ rfl rfl (setRow_heap _ _ _ _ _ _ h4) agg6 size6) rfl ⟨rfl, below_setRow2 hbel (by omega) _⟩
    | true =>
      rw [show rtR a b = rgR a b from if_pos ⟨ha, hb⟩]
      have HA : Hid _ := ha
      have HB : Hid _ := hb
      clear ha hb
      go_enter Try.func36, Try.ntmps36
      go_wp2_with first
        | (with_reducible refine wpList_allocA rfl 22 rfl 6 zero6 ?_; (try simp only [size_al]))
        | (with_reducible refine wpList_loadW rfl _ _ rfl _ rfl h1 agg24r size24r ?_)
        | (with_reducible refine wpList_loadWG rfl _ _ rfl _ rfl h2 agg24r size24r ?_)
        | (go_at_call 44; (with_reducible refine (l2Rack_at HA.out _).mono ?_); rintro e w1 ⟨rfl, hb1⟩; replace hbel := hbel.trans (hb1.mono hbel.size); replace h1 := row_keep hb1 h1; replace h2 := row_keep hb1 h2; replace h4 := row_keep hb1 h4; clear hb1)
        | (go_at_call 44; (with_reducible refine (l2Rack_at HB.out _).mono ?_); rintro e w1 ⟨rfl, hb1⟩; replace hbel := hbel.trans (hb1.mono hbel.size); replace h1 := row_keep hb1 h1; replace h2 := row_keep hb1 h2; replace h4 := row_keep hb1 h4; clear hb1)
        | (with_reducible refine wpList_build0 rfl 22 rfl 6 zbuild6 ?_)
        | (with_reducible refine wpList_loadW rfl _ _ rfl _ rfl h2 agg24r size24r ?_)
        | (go_at_call 56; (with_reducible refine (l4Renaming_any a b HA.out HB.out _).mono ?_); rintro e w1 ⟨rfl, hb1⟩; replace hbel := hbel.trans (hb1.mono hbel.size); replace h1 := row_keep hb1 h1; replace h2 := row_keep hb1 h2; replace h4 := row_keep hb1 h4; clear hb1)
        | (with_reducible refine wpList_storeW rfl _ _ _ rfl _ rfl rfl h4 size6 ?_)
      exact bodyPost_ret_by (results_ct _ _ _ _ _ _ _ rfl rfl (setRow_heap _ _ _ _ _ _ h4) agg6 size6) rfl ⟨rfl, below_setRow2 hbel (by omega) _⟩
theorem implRt_any (a b : Nat → Int) (w : World) : Calls Try.prog 37 #[.agg (arr 24 a), .agg (arr 24 b)] w fun e w' => e = .returned (.tuple #[.agg (arr 6 (rtR a b).1), .bool (rtR a b).2]) ∧ Below w.heap.size w w' := by
  have h1 : (((w.alloc (.cells (arr 24 a) 33)).alloc (.cells (arr 24 b) 33)).alloc (.cells (arr 6 fun _ => 0) 22)).heap[w.heap.size]? = some (.cells (arr 24 a) 33 (0, 0)) := by rw [heap_old (by simp <;> omega), heap_old (by simp), heap_new rfl]
  have h2 : (((w.alloc (.cells (arr 24 a) 33)).alloc (.cells (arr 24 b) 33)).alloc (.cells (arr 6 fun _ => 0) 22)).heap[w.heap.size + 1]? = some (.cells (arr 24 b) 33 (0, 0)) := by rw [heap_old (by simp), heap_new (by simp)]
  have h4 : (((w.alloc (.cells (arr 24 a) 33)).alloc (.cells (arr 24 b) 33)).alloc (.cells (arr 6 fun _ => 0) 22)).heap[w.heap.size + 1 + 1]? = some (.cells (arr 6 fun _ => 0) 22 (0, 0)) := heap_new (by simp)
  have hbel : Below w.heap.size w (((w.alloc (.cells (arr 24 a) 33)).alloc (.cells (arr 24 b) 33)).alloc (.cells (arr 6 fun _ => 0) 22)) := (((Below.refl _ _).alloc (by simp) _).alloc (by simp) _).alloc (by simp <;> omega) _
  cases ha : rackB a with
  | false =>
    rw [show rtR a b = (fun _ => 0, false) from if_neg (by simp [ha])]
    have HA : Hid _ := ha
    have HB : Hid (1 = 1) := rfl
    clear ha
    go_enter Try.func37, Try.ntmps37
    go_wp2_with first
      | (with_reducible refine wpList_allocA rfl 22 rfl 6 zero6 ?_; (try simp only [size_al]))
      | (with_reducible refine wpList_loadW rfl _ _ rfl _ rfl h1 agg24r size24r ?_)
      | (with_reducible refine wpList_loadWG rfl _ _ rfl _ rfl h2 agg24r size24r ?_)
      | (go_at_call 47; (with_reducible refine (IsRack_at HA.out _).mono ?_); rintro e w1 ⟨rfl, hb1⟩; replace hbel := hbel.trans (hb1.mono hbel.size); replace h1 := row_keep hb1 h1; replace h2 := row_keep hb1 h2; replace h4 := row_keep hb1 h4; clear hb1)
      | (go_at_call 47; (with_reducible refine (IsRack_at HB.out _).mono ?_); rintro e w1 ⟨rfl, hb1⟩; replace hbel := hbel.trans (hb1.mono hbel.size); replace h1 := row_keep hb1 h1; replace h2 := row_keep hb1 h2; replace h4 := row_keep hb1 h4; clear hb1)
      | (with_reducible refine wpList_build0 rfl 22 rfl 6 zbuild6 ?_)
      | (with_reducible refine wpList_storeW rfl _ _ _ rfl _ rfl rfl h4 size6 ?_)
    exact bodyPost_ret_by (results_ct _ _ _ _ _ _ _ rfl rfl (setRow_heap _ _ _ _ _ _ h4) agg6 size6) rfl ⟨rfl, below_setRow2 hbel (by omega) _⟩
  | true =>
    cases hb : rackB b with
    | false =>
      rw [show rtR a b = (fun _ => 0, false) from if_neg (by simp [hb])]
      have HA : Hid _ := ha
      have HB : Hid _ := hb
      clear ha hb
      go_enter Try.func37, Try.ntmps37
      go_wp2_with first
        | (with_reducible refine wpList_allocA rfl 22 rfl 6 zero6 ?_; (try simp only [size_al]))
        | (with_reducible refine wpList_loadW rfl _ _ rfl _ rfl h1 agg24r size24r ?_)
        | (with_reducible refine wpList_loadWG rfl _ _ rfl _ rfl h2 agg24r size24r ?_)
        | (go_at_call 47; (with_reducible refine (IsRack_at HA.out _).mono ?_); rintro e w1 ⟨rfl, hb1⟩; replace hbel := hbel.trans (hb1.mono hbel.size); replace h1 := row_keep hb1 h1; replace h2 := row_keep hb1 h2; replace h4 := row_keep hb1 h4; clear hb1)
        | (go_at_call 47; (with_reducible refine (IsRack_at HB.out _).mono ?_); rintro e w1 ⟨rfl, hb1⟩; replace hbel := hbel.trans (hb1.mono hbel.size); replace h1 := row_keep hb1 h1; replace h2 := row_keep hb1 h2; replace h4 := row_keep hb1 h4; clear hb1)
        | (with_reducible refine wpList_build0 rfl 22 rfl 6 zbuild6 ?_)
        | (with_reducible refine wpList_storeW rfl _ _ _ rfl _ rfl rfl h4 size6 ?_)
      exact bodyPost_ret_by (results_ct _ _ _ _ _ _ _ rfl rfl (setRow_heap _ _ _ _ _ _ h4) agg6 size6) rfl ⟨rfl, below_setRow2 hbel (by omega) _⟩
    | true =>
      rw [show rtR a b = rgR a b from if_pos ⟨ha, hb⟩]
      have HA : Hid _ := ha
      have HB : Hid _ := hb
      clear ha hb
      have hR := fun W => renamingsTo_any a b HA.out HB.out W
      cases hfd : fd1 a b with
      | none =>
        rw [show rgR a b = (fun _ => 0, false) from by unfold rgR; rw [hfd]]
        rw [kp_fd_none hfd] at hR
        clear hfd
        go_enter Try.func37, Try.ntmps37
        go_wp2_with first
          | (with_reducible refine wpList_allocA rfl 22 rfl 6 zero6 ?_; (try simp only [size_al]))
          | (with_reducible refine wpList_loadW rfl _ _ rfl _ rfl h1 agg24r size24r ?_)
          | (with_reducible refine wpList_loadWG rfl _ _ rfl _ rfl h2 agg24r size24r ?_)
          | (go_at_call 47; (with_reducible refine (IsRack_at HA.out _).mono ?_); rintro e w1 ⟨rfl, hb1⟩; replace hbel := hbel.trans (hb1.mono hbel.size); replace h1 := row_keep hb1 h1; replace h2 := row_keep hb1 h2; replace h4 := row_keep hb1 h4; clear hb1)
          | (go_at_call 47; (with_reducible refine (IsRack_at HB.out _).mono ?_); rintro e w1 ⟨rfl, hb1⟩; replace hbel := hbel.trans (hb1.mono hbel.size); replace h1 := row_keep hb1 h1; replace h2 := row_keep hb1 h2; replace h4 := row_keep hb1 h4; clear hb1)
          | (with_reducible refine wpList_loadW rfl _ _ rfl _ rfl h2 agg24r size24r ?_)
          | (go_at_call 55; (with_reducible refine (hR _).mono ?_); rintro e w1 ⟨v, rfl, hS, hb1⟩; replace h1 := row_keep hb1 h1; replace h2 := row_keep hb1 h2; replace h4 := row_keep hb1 h4; replace hbel := hbel.trans (hb1.mono hbel.size); clear hb1)
          | (with_reducible refine wpList_lenS Try.underlying53 rfl _ rfl rfl hS ?_)
          | (with_reducible refine wpList_build0 rfl 22 rfl 6 zbuild6 ?_)
          | (with_reducible refine wpList_storeW rfl _ _ _ rfl _ rfl rfl h4 size6 ?_)
        exact bodyPost_ret_by (results_ct _ _ _ _ _ _ _ rfl rfl (setRow_heap _ _ _ _ _ _ h4) agg6 size6) rfl ⟨rfl, below_setRow2 hbel (by omega) _⟩
      | some n =>
        rw [show rgR a b = (nmS n, true) from by unfold rgR; rw [hfd]]
        obtain ⟨q1, q2⟩ := kp_fd_some hfd
        have hk := kp_len a b 120
        clear hfd
        generalize (kp a b 120).length = k at *
        obtain ⟨k', rfl⟩ : ∃ k', k = k' + 1 := ⟨k - 1, by omega⟩
        have hne : (((k' : Int) + 1) == 0) = false := by simp <;> omega
        have hk0 : (0 : Int) < (k' : Int) + 1 := by omega
        go_enter Try.func37, Try.ntmps37
        go_wp2_with first
          | (with_reducible refine wpList_allocA rfl 22 rfl 6 zero6 ?_; (try simp only [size_al]))
          | (with_reducible refine wpList_loadW rfl _ _ rfl _ rfl h1 agg24r size24r ?_)
          | (with_reducible refine wpList_loadWG rfl _ _ rfl _ rfl h2 agg24r size24r ?_)
          | (go_at_call 47; (with_reducible refine (IsRack_at HA.out _).mono ?_); rintro e w1 ⟨rfl, hb1⟩; replace hbel := hbel.trans (hb1.mono hbel.size); replace h1 := row_keep hb1 h1; replace h2 := row_keep hb1 h2; replace h4 := row_keep hb1 h4; clear hb1)
          | (go_at_call 47; (with_reducible refine (IsRack_at HB.out _).mono ?_); rintro e w1 ⟨rfl, hb1⟩; replace hbel := hbel.trans (hb1.mono hbel.size); replace h1 := row_keep hb1 h1; replace h2 := row_keep hb1 h2; replace h4 := row_keep hb1 h4; clear hb1)
          | (with_reducible refine wpList_loadW rfl _ _ rfl _ rfl h2 agg24r size24r ?_)
          | (go_at_call 55; (with_reducible refine (hR _).mono ?_); rintro e w1 ⟨v, rfl, hS, hb1⟩; replace h1 := row_keep hb1 h1; replace h2 := row_keep hb1 h2; replace h4 := row_keep hb1 h4; replace hbel := hbel.trans (hb1.mono hbel.size); clear hb1; (obtain ⟨g, cap, F, rfl, a1, hg, a3, a4, a5⟩ := hS.blk (by omega)); have hM : arr 6 (fun j => F (0 + j)) = arr 6 (nmS n) := arr_congr fun j hj => by (rw [Nat.zero_add, a5 j (by omega)]; exact q2 j hj))
          | ((with_reducible refine wpList_loadA rfl _ _ rfl _ _ rfl hg 6 agg6 size6 (by omega) ?_); rw [hM])
          | (with_reducible refine wpList_storeW rfl _ _ _ rfl _ rfl rfl h4 size6 ?_)
        exact bodyPost_ret_by (results_ct _ _ _ _ _ _ _ rfl rfl (setRow_heap _ _ _ _ _ _ h4) agg6 size6) rfl ⟨rfl, below_setRow2 hbel (by omega) _⟩
set_option linter.unusedVariables false in
set_option maxHeartbeats 1000000 in
theorem FnExactRenamingTo_walk (x0 : Nat → Int) (hx0 : ∀ j, I64 (x0 j)) (x1 : Nat → Int) (hx1 : ∀ j, I64 (x1 j)) (w : World) : Calls Try.prog 12 #[.agg (arr 24 x0), .agg (arr 24 x1)] w fun e w' => e = .returned (.bool true) ∧ Below w.heap.size w w' := by
  have hr0 : ((w.alloc (.cells (arr 24 x0) 32)).alloc (.cells (arr 24 x1) 32)).heap[w.heap.size]? = some (.cells (arr 24 x0) 32 (0, 0)) := by rw [heap_old (by simp <;> omega), heap_new (by simp)]
  have hr1 : ((w.alloc (.cells (arr 24 x0) 32)).alloc (.cells (arr 24 x1) 32)).heap[w.heap.size + 1]? = some (.cells (arr 24 x1) 32 (0, 0)) := by rw [heap_new (by simp)]
  have hbel : Below w.heap.size w ((w.alloc (.cells (arr 24 x0) 32)).alloc (.cells (arr 24 x1) 32)) := (((Below.refl _ _).alloc (by simp) _).alloc (by simp) _)
  go_enter Try.func12, Try.ntmps12
  go_wp2_with fail
  obtain ⟨wm, hwm⟩ : ∃ wm : World, wm = ((w.alloc (.cells (arr 24 x0) 32)).alloc (.cells (arr 24 x1) 32)) := ⟨_, rfl⟩
  rw [← hwm] at hr0 hr1 hbel ⊢
  clear hwm
  have hLhr0hA := row_lt hr0
  have hLhr1hA := row_lt hr1
  refine wp_region_flo 8 2 [7] _ _ 22 6 zero6 _ rfl rfl (by kernel_rfl) (by kernel_rfl) (Cls.two hr0 hr1 (Below.refl _ _)) ?_; simp only [List.take_succ_cons, List.take_zero, List.drop_succ_cons, List.drop_zero]
  repeat (first
    | (with_reducible refine wpR_loadW rfl _ _ rfl _ rfl (fun _ h => h.r1) agg24l size24l ?_)
    | (with_reducible refine wpR_loadW rfl _ _ rfl _ rfl (fun _ h => h.r2) agg24l size24l ?_)
    | ((with_reducible refine wpR_callE rfl 25 _ _ rfl (.agg (arr 24 x0)) (#[.agg (arr 24 x0)]) rfl ?_ ?_ ?_); (exact enters_of Try.func25 (by kernel_rfl) rfl); (intro w' h'; with_reducible exact toRack_any x0 w'))
    | ((with_reducible refine wpR_callE rfl 25 _ _ rfl (.agg (arr 24 x1)) (#[.agg (arr 24 x1)]) rfl ?_ ?_ ?_); (exact enters_of Try.func25 (by kernel_rfl) rfl); (intro w' h'; with_reducible exact toRack_any x1 w'))
    | ((with_reducible refine wpR_callE rfl 36 _ _ rfl (.tuple #[.agg (arr 6 (rtR x0 x1).1), .bool (rtR x0 x1).2]) (#[.agg (arr 24 x0), .agg (arr 24 x1)]) rfl ?_ ?_ ?_); (exact enters_of Try.func36 (by kernel_rfl) rfl); (intro w' h'; with_reducible exact specRt_any x0 x1 w'))
    | ((with_reducible refine wpR_step (fun K hK => ?_)); go_simp; (first | (refine ⟨_, fun _ _ => rfl, hK _ ?_⟩) | (refine hK _ ?_)); clear hK K))
  refine wpR_nil ?_
  intro BhA wt hWhA hCt hA
  replace hbel := hbel.trans (hCt.2.mono hbel.size)
  replace hr0 := hCt.r1
  replace hr1 := hCt.r2
  clear hCt
  go_wp2_with first
    | (with_reducible refine wpList_storeWN rfl _ _ _ rfl _ rfl rfl hA size6 hbel (by have := hbel.size; omega) ?_; intro w1 g3 ho g4; replace hr0 := (ho _ (by omega)).trans hr0; replace hr1 := (ho _ (by omega)).trans hr1; clear hbel hA; have hA := g3; have hbel := g4; clear g3 g4 ho)
  refine QN.intro ?_
  go_wp2_with first
    | fail
  have hLhr0hB := row_lt hr0
  have hLhr1hB := row_lt hr1
  have hLhAhB := row_lt hA
  refine wp_region_flo 8 2 [7] _ _ 22 6 zero6 _ rfl rfl (by kernel_rfl) (by kernel_rfl) (Cls.three hr0 hr1 hA (Below.refl _ _)) ?_; simp only [List.take_succ_cons, List.take_zero, List.drop_succ_cons, List.drop_zero]
  repeat (first
    | (with_reducible refine wpR_loadW rfl _ _ rfl _ rfl (fun _ h => h.r1) agg24l size24l ?_)
    | (with_reducible refine wpR_loadW rfl _ _ rfl _ rfl (fun _ h => h.r2) agg24l size24l ?_)
    | ((with_reducible refine wpR_callE rfl 25 _ _ rfl (.agg (arr 24 x0)) (#[.agg (arr 24 x0)]) rfl ?_ ?_ ?_); (exact enters_of Try.func25 (by kernel_rfl) rfl); (intro w' h'; with_reducible exact toRack_any x0 w'))
    | ((with_reducible refine wpR_callE rfl 25 _ _ rfl (.agg (arr 24 x1)) (#[.agg (arr 24 x1)]) rfl ?_ ?_ ?_); (exact enters_of Try.func25 (by kernel_rfl) rfl); (intro w' h'; with_reducible exact toRack_any x1 w'))
    | ((with_reducible refine wpR_callE rfl 37 _ _ rfl (.tuple #[.agg (arr 6 (rtR x0 x1).1), .bool (rtR x0 x1).2]) (#[.agg (arr 24 x0), .agg (arr 24 x1)]) rfl ?_ ?_ ?_); (exact enters_of Try.func37 (by kernel_rfl) rfl); (intro w' h'; with_reducible exact implRt_any x0 x1 w'))
    | ((with_reducible refine wpR_step (fun K hK => ?_)); go_simp; (first | (refine ⟨_, fun _ _ => rfl, hK _ ?_⟩) | (refine hK _ ?_)); clear hK K))
  refine wpR_nil ?_
  intro BhB wt hWhB hCt hB
  replace hbel := hbel.trans (hCt.2.mono hbel.size)
  replace hr0 := hCt.r1
  replace hr1 := hCt.r2
  replace hA := hCt.r3
  clear hCt
  go_wp2_with first
    | (with_reducible refine wpList_storeWN rfl _ _ _ rfl _ rfl rfl hB size6 hbel (by have := hbel.size; omega) ?_; intro w2 g3 ho g4; replace hr0 := (ho _ (by omega)).trans hr0; replace hr1 := (ho _ (by omega)).trans hr1; replace hA := (ho _ (by omega)).trans hA; clear hbel hB; have hB := g3; have hbel := g4; clear g3 g4 ho)
  refine QN.intro ?_
  go_wp2_with first
    | (with_reducible refine wpList_loadW rfl _ _ rfl _ rfl hA agg6 size6 ?_)
    | (with_reducible refine wpList_loadW rfl _ _ rfl _ rfl hB agg6 size6 ?_)
    | (go_at_call 21; (with_reducible refine (eqIntA6_same _ _).mono ?_); (rintro e w3 ⟨rfl, hb1⟩; replace hbel := hbel.trans (hb1.mono hbel.size); clear hb1))
  go_ret
  exact ⟨rfl, hbel⟩
end Go.Proofs.Ytljajgaicdffkaa
