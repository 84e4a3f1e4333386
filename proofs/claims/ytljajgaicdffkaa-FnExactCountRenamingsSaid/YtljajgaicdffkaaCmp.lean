/- The order of tubes and of racks: the program's comparisons. -/
import Derived.Test.YtljajgaicdffkaaRackD
import Derived.Test.YtljajgaicdffkaaFloat
import Derived.Test.YtljajgaicdffkaaFork
import Derived.Test.YtljajgaicdffkaaSl
import Derived.Test.YtljajgaicdffkaaFormP
import Derived.Test.YtljajgaicdffkaaConv
namespace Go.Proofs.Ytljajgaicdffkaa
set_option linter.unusedSimpArgs false
set_option linter.unusedVariables false
set_option maxRecDepth 20000
open Go.RowKit
theorem lexC_val (a b : Nat → Int) : ∀ k, lexC a b k = 0 ∨ lexC a b k = -1 ∨ lexC a b k = 1
  | 0 => .inl rfl
  | k + 1 => by
    have := lexC_val a b k
    simp only [lexC]
    split
    · exact this
    · split
      · simp
      · split <;> simp
theorem lexC_shift {a b : Nat → Int} {n : Nat} (h : lexC a b n = 0) : ∀ k, lexC a b (n + k) = lexC (fun j => a (n + j)) (fun j => b (n + j)) k
  | 0 => h
  | k + 1 => by
    have ih := lexC_shift h k
    rw [show n + (k + 1) = (n + k) + 1 from rfl]
    simp only [lexC, ih]
theorem lexC_stop {a b : Nat → Int} {n : Nat} (h : lexC a b n ≠ 0) : ∀ k, lexC a b (n + k) = lexC a b n
  | 0 => rfl
  | k + 1 => by
    have ih := lexC_stop h k
    rw [show n + (k + 1) = (n + k) + 1 from rfl]
    simp only [lexC, ih, if_pos h]
def c3 (x y : Int) : Int := if x < y then -1 else if y < x then 1 else 0
theorem lexC_next {a b : Nat → Int} {n : Nat} (h : lexC a b n = 0) : lexC a b (n + 1) = c3 (a n) (b n) := by
  simp only [lexC, h, c3]
  simp
theorem isNaN_int (x : Int) (w : World) : Calls Try.prog 126 #[.int .i64 x] w fun e w' => e = .returned (.bool false) ∧ w = w' := by
  go_enter Try.func126, Try.ntmps126
  go_wp2_with fail
  go_ret
  simp
theorem cmpI_any (x y : Int) (w : World) : Calls Try.prog 108 #[.int .i64 x, .int .i64 y] w fun e w' => e = .returned (.int .i64 (c3 x y)) ∧ w = w' := by
  unfold c3
  by_cases h : x < y
  · rw [if_pos h]
    go_enter Try.func108, Try.ntmps108
    go_wp2_with first
      | (go_at_call 126; (with_reducible refine (isNaN_int _ _).mono ?_); rintro e w' ⟨rfl, rfl⟩)
    go_ret
    exact ⟨rfl, rfl⟩
  · rw [if_neg h]
    by_cases h2 : y < x
    · rw [if_pos h2]
      go_enter Try.func108, Try.ntmps108
      go_wp2_with first
        | (go_at_call 126; (with_reducible refine (isNaN_int _ _).mono ?_); rintro e w' ⟨rfl, rfl⟩)
      go_ret
      exact ⟨rfl, rfl⟩
    · rw [if_neg h2]
      go_enter Try.func108, Try.ntmps108
      go_wp2_with first
        | (go_at_call 126; (with_reducible refine (isNaN_int _ _).mono ?_); rintro e w' ⟨rfl, rfl⟩)
      go_ret
      exact ⟨rfl, rfl⟩
theorem cmpS_any {B1 o1 c1 n1 B2 o2 c2 n2 n : Nat} {f g : Nat → Int} {T1 T2 : TypeId} {fr1 fr2 : Nat × Nat} (w : World) (h1 : w.heap[B1]? = some (.cells (arr n1 f) T1 fr1)) (h2 : w.heap[B2]? = some (.cells (arr n2 g) T2 fr2)) (hl1 : o1 + n ≤ n1) (hl2 : o2 + n ≤ n2) (hm : n ≤ 1000) :
    Calls Try.prog 87 #[.slice (some ⟨B1, o1, none⟩) n c1, .slice (some ⟨B2, o2, none⟩) n c2] w fun e w' => e = .returned (.int .i64 (lexC (fun j => f (o1 + j)) (fun j => g (o2 + j)) n)) ∧ w = w' := by
  go_enter Try.func87, Try.ntmps87
  go_wp2_with fail
  go_loop [11] (fun i => ∃ k : Nat, k ≤ n ∧ i = .int .i64 k ∧ lexC (fun j => f (o1 + j)) (fun j => g (o2 + j)) k = 0) (fun i => n - (intOf i).toNat)
  case atStart => exact ⟨0, by omega, rfl, rfl⟩
  case round =>
    obtain ⟨k, hk, rfl, h0⟩ := hrel
    by_cases hlt : k < n
    · have hlt' : (k : Int) < (n : Int) := by omega
      have hc1 := rowcell h1 (i := o1 + k) (by omega)
      have hc2 := rowcell h2 (i := o2 + k) (by omega)
      have HN : Hid (lexC (fun j => f (o1 + j)) (fun j => g (o2 + j)) (k + 1) = c3 (f (o1 + k)) (g (o2 + k))) := lexC_next h0
      by_cases hz : c3 (f (o1 + k)) (g (o2 + k)) = 0
      · have HZ : Hid _ := hz
        clear hz h0
        go_wp2_with first
          | (go_at_call 108; (with_reducible refine (cmpI_any _ _ _).mono ?_); rw [HZ.out]; rintro e w' ⟨rfl, rfl⟩)
        go_round
        case rel => exact ⟨k + 1, by omega, by go_num, by rw [HN.out]; exact HZ.out⟩
        case measure => simp [intOf]; omega
      · have HS : Hid (lexC (fun j => f (o1 + j)) (fun j => g (o2 + j)) n = c3 (f (o1 + k)) (g (o2 + k))) := by
          have := lexC_stop (a := fun j => f (o1 + j)) (b := fun j => g (o2 + j)) (n := k + 1) (by rw [HN.out]; exact hz) (n - (k + 1))
          rw [show k + 1 + (n - (k + 1)) = n by omega, HN.out] at this
          exact this
        obtain ⟨z, hzz⟩ : ∃ z, c3 (f (o1 + k)) (g (o2 + k)) = z := ⟨_, rfl⟩
        rw [hzz] at hz
        have HZ : Hid _ := hzz
        have hzd : (z != 0) = true := by simpa using hz
        clear hzz h0
        go_wp2_with first
          | (go_at_call 108; (with_reducible refine (cmpI_any _ _ _).mono ?_); rw [HZ.out]; rintro e w' ⟨rfl, rfl⟩)
        go_ret
        exact ⟨ret_int (HZ.out.symm.trans HS.out.symm), rfl⟩
    · obtain rfl : k = n := by omega
      have H0 : Hid _ := h0
      clear h0
      go_wp2_with fail
      go_ret
      exact ⟨ret_int H0.out.symm, rfl⟩
/-- Two tubes compared. -/
theorem cmpTubes_any (f g : Nat → Int) (w : World) : Calls Try.prog 70 #[.agg (arr 4 f), .agg (arr 4 g)] w fun e w' => e = .returned (.int .i64 (lexC f g 4)) ∧ Below w.heap.size w w' := by
  have h1 : ((w.alloc (.cells (arr 4 f) 29)).alloc (.cells (arr 4 g) 29)).heap[w.heap.size]? = some (.cells (arr 4 f) 29 (0, 0)) := by rw [heap_old (by simp), heap_new rfl]
  have h2 : ((w.alloc (.cells (arr 4 f) 29)).alloc (.cells (arr 4 g) 29)).heap[w.heap.size + 1]? = some (.cells (arr 4 g) 29 (0, 0)) := heap_new (by simp)
  have hbel : Below w.heap.size w ((w.alloc (.cells (arr 4 f) 29)).alloc (.cells (arr 4 g) 29)) := ((Below.refl _ _).alloc (by simp) _).alloc (by simp) _
  have HZ : Hid (lexC (fun j => f (0 + j)) (fun j => g (0 + j)) 4 = lexC f g 4) := by
    show lexC (fun j => f (0 + j)) (fun j => g (0 + j)) 4 = lexC f g 4
    simp only [Nat.zero_add]
  go_enter Try.func70, Try.ntmps70
  go_wp2_with fail
  refine wp_region_held 3 (Cls w _) (by kernel_rfl) (by kernel_rfl) (Cls.two h1 h2 hbel) ?_; simp only [List.take_succ_cons, List.take_zero, List.drop_succ_cons, List.drop_zero]
  repeat (first
    | ((with_reducible refine wpQuiet_call rfl 87 _ _ rfl (.int .i64 (lexC f g 4)) ?_ ?_ ?_); (exact enters_of Try.func87 (by kernel_rfl) rfl); (intro w' h'; refine (cmpS_any w' h'.r1 h'.r2 (by omega) (by omega) (by omega)).mono fun _ _ ⟨he, hb⟩ => ⟨he.trans (ret_int HZ.out), hb ▸ h'⟩))
    | ((with_reducible refine wpQuiet_step (fun K hK => ?_)); go_simp; (first | (refine ⟨_, fun _ _ => rfl, hK _ ?_⟩) | (refine ⟨_, fun _ _ => ⟨rfl, rfl⟩, hK _ ?_⟩) | (refine hK _ ?_)); clear hK K))
  refine wpQuiet_nil ?_
  intro wt hCt
  replace hbel := hCt.2
  go_wp2_with first
    | fail
  go_ret
  exact ⟨rfl, hbel⟩
/-- Two racks' tubes compared. -/
theorem cmpFunc_any {B1 o1 c1 n1 B2 o2 c2 n2 n : Nat} {f g : Nat → Int} {T1 T2 : TypeId} {fr1 fr2 : Nat × Nat} (w : World) (h1 : w.heap[B1]? = some (.cells (arr n1 f) T1 fr1)) (h2 : w.heap[B2]? = some (.cells (arr n2 g) T2 fr2)) (hl1 : o1 + 4 * n ≤ n1) (hl2 : o2 + 4 * n ≤ n2) (hm : n ≤ 1000) :
    Calls Try.prog 90 #[.slice (some ⟨B1, o1, none⟩) n c1, .slice (some ⟨B2, o2, none⟩) n c2, .func (.func 70) #[] #[]] w fun e w' => e = .returned (.int .i64 (lexC (fun j => f (o1 + j)) (fun j => g (o2 + j)) (n * 4))) ∧ Below w.heap.size w w' := by
  have hbel : Below w.heap.size w w := Below.refl _ _
  go_enter Try.func90, Try.ntmps90
  go_wp2_with fail
  go_loopw [13] (fun i wr => ∃ k : Nat, k ≤ n ∧ i = .int .i64 k ∧ lexC (fun j => f (o1 + j)) (fun j => g (o2 + j)) (k * 4) = 0 ∧ wr.heap[B1]? = some (.cells (arr n1 f) T1 fr1) ∧ wr.heap[B2]? = some (.cells (arr n2 g) T2 fr2) ∧ Below w.heap.size w wr) (fun i _ => n - (intOf i).toNat)
  case atStart => exact ⟨0, by omega, rfl, by rw [Nat.zero_mul]; rfl, h1, h2, hbel⟩
  case round =>
    clear h1 h2 hbel
    obtain ⟨k, hk, rfl, h0, h1, h2, hbel⟩ := hrel
    by_cases hlt : k < n
    · have hlt' : (k : Int) < (n : Int) := by omega
      have hs := lexC_shift h0 4
      have HN : Hid (lexC (fun j => f (o1 + j)) (fun j => g (o2 + j)) ((k + 1) * 4) = lexC (fun l => f (o1 + k * 4 + l)) (fun l => g (o2 + k * 4 + l)) 4) := by
        show lexC (fun j => f (o1 + j)) (fun j => g (o2 + j)) ((k + 1) * 4) = _
        rw [show (k + 1) * 4 = k * 4 + 4 by omega, hs]
        simp only [Nat.add_assoc]
      clear hs
      have tok_h8 : True := trivial
      have tok_h9 : True := trivial
      have hW1 := row_lt h1
      have hW2 := row_lt h2
      by_cases hz : lexC (fun l => f (o1 + k * 4 + l)) (fun l => g (o2 + k * 4 + l)) 4 = 0
      · have HZ : Hid _ := hz
        clear hz h0
        go_wp2_with first
          | (with_reducible refine wpList_loadA rfl _ _ rfl _ _ rfl h1 4 agg4 size4 (by omega) ?_)
          | (with_reducible refine wpList_loadA rfl _ _ rfl _ _ rfl h2 4 agg4 size4 (by omega) ?_)
          | (have _t := tok_h8; with_reducible refine wpList_allocN rfl 29 rfl 4 zero4 ?_; intro Bh8 w1 hBh8 h8 hb1; have hWh8 := Nat.le_trans hbel.size hBh8; have hLh1h8 := Nat.lt_of_lt_of_le (row_lt h1) hBh8; have hLh2h8 := Nat.lt_of_lt_of_le (row_lt h2) hBh8; replace hbel := hbel.trans (hb1.mono hbel.size); replace h1 := row_keep hb1 h1; replace h2 := row_keep hb1 h2; clear hb1 _t tok_h8)
          | (with_reducible refine wpList_storeWN rfl _ _ _ rfl _ rfl rfl h8 size4 hbel hWh8 ?_; intro w1 g3 ho g4; replace h1 := (ho _ (by omega)).trans h1; replace h2 := (ho _ (by omega)).trans h2; clear h8 hbel; have h8 := g3; have hbel := g4; clear g3 g4 ho)
          | (have _t := tok_h9; with_reducible refine wpList_allocN rfl 29 rfl 4 zero4 ?_; intro Bh9 w1 hBh9 h9 hb1; have hWh9 := Nat.le_trans hbel.size hBh9; have hLh1h9 := Nat.lt_of_lt_of_le (row_lt h1) hBh9; have hLh2h9 := Nat.lt_of_lt_of_le (row_lt h2) hBh9; have hLh8h9 := Nat.lt_of_lt_of_le (row_lt h8) hBh9; replace hbel := hbel.trans (hb1.mono hbel.size); replace h1 := row_keep hb1 h1; replace h2 := row_keep hb1 h2; replace h8 := row_keep hb1 h8; clear hb1 _t tok_h9)
          | (with_reducible refine wpList_storeWN rfl _ _ _ rfl _ rfl rfl h9 size4 hbel hWh9 ?_; intro w1 g3 ho g4; replace h1 := (ho _ (by omega)).trans h1; replace h2 := (ho _ (by omega)).trans h2; replace h8 := (ho _ (by omega)).trans h8; clear h9 hbel; have h9 := g3; have hbel := g4; clear g3 g4 ho)
          | (with_reducible refine wpList_loadW rfl _ _ rfl _ rfl h8 agg4 size4 ?_)
          | (with_reducible refine wpList_loadW rfl _ _ rfl _ rfl h9 agg4 size4 ?_)
          | (with_reducible refine (cmpTubes_any _ _ _).mono ?_; rw [HZ.out]; rintro e w1 ⟨rfl, hb1⟩; replace hbel := hbel.trans (hb1.mono hbel.size); replace h1 := row_keep hb1 h1; replace h2 := row_keep hb1 h2; clear hb1)
        go_roundw
        case rel => exact ⟨k + 1, by omega, by go_num, by rw [HN.out]; exact HZ.out, h1, h2, hbel⟩
        case measure => simp [intOf]; omega
      · obtain ⟨z, hzz⟩ : ∃ z, lexC (fun l => f (o1 + k * 4 + l)) (fun l => g (o2 + k * 4 + l)) 4 = z := ⟨_, rfl⟩
        have HS : Hid (lexC (fun j => f (o1 + j)) (fun j => g (o2 + j)) (n * 4) = z) := by
          have := lexC_stop (a := fun j => f (o1 + j)) (b := fun j => g (o2 + j)) (n := (k + 1) * 4) (by rw [HN.out]; exact hz) (n * 4 - (k + 1) * 4)
          rw [show (k + 1) * 4 + (n * 4 - (k + 1) * 4) = n * 4 by omega, HN.out, hzz] at this
          exact this
        rw [hzz] at hz
        have HZ : Hid _ := hzz
        have hzd : (z != 0) = true := by simpa using hz
        clear hzz h0
        go_wp2_with first
          | (with_reducible refine wpList_loadA rfl _ _ rfl _ _ rfl h1 4 agg4 size4 (by omega) ?_)
          | (with_reducible refine wpList_loadA rfl _ _ rfl _ _ rfl h2 4 agg4 size4 (by omega) ?_)
          | (have _t := tok_h8; with_reducible refine wpList_allocN rfl 29 rfl 4 zero4 ?_; intro Bh8 w1 hBh8 h8 hb1; have hWh8 := Nat.le_trans hbel.size hBh8; have hLh1h8 := Nat.lt_of_lt_of_le (row_lt h1) hBh8; have hLh2h8 := Nat.lt_of_lt_of_le (row_lt h2) hBh8; replace hbel := hbel.trans (hb1.mono hbel.size); replace h1 := row_keep hb1 h1; replace h2 := row_keep hb1 h2; clear hb1 _t tok_h8)
          | (with_reducible refine wpList_storeWN rfl _ _ _ rfl _ rfl rfl h8 size4 hbel hWh8 ?_; intro w1 g3 ho g4; replace h1 := (ho _ (by omega)).trans h1; replace h2 := (ho _ (by omega)).trans h2; clear h8 hbel; have h8 := g3; have hbel := g4; clear g3 g4 ho)
          | (have _t := tok_h9; with_reducible refine wpList_allocN rfl 29 rfl 4 zero4 ?_; intro Bh9 w1 hBh9 h9 hb1; have hWh9 := Nat.le_trans hbel.size hBh9; have hLh1h9 := Nat.lt_of_lt_of_le (row_lt h1) hBh9; have hLh2h9 := Nat.lt_of_lt_of_le (row_lt h2) hBh9; have hLh8h9 := Nat.lt_of_lt_of_le (row_lt h8) hBh9; replace hbel := hbel.trans (hb1.mono hbel.size); replace h1 := row_keep hb1 h1; replace h2 := row_keep hb1 h2; replace h8 := row_keep hb1 h8; clear hb1 _t tok_h9)
          | (with_reducible refine wpList_storeWN rfl _ _ _ rfl _ rfl rfl h9 size4 hbel hWh9 ?_; intro w1 g3 ho g4; replace h1 := (ho _ (by omega)).trans h1; replace h2 := (ho _ (by omega)).trans h2; replace h8 := (ho _ (by omega)).trans h8; clear h9 hbel; have h9 := g3; have hbel := g4; clear g3 g4 ho)
          | (with_reducible refine wpList_loadW rfl _ _ rfl _ rfl h8 agg4 size4 ?_)
          | (with_reducible refine wpList_loadW rfl _ _ rfl _ rfl h9 agg4 size4 ?_)
          | (with_reducible refine (cmpTubes_any _ _ _).mono ?_; rw [HZ.out]; rintro e w1 ⟨rfl, hb1⟩; replace hbel := hbel.trans (hb1.mono hbel.size); replace h1 := row_keep hb1 h1; replace h2 := row_keep hb1 h2; clear hb1)
        go_ret
        exact ⟨ret_int HS.out.symm, hbel⟩
    · obtain rfl : k = n := by omega
      have H0 : Hid _ := h0
      clear h0
      go_wp2_with fail
      go_ret
      exact ⟨ret_int H0.out.symm, hbel⟩
theorem cmpRacks_any (f g : Nat → Int) (w : World) : Calls Try.prog 74 #[.agg (arr 24 f), .agg (arr 24 g)] w fun e w' => e = .returned (.int .i64 (lexC f g 24)) ∧ Below w.heap.size w w' := by
  have h1 : ((w.alloc (.cells (arr 24 f) 33)).alloc (.cells (arr 24 g) 33)).heap[w.heap.size]? = some (.cells (arr 24 f) 33 (0, 0)) := by rw [heap_old (by simp), heap_new rfl]
  have h2 : ((w.alloc (.cells (arr 24 f) 33)).alloc (.cells (arr 24 g) 33)).heap[w.heap.size + 1]? = some (.cells (arr 24 g) 33 (0, 0)) := heap_new (by simp)
  have hbel : Below w.heap.size w ((w.alloc (.cells (arr 24 f) 33)).alloc (.cells (arr 24 g) 33)) := ((Below.refl _ _).alloc (by simp) _).alloc (by simp) _
  have HZ : Hid (lexC (fun j => f (0 + j)) (fun j => g (0 + j)) (6 * 4) = lexC f g 24) := by
    show lexC (fun j => f (0 + j)) (fun j => g (0 + j)) 24 = lexC f g 24
    simp only [Nat.zero_add]
  go_enter Try.func74, Try.ntmps74
  go_wp2_with fail
  refine wp_region_held 5 (Cls w _) (by kernel_rfl) (by kernel_rfl) (Cls.two h1 h2 hbel) ?_; simp only [List.take_succ_cons, List.take_zero, List.drop_succ_cons, List.drop_zero]
  repeat (first
    | ((with_reducible refine wpQuiet_call rfl 90 _ _ rfl (.int .i64 (lexC f g 24)) ?_ ?_ ?_); (exact enters_of Try.func90 (by kernel_rfl) rfl); (intro w' h'; refine (cmpFunc_any (n := 6) w' h'.r1 h'.r2 (by omega) (by omega) (by omega)).mono fun _ _ ⟨he, hb⟩ => ⟨he.trans (ret_int HZ.out), h'.keep hb⟩))
    | ((with_reducible refine wpQuiet_step (fun K hK => ?_)); go_simp; (first | (refine ⟨_, fun _ _ => rfl, hK _ ?_⟩) | (refine ⟨_, fun _ _ => ⟨rfl, rfl⟩, hK _ ?_⟩) | (refine hK _ ?_)); clear hK K))
  refine wpQuiet_nil ?_
  intro wt hCt
  replace hbel := hCt.2
  go_wp2_with first
    | fail
  go_ret
  exact ⟨rfl, hbel⟩
theorem lexC_neg {a b : Nat → Int} {n : Nat} (h : lexC a b n = 0) (hne : a n ≠ b n) {m : Nat} (hm : n < m) : decide (lexC a b m < 0) = decide (a n < b n) := by
  have h1 := lexC_next h
  have hz : lexC a b (n + 1) ≠ 0 := by
    rw [h1]; unfold c3
    split
    · omega
    · split
      · omega
      · omega
  have h2 := lexC_stop hz (m - (n + 1))
  rw [show n + 1 + (m - (n + 1)) = m by omega] at h2
  rw [h2, h1, Bool.eq_iff_iff, decide_eq_true_iff, decide_eq_true_iff]
  unfold c3
  split
  · omega
  · split <;> omega
theorem l2Before_any (f g : Nat → Int) (w : World) : Calls Try.prog 75 #[.agg (arr 24 f), .agg (arr 24 g)] w fun e w' => e = .returned (.bool (decide (lexC f g 24 < 0))) ∧ Below w.heap.size w w' := by
  have h1 : ((w.alloc (.cells (arr 24 f) 33)).alloc (.cells (arr 24 g) 33)).heap[w.heap.size]? = some (.cells (arr 24 f) 33 (0, 0)) := by rw [heap_old (by simp), heap_new rfl]
  have h2 : ((w.alloc (.cells (arr 24 f) 33)).alloc (.cells (arr 24 g) 33)).heap[w.heap.size + 1]? = some (.cells (arr 24 g) 33 (0, 0)) := heap_new (by simp)
  have hbel : Below w.heap.size w ((w.alloc (.cells (arr 24 f) 33)).alloc (.cells (arr 24 g) 33)) := ((Below.refl _ _).alloc (by simp) _).alloc (by simp) _
  go_enter Try.func75, Try.ntmps75
  go_wp2_with fail
  go_loopw [5] (fun i wr => ∃ k : Nat, k ≤ 6 ∧ i = .int .i64 k ∧ lexC f g (k * 4) = 0 ∧ wr.heap[w.heap.size]? = some (.cells (arr 24 f) 33 (0, 0)) ∧ wr.heap[w.heap.size + 1]? = some (.cells (arr 24 g) 33 (0, 0)) ∧ Below w.heap.size w wr) (fun i _ => 6 - (intOf i).toNat)
  case atStart => exact ⟨0, by omega, rfl, rfl, h1, h2, hbel⟩
  case round =>
    clear h1 h2 hbel
    obtain ⟨k, hk, rfl, h0, h1, h2, hbel⟩ := hrel
    obtain ⟨wo, hwo⟩ : ∃ wo : World, wo = wr := ⟨_, rfl⟩
    rw [← hwo] at h1 h2 hbel ⊢
    clear hwo
    by_cases hlt : k < 6
    · have hlt' : (k : Int) < 6 := by omega
      have hk0 : (0 : Int) ≤ k := by omega
      go_wp2_with fail
      go_loopw [6] (fun i wr => ∃ j : Nat, j ≤ 4 ∧ i = .int .i64 j ∧ lexC f g (k * 4 + j) = 0 ∧ wr.heap[w.heap.size]? = some (.cells (arr 24 f) 33 (0, 0)) ∧ wr.heap[w.heap.size + 1]? = some (.cells (arr 24 g) 33 (0, 0)) ∧ Below w.heap.size w wr) (fun i _ => 4 - (intOf i).toNat)
      case atStart => exact ⟨0, by omega, rfl, h0, h1, h2, hbel⟩
      case round =>
        clear h1 h2 hbel h0
        obtain ⟨j, hj, rfl, h0, h1, h2, hbel⟩ := hrel
        by_cases hjt : j < 4
        · have hjt' : (j : Int) < 4 := by omega
          by_cases he : f (k * 4 + j) = g (k * 4 + j)
          · have HS : Hid (lexC f g (k * 4 + (j + 1)) = 0) := by
              show lexC f g (k * 4 + j + 1) = 0
              rw [lexC_next h0, he]
              simp [c3]
            have hed : (f (k * 4 + j) != g (k * 4 + j)) = false := by simpa using he
            clear he h0
            go_wp2_with fail
            refine wp_region_held 13 (Cls w _) (by kernel_rfl) (by kernel_rfl) (Cls.two h1 h2 hbel) ?_; simp only [List.take_succ_cons, List.take_zero, List.drop_succ_cons, List.drop_zero]
            repeat (first
              | (with_reducible refine wpQuiet_loadI rfl _ _ rfl _ _ rfl (fun _ h => h.r1) aggI undI (by omega) ?_)
              | (with_reducible refine wpQuiet_loadI rfl _ _ rfl _ _ rfl (fun _ h => h.r2) aggI undI (by omega) ?_)
              | ((with_reducible refine wpQuiet_step (fun K hK => ?_)); go_simp; (first | (refine ⟨_, fun _ _ => rfl, hK _ ?_⟩) | (refine ⟨_, fun _ _ => ⟨rfl, rfl⟩, hK _ ?_⟩) | (refine hK _ ?_)); clear hK K))
            refine wpQuiet_nil ?_
            intro wt hCt
            replace h1 := hCt.r1
            replace h2 := hCt.r2
            replace hbel := hCt.2
            clear hCt
            go_wp2_with fail
            go_roundw
            case rel => exact ⟨j + 1, by omega, by go_num, HS.out, h1, h2, hbel⟩
            case measure => simp [intOf]; omega
          · have hed : (f (k * 4 + j) != g (k * 4 + j)) = true := by simpa using he
            have HS : Hid (decide (lexC f g 24 < 0) = decide (f (k * 4 + j) < g (k * 4 + j))) := lexC_neg h0 he (by omega)
            clear he h0
            go_wp2_with fail
            refine wp_region_held 13 (Cls w _) (by kernel_rfl) (by kernel_rfl) (Cls.two h1 h2 hbel) ?_; simp only [List.take_succ_cons, List.take_zero, List.drop_succ_cons, List.drop_zero]
            repeat (first
              | (with_reducible refine wpQuiet_loadI rfl _ _ rfl _ _ rfl (fun _ h => h.r1) aggI undI (by omega) ?_)
              | (with_reducible refine wpQuiet_loadI rfl _ _ rfl _ _ rfl (fun _ h => h.r2) aggI undI (by omega) ?_)
              | ((with_reducible refine wpQuiet_step (fun K hK => ?_)); go_simp; (first | (refine ⟨_, fun _ _ => rfl, hK _ ?_⟩) | (refine ⟨_, fun _ _ => ⟨rfl, rfl⟩, hK _ ?_⟩) | (refine hK _ ?_)); clear hK K))
            refine wpQuiet_nil ?_
            intro wt hCt
            replace h1 := hCt.r1
            replace h2 := hCt.r2
            replace hbel := hCt.2
            clear hCt
            go_wp2_with fail
            refine wp_region_held 13 (Cls w _) (by kernel_rfl) (by kernel_rfl) (Cls.two h1 h2 hbel) ?_; simp only [List.take_succ_cons, List.take_zero, List.drop_succ_cons, List.drop_zero]
            repeat (first
              | (with_reducible refine wpQuiet_loadI rfl _ _ rfl _ _ rfl (fun _ h => h.r1) aggI undI (by omega) ?_)
              | (with_reducible refine wpQuiet_loadI rfl _ _ rfl _ _ rfl (fun _ h => h.r2) aggI undI (by omega) ?_)
              | ((with_reducible refine wpQuiet_step (fun K hK => ?_)); go_simp; (first | (refine ⟨_, fun _ _ => rfl, hK _ ?_⟩) | (refine ⟨_, fun _ _ => ⟨rfl, rfl⟩, hK _ ?_⟩) | (refine hK _ ?_)); clear hK K))
            refine wpQuiet_nil ?_
            intro wt hCt
            replace h1 := hCt.r1
            replace h2 := hCt.r2
            replace hbel := hCt.2
            clear hCt
            go_wp2_with fail
            go_ret
            exact ⟨ret_bool HS.out.symm, hbel⟩
        · obtain rfl : j = 4 := by omega
          have HS : Hid (lexC f g ((k + 1) * 4) = 0) := by show lexC f g ((k + 1) * 4) = 0; rw [show (k + 1) * 4 = k * 4 + 4 by omega]; exact h0
          clear h0
          go_wp2_with fail
          go_roundw
          case rel => exact ⟨k + 1, by omega, by go_num, HS.out, h1, h2, hbel⟩
          case measure => simp [intOf]; omega
    · obtain rfl : k = 6 := by omega
      have H0 : Hid (decide (lexC f g 24 < 0) = false) := by show decide (lexC f g 24 < 0) = false; rw [show lexC f g 24 = 0 from h0]; rfl
      clear h0
      go_wp2_with fail
      go_ret
      exact ⟨ret_bool H0.out.symm, hbel⟩
def lessR (f g : Nat → Int) : Bool × Bool := if rackB f = true ∧ rackB g = true then (decide (lexC f g 24 < 0), true) else (false, false)
theorem size24L : (Try.prog.info? 32).map (·.size) = some 24 := by kernel_rfl
theorem agg24L : aggB Try.prog 32 = true := by kernel_rfl
end Go.Proofs.Ytljajgaicdffkaa
