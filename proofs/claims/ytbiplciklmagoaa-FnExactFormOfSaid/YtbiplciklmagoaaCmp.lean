/- The order of tubes and of racks: the program's comparisons. -/
import Derived.Test.YtbiplciklmagoaaRackD
import Derived.Test.YtbiplciklmagoaaFloat
import Derived.Test.YtbiplciklmagoaaFork
import Derived.Test.YtbiplciklmagoaaSl
import Derived.Test.YtbiplciklmagoaaFormP
import Derived.Test.YtbiplciklmagoaaConv
namespace Go.Proofs.Ytbiplciklmagoaa
set_option linter.unusedSimpArgs false
set_option linter.unusedVariables false
set_option maxRecDepth 20000
open Go.RowKit
theorem lexC_val (a b : Nat → Int) : ∀ k, lexC a b k = 0 ∨ lexC a b k = -1 ∨ lexC a b k = 1
  | 0 => .inl rfl
  | k + 1 => by
    have := lexC_val a b k
    simp only [lexC]
    split
    · exact this
    · split
      · simp
      · split <;> simp
theorem lexC_shift {a b : Nat → Int} {n : Nat} (h : lexC a b n = 0) : ∀ k, lexC a b (n + k) = lexC (fun j => a (n + j)) (fun j => b (n + j)) k
  | 0 => h
  | k + 1 => by
    have ih := lexC_shift h k
    rw [show n + (k + 1) = (n + k) + 1 from rfl]
    simp only [lexC, ih]
theorem lexC_stop {a b : Nat → Int} {n : Nat} (h : lexC a b n ≠ 0) : ∀ k, lexC a b (n + k) = lexC a b n
  | 0 => rfl
  | k + 1 => by
    have ih := lexC_stop h k
    rw [show n + (k + 1) = (n + k) + 1 from rfl]
    simp only [lexC, ih, if_pos h]
def c3 (x y : Int) : Int := if x < y then -1 else if y < x then 1 else 0
theorem lexC_next {a b : Nat → Int} {n : Nat} (h : lexC a b n = 0) : lexC a b (n + 1) = c3 (a n) (b n) := by
  simp only [lexC, h, c3]
  simp
theorem isNaN_int (x : Int) (w : World) : Calls Try.prog 132 #[.int .i64 x] w fun e w' => e = .returned (.bool false) ∧ w = w' := by
  go_enter Try.func132, Try.ntmps132
  go_wp2_with fail
  go_ret
  simp
theorem cmpI_any (x y : Int) (w : World) : Calls Try.prog 141 #[.int .i64 x, .int .i64 y] w fun e w' => e = .returned (.int .i64 (c3 x y)) ∧ w = w' := by
  unfold c3
  by_cases h : x < y
  · rw [if_pos h]
    go_enter Try.func141, Try.ntmps141
    go_wp2_with first
      | (go_at_call 132; (with_reducible refine (isNaN_int _ _).mono ?_); rintro e w' ⟨rfl, rfl⟩)
    go_ret
    exact ⟨rfl, rfl⟩
  · rw [if_neg h]
    by_cases h2 : y < x
    · rw [if_pos h2]
      go_enter Try.func141, Try.ntmps141
      go_wp2_with first
        | (go_at_call 132; (with_reducible refine (isNaN_int _ _).mono ?_); rintro e w' ⟨rfl, rfl⟩)
      go_ret
      exact ⟨rfl, rfl⟩
    · rw [if_neg h2]
      go_enter Try.func141, Try.ntmps141
      go_wp2_with first
        | (go_at_call 132; (with_reducible refine (isNaN_int _ _).mono ?_); rintro e w' ⟨rfl, rfl⟩)
      go_ret
      exact ⟨rfl, rfl⟩
theorem cmpS_any {B1 o1 c1 n1 B2 o2 c2 n2 n : Nat} {f g : Nat → Int} {T1 T2 : TypeId} {fr1 fr2 : Nat × Nat} (w : World) (h1 : w.heap[B1]? = some (.cells (arr n1 f) T1 fr1)) (h2 : w.heap[B2]? = some (.cells (arr n2 g) T2 fr2)) (hl1 : o1 + n ≤ n1) (hl2 : o2 + n ≤ n2) (hm : n ≤ 1000) :
    Calls Try.prog 124 #[.slice (some ⟨B1, o1, none⟩) n c1, .slice (some ⟨B2, o2, none⟩) n c2] w fun e w' => e = .returned (.int .i64 (lexC (fun j => f (o1 + j)) (fun j => g (o2 + j)) n)) ∧ w = w' := by
  go_enter Try.func124, Try.ntmps124
  go_wp2_with fail
  go_loop [11] (fun i => ∃ k : Nat, k ≤ n ∧ i = .int .i64 k ∧ lexC (fun j => f (o1 + j)) (fun j => g (o2 + j)) k = 0) (fun i => n - (intOf i).toNat)
  case atStart => exact ⟨0, by omega, rfl, rfl⟩
  case round =>
    obtain ⟨k, hk, rfl, h0⟩ := hrel
    by_cases hlt : k < n
    · have hlt' : (k : Int) < (n : Int) := by omega
      have hc1 := rowcell h1 (i := o1 + k) (by omega)
      have hc2 := rowcell h2 (i := o2 + k) (by omega)
      have HN : Hid (lexC (fun j => f (o1 + j)) (fun j => g (o2 + j)) (k + 1) = c3 (f (o1 + k)) (g (o2 + k))) := lexC_next h0
      by_cases hz : c3 (f (o1 + k)) (g (o2 + k)) = 0
      · have HZ : Hid _ := hz
        clear hz h0
        go_wp2_with first
          | (go_at_call 141; (with_reducible refine (cmpI_any _ _ _).mono ?_); rw [HZ.out]; rintro e w' ⟨rfl, rfl⟩)
        go_round
        case rel => exact ⟨k + 1, by omega, by go_num, by rw [HN.out]; exact HZ.out⟩
        case measure => simp [intOf]; omega
      · have HS : Hid (lexC (fun j => f (o1 + j)) (fun j => g (o2 + j)) n = c3 (f (o1 + k)) (g (o2 + k))) := by
          have := lexC_stop (a := fun j => f (o1 + j)) (b := fun j => g (o2 + j)) (n := k + 1) (by rw [HN.out]; exact hz) (n - (k + 1))
          rw [show k + 1 + (n - (k + 1)) = n by omega, HN.out] at this
          exact this
        obtain ⟨z, hzz⟩ : ∃ z, c3 (f (o1 + k)) (g (o2 + k)) = z := ⟨_, rfl⟩
        rw [hzz] at hz
        have HZ : Hid _ := hzz
        have hzd : (z != 0) = true := by simpa using hz
        clear hzz h0
        go_wp2_with first
          | (go_at_call 141; (with_reducible refine (cmpI_any _ _ _).mono ?_); rw [HZ.out]; rintro e w' ⟨rfl, rfl⟩)
        go_ret
        exact ⟨ret_int (HZ.out.symm.trans HS.out.symm), rfl⟩
    · obtain rfl : k = n := by omega
      have H0 : Hid _ := h0
      clear h0
      go_wp2_with fail
      go_ret
      exact ⟨ret_int H0.out.symm, rfl⟩
/-- Two tubes compared. -/
theorem cmpTubes_any (f g : Nat → Int) (w : World) : Calls Try.prog 105 #[.agg (arr 4 f), .agg (arr 4 g)] w fun e w' => e = .returned (.int .i64 (lexC f g 4)) ∧ Below w.heap.size w w' := by
  have h1 : ((w.alloc (.cells (arr 4 f) 22)).alloc (.cells (arr 4 g) 22)).heap[w.heap.size]? = some (.cells (arr 4 f) 22 (0, 0)) := by rw [heap_old (by simp), heap_new rfl]
  have h2 : ((w.alloc (.cells (arr 4 f) 22)).alloc (.cells (arr 4 g) 22)).heap[w.heap.size + 1]? = some (.cells (arr 4 g) 22 (0, 0)) := heap_new (by simp)
  have hbel : Below w.heap.size w ((w.alloc (.cells (arr 4 f) 22)).alloc (.cells (arr 4 g) 22)) := ((Below.refl _ _).alloc (by simp) _).alloc (by simp) _
  have HZ : Hid (lexC (fun j => f (0 + j)) (fun j => g (0 + j)) 4 = lexC f g 4) := by
    show lexC (fun j => f (0 + j)) (fun j => g (0 + j)) 4 = lexC f g 4
    simp only [Nat.zero_add]
  go_enter Try.func105, Try.ntmps105
  go_wp2_with fail
  refine wp_region_held 3 (Cls w _) (by kernel_rfl) (by kernel_rfl) (Cls.two h1 h2 hbel) ?_; simp only [List.take_succ_cons, List.take_zero, List.drop_succ_cons, List.drop_zero]
  repeat (first
    | ((with_reducible refine wpQuiet_call rfl 124 _ _ rfl (.int .i64 (lexC f g 4)) ?_ ?_ ?_); (exact enters_of Try.func124 (by kernel_rfl) rfl); (intro w' h'; refine (cmpS_any w' h'.r1 h'.r2 (by omega) (by omega) (by omega)).mono fun _ _ ⟨he, hb⟩ => ⟨he.trans (ret_int HZ.out), hb ▸ h'⟩))
    | ((with_reducible refine wpQuiet_step (fun K hK => ?_)); go_simp; (first | (refine ⟨_, fun _ _ => rfl, hK _ ?_⟩) | (refine ⟨_, fun _ _ => ⟨rfl, rfl⟩, hK _ ?_⟩) | (refine hK _ ?_)); clear hK K))
  refine wpQuiet_nil ?_
  intro wt hCt
  replace hbel := hCt.2
  go_wp2_with first
    | fail
  go_ret
  exact ⟨rfl, hbel⟩
theorem lexC_neg {a b : Nat → Int} {n : Nat} (h : lexC a b n = 0) (hne : a n ≠ b n) {m : Nat} (hm : n < m) : decide (lexC a b m < 0) = decide (a n < b n) := by
  have h1 := lexC_next h
  have hz : lexC a b (n + 1) ≠ 0 := by
    rw [h1]; unfold c3
    split
    · omega
    · split
      · omega
      · omega
  have h2 := lexC_stop hz (m - (n + 1))
  rw [show n + 1 + (m - (n + 1)) = m by omega] at h2
  rw [h2, h1, Bool.eq_iff_iff, decide_eq_true_iff, decide_eq_true_iff]
  unfold c3
  split
  · omega
  · split <;> omega
def lessR (f g : Nat → Int) : Bool × Bool := if rackB f = true ∧ rackB g = true then (decide (lexC f g 24 < 0), true) else (false, false)
theorem size24L : (Try.prog.info? 25).map (·.size) = some 24 := by kernel_rfl
theorem agg24L : aggB Try.prog 25 = true := by kernel_rfl
end Go.Proofs.Ytbiplciklmagoaa
