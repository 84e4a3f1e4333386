/- MeanMoved: the program's and the reference's, and the law. -/
import Derived.Test.YtbiplciklmagoaaTopC
import Derived.Test.YtbiplciklmagoaaCanA
import Derived.Test.YtbiplciklmagoaaPour
import Derived.Test.YtbiplciklmagoaaViewAt
import Derived.Test.YtbiplciklmagoaaSlaw
namespace Go.Proofs.Ytbiplciklmagoaa
set_option linter.unusedSimpArgs false
set_option linter.unusedVariables false
set_option maxRecDepth 20000
open Go.RowKit
def chkB : Bool := (List.range 19).all fun all => (List.range 19).all fun same => (List.range 5).all fun m => !(decide (same ≤ all) && decide (0 < m) && decide (m ≤ all + 1)) || ((List.range 5).all fun n => !(decide (n ≤ m)) || ((decide (n = 0) || (decide ((spT all same m n).1 < 1000000) && decide ((spT all same m n).2 < 1000000) && decide (0 < (spT all same m n).2))) &&
    (List.range 5).all fun room => decide ((sumS all same m room n).1 < 1000000) && decide ((sumS all same m room n).2 < 1000000) && decide (0 < (sumS all same m room n).2)))
theorem chkB_true : chkB = true := by decide +kernel
theorem mean_bd {all same m n : Nat} (h1 : all < 19) (h2 : same ≤ all) (h3 : m < 5) (h4 : 0 < m) (h5 : m ≤ all + 1) (hn : n ≤ m) : (0 < n → (spT all same m n).1 < 1000000 ∧ (spT all same m n).2 < 1000000 ∧ 0 < (spT all same m n).2) ∧ ∀ room, room < 5 → (sumS all same m room n).1 < 1000000 ∧ (sumS all same m room n).2 < 1000000 ∧ 0 < (sumS all same m room n).2 := by
  have h := chkB_true
  unfold chkB at h
  simp only [List.all_eq_true, List.mem_range] at h
  have := h all h1 same (by omega) m h3
  simp only [decide_eq_true h2, decide_eq_true h4, decide_eq_true h5, Bool.and_true, Bool.not_true, Bool.false_or, List.all_eq_true, List.mem_range] at this
  have := this n (by omega)
  simp only [decide_eq_true hn, Bool.not_true, Bool.false_or, Bool.and_eq_true, Bool.or_eq_true, decide_eq_true_iff, List.all_eq_true, List.mem_range] at this
  obtain ⟨a, b⟩ := this
  refine ⟨fun hp => ?_, fun room hr => ?_⟩
  · rcases a with a | a
    · omega
    · exact ⟨a.1.1, a.1.2, a.2⟩
  · have := b room hr
    exact ⟨this.1.1, this.1.2, this.2⟩
theorem fr_le {a b : Nat} (hb : 0 < b) : (fr a b).1 ≤ a ∧ (fr a b).2 ≤ b ∧ 0 < (fr a b).2 := by
  unfold fr
  have hg := Nat.gcd_pos_of_pos_right a hb
  exact ⟨Nat.div_le_self _ _, Nat.div_le_self _ _, Nat.div_pos (Nat.le_of_dvd hb (Nat.gcd_dvd_right a b)) hg⟩
theorem own_le {A S m k : Nat} (hS : S ≤ A) (hA : A ≤ 18) (hm : m ≤ 4) : ownT A S m k ≤ 198359290368 := by
  unfold ownT
  split
  · omega
  · split
    · have h0 := wys_bd (t := k - 1) (show S ≤ 18 by omega) (by omega)
      have h1 : wys S (k - 1) * (A - S) ≤ 104976 * 18 := Nat.mul_le_mul h0 (by omega)
      have h2 : wys S (k - 1) * (A - S) * chs A k (m - 1 - k) ≤ 104976 * 18 * 104976 := Nat.mul_le_mul h1 (chs_bd hA (by omega))
      omega
    · split
      · have h0 := wys_bd (t := k - 1) (show S ≤ 18 by omega) (by omega)
        omega
      · omega
theorem meanS_le {A S m r : Nat} (hS : S ≤ A) (hA : A ≤ 18) (hm : m ≤ 4) (hr : r ≤ 4) : ∀ n, meanS A S m r n ≤ n * 793437161472
  | 0 => by simp [meanS]
  | n + 1 => by
    have := meanS_le hS hA hm hr n
    have h1 : ownT A S m n * min n r ≤ 198359290368 * 4 := Nat.mul_le_mul (own_le hS hA hm) (by omega)
    simp only [meanS]
    omega
def canX (v : Nat → Int) (i k : Nat) : Bool := if i = k then false else canB v i k
theorem l7Can_same (v : Nat → Int) (i : Nat) (w : World) : Calls Try.prog 63 #[.agg (arr 18 v), .int .i64 i, .int .i64 i] w fun e w' => e = .returned (.bool false) ∧ Below w.heap.size w w' := by
  have h1 : (w.alloc (.cells (arr 18 v) 48)).heap[w.heap.size]? = some (.cells (arr 18 v) 48 (0, 0))   := heap_new rfl
  have hbel : Below w.heap.size w (w.alloc (.cells (arr 18 v) 48)) := (Below.refl _ _).alloc (by simp) _
  go_enter Try.func63, Try.ntmps63
  go_wp2_with first
    | fail
  refine wp_region_held 36 (Cls w _) (by kernel_rfl) (by kernel_rfl) (Cls.one h1 hbel) ?_; simp only [List.take_succ_cons, List.take_zero, List.drop_succ_cons, List.drop_zero]
  repeat (first
    | ((with_reducible refine wpQuiet_step (fun K hK => ?_)); go_simp; (first | (refine ⟨_, fun _ _ => rfl, hK _ ?_⟩) | (refine ⟨_, fun _ _ => ⟨rfl, rfl⟩, hK _ ?_⟩) | (refine hK _ ?_)); clear hK K))
  refine wpQuiet_nil ?_
  intro wt hCt
  replace hbel := hCt.2
  go_wp2_with first
    | fail
  go_ret
  exact ⟨rfl, hbel⟩
theorem canPour_same (v : Nat → Int) (i : Nat) (w : World) : Calls Try.prog 69 #[.agg (arr 18 v), .int .i64 i, .int .i64 i] w fun e w' => e = .returned (.bool false) ∧ Below w.heap.size w w' := by
  have h1 : (w.alloc (.cells (arr 18 v) 48)).heap[w.heap.size]? = some (.cells (arr 18 v) 48 (0, 0))   := heap_new rfl
  have hbel : Below w.heap.size w (w.alloc (.cells (arr 18 v) 48)) := (Below.refl _ _).alloc (by simp) _
  go_enter Try.func69, Try.ntmps69
  go_wp2_with first
    | fail
  refine wp_region_held 36 (Cls w _) (by kernel_rfl) (by kernel_rfl) (Cls.one h1 hbel) ?_; simp only [List.take_succ_cons, List.take_zero, List.drop_succ_cons, List.drop_zero]
  repeat (first
    | ((with_reducible refine wpQuiet_step (fun K hK => ?_)); go_simp; (first | (refine ⟨_, fun _ _ => rfl, hK _ ?_⟩) | (refine ⟨_, fun _ _ => ⟨rfl, rfl⟩, hK _ ?_⟩) | (refine hK _ ?_)); clear hK K))
  refine wpQuiet_nil ?_
  intro wt hCt
  replace hbel := hCt.2
  go_wp2_with first
    | fail
  go_ret
  exact ⟨rfl, hbel⟩
theorem l7CanX_any (v : Nat → Int) (i k : Nat) (hi : i < 6) (hk : k < 6) (w : World) : Calls Try.prog 63 #[.agg (arr 18 v), .int .i64 i, .int .i64 k] w fun e w' => e = .returned (.bool (canX v i k)) ∧ Below w.heap.size w w' := by
  unfold canX
  by_cases h : i = k
  · rw [if_pos h, h]
    exact l7Can_same v k w
  · rw [if_neg h]
    exact l7Can_any v i k hi hk h w
theorem canPourX_any (v : Nat → Int) (hv : ∀ i, i < 6 → vok v i) (i k : Nat) (hi : i < 6) (hk : k < 6) (w : World) : Calls Try.prog 69 #[.agg (arr 18 v), .int .i64 i, .int .i64 k] w fun e w' => e = .returned (.bool (canX v i k)) ∧ Below w.heap.size w w' := by
  unfold canX
  by_cases h : i = k
  · rw [if_pos h, h]
    exact canPour_same v k w
  · rw [if_neg h]
    exact viewCan_any v hv i k hi hk h w
theorem l7Plus_any (a b c d : Nat) (ha : a < 10000000) (hb : b < 10000000) (hc : c < 10000000) (hd : d < 10000000) (hb0 : 0 < b) (hd0 : 0 < d) (w : World) : Calls Try.prog 65 #[.agg (arr 2 (rw2 (a, b))), .agg (arr 2 (rw2 (c, d)))] w fun e w' => e = .returned (.agg (arr 2 (rw2 (fr (a * d + c * b) (b * d))))) ∧ Below w.heap.size w w' := by
  have h1 : (((w.alloc (.cells (arr 2 (rw2 (a, b))) 51)).alloc (.cells (arr 2 (rw2 (c, d))) 51)).alloc (.cells (arr 2 fun _ => 0) 51)).heap[w.heap.size]? = some (.cells (arr 2 (rw2 (a, b))) 51 (0, 0)) := by rw [heap_old (by simp <;> omega), heap_old (by simp), heap_new rfl]
  have h2 : (((w.alloc (.cells (arr 2 (rw2 (a, b))) 51)).alloc (.cells (arr 2 (rw2 (c, d))) 51)).alloc (.cells (arr 2 fun _ => 0) 51)).heap[w.heap.size + 1]? = some (.cells (arr 2 (rw2 (c, d))) 51 (0, 0)) := by rw [heap_old (by simp), heap_new (by simp)]
  have h3 : (((w.alloc (.cells (arr 2 (rw2 (a, b))) 51)).alloc (.cells (arr 2 (rw2 (c, d))) 51)).alloc (.cells (arr 2 fun _ => 0) 51)).heap[w.heap.size + 1 + 1]? = some (.cells (arr 2 fun _ => 0) 51 (0, 0)) := heap_new (by simp)
  have hbel : Below w.heap.size w (((w.alloc (.cells (arr 2 (rw2 (a, b))) 51)).alloc (.cells (arr 2 (rw2 (c, d))) 51)).alloc (.cells (arr 2 fun _ => 0) 51)) := (((Below.refl _ _).alloc (by simp) _).alloc (by simp) _).alloc (by simp <;> omega) _
  have m1 : a * d ≤ 10000000 * 10000000 := Nat.mul_le_mul (by omega) (by omega)
  have m2 : c * b ≤ 10000000 * 10000000 := Nat.mul_le_mul (by omega) (by omega)
  have m3 : b * d ≤ 10000000 * 10000000 := Nat.mul_le_mul (by omega) (by omega)
  have m0 : 0 < b * d := Nat.mul_pos hb0 hd0
  have e1 : wrap64 ((a : Int) * (d : Int)) = ((a * d : Nat) : Int) := by rw [← Int.natCast_mul]; unfold wrap64; omega
  have e2 : wrap64 ((c : Int) * (b : Int)) = ((c * b : Nat) : Int) := by rw [← Int.natCast_mul]; unfold wrap64; omega
  have e3 : wrap64 ((b : Int) * (d : Int)) = ((b * d : Nat) : Int) := by rw [← Int.natCast_mul]; unfold wrap64; omega
  have E1 : Hid _ := e1
  have E2 : Hid _ := e2
  have E3 : Hid _ := e3
  have HM : Hid (a * d ≤ 10000000 * 10000000 ∧ c * b ≤ 10000000 * 10000000 ∧ b * d ≤ 10000000 * 10000000 ∧ 0 < b * d) := ⟨m1, m2, m3, m0⟩
  clear e1 e2 e3 m0 m1 m2 m3
  go_enter Try.func65, Try.ntmps65
  go_wp2_with first
    | (with_reducible refine wpList_allocA rfl 51 rfl 2 c2z ?_; (try simp only [size_al]))
    | ((with_reducible refine wpList_loadI rfl _ _ rfl _ _ rfl h1 aggI undI (by omega) ?_); (first | rw [rw2_0] | rw [rw2_1]))
    | ((with_reducible refine wpList_loadI rfl _ _ rfl _ _ rfl h2 aggI undI (by omega) ?_); (first | rw [rw2_0] | rw [rw2_1]))
    | (go_at_call 66; (with_reducible refine (l7Cut_at (a := a * d + c * b) (b := b * d) (by rw [E1.out, E2.out]; have := HM.out; unfold wrap64; omega) E3.out HM.out.2.2.2 (by have := HM.out; omega) (by have := HM.out; omega) _).mono ?_); rintro e w1 ⟨rfl, hb1⟩; replace hbel := hbel.trans (hb1.mono hbel.size); replace h3 := row_keep hb1 h3; clear hb1)
    | (with_reducible refine wpList_storeW rfl _ _ _ rfl _ rfl rfl h3 c2s ?_)
  exact bodyPost_ret_by (results_cellA rfl _ _ _ _ _ _ _ rfl (setRow_heap _ _ _ _ _ _ h3) c2a c2s) rfl ⟨rfl, below_setRow2 hbel (by omega) _⟩
theorem l1Least_at {x y : Int} {k : Nat} (h : min x y = k) (w : World) : Calls Try.prog 67 #[.int .i64 x, .int .i64 y] w fun e w' => e = .returned (.int .i64 k) ∧ Below w.heap.size w w' := by
  rw [← h]
  exact (l1Least_any x y w).mono fun _ _ ⟨he, hw⟩ => ⟨he, hw ▸ Below.refl _ _⟩
theorem l7Plus_at {p q : Nat × Nat} (h : (p.1 < 10000000 ∧ p.2 < 10000000 ∧ 0 < p.2) ∧ (q.1 < 10000000 ∧ q.2 < 10000000 ∧ 0 < q.2)) (w : World) : Calls Try.prog 65 #[.agg (arr 2 (rw2 p)), .agg (arr 2 (rw2 q))] w fun e w' => e = .returned (.agg (arr 2 (rw2 (fr (p.1 * q.2 + q.1 * p.2) (p.2 * q.2))))) ∧ Below w.heap.size w w' :=
  l7Plus_any p.1 p.2 q.1 q.2 h.1.1 h.1.2.1 h.2.1 h.2.2.1 h.1.2.2 h.2.2.2 w
theorem l7Top_at {x : Int} (v : Nat → Int) (hx : ∀ j, I64 (v j)) (hf : viewB v = true) (n A S m run : Nat) (hn : n < 6) (hA : hsum v 6 = A) (hS : lft v 6 (v n).toNat = S) (hm : v (6 + n) = m) (hm1 : 1 ≤ m) (hr1 : 1 ≤ run) (hr4 : run ≤ 4) (w : World) (e : x = (run : Nat)) : Calls Try.prog 64 #[.agg (arr 18 v), .int .i64 n, .int .i64 x] w fun e w' => e = .returned (.agg (arr 2 (rw2 (spT A S m run)))) ∧ Below w.heap.size w w' := by
  subst e
  exact l7Top_any v hx hf n A S m run hn hA hS hm hm1 hr1 hr4 w
noncomputable def mmR (v : Nat → Int) (i k : Int) : (Nat → Int) × Bool := if viewB v = true ∧ (0 ≤ i ∧ i ≤ 5) ∧ (0 ≤ k ∧ k ≤ 5) ∧ canX v i.toNat k.toNat = true then (rw2 (sumS (hsum v 6).toNat (lft v 6 (v i.toNat).toNat).toNat (v (6 + i.toNat)).toNat (4 - (v (6 + k.toNat)).toNat) (v (6 + i.toNat)).toNat), true) else (fun _ => 0, false)
theorem mmR_bad {v : Nat → Int} {i k : Int} (h : ¬ (viewB v = true ∧ (0 ≤ i ∧ i ≤ 5) ∧ (0 ≤ k ∧ k ≤ 5) ∧ canX v i.toNat k.toNat = true)) : mmR v i k = (fun _ => 0, false) := if_neg h
theorem mmR_ok {v : Nat → Int} {i k : Int} (h : viewB v = true ∧ (0 ≤ i ∧ i ≤ 5) ∧ (0 ≤ k ∧ k ≤ 5) ∧ canX v i.toNat k.toNat = true) : mmR v i k = (rw2 (sumS (hsum v 6).toNat (lft v 6 (v i.toNat).toNat).toNat (v (6 + i.toNat)).toNat (4 - (v (6 + k.toNat)).toNat) (v (6 + i.toNat)).toNat), true) := if_pos h
theorem specMm_any (v : Nat → Int) (hx : ∀ j, I64 (v j)) (i k : Int) (w : World) : Calls Try.prog 29 #[.agg (arr 18 v), .int .i64 i, .int .i64 k] w fun e w' => e = .returned (.tuple #[.agg (arr 2 (mmR v i k).1), .bool (mmR v i k).2]) ∧ Below w.heap.size w w' := by
  have h1 : ((w.alloc (.cells (arr 18 v) 48)).alloc (.cells (arr 2 fun _ => 0) 51)).heap[w.heap.size]? = some (.cells (arr 18 v) 48 (0, 0)) := by rw [heap_old (by simp), heap_new rfl]
  have h2 : ((w.alloc (.cells (arr 18 v) 48)).alloc (.cells (arr 2 fun _ => 0) 51)).heap[w.heap.size + 1]? = some (.cells (arr 2 fun _ => 0) 51 (0, 0)) := heap_new (by simp)
  have hbel : Below w.heap.size w ((w.alloc (.cells (arr 18 v) 48)).alloc (.cells (arr 2 fun _ => 0) 51)) := ((Below.refl _ _).alloc (by simp) _).alloc (by simp) _
  have tok_r : True := trivial
  have tok_h8 : True := trivial
  cases hf : viewB v with
  | false =>
    rw [mmR_bad (by simp [hf])]
    have HF : Hid _ := hf
    have HI : Hid (1 = 1) := rfl
    have HK : Hid (1 = 1) := rfl
    have HC : Hid (1 = 1) := rfl
    clear hf
    go_enter Try.func29, Try.ntmps29
    go_wp2_with first
      | (with_reducible refine wpList_allocA rfl 51 rfl 2 c2z ?_; (try simp only [size_al]))
      | (with_reducible refine wpList_loadW rfl _ _ rfl _ rfl h1 agg18r size18r ?_)
      | (with_reducible refine wpList_loadWG rfl _ _ rfl _ rfl h1 agg18r size18r ?_)
      | (with_reducible refine wpList_build0 rfl 51 rfl 2 c2b0 ?_)
      | (with_reducible refine wpList_storeW rfl _ _ _ rfl _ rfl rfl h2 c2s ?_)
      | (go_at_call 60; (with_reducible refine (l7Good_any v hx _).mono ?_); rw [HF.out]; rintro e w1 ⟨rfl, hb1⟩; replace hbel := hbel.trans (hb1.mono hbel.size); replace h1 := row_keep hb1 h1; replace h2 := row_keep hb1 h2; clear hb1)
      | (go_at_call 44; (with_reducible refine (l2Place_any _ _).mono ?_); (first | rw [HI.out] | rw [HK.out]); rintro e w' ⟨rfl, rfl⟩)
      | (go_at_call 63; (with_reducible refine (l7CanX_any v n l hn hl _).mono ?_); rw [HC.out]; rintro e w1 ⟨rfl, hb1⟩; replace hbel := hbel.trans (hb1.mono hbel.size); replace h1 := row_keep hb1 h1; replace h2 := row_keep hb1 h2; clear hb1)
    exact bodyPost_ret_by (results_ct _ _ _ _ _ _ _ rfl rfl (setRow_heap _ _ _ _ _ _ h2) c2a c2s) rfl ⟨rfl, below_setRow2 hbel (by omega) _⟩
  | true =>
    have HF : Hid _ := hf
    have HV : Hid (∀ i, i < 6 → vok v i) := (viewB_iff.1 hf).1
    by_cases hi : 0 ≤ i ∧ i ≤ 5
    · have HI : Hid _ := show (decide (0 ≤ i) && decide (i ≤ 5)) = true by simpa using hi
      obtain ⟨n, rfl⟩ : ∃ n : Nat, i = n := ⟨i.toNat, by omega⟩
      have hn : n < 6 := by omega
      have hn6 : (n : Int) < 6 := by omega
      by_cases hk : 0 ≤ k ∧ k ≤ 5
      · have HK : Hid _ := show (decide (0 ≤ k) && decide (k ≤ 5)) = true by simpa using hk
        obtain ⟨l, rfl⟩ : ∃ l : Nat, k = l := ⟨k.toNat, by omega⟩
        have hl : l < 6 := by omega
        have hl6 : (l : Int) < 6 := by omega
        cases hc : canX v n l with
        | false =>
          rw [mmR_bad (fun h => by have := h.2.2.2; simp only [Int.toNat_natCast] at this; rw [hc] at this; exact absurd this (by decide))]
          have HC : Hid _ := hc
          clear hf hi hk hc
          go_enter Try.func29, Try.ntmps29
          go_wp2_with first
            | (with_reducible refine wpList_allocA rfl 51 rfl 2 c2z ?_; (try simp only [size_al]))
            | (with_reducible refine wpList_loadW rfl _ _ rfl _ rfl h1 agg18r size18r ?_)
            | (with_reducible refine wpList_loadWG rfl _ _ rfl _ rfl h1 agg18r size18r ?_)
            | (with_reducible refine wpList_build0 rfl 51 rfl 2 c2b0 ?_)
            | (with_reducible refine wpList_storeW rfl _ _ _ rfl _ rfl rfl h2 c2s ?_)
            | (go_at_call 60; (with_reducible refine (l7Good_any v hx _).mono ?_); rw [HF.out]; rintro e w1 ⟨rfl, hb1⟩; replace hbel := hbel.trans (hb1.mono hbel.size); replace h1 := row_keep hb1 h1; replace h2 := row_keep hb1 h2; clear hb1)
            | (go_at_call 44; (with_reducible refine (l2Place_any _ _).mono ?_); (first | rw [HI.out] | rw [HK.out]); rintro e w' ⟨rfl, rfl⟩)
            | (go_at_call 63; (with_reducible refine (l7CanX_any v n l hn hl _).mono ?_); rw [HC.out]; rintro e w1 ⟨rfl, hb1⟩; replace hbel := hbel.trans (hb1.mono hbel.size); replace h1 := row_keep hb1 h1; replace h2 := row_keep hb1 h2; clear hb1)
          exact bodyPost_ret_by (results_ct _ _ _ _ _ _ _ rfl rfl (setRow_heap _ _ _ _ _ _ h2) c2a c2s) rfl ⟨rfl, below_setRow2 hbel (by omega) _⟩
        | true =>
          have HC : Hid _ := hc
          rw [mmR_ok ⟨hf, hi, hk, by simp only [Int.toNat_natCast]; exact hc⟩]
          have hcb : decide (0 < v (6 + n)) = true ∧ decide (v (6 + l) < 4) = true := by
            unfold canX canB at hc
            split at hc
            · cases hc
            · rw [Bool.and_eq_true, Bool.and_eq_true] at hc
              exact hc.1
          rw [decide_eq_true_iff, decide_eq_true_iff] at hcb
          obtain ⟨⟨va, vb⟩, ⟨vc, vd⟩, ve⟩ := HV.out n hn
          obtain ⟨⟨wa, wb⟩, ⟨wc, wd⟩, we⟩ := HV.out l hl
          obtain ⟨A, hA⟩ : ∃ A : Nat, hsum v 6 = A := ⟨(hsum v 6).toNat, (hsum_nat HV.out).1⟩
          obtain ⟨S, hS⟩ : ∃ S : Nat, lft v 6 (v n).toNat = S := ⟨(lft v 6 (v n).toNat).toNat, by have := lft_sm hx hf (show (v n).toNat < 6 by omega); omega⟩
          obtain ⟨m, hM⟩ : ∃ m : Nat, v (6 + n) = m := ⟨(v (6 + n)).toNat, by omega⟩
          obtain ⟨h, hH⟩ : ∃ h : Nat, v (6 + l) = h := ⟨(v (6 + l)).toNat, by omega⟩
          have hm1 : 1 ≤ m := by omega
          have hm4 : m ≤ 4 := by omega
          have hh3 : h ≤ 3 := by omega
          have hA18 : A ≤ 18 := by have := hsum_nat HV.out; omega
          have hmA : m ≤ A + 1 := by have := hsum_ge HV.out hn (by omega); omega
          have hSA : S ≤ A := by have := lft_le_hsum hx hf (show (v n).toNat < 6 by omega); omega
          simp only [Int.toNat_natCast]
          rw [hA, hS, hM, hH]
          simp only [Int.toNat_natCast]
          have HA : Hid _ := hA
          have HSS : Hid _ := hS
          have HM : Hid _ := hM
          have HH : Hid _ := hH
          clear hf hi hk hc hA hS hM hH va vb vc vd ve wa wb wc wd we hcb
          go_enter Try.func29, Try.ntmps29
          go_wp2_with first
            | (have _t := tok_r; (with_reducible refine wpList_allocA rfl 51 rfl 2 c2z ?_; (try simp only [size_al])); clear _t tok_r)
            | (with_reducible refine wpList_loadW rfl _ _ rfl _ rfl h1 agg18r size18r ?_)
            | (with_reducible refine wpList_loadWG rfl _ _ rfl _ rfl h1 agg18r size18r ?_)
            | (with_reducible refine wpList_build2 rfl _ _ _ _ _ rfl rfl rfl (c2b _ _) ?_)
            | (have _t := tok_h8; with_reducible refine wpList_allocN rfl 51 rfl 2 c2z ?_; intro Bh8 w1 hBh8 h8 hb1; have hWh8 := Nat.le_trans hbel.size hBh8; have hLh1h8 := Nat.lt_of_lt_of_le (row_lt h1) hBh8; have hLh2h8 := Nat.lt_of_lt_of_le (row_lt h2) hBh8; replace hbel := hbel.trans (hb1.mono hbel.size); replace h1 := row_keep hb1 h1; replace h2 := row_keep hb1 h2; clear hb1 _t tok_h8)
            | (with_reducible refine wpList_storeWN rfl _ _ _ rfl _ rfl rfl h8 c2s hbel hWh8 ?_; intro w1 g3 ho g4; replace h1 := (ho _ (by omega)).trans h1; replace h2 := (ho _ (by omega)).trans h2; clear h8 hbel; have h8 := g3; have hbel := g4; clear g3 g4 ho)
            | (go_at_call 60; (with_reducible refine (l7Good_any v hx _).mono ?_); rw [HF.out]; rintro e w1 ⟨rfl, hb1⟩; replace hbel := hbel.trans (hb1.mono hbel.size); replace h1 := row_keep hb1 h1; replace h2 := row_keep hb1 h2; clear hb1)
            | (go_at_call 44; (with_reducible refine (l2Place_any _ _).mono ?_); (first | rw [HI.out] | rw [HK.out]); rintro e w' ⟨rfl, rfl⟩)
            | (go_at_call 63; (with_reducible refine (l7CanX_any v n l hn hl _).mono ?_); rw [HC.out]; rintro e w1 ⟨rfl, hb1⟩; replace hbel := hbel.trans (hb1.mono hbel.size); replace h1 := row_keep hb1 h1; replace h2 := row_keep hb1 h2; clear hb1)
          rw [show (fun j : Nat => if j = 0 then (0 : Int) else 1) = rw2 (sumS A S m (4 - h) 0) from rfl] at h8
          go_loopw [9] (fun t wr => ∃ q : Nat, q ≤ m ∧ t = .int .i64 (q + 1 : Nat) ∧ wr.heap[w.heap.size]? = some (.cells (arr 18 v) 48 (0, 0)) ∧ wr.heap[w.heap.size + 1]? = some (.cells (arr 2 fun _ => 0) 51 (0, 0)) ∧ wr.heap[Bh8]? = some (.cells (arr 2 (rw2 (sumS A S m (4 - h) q))) 51 (0, 0)) ∧ Below w.heap.size w wr) (fun t _ => m + 1 - (intOf t).toNat)
          case atStart => exact ⟨0, by omega, rfl, h1, h2, h8, hbel⟩
          case round =>
            clear h1 h2 h8 hbel
            obtain ⟨q, hq, rfl, h1, h2, h8, hbel⟩ := hrel
            have tok_h10 : True := trivial
            by_cases hlt : q < m
            · have hlt' : (q : Int) + 1 ≤ (m : Int) := by omega
              have hrows := row_lt h8
              have HMB : Hid (∀ n, n ≤ m → (0 < n → (spT A S m n).1 < 1000000 ∧ (spT A S m n).2 < 1000000 ∧ 0 < (spT A S m n).2) ∧ ∀ room, room < 5 → (sumS A S m room n).1 < 1000000 ∧ (sumS A S m room n).2 < 1000000 ∧ 0 < (sumS A S m room n).2) := fun n hn => mean_bd (by omega) hSA (by omega) (by omega) hmA hn
              have hs1 := (HMB.out q (by omega)).2 (4 - h) (by omega)
              have hs2 := (HMB.out (q + 1) (by omega)).1 (by omega)
              obtain ⟨⟨a, b⟩, hab⟩ : ∃ p : Nat × Nat, spT A S m (q + 1) = p := ⟨_, rfl⟩
              obtain ⟨mn, hmn⟩ : ∃ mn, min (q + 1) (4 - h) = mn := ⟨_, rfl⟩
              rw [hab] at hs2
              simp only at hs2
              have hmn4 : mn ≤ 4 := by omega
              have HMN : Hid (min ((q : Int) + 1) (4 - (h : Int)) = mn) := by show min ((q : Int) + 1) (4 - (h : Int)) = mn; omega
              have m1 : a * mn ≤ 1000000 * 4 := Nat.mul_le_mul (by omega) hmn4
              have hfr := fr_le (a := a * mn) hs2.2.2
              have HS : Hid (sumS A S m (4 - h) (q + 1) = fr ((sumS A S m (4 - h) q).1 * (fr (a * mn) b).2 + (fr (a * mn) b).1 * (sumS A S m (4 - h) q).2) ((sumS A S m (4 - h) q).2 * (fr (a * mn) b).2)) := by
                show sumS A S m (4 - h) (q + 1) = _
                rw [sumS, hab, hmn]
              have HB1 : Hid (0 < b ∧ a * mn < 1000000000000000000 ∧ b < 1000000000000000000) := ⟨hs2.2.2, by omega, by omega⟩
              have HB2 : Hid (((sumS A S m (4 - h) q).1 < 10000000 ∧ (sumS A S m (4 - h) q).2 < 10000000 ∧ 0 < (sumS A S m (4 - h) q).2) ∧ ((fr (a * mn) b).1 < 10000000 ∧ (fr (a * mn) b).2 < 10000000 ∧ 0 < (fr (a * mn) b).2)) := ⟨⟨by omega, by omega, hs1.2.2⟩, by omega, by omega, hfr.2.2⟩
              have HAB : Hid _ := hab
              have e0 : IntKind.i64.wrap (4 - (h : Int)) = 4 - (h : Int) := wrapI (by omega) (by omega)
              have e1 : IntKind.i64.wrap ((a : Int) * (mn : Int)) = (a : Int) * (mn : Int) := by
                rw [← Int.natCast_mul]
                exact wrapN rfl (by omega)
              clear hs1 hs2 hab hmn m1 hfr
              have ee : Hid ((q : Int) + 1 = ((q + 1 : Nat) : Int)) := by show (q : Int) + 1 = ((q + 1 : Nat) : Int); omega
              go_wp2_with first
                | (with_reducible refine wpList_loadW rfl _ _ rfl _ rfl h1 agg18r size18r ?_)
                | ((with_reducible refine wpList_loadI rfl _ _ rfl _ _ rfl h1 aggI undI (by omega) ?_); rw [HM.out])
                | (go_at_call 64; (with_reducible refine (l7Top_at v hx HF.out n A S m (q + 1) hn HA.out HSS.out HM.out hm1 (by omega) (by omega) _ ee.out).mono ?_); rw [HAB.out]; rintro e w1 ⟨rfl, hb1⟩; replace hbel := hbel.trans (hb1.mono hbel.size); replace h1 := row_keep hb1 h1; replace h2 := row_keep hb1 h2; replace h8 := row_keep hb1 h8; clear hb1)
                | (have _t := tok_h10; with_reducible refine wpList_allocN rfl 51 rfl 2 c2z ?_; intro Bh10 w1 hBh10 h10 hb1; have hWh10 := Nat.le_trans hbel.size hBh10; have hLh1h10 := Nat.lt_of_lt_of_le (row_lt h1) hBh10; have hLh2h10 := Nat.lt_of_lt_of_le (row_lt h2) hBh10; have hLh8h10 := Nat.lt_of_lt_of_le (row_lt h8) hBh10; replace hbel := hbel.trans (hb1.mono hbel.size); replace h1 := row_keep hb1 h1; replace h2 := row_keep hb1 h2; replace h8 := row_keep hb1 h8; clear hb1 _t tok_h10)
                | (with_reducible refine wpList_storeWN rfl _ _ _ rfl _ rfl rfl h10 c2s hbel hWh10 ?_; intro w1 g3 ho g4; replace h1 := (ho _ (by omega)).trans h1; replace h2 := (ho _ (by omega)).trans h2; replace h8 := (ho _ (by omega)).trans h8; clear h10 hbel; have h10 := g3; have hbel := g4; clear g3 g4 ho)
              obtain ⟨wo, hwo⟩ : ∃ wo : World, wo = w1 := ⟨_, rfl⟩
              rw [← hwo] at h1 h2 h8 h10 hbel ⊢
              clear hwo
              refine wp_region_held 15 (Cls wo []) (by kernel_rfl) (by kernel_rfl) (Cls.zero (Below.refl _ _)) ?_; simp only [List.take_succ_cons, List.take_zero, List.drop_succ_cons, List.drop_zero]
              repeat (first
                | (with_reducible refine wpQuiet_loadW rfl _ _ rfl _ rfl (fun _ h => h.kp h8) c2a c2s ?_)
                | ((with_reducible refine wpQuiet_loadI rfl _ _ rfl _ _ rfl (fun _ h => h.kp h10) aggI undI (by omega) ?_); (first | rw [rw2_0] | rw [rw2_1]))
                | ((with_reducible refine wpQuiet_loadI rfl _ _ rfl _ _ rfl (fun _ h => h.kp h1) aggI undI (by omega) ?_); rw [HH.out])
                | ((with_reducible refine wpQuiet_call rfl 67 _ _ rfl (.int .i64 (mn : Nat)) ?_ ?_ ?_); (exact enters_of Try.func67 (by kernel_rfl) rfl); (intro w' h'; exact (l1Least_at HMN.out w').mono fun _ _ ⟨he, hb⟩ => ⟨he, h'.keep hb⟩))
                | ((with_reducible refine wpQuiet_call rfl 66 _ _ rfl (.agg (arr 2 (rw2 (fr (a * mn) b)))) ?_ ?_ ?_); (exact enters_of Try.func66 (by kernel_rfl) rfl); (intro w' h'; exact (l7Cut_at (Int.natCast_mul _ _).symm rfl HB1.out.1 HB1.out.2.1 HB1.out.2.2 w').mono fun _ _ ⟨he, hb⟩ => ⟨he, h'.keep hb⟩))
                | ((with_reducible refine wpQuiet_call rfl 65 _ _ rfl (.agg (arr 2 (rw2 (sumS A S m (4 - h) (q + 1))))) ?_ ?_ ?_); (exact enters_of Try.func65 (by kernel_rfl) rfl); (intro w' h'; exact (HS.out ▸ l7Plus_at HB2.out w').mono fun _ _ ⟨he, hb⟩ => ⟨he, h'.keep hb⟩))
                | ((with_reducible refine wpQuiet_step (fun K hK => ?_)); go_simp; (first | (refine ⟨_, fun _ _ => rfl, hK _ ?_⟩) | (refine ⟨_, fun _ _ => ⟨rfl, rfl⟩, hK _ ?_⟩) | (refine hK _ ?_)); clear hK K))
              go_simp
              refine wpQuiet_nil ?_; intro wt hCt; replace hCt := hCt.2; replace hbel := hbel.trans (hCt.mono hbel.size); replace h1 := row_keep hCt h1; replace h2 := row_keep hCt h2; replace h8 := row_keep hCt h8; clear hCt
              clear e0 e1
              go_wp2_with first
                | (with_reducible refine wpList_storeWN rfl _ _ _ rfl _ rfl rfl h8 c2s hbel hWh8 ?_; intro w1 g3 ho g4; replace h1 := (ho _ (by omega)).trans h1; replace h2 := (ho _ (by omega)).trans h2; clear h8 hbel; have h8 := g3; have hbel := g4; clear g3 g4 ho)
              go_roundw
              case rel => exact ⟨q + 1, by omega, by go_num, h1, h2, h8, hbel⟩
              case measure => simp [intOf]; omega
            · obtain rfl : q = m := by omega
              have hnl : ¬ ((q : Int) + 1 ≤ (q : Int)) := by omega
              go_wp2_with first
                | ((with_reducible refine wpList_loadI rfl _ _ rfl _ _ rfl h1 aggI undI (by omega) ?_); rw [HM.out])
                | (with_reducible refine wpList_loadW rfl _ _ rfl _ rfl h8 c2a c2s ?_)
                | (with_reducible refine wpList_storeW rfl _ _ _ rfl _ rfl rfl h2 c2s ?_)
              exact bodyPost_ret_by (results_ct _ _ _ _ _ _ _ rfl rfl (setRow_heap _ _ _ _ _ _ h2) c2a c2s) rfl ⟨rfl, below_setRow2 hbel (by omega) _⟩
      · rw [mmR_bad (fun h => hk h.2.2.1)]
        have HK : Hid _ := show (decide (0 ≤ k) && decide (k ≤ 5)) = false by simpa using hk
        have HC : Hid (1 = 1) := rfl
        clear hf hi hk
        go_enter Try.func29, Try.ntmps29
        go_wp2_with first
          | (with_reducible refine wpList_allocA rfl 51 rfl 2 c2z ?_; (try simp only [size_al]))
          | (with_reducible refine wpList_loadW rfl _ _ rfl _ rfl h1 agg18r size18r ?_)
          | (with_reducible refine wpList_loadWG rfl _ _ rfl _ rfl h1 agg18r size18r ?_)
          | (with_reducible refine wpList_build0 rfl 51 rfl 2 c2b0 ?_)
          | (with_reducible refine wpList_storeW rfl _ _ _ rfl _ rfl rfl h2 c2s ?_)
          | (go_at_call 60; (with_reducible refine (l7Good_any v hx _).mono ?_); rw [HF.out]; rintro e w1 ⟨rfl, hb1⟩; replace hbel := hbel.trans (hb1.mono hbel.size); replace h1 := row_keep hb1 h1; replace h2 := row_keep hb1 h2; clear hb1)
          | (go_at_call 44; (with_reducible refine (l2Place_any _ _).mono ?_); (first | rw [HI.out] | rw [HK.out]); rintro e w' ⟨rfl, rfl⟩)
          | (go_at_call 63; (with_reducible refine (l7CanX_any v n l hn hl _).mono ?_); rw [HC.out]; rintro e w1 ⟨rfl, hb1⟩; replace hbel := hbel.trans (hb1.mono hbel.size); replace h1 := row_keep hb1 h1; replace h2 := row_keep hb1 h2; clear hb1)
        exact bodyPost_ret_by (results_ct _ _ _ _ _ _ _ rfl rfl (setRow_heap _ _ _ _ _ _ h2) c2a c2s) rfl ⟨rfl, below_setRow2 hbel (by omega) _⟩
    · rw [mmR_bad (fun h => hi h.2.1)]
      have HI : Hid _ := show (decide (0 ≤ i) && decide (i ≤ 5)) = false by simpa using hi
      have HK : Hid (1 = 1) := rfl
      have HC : Hid (1 = 1) := rfl
      clear hf hi
      go_enter Try.func29, Try.ntmps29
      go_wp2_with first
        | (with_reducible refine wpList_allocA rfl 51 rfl 2 c2z ?_; (try simp only [size_al]))
        | (with_reducible refine wpList_loadW rfl _ _ rfl _ rfl h1 agg18r size18r ?_)
        | (with_reducible refine wpList_loadWG rfl _ _ rfl _ rfl h1 agg18r size18r ?_)
        | (with_reducible refine wpList_build0 rfl 51 rfl 2 c2b0 ?_)
        | (with_reducible refine wpList_storeW rfl _ _ _ rfl _ rfl rfl h2 c2s ?_)
        | (go_at_call 60; (with_reducible refine (l7Good_any v hx _).mono ?_); rw [HF.out]; rintro e w1 ⟨rfl, hb1⟩; replace hbel := hbel.trans (hb1.mono hbel.size); replace h1 := row_keep hb1 h1; replace h2 := row_keep hb1 h2; clear hb1)
        | (go_at_call 44; (with_reducible refine (l2Place_any _ _).mono ?_); (first | rw [HI.out] | rw [HK.out]); rintro e w' ⟨rfl, rfl⟩)
        | (go_at_call 63; (with_reducible refine (l7CanX_any v n l hn hl _).mono ?_); rw [HC.out]; rintro e w1 ⟨rfl, hb1⟩; replace hbel := hbel.trans (hb1.mono hbel.size); replace h1 := row_keep hb1 h1; replace h2 := row_keep hb1 h2; clear hb1)
      exact bodyPost_ret_by (results_ct _ _ _ _ _ _ _ rfl rfl (setRow_heap _ _ _ _ _ _ h2) c2a c2s) rfl ⟨rfl, below_setRow2 hbel (by omega) _⟩
theorem mean_stp {t o q h : Nat} (ht : t < 10000000000000) (ho : o ≤ 198359290368) (hq : q < 5) (hh : h ≤ 4) : wrap64 ((t : Int) + wrap64 ((o : Int) * if 4 - (h : Int) < (q : Int) then 4 - (h : Int) else (q : Int))) = ((t + o * min q (4 - h) : Nat) : Int) := by
  have e : (if 4 - (h : Int) < (q : Int) then 4 - (h : Int) else (q : Int)) = ((min q (4 - h) : Nat) : Int) := by split <;> omega
  have h1 : o * min q (4 - h) ≤ 198359290368 * 4 := Nat.mul_le_mul ho (by omega)
  rw [e, ← Int.natCast_mul]
  obtain ⟨z, hz⟩ : ∃ z, o * min q (4 - h) = z := ⟨_, rfl⟩
  rw [hz] at h1 ⊢
  unfold wrap64
  omega
theorem implMm_any (v : Nat → Int) (hx : ∀ j, I64 (v j)) (i k : Int) (w : World) : Calls Try.prog 30 #[.agg (arr 18 v), .int .i64 i, .int .i64 k] w fun e w' => e = .returned (.tuple #[.agg (arr 2 (mmR v i k).1), .bool (mmR v i k).2]) ∧ Below w.heap.size w w' := by
  have h1 : ((w.alloc (.cells (arr 18 v) 48)).alloc (.cells (arr 2 fun _ => 0) 51)).heap[w.heap.size]? = some (.cells (arr 18 v) 48 (0, 0)) := by rw [heap_old (by simp), heap_new rfl]
  have h2 : ((w.alloc (.cells (arr 18 v) 48)).alloc (.cells (arr 2 fun _ => 0) 51)).heap[w.heap.size + 1]? = some (.cells (arr 2 fun _ => 0) 51 (0, 0)) := heap_new (by simp)
  have hbel : Below w.heap.size w ((w.alloc (.cells (arr 18 v) 48)).alloc (.cells (arr 2 fun _ => 0) 51)) := ((Below.refl _ _).alloc (by simp) _).alloc (by simp) _
  have tok_r : True := trivial
  have tok_h8 : True := trivial
  have h5 : (((w.alloc (.cells (arr 18 v) 48)).alloc (.cells (arr 2 fun _ => 0) 51)).alloc (.cells #[.int .i64 i, .int .i64 k] 3)).heap[w.heap.size + 1 + 1]? = some (.cells #[.int .i64 i, .int .i64 k] 3 (0, 0)) := heap_new (by simp)
  cases hf : viewB v with
  | false =>
    rw [mmR_bad (by simp [hf])]
    have HF : Hid _ := hf
    have HI : Hid (1 = 1) := rfl
    have HK : Hid (1 = 1) := rfl
    have HC : Hid (1 = 1) := rfl
    clear hf
    go_enter Try.func30, Try.ntmps30
    go_wp2_with first
      | (with_reducible refine wpList_allocA rfl 51 rfl 2 c2z ?_; (try simp only [size_al]))
      | (with_reducible refine wpList_loadW rfl _ _ rfl _ rfl h1 agg18r size18r ?_)
      | (with_reducible refine wpList_loadWG rfl _ _ rfl _ rfl h1 agg18r size18r ?_)
      | (with_reducible refine wpList_build0 rfl 51 rfl 2 c2b0 ?_)
      | (with_reducible refine wpList_storeW rfl _ _ _ rfl _ rfl rfl h2 c2s ?_)
      | (go_at_call 68; (with_reducible refine (isViewAt_bad v hx HF.out _ _).mono ?_); rintro e w1 ⟨rfl, hb1⟩; replace hb1 := below_of_alloc hb1; replace hbel := hbel.trans (hb1.mono hbel.size); replace h1 := row_keep hb1 h1; replace h2 := row_keep hb1 h2; clear hb1)
      | (go_at_call 68; (with_reducible refine (isViewAt_two v hx HF.out _ _ _ h5).mono ?_); rw [HI.out, HK.out]; rintro e w1 ⟨rfl, hb1⟩; replace hb1 := below_of_alloc hb1; replace hbel := hbel.trans (hb1.mono hbel.size); replace h1 := row_keep hb1 h1; replace h2 := row_keep hb1 h2; clear hb1)
      | (go_at_call 69; (with_reducible refine (canPourX_any v HV.out n l hn hl _).mono ?_); rw [HC.out]; rintro e w1 ⟨rfl, hb1⟩; replace hbel := hbel.trans (hb1.mono hbel.size); replace h1 := row_keep hb1 h1; replace h2 := row_keep hb1 h2; clear hb1)
    exact bodyPost_ret_by (results_ct _ _ _ _ _ _ _ rfl rfl (setRow_heap _ _ _ _ _ _ h2) c2a c2s) rfl ⟨rfl, below_setRow2 hbel (by omega) _⟩
  | true =>
    have HF : Hid _ := hf
    have HV : Hid (∀ i, i < 6 → vok v i) := (viewB_iff.1 hf).1
    by_cases hi : 0 ≤ i ∧ i ≤ 5
    · have HI : Hid _ := show (decide (0 ≤ i) && decide (i ≤ 5)) = true by simpa using hi
      obtain ⟨n, rfl⟩ : ∃ n : Nat, i = n := ⟨i.toNat, by omega⟩
      have hn : n < 6 := by omega
      have hn6 : (n : Int) < 6 := by omega
      by_cases hk : 0 ≤ k ∧ k ≤ 5
      · have HK : Hid _ := show (decide (0 ≤ k) && decide (k ≤ 5)) = true by simpa using hk
        obtain ⟨l, rfl⟩ : ∃ l : Nat, k = l := ⟨k.toNat, by omega⟩
        have hl : l < 6 := by omega
        have hl6 : (l : Int) < 6 := by omega
        cases hc : canX v n l with
        | false =>
          rw [mmR_bad (fun h => by have := h.2.2.2; simp only [Int.toNat_natCast] at this; rw [hc] at this; exact absurd this (by decide))]
          have HC : Hid _ := hc
          clear hf hi hk hc
          go_enter Try.func30, Try.ntmps30
          go_wp2_with first
            | (with_reducible refine wpList_allocA rfl 51 rfl 2 c2z ?_; (try simp only [size_al]))
            | (with_reducible refine wpList_loadW rfl _ _ rfl _ rfl h1 agg18r size18r ?_)
            | (with_reducible refine wpList_loadWG rfl _ _ rfl _ rfl h1 agg18r size18r ?_)
            | (with_reducible refine wpList_build0 rfl 51 rfl 2 c2b0 ?_)
            | (with_reducible refine wpList_storeW rfl _ _ _ rfl _ rfl rfl h2 c2s ?_)
            | (go_at_call 68; (with_reducible refine (isViewAt_bad v hx HF.out _ _).mono ?_); rintro e w1 ⟨rfl, hb1⟩; replace hb1 := below_of_alloc hb1; replace hbel := hbel.trans (hb1.mono hbel.size); replace h1 := row_keep hb1 h1; replace h2 := row_keep hb1 h2; clear hb1)
            | (go_at_call 68; (with_reducible refine (isViewAt_two v hx HF.out _ _ _ h5).mono ?_); rw [HI.out, HK.out]; rintro e w1 ⟨rfl, hb1⟩; replace hb1 := below_of_alloc hb1; replace hbel := hbel.trans (hb1.mono hbel.size); replace h1 := row_keep hb1 h1; replace h2 := row_keep hb1 h2; clear hb1)
            | (go_at_call 69; (with_reducible refine (canPourX_any v HV.out n l hn hl _).mono ?_); rw [HC.out]; rintro e w1 ⟨rfl, hb1⟩; replace hbel := hbel.trans (hb1.mono hbel.size); replace h1 := row_keep hb1 h1; replace h2 := row_keep hb1 h2; clear hb1)
          exact bodyPost_ret_by (results_ct _ _ _ _ _ _ _ rfl rfl (setRow_heap _ _ _ _ _ _ h2) c2a c2s) rfl ⟨rfl, below_setRow2 hbel (by omega) _⟩
        | true =>
          have HC : Hid _ := hc
          rw [mmR_ok ⟨hf, hi, hk, by simp only [Int.toNat_natCast]; exact hc⟩]
          have hcb : decide (0 < v (6 + n)) = true ∧ decide (v (6 + l) < 4) = true := by
            unfold canX canB at hc
            split at hc
            · cases hc
            · rw [Bool.and_eq_true, Bool.and_eq_true] at hc
              exact hc.1
          rw [decide_eq_true_iff, decide_eq_true_iff] at hcb
          obtain ⟨⟨va, vb⟩, ⟨vc, vd⟩, ve⟩ := HV.out n hn
          obtain ⟨⟨wa, wb⟩, ⟨wc, wd⟩, we⟩ := HV.out l hl
          obtain ⟨A, hA⟩ : ∃ A : Nat, hsum v 6 = A := ⟨(hsum v 6).toNat, (hsum_nat HV.out).1⟩
          obtain ⟨S, hS⟩ : ∃ S : Nat, lft v 6 (v n).toNat = S := ⟨(lft v 6 (v n).toNat).toNat, by have := lft_sm hx hf (show (v n).toNat < 6 by omega); omega⟩
          obtain ⟨m, hM⟩ : ∃ m : Nat, v (6 + n) = m := ⟨(v (6 + n)).toNat, by omega⟩
          obtain ⟨h, hH⟩ : ∃ h : Nat, v (6 + l) = h := ⟨(v (6 + l)).toNat, by omega⟩
          have hm1 : 1 ≤ m := by omega
          have hm4 : m ≤ 4 := by omega
          have hh3 : h ≤ 3 := by omega
          have hA18 : A ≤ 18 := by have := hsum_nat HV.out; omega
          have hmA : m ≤ A + 1 := by have := hsum_ge HV.out hn (by omega); omega
          have hSA : S ≤ A := by have := lft_le_hsum hx hf (show (v n).toNat < 6 by omega); omega
          simp only [Int.toNat_natCast]
          rw [hA, hS, hM, hH]
          simp only [Int.toNat_natCast]
          have HA : Hid _ := hA
          have HSS : Hid _ := hS
          have HM : Hid _ := hM
          have HH : Hid _ := hH
          clear hf hi hk hc hA hS hM hH va vb vc vd ve wa wb wc wd we hcb
          have HCT : Hid (fr (meanS A S m (4 - h) 5) (allT A m) = sumS A S m (4 - h) m) := mean_moved (by omega) hSA (by omega) (by omega) hmA (by omega)
          have HOB : Hid (∀ n, n ≤ 5 → meanS A S m (4 - h) n < 10000000000000) := fun n hn => by have := meanS_le (r := 4 - h) hSA hA18 hm4 (by omega) n; have := Nat.mul_le_mul_right 793437161472 hn; omega
          have HWB : Hid (∀ n, ownT A S m n ≤ 198359290368) := fun n => own_le hSA hA18 hm4
          have HAB : Hid (0 < allT A m ∧ allT A m < 1000000000000000000) := allT_bd hA18 hm4 hmA
          go_enter Try.func30, Try.ntmps30
          go_wp2_with first
            | (have _t := tok_r; (with_reducible refine wpList_allocA rfl 51 rfl 2 c2z ?_; (try simp only [size_al])); clear _t tok_r)
            | (with_reducible refine wpList_loadW rfl _ _ rfl _ rfl h1 agg18r size18r ?_)
            | (with_reducible refine wpList_loadWG rfl _ _ rfl _ rfl h1 agg18r size18r ?_)
            | (with_reducible refine wpList_loadW rfl _ _ rfl _ rfl h8 agg5 size5 ?_)
            | (with_reducible refine wpList_storeWN rfl _ _ _ rfl _ rfl rfl h8 size5 hbel hWh8 ?_; intro w1 g3 ho g4; replace h1 := (ho _ (by omega)).trans h1; replace h2 := (ho _ (by omega)).trans h2; clear h8 hbel; have h8 := g3; have hbel := g4; clear g3 g4 ho)
            | (go_at_call 68; (with_reducible refine (isViewAt_two v hx HF.out _ _ _ h5).mono ?_); rw [HI.out, HK.out]; rintro e w1 ⟨rfl, hb1⟩; replace hb1 := below_of_alloc hb1; replace hbel := hbel.trans (hb1.mono hbel.size); replace h1 := row_keep hb1 h1; replace h2 := row_keep hb1 h2; clear hb1)
            | (go_at_call 69; (with_reducible refine (canPourX_any v HV.out n l hn hl _).mono ?_); rw [HC.out]; rintro e w1 ⟨rfl, hb1⟩; replace hbel := hbel.trans (hb1.mono hbel.size); replace h1 := row_keep hb1 h1; replace h2 := row_keep hb1 h2; clear hb1)
            | (go_at_call 70; (with_reducible refine (tops_any v hx HF.out n A S m hn HA.out HSS.out HM.out hm1 _).mono ?_); rintro e w1 ⟨rfl, hb1⟩; replace hbel := hbel.trans (hb1.mono hbel.size); replace h1 := row_keep hb1 h1; replace h2 := row_keep hb1 h2; clear hb1)
            | (have _t := tok_h8; with_reducible refine wpList_allocN rfl 87 rfl 5 zero5 ?_; intro Bh8 w1 hBh8 h8 hb1; have hWh8 := Nat.le_trans hbel.size hBh8; have hLh1h8 := Nat.lt_of_lt_of_le (row_lt h1) hBh8; have hLh2h8 := Nat.lt_of_lt_of_le (row_lt h2) hBh8; replace hbel := hbel.trans (hb1.mono hbel.size); replace h1 := row_keep hb1 h1; replace h2 := row_keep hb1 h2; clear hb1 _t tok_h8)
          go_loopw [10, 34] (fun s t wr => ∃ q : Nat, q ≤ 5 ∧ s = .int .i64 (meanS A S m (4 - h) q : Nat) ∧ t = .int .i64 q ∧ wr.heap[w.heap.size]? = some (.cells (arr 18 v) 48 (0, 0)) ∧ wr.heap[w.heap.size + 1]? = some (.cells (arr 2 fun _ => 0) 51 (0, 0)) ∧ Below w.heap.size w wr) (fun _ t _ => 5 - (intOf t).toNat)
          case atStart => exact ⟨0, by omega, rfl, rfl, h1, h2, hbel⟩
          case round =>
            clear h1 h2 h8 hbel
            obtain ⟨q, hq, rfl, rfl, h1, h2, hbel⟩ := hrel
            by_cases hlt : q < 5
            · have hlt' : (q : Int) < 5 := by omega
              have hmb := HOB.out q (by omega)
              have hob := HWB.out q
              obtain ⟨o, ho⟩ : ∃ o, ownT A S m q = o := ⟨_, rfl⟩
              obtain ⟨t, ht⟩ : ∃ t, meanS A S m (4 - h) q = t := ⟨_, rfl⟩
              have HS : Hid (meanS A S m (4 - h) (q + 1) = t + o * min q (4 - h)) := by show meanS A S m (4 - h) (q + 1) = _; rw [meanS, ht, ho]
              have HO : Hid _ := ho
              rw [ho] at hob
              rw [ht] at hmb
              rw [ht]
              clear ho ht
              go_wp2_with first
                | ((with_reducible refine wpList_indexI rfl _ _ _ rfl rfl rfl _ Try.underlying87 aggI undI size1 (by omega) ?_); rw [HO.out])
                | ((with_reducible refine wpList_loadI rfl _ _ rfl _ _ rfl h1 aggI undI (by omega) ?_); rw [HH.out])
              go_roundw
              case rel => exact ⟨q + 1, by omega, by rw [HS.out, mean_stp hmb hob (by omega) (by omega)], by go_num, h1, h2, hbel⟩
              case measure => simp [intOf]; omega
            · obtain rfl : q = 5 := by omega
              go_wp2_with first
                | (go_at_call 71; (with_reducible refine (fraction_any (meanS A S m (4 - h) 5) (allT A m) HAB.out.1 (by have := HOB.out 5 (by omega); omega) HAB.out.2 _).mono ?_); rw [HCT.out]; rintro e w1 ⟨rfl, hb1⟩; replace hbel := hbel.trans (hb1.mono hbel.size); replace h1 := row_keep hb1 h1; replace h2 := row_keep hb1 h2; clear hb1)
                | (with_reducible refine wpList_storeW rfl _ _ _ rfl _ rfl rfl h2 c2s ?_)
              exact bodyPost_ret_by (results_ct _ _ _ _ _ _ _ rfl rfl (setRow_heap _ _ _ _ _ _ h2) c2a c2s) rfl ⟨rfl, below_setRow2 hbel (by omega) _⟩
      · rw [mmR_bad (fun h => hk h.2.2.1)]
        have HK : Hid _ := show (decide (0 ≤ k) && decide (k ≤ 5)) = false by simpa using hk
        have HC : Hid (1 = 1) := rfl
        clear hf hi hk
        go_enter Try.func30, Try.ntmps30
        go_wp2_with first
          | (with_reducible refine wpList_allocA rfl 51 rfl 2 c2z ?_; (try simp only [size_al]))
          | (with_reducible refine wpList_loadW rfl _ _ rfl _ rfl h1 agg18r size18r ?_)
          | (with_reducible refine wpList_loadWG rfl _ _ rfl _ rfl h1 agg18r size18r ?_)
          | (with_reducible refine wpList_build0 rfl 51 rfl 2 c2b0 ?_)
          | (with_reducible refine wpList_storeW rfl _ _ _ rfl _ rfl rfl h2 c2s ?_)
          | (go_at_call 68; (with_reducible refine (isViewAt_bad v hx HF.out _ _).mono ?_); rintro e w1 ⟨rfl, hb1⟩; replace hb1 := below_of_alloc hb1; replace hbel := hbel.trans (hb1.mono hbel.size); replace h1 := row_keep hb1 h1; replace h2 := row_keep hb1 h2; clear hb1)
          | (go_at_call 68; (with_reducible refine (isViewAt_two v hx HF.out _ _ _ h5).mono ?_); rw [HI.out, HK.out]; rintro e w1 ⟨rfl, hb1⟩; replace hb1 := below_of_alloc hb1; replace hbel := hbel.trans (hb1.mono hbel.size); replace h1 := row_keep hb1 h1; replace h2 := row_keep hb1 h2; clear hb1)
          | (go_at_call 69; (with_reducible refine (canPourX_any v HV.out n l hn hl _).mono ?_); rw [HC.out]; rintro e w1 ⟨rfl, hb1⟩; replace hbel := hbel.trans (hb1.mono hbel.size); replace h1 := row_keep hb1 h1; replace h2 := row_keep hb1 h2; clear hb1)
        exact bodyPost_ret_by (results_ct _ _ _ _ _ _ _ rfl rfl (setRow_heap _ _ _ _ _ _ h2) c2a c2s) rfl ⟨rfl, below_setRow2 hbel (by omega) _⟩
    · rw [mmR_bad (fun h => hi h.2.1)]
      have HI : Hid _ := show (decide (0 ≤ i) && decide (i ≤ 5)) = false by simpa using hi
      have HK : Hid (1 = 1) := rfl
      have HC : Hid (1 = 1) := rfl
      clear hf hi
      go_enter Try.func30, Try.ntmps30
      go_wp2_with first
        | (with_reducible refine wpList_allocA rfl 51 rfl 2 c2z ?_; (try simp only [size_al]))
        | (with_reducible refine wpList_loadW rfl _ _ rfl _ rfl h1 agg18r size18r ?_)
        | (with_reducible refine wpList_loadWG rfl _ _ rfl _ rfl h1 agg18r size18r ?_)
        | (with_reducible refine wpList_build0 rfl 51 rfl 2 c2b0 ?_)
        | (with_reducible refine wpList_storeW rfl _ _ _ rfl _ rfl rfl h2 c2s ?_)
        | (go_at_call 68; (with_reducible refine (isViewAt_bad v hx HF.out _ _).mono ?_); rintro e w1 ⟨rfl, hb1⟩; replace hb1 := below_of_alloc hb1; replace hbel := hbel.trans (hb1.mono hbel.size); replace h1 := row_keep hb1 h1; replace h2 := row_keep hb1 h2; clear hb1)
        | (go_at_call 68; (with_reducible refine (isViewAt_two v hx HF.out _ _ _ h5).mono ?_); rw [HI.out, HK.out]; rintro e w1 ⟨rfl, hb1⟩; replace hb1 := below_of_alloc hb1; replace hbel := hbel.trans (hb1.mono hbel.size); replace h1 := row_keep hb1 h1; replace h2 := row_keep hb1 h2; clear hb1)
        | (go_at_call 69; (with_reducible refine (canPourX_any v HV.out n l hn hl _).mono ?_); rw [HC.out]; rintro e w1 ⟨rfl, hb1⟩; replace hbel := hbel.trans (hb1.mono hbel.size); replace h1 := row_keep hb1 h1; replace h2 := row_keep hb1 h2; clear hb1)
      exact bodyPost_ret_by (results_ct _ _ _ _ _ _ _ rfl rfl (setRow_heap _ _ _ _ _ _ h2) c2a c2s) rfl ⟨rfl, below_setRow2 hbel (by omega) _⟩
set_option linter.unusedVariables false in
theorem FnExactMeanMoved_walk (x0 : Nat → Int) (hx0 : ∀ j, I64 (x0 j)) (x1 : Int) (hx1 : I64 x1) (x2 : Int) (hx2 : I64 x2) (w : World) : Calls Try.prog 8 #[.agg (arr 18 x0), .int .i64 x1, .int .i64 x2] w fun e w' => e = .returned (.bool true) ∧ Below w.heap.size w w' := by
  have hr0 : (w.alloc (.cells (arr 18 x0) 45)).heap[w.heap.size]? = some (.cells (arr 18 x0) 45 (0, 0)) := by rw [heap_new (by simp)]
  have hbel : Below w.heap.size w (w.alloc (.cells (arr 18 x0) 45)) := ((Below.refl _ _).alloc (by simp) _)
  have tok_hA0 : True := trivial
  have tok_hB0 : True := trivial
  go_enter Try.func8, Try.ntmps8
  go_wp2_with first
    | (with_reducible refine wpList_loadW rfl _ _ rfl _ rfl hr0 agg18l size18l ?_)
    | (go_at_call 27; (with_reducible refine (toView_any _ _).mono ?_); (rintro e w1 ⟨rfl, hb1⟩; replace hbel := hbel.trans (hb1.mono hbel.size); replace hr0 := row_keep hb1 hr0; (try replace hA0 := row_keep hb1 hA0); (try replace hB0 := row_keep hb1 hB0); clear hb1))
    | (go_at_call 29; (with_reducible refine (specMm_any _ hx0 _ _ _).mono ?_); (rintro e w1 ⟨rfl, hb1⟩; replace hbel := hbel.trans (hb1.mono hbel.size); replace hr0 := row_keep hb1 hr0; (try replace hA0 := row_keep hb1 hA0); (try replace hB0 := row_keep hb1 hB0); clear hb1))
    | (go_at_call 30; (with_reducible refine (implMm_any _ hx0 _ _ _).mono ?_); (rintro e w1 ⟨rfl, hb1⟩; replace hbel := hbel.trans (hb1.mono hbel.size); replace hr0 := row_keep hb1 hr0; (try replace hA0 := row_keep hb1 hA0); (try replace hB0 := row_keep hb1 hB0); clear hb1))
    | (with_reducible refine wpList_allocA rfl 51 rfl 2 zero2 ?_; (try simp only [size_al]))
    | (go_at_call 31; (with_reducible refine (eqIntA2_same _ _).mono ?_); (rintro e w1 ⟨rfl, hb1⟩; replace hbel := hbel.trans (hb1.mono hbel.size); replace hr0 := row_keep hb1 hr0; (try replace hA0 := row_keep hb1 hA0); (try replace hB0 := row_keep hb1 hB0); clear hb1))
    | (have _t := tok_hA0; with_reducible refine wpList_storeN rfl _ _ _ rfl rfl rfl size2 ?_; intro w1 hA0 hb1; replace hbel := hbel.trans (hb1.mono hbel.size); replace hr0 := row_keep hb1 hr0; clear hb1 _t tok_hA0)
    | (with_reducible refine wpList_loadWG rfl _ _ rfl _ rfl hA0 agg2 size2 ?_)
    | (have _t := tok_hB0; with_reducible refine wpList_storeN rfl _ _ _ rfl rfl rfl size2 ?_; intro w1 hB0 hb1; replace hbel := hbel.trans (hb1.mono hbel.size); replace hr0 := row_keep hb1 hr0; replace hA0 := row_keep hb1 hA0; clear hb1 _t tok_hB0)
    | (with_reducible refine wpList_loadWG rfl _ _ rfl _ rfl hB0 agg2 size2 ?_)
  go_ret
  exact ⟨rfl, hbel⟩
end Go.Proofs.Ytbiplciklmagoaa
