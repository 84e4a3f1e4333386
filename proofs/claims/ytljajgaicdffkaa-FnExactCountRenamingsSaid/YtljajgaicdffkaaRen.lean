/- A rack under other names: the reference's. -/
import Derived.Test.YtljajgaicdffkaaOrd
namespace Go.Proofs.Ytljajgaicdffkaa
set_option linter.unusedSimpArgs false
set_option linter.unusedVariables false
set_option maxRecDepth 20000
open Go.RowKit
/-- Behind q layers. -/
def rP (f p : Nat → Int) (q : Nat) : Nat → Int := fun j => if j < q then p (f j).toNat else f j
theorem rP_step (f p : Nat → Int) {q c : Nat} (hc : f q = c) : arr 24 (upd (rP f p q) q (p c)) = arr 24 (rP f p (q + 1)) := by
  refine arr_congr fun j _ => ?_
  unfold upd rP
  by_cases h : j = q
  · rw [if_pos h, if_pos (by omega), h, hc, Int.toNat_natCast]
  · rw [if_neg h]
    by_cases h2 : j < q
    · rw [if_pos h2, if_pos (by omega)]
    · rw [if_neg h2, if_neg (by omega)]
theorem rP_done (f p : Nat → Int) : arr 24 (rP f p 24) = arr 24 (fun j => p (f j).toNat) := arr_congr fun j hj => by
  unfold rP
  rw [if_pos hj]
theorem rP_start (f p : Nat → Int) : arr 24 f = arr 24 (rP f p 0) := arr_congr fun j hj => by
  unfold rP
  rw [if_neg (by omega)]
theorem l4Rename_any (f p : Nat → Int) (hf : ∀ j, j < 24 → 0 ≤ f j ∧ f j ≤ 5) (w : World) : Calls Try.prog 50 #[.agg (arr 24 f), .agg (arr 6 p)] w fun e w' => e = .returned (.agg (arr 24 (fun j => p (f j).toNat))) ∧ Below w.heap.size w w' := by
  have h1 : (((w.alloc (.cells (arr 24 f) 33)).alloc (.cells (arr 6 p) 22)).alloc (.cells (arr 24 fun _ => 0) 33)).heap[w.heap.size]? = some (.cells (arr 24 f) 33 (0, 0)) := by rw [heap_old (by simp <;> omega), heap_old (by simp), heap_new rfl]
  have h2 : (((w.alloc (.cells (arr 24 f) 33)).alloc (.cells (arr 6 p) 22)).alloc (.cells (arr 24 fun _ => 0) 33)).heap[w.heap.size + 1]? = some (.cells (arr 6 p) 22 (0, 0)) := by rw [heap_old (by simp), heap_new (by simp)]
  have h4 : (((w.alloc (.cells (arr 24 f) 33)).alloc (.cells (arr 6 p) 22)).alloc (.cells (arr 24 fun _ => 0) 33)).heap[w.heap.size + 1 + 1]? = some (.cells (arr 24 fun _ => 0) 33 (0, 0)) := heap_new (by simp)
  have hbel : Below w.heap.size w (((w.alloc (.cells (arr 24 f) 33)).alloc (.cells (arr 6 p) 22)).alloc (.cells (arr 24 fun _ => 0) 33)) := (((Below.refl _ _).alloc (by simp) _).alloc (by simp) _).alloc (by simp <;> omega) _
  have HP : Hid _ := hf
  clear hf
  go_enter Try.func50, Try.ntmps50
  go_wp2_with first
    | (with_reducible refine wpList_allocA rfl 33 rfl 24 zero24r ?_; (try simp only [size_al]))
  go_loopw [5] (fun i wr => ∃ n : Nat, n ≤ 6 ∧ i = .int .i64 n ∧ wr.heap[w.heap.size]? = some (.cells (arr 24 (rP f p (n * 4))) 33 (0, 0)) ∧ wr.heap[w.heap.size + 1]? = some (.cells (arr 6 p) 22 (0, 0)) ∧ wr.heap[w.heap.size + 1 + 1]? = some (.cells (arr 24 fun _ => 0) 33 (0, 0)) ∧ Below w.heap.size w wr) (fun i _ => 6 - (intOf i).toNat)
  case atStart => exact ⟨0, by omega, rfl, by rw [Nat.zero_mul, ← rP_start]; exact h1, h2, h4, hbel⟩
  case round =>
    clear h1 h2 h4 hbel
    obtain ⟨n, hn, rfl, h1, h2, h4, hbel⟩ := hrel
    obtain ⟨wo, hwo⟩ : ∃ wo : World, wo = wr := ⟨_, rfl⟩
    rw [← hwo] at h1 h2 h4 hbel ⊢
    clear hwo
    by_cases hlt : n < 6
    · have hlt' : (n : Int) < 6 := by omega
      go_wp2_with fail
      go_loopw [6] (fun i wr => ∃ m : Nat, m ≤ 4 ∧ i = .int .i64 m ∧ wr.heap[w.heap.size]? = some (.cells (arr 24 (rP f p (n * 4 + m))) 33 (0, 0)) ∧ wr.heap[w.heap.size + 1]? = some (.cells (arr 6 p) 22 (0, 0)) ∧ wr.heap[w.heap.size + 1 + 1]? = some (.cells (arr 24 fun _ => 0) 33 (0, 0)) ∧ Below w.heap.size w wr) (fun i _ => 4 - (intOf i).toNat)
      case atStart => exact ⟨0, by omega, rfl, h1, h2, h4, hbel⟩
      case round =>
        clear h1 h2 h4 hbel
        obtain ⟨m, hm, rfl, h1, h2, h4, hbel⟩ := hrel
        by_cases hmt : m < 4
        · have hmt' : (m : Int) < 4 := by omega
          obtain ⟨pa, pb⟩ := HP.out (n * 4 + m) (by omega)
          obtain ⟨c, hc⟩ : ∃ c : Nat, f (n * 4 + m) = c := ⟨(f (n * 4 + m)).toNat, by omega⟩
          have hc6 : c < 6 := by omega
          have hc6' : (c : Int) < 6 := by omega
          have HC : Hid _ := hc
          have HR : Hid (rP f p (n * 4 + m) (n * 4 + m) = c) := by show rP f p (n * 4 + m) (n * 4 + m) = c; unfold rP; rw [if_neg (by omega)]; exact hc
          clear pa pb hc
          go_wp2_with fail
          refine wp_region_held 13 (Cls w _) (by kernel_rfl) (by kernel_rfl) (Cls.three h1 h2 h4 hbel) ?_; simp only [List.take_succ_cons, List.take_zero, List.drop_succ_cons, List.drop_zero]
          repeat (first
            | ((with_reducible refine wpQuiet_loadI rfl _ _ rfl _ _ rfl (fun _ h => h.r1) aggI undI (by omega) ?_); rw [HR.out])
            | (with_reducible refine wpQuiet_loadI rfl _ _ rfl _ _ rfl (fun _ h => h.r2) aggI undI (by omega) ?_)
            | ((with_reducible refine wpQuiet_step (fun K hK => ?_)); go_simp; (first | (refine ⟨_, fun _ _ => rfl, hK _ ?_⟩) | (refine ⟨_, fun _ _ => ⟨rfl, rfl⟩, hK _ ?_⟩) | (refine hK _ ?_)); clear hK K))
          refine wpQuiet_nil ?_
          intro wt hCt
          replace h1 := hCt.r1
          replace h2 := hCt.r2
          replace h4 := hCt.r3
          replace hbel := hCt.2
          clear hCt
          go_wp2_with first
            | (with_reducible refine wpList_storePI rfl 3 _ _ rfl _ _ rfl rfl h1 size1 (by omega) hbel (by omega) ?_; intro w1 g3 ho g4; replace h2 := (ho _ (by omega)).trans h2; replace h4 := (ho _ (by omega)).trans h4; clear h1 hbel; have h1 := g3; have hbel := g4; clear g3 g4 ho)
          rw [rP_step f p HC.out] at h1
          go_roundw
          case rel => exact ⟨m + 1, by omega, by go_num, h1, h2, h4, hbel⟩
          case measure => simp [intOf]; omega
        · obtain rfl : m = 4 := by omega
          go_wp2_with fail
          go_roundw
          case rel => exact ⟨n + 1, by omega, by go_num, by rw [show (n + 1) * 4 = n * 4 + 4 by omega]; exact h1, h2, h4, hbel⟩
          case measure => simp [intOf]; omega
    · obtain rfl : n = 6 := by omega
      rw [show 6 * 4 = 24 from rfl, rP_done] at h1
      go_wp2_with first
        | (with_reducible refine wpList_loadW rfl _ _ rfl _ rfl h1 agg24r size24r ?_)
        | (with_reducible refine wpList_storeW rfl _ _ _ rfl _ rfl rfl h4 size24r ?_)
      exact bodyPost_ret_by (results_cellA rfl _ _ _ _ _ _ _ rfl (setRow_heap _ _ _ _ _ _ h4) agg24r size24r) rfl ⟨rfl, below_setRow2 hbel (by omega) _⟩
theorem sizeO2 : (Try.prog.info? 30).map (·.size) = some 24 := by kernel_rfl
theorem aggO2 : aggB Try.prog 30 = true := by kernel_rfl
theorem renamed_any (f p : Nat → Int) (hf : ∀ j, j < 24 → 0 ≤ f j ∧ f j ≤ 5) (w : World) : Calls Try.prog 51 #[.agg (arr 24 f), .agg (arr 6 p)] w fun e w' => e = .returned (.agg (arr 24 (fun j => p (f j).toNat))) ∧ Below w.heap.size w w' := by
  have h1 : (((w.alloc (.cells (arr 24 f) 33)).alloc (.cells (arr 6 p) 22)).alloc (.cells (arr 24 fun _ => 0) 33)).heap[w.heap.size]? = some (.cells (arr 24 f) 33 (0, 0)) := by rw [heap_old (by simp <;> omega), heap_old (by simp), heap_new rfl]
  have h2 : (((w.alloc (.cells (arr 24 f) 33)).alloc (.cells (arr 6 p) 22)).alloc (.cells (arr 24 fun _ => 0) 33)).heap[w.heap.size + 1]? = some (.cells (arr 6 p) 22 (0, 0)) := by rw [heap_old (by simp), heap_new (by simp)]
  have h4 : (((w.alloc (.cells (arr 24 f) 33)).alloc (.cells (arr 6 p) 22)).alloc (.cells (arr 24 fun _ => 0) 33)).heap[w.heap.size + 1 + 1]? = some (.cells (arr 24 fun _ => 0) 33 (0, 0)) := heap_new (by simp)
  have hbel : Below w.heap.size w (((w.alloc (.cells (arr 24 f) 33)).alloc (.cells (arr 6 p) 22)).alloc (.cells (arr 24 fun _ => 0) 33)) := (((Below.refl _ _).alloc (by simp) _).alloc (by simp) _).alloc (by simp <;> omega) _
  have HP : Hid _ := hf
  clear hf
  go_enter Try.func51, Try.ntmps51
  go_wp2_with first
    | (with_reducible refine wpList_allocA rfl 33 rfl 24 zero24r ?_; (try simp only [size_al]))
    | (with_reducible refine wpList_loadW rfl _ _ rfl _ rfl h1 aggO2 sizeO2 ?_)
  go_loopw [11] (fun i wr => ∃ n : Nat, n ≤ 6 ∧ i = .int .i64 n ∧ wr.heap[w.heap.size]? = some (.cells (arr 24 (rP f p (n * 4))) 33 (0, 0)) ∧ wr.heap[w.heap.size + 1]? = some (.cells (arr 6 p) 22 (0, 0)) ∧ wr.heap[w.heap.size + 1 + 1]? = some (.cells (arr 24 fun _ => 0) 33 (0, 0)) ∧ Below w.heap.size w wr) (fun i _ => 6 - (intOf i).toNat)
  case atStart => exact ⟨0, by omega, rfl, by rw [Nat.zero_mul, ← rP_start]; exact h1, h2, h4, hbel⟩
  case round =>
    clear h1 h2 h4 hbel
    obtain ⟨n, hn, rfl, h1, h2, h4, hbel⟩ := hrel
    obtain ⟨wo, hwo⟩ : ∃ wo : World, wo = wr := ⟨_, rfl⟩
    rw [← hwo] at h1 h2 h4 hbel ⊢
    clear hwo
    by_cases hlt : n < 6
    · have hlt' : (n : Int) < 6 := by omega
      have tok_h6 : True := trivial
      go_wp2_with first
        | (with_reducible refine wpList_indexA rfl _ _ _ rfl rfl rfl 6 _ Try.underlying30 4 agg4 size4 (by omega) rfl ?_)
        | (have _t := tok_h6; with_reducible refine wpList_allocN rfl 29 rfl 4 zero4 ?_; intro Bh6 w1 hBh6 h6 hb1; have hWh6 := Nat.le_trans hbel.size hBh6; have hLh1h6 := Nat.lt_of_lt_of_le (row_lt h1) hBh6; have hLh2h6 := Nat.lt_of_lt_of_le (row_lt h2) hBh6; have hLh4h6 := Nat.lt_of_lt_of_le (row_lt h4) hBh6; replace hbel := hbel.trans (hb1.mono hbel.size); replace h1 := row_keep hb1 h1; replace h2 := row_keep hb1 h2; replace h4 := row_keep hb1 h4; clear hb1 _t tok_h6)
        | (with_reducible refine wpList_storeWN rfl _ _ _ rfl _ rfl rfl h6 size4 hbel hWh6 ?_; intro w1 g3 ho g4; replace h1 := (ho _ (by omega)).trans h1; replace h2 := (ho _ (by omega)).trans h2; replace h4 := (ho _ (by omega)).trans h4; clear h6 hbel; have h6 := g3; have hbel := g4; clear g3 g4 ho)
        | (with_reducible refine wpList_loadW rfl _ _ rfl _ rfl h6 agg4 size4 ?_)
      clear h6
      go_loopw [16] (fun i wr => ∃ m : Nat, m ≤ 4 ∧ i = .int .i64 m ∧ wr.heap[w.heap.size]? = some (.cells (arr 24 (rP f p (n * 4 + m))) 33 (0, 0)) ∧ wr.heap[w.heap.size + 1]? = some (.cells (arr 6 p) 22 (0, 0)) ∧ wr.heap[w.heap.size + 1 + 1]? = some (.cells (arr 24 fun _ => 0) 33 (0, 0)) ∧ Below w.heap.size w wr) (fun i _ => 4 - (intOf i).toNat)
      case atStart => exact ⟨0, by omega, rfl, h1, h2, h4, hbel⟩
      case round =>
        clear h1 h2 h4 hbel
        obtain ⟨m, hm, rfl, h1, h2, h4, hbel⟩ := hrel
        by_cases hmt : m < 4
        · have hmt' : (m : Int) < 4 := by omega
          obtain ⟨pa, pb⟩ := HP.out (n * 4 + m) (by omega)
          obtain ⟨c, hc⟩ : ∃ c : Nat, f (n * 4 + m) = c := ⟨(f (n * 4 + m)).toNat, by omega⟩
          have hc6 : c < 6 := by omega
          have hc6' : (c : Int) < 6 := by omega
          have HC : Hid _ := hc
          have HR : Hid (rP f p (n * 4 + m) (n * 4 + m) = c) := by show rP f p (n * 4 + m) (n * 4 + m) = c; unfold rP; rw [if_neg (by omega)]; exact hc
          clear pa pb hc
          go_wp2_with first
            | ((with_reducible refine wpList_indexI rfl _ _ _ rfl rfl rfl _ Try.underlying29 aggI undI size1 (by omega) ?_); rw [HC.out])
          refine wp_region_held 8 (Cls w _) (by kernel_rfl) (by kernel_rfl) (Cls.three h1 h2 h4 hbel) ?_; simp only [List.take_succ_cons, List.take_zero, List.drop_succ_cons, List.drop_zero]
          repeat (first
            | ((with_reducible refine wpQuiet_loadI rfl _ _ rfl _ _ rfl (fun _ h => h.r1) aggI undI (by omega) ?_); rw [HR.out])
            | (with_reducible refine wpQuiet_loadI rfl _ _ rfl _ _ rfl (fun _ h => h.r2) aggI undI (by omega) ?_)
            | ((with_reducible refine wpQuiet_step (fun K hK => ?_)); go_simp; (first | (refine ⟨_, fun _ _ => rfl, hK _ ?_⟩) | (refine ⟨_, fun _ _ => ⟨rfl, rfl⟩, hK _ ?_⟩) | (refine hK _ ?_)); clear hK K))
          refine wpQuiet_nil ?_
          intro wt hCt
          replace h1 := hCt.r1
          replace h2 := hCt.r2
          replace h4 := hCt.r3
          replace hbel := hCt.2
          clear hCt
          go_wp2_with first
            | (with_reducible refine wpList_storePI rfl 3 _ _ rfl _ _ rfl rfl h1 size1 (by omega) hbel (by omega) ?_; intro w1 g3 ho g4; replace h2 := (ho _ (by omega)).trans h2; replace h4 := (ho _ (by omega)).trans h4; clear h1 hbel; have h1 := g3; have hbel := g4; clear g3 g4 ho)
          rw [rP_step f p HC.out] at h1
          go_roundw
          case rel => exact ⟨m + 1, by omega, by go_num, h1, h2, h4, hbel⟩
          case measure => simp [intOf]; omega
        · obtain rfl : m = 4 := by omega
          go_wp2_with fail
          go_roundw
          case rel => exact ⟨n + 1, by omega, by go_num, by rw [show (n + 1) * 4 = n * 4 + 4 by omega]; exact h1, h2, h4, hbel⟩
          case measure => simp [intOf]; omega
    · obtain rfl : n = 6 := by omega
      rw [show 6 * 4 = 24 from rfl, rP_done] at h1
      go_wp2_with first
        | (with_reducible refine wpList_loadW rfl _ _ rfl _ rfl h1 agg24r size24r ?_)
        | (with_reducible refine wpList_storeW rfl _ _ _ rfl _ rfl rfl h4 size24r ?_)
      exact bodyPost_ret_by (results_cellA rfl _ _ _ _ _ _ _ rfl (setRow_heap _ _ _ _ _ _ h4) agg24r size24r) rfl ⟨rfl, below_setRow2 hbel (by omega) _⟩
end Go.Proofs.Ytljajgaicdffkaa
