/- A rack in another order: the program's and the reference's. -/
import Derived.Test.YtljajgaicdffkaaPerm
import Derived.Test.YtljajgaicdffkaaPut
import Derived.Test.YtljajgaicdffkaaIdx
namespace Go.Proofs.Ytljajgaicdffkaa
set_option linter.unusedSimpArgs false
set_option linter.unusedVariables false
set_option maxRecDepth 20000
open Go.RowKit
theorem sizeO : (Try.prog.info? 22).map (·.size) = some 6 := by kernel_rfl
theorem aggO : aggB Try.prog 22 = true := by kernel_rfl
def ordF (f p : Nat → Int) : Nat → Int := fun q => f ((p (q / 4)).toNat * 4 + q % 4)
/-- Behind n tubes. -/
def oP (f p : Nat → Int) (n : Nat) : Nat → Int := fun q => if q / 4 < n then ordF f p q else 0
theorem oP_step (f p : Nat → Int) {n c : Nat} (hc : p n = c) : arr 24 (updN (oP f p n) (n * 4) 4 fun j => f (c * 4 + j)) = arr 24 (oP f p (n + 1)) := by
  refine arr_congr fun q _ => ?_
  unfold updN oP ordF
  by_cases h : n * 4 ≤ q ∧ q < n * 4 + 4
  · rw [if_pos h, if_pos (by omega), show q / 4 = n by omega, hc, Int.toNat_natCast]
    congr 1; omega
  · rw [if_neg h]
    by_cases h2 : q / 4 < n
    · rw [if_pos h2, if_pos (by omega)]
    · rw [if_neg h2, if_neg (by omega)]
theorem oP_done (f p : Nat → Int) : arr 24 (oP f p 6) = arr 24 (ordF f p) := arr_congr fun q hq => by
  unfold oP
  rw [if_pos (by omega)]
theorem oP_start (f p : Nat → Int) : arr 24 (fun _ => (0 : Int)) = arr 24 (oP f p 0) := arr_congr fun q hq => by
  unfold oP
  rw [if_neg (by omega)]
theorem l4Order_any (f p : Nat → Int) (hp : ∀ i, i < 6 → 0 ≤ p i ∧ p i ≤ 5) (w : World) : Calls Try.prog 45 #[.agg (arr 24 f), .agg (arr 6 p)] w fun e w' => e = .returned (.agg (arr 24 (ordF f p))) ∧ Below w.heap.size w w' := by
  have h1 : (((w.alloc (.cells (arr 24 f) 33)).alloc (.cells (arr 6 p) 22)).alloc (.cells (arr 24 fun _ => 0) 33)).heap[w.heap.size]? = some (.cells (arr 24 f) 33 (0, 0)) := by rw [heap_old (by simp <;> omega), heap_old (by simp), heap_new rfl]
  have h2 : (((w.alloc (.cells (arr 24 f) 33)).alloc (.cells (arr 6 p) 22)).alloc (.cells (arr 24 fun _ => 0) 33)).heap[w.heap.size + 1]? = some (.cells (arr 6 p) 22 (0, 0)) := by rw [heap_old (by simp), heap_new (by simp)]
  have h4 : (((w.alloc (.cells (arr 24 f) 33)).alloc (.cells (arr 6 p) 22)).alloc (.cells (arr 24 fun _ => 0) 33)).heap[w.heap.size + 1 + 1]? = some (.cells (arr 24 fun _ => 0) 33 (0, 0)) := heap_new (by simp)
  have hbel : Below w.heap.size w (((w.alloc (.cells (arr 24 f) 33)).alloc (.cells (arr 6 p) 22)).alloc (.cells (arr 24 fun _ => 0) 33)) := (((Below.refl _ _).alloc (by simp) _).alloc (by simp) _).alloc (by simp <;> omega) _
  have tok_h5 : True := trivial
  have tok_r : True := trivial
  have HP : Hid _ := hp
  clear hp
  go_enter Try.func45, Try.ntmps45
  go_wp2_with first
    | (have _t := tok_r; (with_reducible refine wpList_allocA rfl 33 rfl 24 zero24r ?_; (try simp only [size_al])); clear _t tok_r)
    | (with_reducible refine wpList_build0 rfl 33 rfl 24 zbuild24 ?_)
    | (have _t := tok_h5; with_reducible refine wpList_allocN rfl 33 rfl 24 zero24r ?_; intro Bh5 w1 hBh5 h5 hb1; have hWh5 := Nat.le_trans hbel.size hBh5; have hLh1h5 := Nat.lt_of_lt_of_le (row_lt h1) hBh5; have hLh2h5 := Nat.lt_of_lt_of_le (row_lt h2) hBh5; have hLh4h5 := Nat.lt_of_lt_of_le (row_lt h4) hBh5; replace hbel := hbel.trans (hb1.mono hbel.size); replace h1 := row_keep hb1 h1; replace h2 := row_keep hb1 h2; replace h4 := row_keep hb1 h4; clear hb1 _t tok_h5)
    | (with_reducible refine wpList_storeWN rfl _ _ _ rfl _ rfl rfl h5 size24r hbel hWh5 ?_; intro w1 g3 ho g4; replace h1 := (ho _ (by omega)).trans h1; replace h2 := (ho _ (by omega)).trans h2; replace h4 := (ho _ (by omega)).trans h4; clear h5 hbel; have h5 := g3; have hbel := g4; clear g3 g4 ho)
  rw [oP_start f p] at h5
  go_loopw [6] (fun i wr => ∃ n : Nat, n ≤ 6 ∧ i = .int .i64 n ∧ wr.heap[w.heap.size]? = some (.cells (arr 24 f) 33 (0, 0)) ∧ wr.heap[w.heap.size + 1]? = some (.cells (arr 6 p) 22 (0, 0)) ∧ wr.heap[w.heap.size + 1 + 1]? = some (.cells (arr 24 fun _ => 0) 33 (0, 0)) ∧ wr.heap[Bh5]? = some (.cells (arr 24 (oP f p n)) 33 (0, 0)) ∧ Below w.heap.size w wr) (fun i _ => 6 - (intOf i).toNat)
  case atStart => exact ⟨0, by omega, rfl, h1, h2, h4, h5, hbel⟩
  case round =>
    clear h1 h2 h4 h5 hbel
    obtain ⟨n, hn, rfl, h1, h2, h4, h5, hbel⟩ := hrel
    by_cases hlt : n < 6
    · have hlt' : (n : Int) < 6 := by omega
      obtain ⟨pa, pb⟩ := HP.out n hlt
      obtain ⟨c, hc⟩ : ∃ c : Nat, p n = c := ⟨(p n).toNat, by omega⟩
      have hc6 : c < 6 := by omega
      have hc6' : (c : Int) < 6 := by omega
      have HC : Hid _ := hc
      clear pa pb hc
      go_wp2_with first
        | ((with_reducible refine wpList_loadI rfl _ _ rfl _ _ rfl h2 aggI undI (by omega) ?_); rw [HC.out])
        | ((with_reducible refine wpList_indexI rfl _ _ _ rfl rfl rfl _ Try.underlying22 aggI undI size1 (by omega) ?_); rw [HC.out])
        | (with_reducible refine wpList_loadA rfl _ _ rfl _ _ rfl h1 4 agg4 size4 (by omega) ?_)
        | (with_reducible refine wpList_storePN rfl _ _ _ rfl _ _ rfl rfl h5 size4 (by omega) hbel hWh5 ?_; intro w1 g3 ho g4; replace h1 := (ho _ (by omega)).trans h1; replace h2 := (ho _ (by omega)).trans h2; replace h4 := (ho _ (by omega)).trans h4; clear h5 hbel; have h5 := g3; have hbel := g4; clear g3 g4 ho)
      rw [oP_step f p HC.out] at h5
      go_roundw
      case rel => exact ⟨n + 1, by omega, by go_num, h1, h2, h4, h5, hbel⟩
      case measure => simp [intOf]; omega
    · obtain rfl : n = 6 := by omega
      rw [oP_done] at h5
      go_wp2_with first
        | (with_reducible refine wpList_loadW rfl _ _ rfl _ rfl h5 agg24r size24r ?_)
        | (with_reducible refine wpList_storeW rfl _ _ _ rfl _ rfl rfl h4 size24r ?_)
      exact bodyPost_ret_by (results_cellA rfl _ _ _ _ _ _ _ rfl (setRow_heap _ _ _ _ _ _ h4) agg24r size24r) rfl ⟨rfl, below_setRow2 hbel (by omega) _⟩
theorem ordered_any (f p : Nat → Int) (hp : ∀ i, i < 6 → 0 ≤ p i ∧ p i ≤ 5) (w : World) : Calls Try.prog 48 #[.agg (arr 24 f), .agg (arr 6 p)] w fun e w' => e = .returned (.agg (arr 24 (ordF f p))) ∧ Below w.heap.size w w' := by
  have h1 : (((w.alloc (.cells (arr 24 f) 33)).alloc (.cells (arr 6 p) 22)).alloc (.cells (arr 24 fun _ => 0) 33)).heap[w.heap.size]? = some (.cells (arr 24 f) 33 (0, 0)) := by rw [heap_old (by simp <;> omega), heap_old (by simp), heap_new rfl]
  have h2 : (((w.alloc (.cells (arr 24 f) 33)).alloc (.cells (arr 6 p) 22)).alloc (.cells (arr 24 fun _ => 0) 33)).heap[w.heap.size + 1]? = some (.cells (arr 6 p) 22 (0, 0)) := by rw [heap_old (by simp), heap_new (by simp)]
  have h4 : (((w.alloc (.cells (arr 24 f) 33)).alloc (.cells (arr 6 p) 22)).alloc (.cells (arr 24 fun _ => 0) 33)).heap[w.heap.size + 1 + 1]? = some (.cells (arr 24 fun _ => 0) 33 (0, 0)) := heap_new (by simp)
  have hbel : Below w.heap.size w (((w.alloc (.cells (arr 24 f) 33)).alloc (.cells (arr 6 p) 22)).alloc (.cells (arr 24 fun _ => 0) 33)) := (((Below.refl _ _).alloc (by simp) _).alloc (by simp) _).alloc (by simp <;> omega) _
  have tok_h5 : True := trivial
  have tok_r : True := trivial
  have HP : Hid _ := hp
  clear hp
  go_enter Try.func48, Try.ntmps48
  go_wp2_with first
    | (have _t := tok_r; (with_reducible refine wpList_allocA rfl 33 rfl 24 zero24r ?_; (try simp only [size_al])); clear _t tok_r)
    | (have _t := tok_h5; with_reducible refine wpList_allocN rfl 33 rfl 24 zero24r ?_; intro Bh5 w1 hBh5 h5 hb1; have hWh5 := Nat.le_trans hbel.size hBh5; have hLh1h5 := Nat.lt_of_lt_of_le (row_lt h1) hBh5; have hLh2h5 := Nat.lt_of_lt_of_le (row_lt h2) hBh5; have hLh4h5 := Nat.lt_of_lt_of_le (row_lt h4) hBh5; replace hbel := hbel.trans (hb1.mono hbel.size); replace h1 := row_keep hb1 h1; replace h2 := row_keep hb1 h2; replace h4 := row_keep hb1 h4; clear hb1 _t tok_h5)
    | (with_reducible refine wpList_loadW rfl _ _ rfl _ rfl h2 aggO sizeO ?_)
  rw [oP_start f p] at h5
  go_loopw [9] (fun i wr => ∃ n : Nat, n ≤ 6 ∧ i = .int .i64 n ∧ wr.heap[w.heap.size]? = some (.cells (arr 24 f) 33 (0, 0)) ∧ wr.heap[w.heap.size + 1]? = some (.cells (arr 6 p) 22 (0, 0)) ∧ wr.heap[w.heap.size + 1 + 1]? = some (.cells (arr 24 fun _ => 0) 33 (0, 0)) ∧ wr.heap[Bh5]? = some (.cells (arr 24 (oP f p n)) 33 (0, 0)) ∧ Below w.heap.size w wr) (fun i _ => 6 - (intOf i).toNat)
  case atStart => exact ⟨0, by omega, rfl, h1, h2, h4, h5, hbel⟩
  case round =>
    clear h1 h2 h4 h5 hbel
    obtain ⟨n, hn, rfl, h1, h2, h4, h5, hbel⟩ := hrel
    by_cases hlt : n < 6
    · have hlt' : (n : Int) < 6 := by omega
      obtain ⟨pa, pb⟩ := HP.out n hlt
      obtain ⟨c, hc⟩ : ∃ c : Nat, p n = c := ⟨(p n).toNat, by omega⟩
      have hc6 : c < 6 := by omega
      have hc6' : (c : Int) < 6 := by omega
      have HC : Hid _ := hc
      clear pa pb hc
      go_wp2_with first
        | ((with_reducible refine wpList_loadI rfl _ _ rfl _ _ rfl h2 aggI undI (by omega) ?_); rw [HC.out])
        | ((with_reducible refine wpList_indexI rfl _ _ _ rfl rfl rfl _ Try.underlying22 aggI undI size1 (by omega) ?_); rw [HC.out])
        | (with_reducible refine wpList_loadA rfl _ _ rfl _ _ rfl h1 4 agg4 size4 (by omega) ?_)
        | (with_reducible refine wpList_storePN rfl _ _ _ rfl _ _ rfl rfl h5 size4 (by omega) hbel hWh5 ?_; intro w1 g3 ho g4; replace h1 := (ho _ (by omega)).trans h1; replace h2 := (ho _ (by omega)).trans h2; replace h4 := (ho _ (by omega)).trans h4; clear h5 hbel; have h5 := g3; have hbel := g4; clear g3 g4 ho)
      rw [oP_step f p HC.out] at h5
      go_roundw
      case rel => exact ⟨n + 1, by omega, by go_num, h1, h2, h4, h5, hbel⟩
      case measure => simp [intOf]; omega
    · obtain rfl : n = 6 := by omega
      rw [oP_done] at h5
      go_wp2_with first
        | (with_reducible refine wpList_loadW rfl _ _ rfl _ rfl h5 agg24r size24r ?_)
        | (with_reducible refine wpList_storeW rfl _ _ _ rfl _ rfl rfl h4 size24r ?_)
      exact bodyPost_ret_by (results_cellA rfl _ _ _ _ _ _ _ rfl (setRow_heap _ _ _ _ _ _ h4) agg24r size24r) rfl ⟨rfl, below_setRow2 hbel (by omega) _⟩
end Go.Proofs.Ytljajgaicdffkaa
