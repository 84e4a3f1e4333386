/- CountColors: the program's and the reference's, and the law. -/
import Derived.Test.YtogdmacndokmhaaPut
import Derived.Test.YtogdmacndokmhaaIdx
import Derived.Test.YtogdmacndokmhaaEq6
namespace Go.Proofs.Ytogdmacndokmhaa
set_option linter.unusedSimpArgs false
set_option linter.unusedVariables false
open Go.RowKit
theorem zero6 : ((Try.prog.info? 22).bind (·.zero)).map (·.cells) = some (arr 6 fun _ => 0) := by kernel_rfl
theorem zbuild6 : Try.prog.built 22 [] = some (arr 6 fun _ => 0) := by kernel_rfl
theorem size6 : (Try.prog.info? 22).map (·.size) = some 6 := by kernel_rfl
theorem agg6 : aggB Try.prog 22 = true := by kernel_rfl
theorem cell_of_rack {f : Nat → Int} (h : rackB f = true) {i k : Nat} (hi : i < 6) (hk : k < 4) : 0 ≤ f (i * 4 + k) ∧ f (i * 4 + k) ≤ 5 := ((tubeB_iff f i).1 ((rackB_iff f).1 h i hi) k hk).1

theorem l2Counts_any (f : Nat → Int) (hf : rackB f = true) (w : World) : Calls Try.prog 71 #[.agg (arr 24 f)] w fun e w' => e = .returned (.agg (arr 6 (tally f 24))) ∧ Below w.heap.size w w' := by
  have h1 : ((((w.alloc (.cells (arr 24 f) 38)).alloc (.cells (arr 6 fun _ => 0) 22)).alloc (.cells (arr 6 fun _ => 0) 22))).heap[w.heap.size]? = some (.cells (arr 24 f) 38 (0, 0)) := by rw [heap_old (by simp; omega), heap_old (by simp), heap_new rfl]
  have h2 : ((((w.alloc (.cells (arr 24 f) 38)).alloc (.cells (arr 6 fun _ => 0) 22)).alloc (.cells (arr 6 fun _ => 0) 22))).heap[w.heap.size + 1]? = some (.cells (arr 6 fun _ => 0) 22 (0, 0)) := by rw [heap_old (by simp), heap_new (by simp)]
  have h3 : ((((w.alloc (.cells (arr 24 f) 38)).alloc (.cells (arr 6 fun _ => 0) 22)).alloc (.cells (arr 6 fun _ => 0) 22))).heap[w.heap.size + 1 + 1]? = some (.cells (arr 6 fun _ => 0) 22 (0, 0)) := heap_new (by simp)
  have hbel : Below w.heap.size w ((((w.alloc (.cells (arr 24 f) 38)).alloc (.cells (arr 6 fun _ => 0) 22)).alloc (.cells (arr 6 fun _ => 0) 22))) := (((Below.refl _ _).alloc (by simp) _).alloc (by simp) _).alloc (by simp; omega) _
  have h4 := setRow_heap _ _ _ (arr 6 fun _ => 0) _ _ h3
  have h5 := (setRow_other ((((w.alloc (.cells (arr 24 f) 38)).alloc (.cells (arr 6 fun _ => 0) 22)).alloc (.cells (arr 6 fun _ => 0) 22))) (w.heap.size + 1 + 1) w.heap.size (arr 6 fun _ => 0) (by omega)).trans h1
  have h6 := (setRow_other ((((w.alloc (.cells (arr 24 f) 38)).alloc (.cells (arr 6 fun _ => 0) 22)).alloc (.cells (arr 6 fun _ => 0) 22))) (w.heap.size + 1 + 1) (w.heap.size + 1) (arr 6 fun _ => 0) (by omega)).trans h2
  go_enter Try.func71, Try.ntmps71
  go_wp2_with first
    | (with_reducible refine wpList_allocA rfl 22 rfl 6 zero6 ?_; (try simp only [size_al]))
    | (with_reducible refine wpList_build0 rfl 22 rfl 6 zbuild6 ?_)
    | (with_reducible refine wpList_storeW rfl _ _ _ rfl _ rfl rfl h3 size6 ?_)
  go_loopw [4] (fun i wr => ∃ n : Nat, n ≤ 6 ∧ i = .int .i64 n ∧ wr.heap[w.heap.size]? = some (.cells (arr 24 f) 38 (0, 0)) ∧ wr.heap[w.heap.size + 1]? = some (.cells (arr 6 fun _ => 0) 22 (0, 0)) ∧
    wr.heap[w.heap.size + 1 + 1]? = some (.cells (arr 6 (tally f (n * 4))) 22 (0, 0)) ∧ Below w.heap.size w wr) (fun i _ => 6 - (intOf i).toNat)
  case atStart => exact ⟨0, by omega, rfl, h5, h6, h4, below_setRow2 hbel (by omega) _⟩
  case round =>
    clear h1 h2 h3 h4 h5 h6 hbel
    obtain ⟨n, hn, rfl, h1, h2, h3, hbel⟩ := hrel
    by_cases hlt : n < 6
    · have hlt' : (n : Int) < 6 := by omega
      go_wp2
      obtain ⟨wo, hwo⟩ : ∃ wo : World, wo = wr := ⟨_, rfl⟩
      rw [← hwo] at h1 h2 h3 hbel
      go_loopw [5] (fun k wq => ∃ m : Nat, m ≤ 4 ∧ k = .int .i64 m ∧ wq.heap[w.heap.size]? = some (.cells (arr 24 f) 38 (0, 0)) ∧ wq.heap[w.heap.size + 1]? = some (.cells (arr 6 fun _ => 0) 22 (0, 0)) ∧
        wq.heap[w.heap.size + 1 + 1]? = some (.cells (arr 6 (tally f (n * 4 + m))) 22 (0, 0)) ∧ Below w.heap.size w wq) (fun k _ => 4 - (intOf k).toNat)
      case atStart => exact ⟨0, by omega, rfl, hwo ▸ h1, hwo ▸ h2, hwo ▸ h3, hwo ▸ hbel⟩
      case round =>
        clear h1 h2 h3 hbel hwo
        obtain ⟨m, hm, rfl, h1, h2, h3, hbel⟩ := hrel
        by_cases hlt2 : m < 4
        · have hlt2' : (m : Int) < 4 := by omega
          obtain ⟨c, hc⟩ : ∃ c : Nat, f (n * 4 + m) = c := ⟨(f (n * 4 + m)).toNat, by have := cell_of_rack hf hlt hlt2; omega⟩
          have hc5 : c < 6 := by have := cell_of_rack hf hlt hlt2; omega
          have hc6 : (c : Int) < 6 := by omega
          have hb := tally_bd f (n * 4 + m) c
          have hb2 : tally f (n * 4 + m) c ≤ 24 := by omega
          have HC : Hid _ := hc
          have HT : Hid (tally f (n * 4 + (m + 1)) = upd (tally f (n * 4 + m)) c (tally f (n * 4 + m) c + 1)) := by
            rw [show n * 4 + (m + 1) = (n * 4 + m) + 1 from rfl, tally_succ, hc, Int.toNat_natCast]
            exact rfl
          clear hc
          go_wp2_with first
            | ((with_reducible refine wpList_loadI rfl _ _ rfl w.heap.size _ rfl h1 aggI undI (by omega) ?_); rw [HC.out])
            | (with_reducible refine wpList_loadI rfl _ _ rfl _ _ rfl h3 aggI undI (by omega) ?_)
            | (with_reducible refine wpList_storeI rfl 3 _ _ rfl _ _ rfl rfl h3 size1 (by omega) ?_)
          go_roundw
          case rel =>
            refine ⟨m + 1, by omega, by go_num, ?_, ?_, ?_, below_setRow2 hbel (by omega) _⟩
            · rw [setRow_other _ _ _ _ (by omega), h1]
            · rw [setRow_other _ _ _ _ (by omega), h2]
            · rw [setRow_heap _ _ _ _ _ _ h3, HT.out]
          case measure => simp [intOf]; omega
        · obtain rfl : m = 4 := by omega
          go_wp2
          go_roundw
          case rel => exact ⟨n + 1, by omega, by go_num, h1, h2, by rw [h3, show (n + 1) * 4 = n * 4 + 4 by omega], hbel⟩
          case measure => simp [intOf]; omega
    · obtain rfl : n = 6 := by omega
      go_wp2_with first
        | (with_reducible refine wpList_loadW rfl _ _ rfl _ rfl h3 agg6 size6 ?_)
        | (with_reducible refine wpList_storeW rfl _ _ _ rfl _ rfl rfl h2 size6 ?_)
      exact bodyPost_ret_by (results_cellA rfl _ _ _ _ _ _ _ rfl (setRow_heap _ _ _ _ _ _ h2) agg6 size6) rfl ⟨rfl, below_setRow2 hbel (by omega) _⟩

theorem countColors_any (f : Nat → Int) (hf : rackB f = true) (w : World) : Calls Try.prog 74 #[.agg (arr 24 f)] w fun e w' => e = .returned (.agg (arr 6 (tally f 24))) ∧ Below w.heap.size w w' := by
  have h1 : ((((w.alloc (.cells (arr 24 f) 38)).alloc (.cells (arr 6 fun _ => 0) 22)).alloc (.cells (arr 6 fun _ => 0) 22))).heap[w.heap.size]? = some (.cells (arr 24 f) 38 (0, 0)) := by rw [heap_old (by simp; omega), heap_old (by simp), heap_new rfl]
  have h2 : ((((w.alloc (.cells (arr 24 f) 38)).alloc (.cells (arr 6 fun _ => 0) 22)).alloc (.cells (arr 6 fun _ => 0) 22))).heap[w.heap.size + 1]? = some (.cells (arr 6 fun _ => 0) 22 (0, 0)) := by rw [heap_old (by simp), heap_new (by simp)]
  have h3 : ((((w.alloc (.cells (arr 24 f) 38)).alloc (.cells (arr 6 fun _ => 0) 22)).alloc (.cells (arr 6 fun _ => 0) 22))).heap[w.heap.size + 1 + 1]? = some (.cells (arr 6 fun _ => 0) 22 (0, 0)) := heap_new (by simp)
  have hbel : Below w.heap.size w ((((w.alloc (.cells (arr 24 f) 38)).alloc (.cells (arr 6 fun _ => 0) 22)).alloc (.cells (arr 6 fun _ => 0) 22))) := (((Below.refl _ _).alloc (by simp) _).alloc (by simp) _).alloc (by simp; omega) _
  go_enter Try.func74, Try.ntmps74
  go_wp2_with first
    | (with_reducible refine wpList_allocA rfl 22 rfl 6 zero6 ?_; (try simp only [size_al]))
    | (with_reducible refine wpList_loadW rfl _ _ rfl _ rfl h1 agg24 size24 ?_)
  go_loopw [10] (fun i wr => ∃ n : Nat, n ≤ 6 ∧ i = .int .i64 n ∧ wr.heap[w.heap.size + 1]? = some (.cells (arr 6 fun _ => 0) 22 (0, 0)) ∧
    wr.heap[w.heap.size + 1 + 1]? = some (.cells (arr 6 (tally f (n * 4))) 22 (0, 0)) ∧ Below w.heap.size w wr) (fun i _ => 6 - (intOf i).toNat)
  case atStart => exact ⟨0, by omega, rfl, h2, h3, hbel⟩
  case round =>
    clear h1 h2 h3 hbel
    obtain ⟨n, hn, rfl, h2, h3, hbel⟩ := hrel
    by_cases hlt : n < 6
    · have hlt' : (n : Int) < 6 := by omega
      have tok_hA : True := trivial
      go_wp2_with first
        | (with_reducible refine wpList_indexA rfl _ _ _ rfl rfl rfl 6 _ Try.underlying33 4 agg4 size4 (by omega) rfl ?_)
        | (with_reducible refine wpList_allocA rfl 32 rfl 4 zero4 ?_; (try simp only [size_al]))
        | (have _t := tok_hA; with_reducible refine wpList_storeN rfl _ _ _ rfl rfl rfl size4 ?_; intro w1 hA hb1; replace hbel := hbel.trans (hb1.mono hbel.size); replace h2 := row_keep hb1 h2; replace h3 := row_keep hb1 h3; clear hb1 _t tok_hA)
        | (with_reducible refine wpList_loadW rfl _ _ rfl _ rfl hA agg4 size4 ?_)
      go_loopw [14] (fun k wq => ∃ m : Nat, m ≤ 4 ∧ k = .int .i64 m ∧ wq.heap[w.heap.size + 1]? = some (.cells (arr 6 fun _ => 0) 22 (0, 0)) ∧
        wq.heap[w.heap.size + 1 + 1]? = some (.cells (arr 6 (tally f (n * 4 + m))) 22 (0, 0)) ∧ Below w.heap.size w wq) (fun k _ => 4 - (intOf k).toNat)
      case atStart => exact ⟨0, by omega, rfl, h2, h3, hbel⟩
      case round =>
        clear h2 h3 hbel hA
        obtain ⟨m, hm, rfl, h2, h3, hbel⟩ := hrel
        by_cases hlt2 : m < 4
        · have hlt2' : (m : Int) < 4 := by omega
          obtain ⟨c, hc⟩ : ∃ c : Nat, f (n * 4 + m) = c := ⟨(f (n * 4 + m)).toNat, by have := cell_of_rack hf hlt hlt2; omega⟩
          have hc5 : c < 6 := by have := cell_of_rack hf hlt hlt2; omega
          have hc6 : (c : Int) < 6 := by omega
          have hb := tally_bd f (n * 4 + m) c
          have hb2 : tally f (n * 4 + m) c ≤ 24 := by omega
          have HC : Hid _ := hc
          have HT : Hid (tally f (n * 4 + (m + 1)) = upd (tally f (n * 4 + m)) c (tally f (n * 4 + m) c + 1)) := by
            rw [show n * 4 + (m + 1) = (n * 4 + m) + 1 from rfl, tally_succ, hc, Int.toNat_natCast]
            exact rfl
          clear hc
          go_wp2_with first
            | ((with_reducible refine wpList_indexI rfl _ _ _ rfl rfl rfl _ Try.underlying32 aggI undI size1 hlt2 ?_); rw [HC.out])
            | (with_reducible refine wpList_loadI rfl _ _ rfl _ _ rfl h3 aggI undI (by omega) ?_)
            | (with_reducible refine wpList_storeI rfl 3 _ _ rfl _ _ rfl rfl h3 size1 (by omega) ?_)
          go_roundw
          case rel =>
            refine ⟨m + 1, by omega, by go_num, ?_, ?_, below_setRow2 hbel (by omega) _⟩
            · rw [setRow_other _ _ _ _ (by omega), h2]
            · rw [setRow_heap _ _ _ _ _ _ h3, HT.out]
          case measure => simp [intOf]; omega
        · obtain rfl : m = 4 := by omega
          go_wp2
          go_roundw
          case rel => exact ⟨n + 1, by omega, by go_num, h2, by rw [h3, show (n + 1) * 4 = n * 4 + 4 by omega], hbel⟩
          case measure => simp [intOf]; omega
    · obtain rfl : n = 6 := by omega
      go_wp2_with first
        | (with_reducible refine wpList_loadW rfl _ _ rfl _ rfl h3 agg6 size6 ?_)
        | (with_reducible refine wpList_storeW rfl _ _ _ rfl _ rfl rfl h2 size6 ?_)
      exact bodyPost_ret_by (results_cellA rfl _ _ _ _ _ _ _ rfl (setRow_heap _ _ _ _ _ _ h2) agg6 size6) rfl ⟨rfl, below_setRow2 hbel (by omega) _⟩

def countsOf (f : Nat → Int) : (Nat → Int) × Bool := if rackB f = true then (tally f 24, true) else (fun _ => 0, false)
end Go.Proofs.Ytogdmacndokmhaa
