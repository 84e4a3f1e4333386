/- Views: the model; what lies hidden, by the reference and by the program. -/
import Derived.Test.YtbiplciklmagoaaIdx
import Derived.Test.YtbiplciklmagoaaFloat
import Derived.Test.YtbiplciklmagoaaRackC
namespace Go.Proofs.Ytbiplciklmagoaa
set_option linter.unusedSimpArgs false
set_option linter.unusedVariables false
set_option maxRecDepth 20000
open Go.RowKit
theorem v6z : ((Try.prog.info? 43).bind (·.zero)).map (·.cells) = some (arr 6 fun _ => 0) := by kernel_rfl
theorem v6s : (Try.prog.info? 43).map (·.size) = some 6 := by kernel_rfl
theorem v6a : aggB Try.prog 43 = true := by kernel_rfl
theorem v6b : Try.prog.built 43 [] = some (arr 6 fun _ => 0) := by kernel_rfl
theorem size18r : (Try.prog.info? 48).map (·.size) = some 18 := by kernel_rfl
theorem agg18r : aggB Try.prog 48 = true := by kernel_rfl
/-- Stack i of a view is sound: its height, its top, and both are nothing or neither. -/
def vok (v : Nat → Int) (i : Nat) : Prop := (0 ≤ v (6 + i) ∧ v (6 + i) ≤ 4) ∧ (0 ≤ v i ∧ v i ≤ 5) ∧ (v i = 0 ↔ v (6 + i) = 0)
/-- The colours that are left behind the first n tops. -/
def lft (v : Nat → Int) : Nat → (Nat → Int)
  | 0 => fun c => v (12 + c)
  | n + 1 => if v n = 0 then lft v n else upd (lft v n) (v n).toNat (wrap64 (lft v n (v n).toNat - 1))
/-- The layers under the first n tops. -/
def hsum (v : Nat → Int) : Nat → Int
  | 0 => 0
  | n + 1 => if v (6 + n) = 0 then hsum v n else hsum v n + v (6 + n) - 1
def isum (f : Nat → Int) : Nat → Int
  | 0 => 0
  | n + 1 => isum f n + f n
theorem hsum_bd {v : Nat → Int} (hv : ∀ i, i < 6 → vok v i) : ∀ n, n ≤ 6 → 0 ≤ hsum v n ∧ hsum v n ≤ 3 * n
  | 0, _ => by simp [hsum]
  | n + 1, h => by
    have ih := hsum_bd hv n (by omega)
    have := (hv n (by omega)).1
    unfold hsum
    split <;> (push_cast; omega)
theorem isum_bd {f : Nat → Int} {b : Int} : ∀ n, (∀ k, k < n → 0 ≤ f k ∧ f k ≤ b) → 0 ≤ isum f n ∧ isum f n ≤ b * n
  | 0, _ => by simp [isum]
  | n + 1, h => by
    have ih := isum_bd n (fun k hk => h k (by omega))
    have := h n (by omega)
    unfold isum
    rw [show b * ((n + 1 : Nat) : Int) = b * n + b by push_cast; rw [Int.mul_add, Int.mul_one]]
    omega

set_option maxRecDepth 8000 in
theorem l7Hidden_any (v : Nat → Int) (hv : ∀ i, i < 6 → vok v i) (w : World) : Calls Try.prog 93 #[.agg (arr 18 v)] w fun e w' => e = .returned (.tuple #[.int .i64 (hsum v 6), .agg (arr 6 (lft v 6))]) ∧ Below w.heap.size w w' := by
  have h1 : ((w.alloc (.cells (arr 18 v) 48)).alloc (.cells (arr 6 fun _ => 0) 43)).heap[w.heap.size]? = some (.cells (arr 18 v) 48 (0, 0)) := by rw [heap_old (by simp), heap_new rfl]
  have h2 : ((w.alloc (.cells (arr 18 v) 48)).alloc (.cells (arr 6 fun _ => 0) 43)).heap[w.heap.size + 1]? = some (.cells (arr 6 fun _ => 0) 43 (0, 0)) := heap_new (by simp)
  have hbel : Below w.heap.size w ((w.alloc (.cells (arr 18 v) 48)).alloc (.cells (arr 6 fun _ => 0) 43)) := ((Below.refl _ _).alloc (by simp) _).alloc (by simp) _
  have tok_h3 : True := trivial
  go_enter Try.func93, Try.ntmps93
  go_wp2_with first
    | (with_reducible refine wpList_allocA rfl 43 rfl 6 v6z ?_; (try simp only [size_al]))
  refine wp_region_float 0 0 2 [2, 3] [2, 3, 4] (fun l => l.drop 2) (Cls w _) (by kernel_rfl) (by kernel_rfl) (by kernel_rfl) (⟨Pres.alloc _ rfl 6 v6z, Pres.assign _ rfl, trivial⟩) (Cls.two h1 h2 hbel) ?_; simp only [List.take_succ_cons, List.take_zero, List.drop_succ_cons, List.drop_zero, List.singleton_append, List.cons_append, List.nil_append]
  refine wpCalm_nil ?_
  repeat (first
    | (with_reducible refine wpCalm_loadA rfl _ _ rfl _ _ rfl (fun _ h => h.r1) 6 v6a v6s (by omega) ?_)
    | ((with_reducible refine wpCalm_step (fun K hK => ?_)); go_simp; (first | (refine ⟨_, fun _ _ => rfl, hK _ ?_⟩) | (refine hK _ ?_)); clear hK K))
  refine wpCalm_nil ?_
  obtain ⟨wt, hwt⟩ : ∃ wt : World, wt = { ((w.alloc (.cells (arr 18 v) 48)).alloc (.cells (arr 6 fun _ => 0) 43)) with drawn := ((w.alloc (.cells (arr 18 v) 48)).alloc (.cells (arr 6 fun _ => 0) 43)).drawn + 1 } := ⟨_, rfl⟩
  rw [← hwt]
  have hCt := Cls.two h1 h2 hbel
  rw [← hwt] at hCt
  clear hwt
  replace h1 := hCt.r1
  replace h2 := hCt.r2
  replace hbel := hCt.2
  have hlt2 := (Array.getElem?_eq_some_iff.1 h2).1
  go_wp2_with first
    | (with_reducible refine wpList_allocA rfl 43 rfl 6 v6z ?_; (try simp only [size_al]))
    | (have _t := tok_h3; with_reducible refine wpList_storeN rfl _ _ _ rfl rfl rfl v6s ?_; intro w1 h3 hb1; replace hbel := hbel.trans (hb1.mono hbel.size); replace h1 := row_keep hb1 h1; replace h2 := row_keep hb1 h2; clear hb1 _t tok_h3)
  refine QN.intro ?_
  go_wp2_with first
    | fail
  go_loopw [4, 6] (fun m i wr => ∃ n : Nat, n ≤ 6 ∧ i = .int .i64 n ∧ m = .int .i64 (hsum v n) ∧ wr.heap[w.heap.size]? = some (.cells (arr 18 v) 48 (0, 0)) ∧ wr.heap[w.heap.size + 1]? = some (.cells (arr 6 fun _ => 0) 43 (0, 0)) ∧
    wr.heap[wt.heap.size]? = some (.cells (arr 6 (lft v n)) 43 (0, 0)) ∧ Below w.heap.size w wr) (fun _ i _ => 6 - (intOf i).toNat)
  case atStart => exact ⟨0, by omega, rfl, rfl, h1, h2, h3, hbel⟩
  case round =>
    clear h1 h2 h3 hbel
    obtain ⟨n, hn, rfl, rfl, h1, h2, h3, hbel⟩ := hrel
    by_cases hlt : n < 6
    · obtain ⟨⟨ha, hb⟩, ⟨hc, hd⟩, he⟩ := hv n hlt
      have hs := hsum_bd hv n (by omega)
      have hs2 : hsum v n ≤ 18 := by omega
      have hs1 := hs.1
      have hlt' : (n : Int) < 6 := by omega
      by_cases hz : v (6 + n) = 0
      · have hp : ¬ (0 < v (6 + n)) := by omega
        have HT : Hid (hsum v (n + 1) = hsum v n ∧ lft v (n + 1) = lft v n) := ⟨if_pos hz, if_pos (he.2 hz)⟩
        clear he hs hs1 hs2 hz
        go_wp2_with first
          | (with_reducible refine wpList_loadI rfl _ _ rfl _ _ rfl h1 aggI undI (by omega) ?_)
        go_roundw
        case rel => exact ⟨n + 1, by omega, by go_num, by rw [HT.out.1], h1, h2, by rw [HT.out.2]; exact h3, hbel⟩
        case measure => simp [intOf]; omega
      · have hp : 0 < v (6 + n) := by omega
        have hz2 : ¬ v n = 0 := fun h => hz (he.1 h)
        obtain ⟨c, hcc⟩ : ∃ c : Nat, v n = c := ⟨(v n).toNat, by omega⟩
        have hc6 : (c : Int) < 6 := by omega
        have hc5 : c < 6 := by omega
        have HC : Hid (v n = c) := hcc
        have HC2 : Hid (v (0 + n) = c) := by rw [Nat.zero_add]; exact hcc
        have HT : Hid (hsum v (n + 1) = hsum v n + v (6 + n) - 1 ∧ lft v (n + 1) = upd (lft v n) c (wrap64 (lft v n c - 1))) := ⟨if_neg hz, by
          show (if v n = 0 then lft v n else upd (lft v n) (v n).toNat (wrap64 (lft v n (v n).toNat - 1))) = _
          rw [if_neg hz2, hcc, Int.toNat_natCast]⟩
        clear he hs hz hz2 hcc hc hd
        go_wp2_with first
          | ((with_reducible refine wpList_loadI rfl _ _ rfl w.heap.size _ rfl h1 aggI undI (by omega) ?_); first | rw [HC.out] | rw [HC2.out] | skip)
          | (with_reducible refine wpList_loadI rfl _ _ rfl _ _ rfl h3 aggI undI (by omega) ?_)
          | (with_reducible refine wpList_storeI rfl 3 _ _ rfl _ _ rfl rfl h3 size1 (by omega) ?_)
        go_roundw
        case rel =>
          refine ⟨n + 1, by omega, by go_num, ?_, ?_, ?_, ?_, below_setRow2 hbel (by omega) _⟩
          · rw [HT.out.1]
          · rw [setRow_other _ _ _ _ (by omega), h1]
          · rw [setRow_other _ _ _ _ (by omega), h2]
          · rw [setRow_heap _ _ _ _ _ _ h3, HT.out.2]
        case measure => simp [intOf]; omega
    · obtain rfl : n = 6 := by omega
      go_wp2_with first
        | fail
      refine wp_region_held 3 (Cls w _) (by kernel_rfl) (by kernel_rfl) (Cls.two h2 h3 hbel) ?_; simp only [List.take_succ_cons, List.take_zero, List.drop_succ_cons, List.drop_zero]
      repeat (first
        | (with_reducible refine wpQuiet_loadW rfl _ _ rfl _ rfl (fun _ h => h.r2) v6a v6s ?_)
        | ((with_reducible refine wpQuiet_step (fun K hK => ?_)); go_simp; (first | (refine ⟨_, fun _ _ => rfl, hK _ ?_⟩) | (refine ⟨_, fun _ _ => ⟨rfl, rfl⟩, hK _ ?_⟩) | (refine hK _ ?_)); clear hK K))
      refine wpQuiet_nil ?_
      intro wz hCz
      replace h2 := hCz.r1
      replace h3 := hCz.r2
      replace hbel := hCz.2
      go_wp2_with first
        | (with_reducible refine wpList_storeW rfl _ _ _ rfl _ rfl rfl h2 v6s ?_)
      exact bodyPost_ret_by (results_tc _ _ _ _ _ _ _ rfl rfl (setRow_heap _ _ _ _ _ _ h2) v6a v6s) rfl ⟨rfl, below_setRow2 hbel (by omega) _⟩

theorem hidden_any (v : Nat → Int) (hv : ∀ i, i < 6 → vok v i) (w : World) : Calls Try.prog 77 #[.agg (arr 18 v)] w fun e w' => e = .returned (.agg (arr 6 (lft v 6))) ∧ Below w.heap.size w w' := by
  have h1 : (((w.alloc (.cells (arr 18 v) 48)).alloc (.cells (arr 6 fun _ => 0) 43)).alloc (.cells (arr 6 fun _ => 0) 43)).heap[w.heap.size]? = some (.cells (arr 18 v) 48 (0, 0)) := by rw [heap_old (by simp; omega), heap_old (by simp), heap_new rfl]
  have h2 : (((w.alloc (.cells (arr 18 v) 48)).alloc (.cells (arr 6 fun _ => 0) 43)).alloc (.cells (arr 6 fun _ => 0) 43)).heap[w.heap.size + 1]? = some (.cells (arr 6 fun _ => 0) 43 (0, 0)) := by rw [heap_old (by simp), heap_new (by simp)]
  have h3 : (((w.alloc (.cells (arr 18 v) 48)).alloc (.cells (arr 6 fun _ => 0) 43)).alloc (.cells (arr 6 fun _ => 0) 43)).heap[w.heap.size + 1 + 1]? = some (.cells (arr 6 fun _ => 0) 43 (0, 0)) := heap_new (by simp)
  have h0 : ((w.alloc (.cells (arr 18 v) 48)).alloc (.cells (arr 6 fun _ => 0) 43)).heap[w.heap.size]? = some (.cells (arr 18 v) 48 (0, 0)) := by rw [heap_old (by simp), heap_new rfl]
  have hbel : Below w.heap.size w (((w.alloc (.cells (arr 18 v) 48)).alloc (.cells (arr 6 fun _ => 0) 43)).alloc (.cells (arr 6 fun _ => 0) 43)) := (((Below.refl _ _).alloc (by simp) _).alloc (by simp) _).alloc (by simp; omega) _
  have h4 := setRow_heap _ _ _ (arr 6 (lft v 0)) _ _ h3
  have h5 := (setRow_other (((w.alloc (.cells (arr 18 v) 48)).alloc (.cells (arr 6 fun _ => 0) 43)).alloc (.cells (arr 6 fun _ => 0) 43)) (w.heap.size + 1 + 1) w.heap.size (arr 6 (lft v 0)) (by omega)).trans h1
  have h6 := (setRow_other (((w.alloc (.cells (arr 18 v) 48)).alloc (.cells (arr 6 fun _ => 0) 43)).alloc (.cells (arr 6 fun _ => 0) 43)) (w.heap.size + 1 + 1) (w.heap.size + 1) (arr 6 (lft v 0)) (by omega)).trans h2
  go_enter Try.func77, Try.ntmps77
  go_wp2_with first
    | (with_reducible refine wpList_allocA rfl 43 rfl 6 v6z ?_; (try simp only [size_al]))
    | (with_reducible refine wpList_loadA rfl _ _ rfl _ _ rfl h0 6 v6a v6s (by omega) ?_)
    | (with_reducible refine wpList_loadA rfl _ _ rfl _ _ rfl h5 6 v6a v6s (by omega) ?_)
    | (with_reducible refine wpList_storeW rfl _ _ _ rfl _ rfl rfl h3 v6s ?_)
  go_loopw [10] (fun i wr => ∃ n : Nat, n ≤ 6 ∧ i = .int .i64 n ∧ wr.heap[w.heap.size + 1]? = some (.cells (arr 6 fun _ => 0) 43 (0, 0)) ∧
    wr.heap[w.heap.size + 1 + 1]? = some (.cells (arr 6 (lft v n)) 43 (0, 0)) ∧ Below w.heap.size w wr) (fun i _ => 6 - (intOf i).toNat)
  case atStart => exact ⟨0, by omega, rfl, h6, h4, below_setRow2 hbel (by omega) _⟩
  case round =>
    clear h0 h1 h2 h3 h4 h5 h6 hbel
    obtain ⟨n, hn, rfl, h2, h3, hbel⟩ := hrel
    by_cases hlt : n < 6
    · obtain ⟨⟨ha, hb⟩, ⟨hc, hd⟩, he⟩ := hv n hlt
      have hlt' : (n : Int) < 6 := by omega
      obtain ⟨c, hcc⟩ : ∃ c : Nat, v n = c := ⟨(v n).toNat, by omega⟩
      have hc6 : (c : Int) < 6 := by omega
      have hc5 : c < 6 := by omega
      have HC : Hid (v n = c) := hcc
      have HC2 : Hid (v (0 + n) = c) := by rw [Nat.zero_add]; exact hcc
      by_cases hz : v n = 0
      · have HT : Hid (lft v (n + 1) = lft v n) := if_pos hz
        have hz2 : ¬ (0 < (c : Int)) := by omega
        clear he hz hcc hc hd
        go_wp2_with first
          | ((with_reducible refine wpList_indexI rfl _ _ _ rfl rfl rfl _ Try.underlying43 aggI undI size1 (by omega) ?_); first | rw [HC.out] | rw [HC2.out])
        go_roundw
        case rel => exact ⟨n + 1, by omega, by go_num, h2, by rw [HT.out]; exact h3, hbel⟩
        case measure => simp [intOf]; omega
      · have HT : Hid (lft v (n + 1) = upd (lft v n) c (wrap64 (lft v n c - 1))) := by
          show Hid ((if v n = 0 then lft v n else upd (lft v n) (v n).toNat (wrap64 (lft v n (v n).toNat - 1))) = _)
          rw [if_neg hz, hcc, Int.toNat_natCast]
          exact rfl
        have hz2 : 0 < (c : Int) := by omega
        clear he hz hcc hc hd
        go_wp2_with first
          | ((with_reducible refine wpList_indexI rfl _ _ _ rfl rfl rfl _ Try.underlying43 aggI undI size1 (by omega) ?_); first | rw [HC.out] | rw [HC2.out])
          | (with_reducible refine wpList_loadI rfl _ _ rfl _ _ rfl h3 aggI undI (by omega) ?_)
          | (with_reducible refine wpList_storeI rfl 3 _ _ rfl _ _ rfl rfl h3 size1 (by omega) ?_)
        go_roundw
        case rel =>
          refine ⟨n + 1, by omega, by go_num, ?_, ?_, below_setRow2 hbel (by omega) _⟩
          · rw [setRow_other _ _ _ _ (by omega), h2]
          · rw [setRow_heap _ _ _ _ _ _ h3, HT.out]
        case measure => simp [intOf]; omega
    · obtain rfl : n = 6 := by omega
      go_wp2_with first
        | (with_reducible refine wpList_loadW rfl _ _ rfl _ rfl h3 v6a v6s ?_)
        | (with_reducible refine wpList_storeW rfl _ _ _ rfl _ rfl rfl h2 v6s ?_)
      exact bodyPost_ret_by (results_cellA rfl _ _ _ _ _ _ _ rfl (setRow_heap _ _ _ _ _ _ h2) v6a v6s) rfl ⟨rfl, below_setRow2 hbel (by omega) _⟩

theorem sum_any {B off len cap n : Nat} {f : Nat → Int} {T : TypeId} {fr : Nat × Nat} (w : World) (hg : w.heap[B]? = some (.cells (arr n f) T fr)) (hle : off + len ≤ n) (hm : len ≤ 100) (hb : ∀ k, k < len → 0 ≤ f (off + k) ∧ f (off + k) ≤ 1000) :
    Calls Try.prog 96 #[.slice (some ⟨B, off, none⟩) len cap] w fun e w' => e = .returned (.int .i64 (isum (fun k => f (off + k)) len)) ∧ Below w.heap.size w w' := by
  go_enter Try.func96, Try.ntmps96
  go_wp2
  go_loop [3, 8] (fun s i => ∃ k : Nat, k ≤ len ∧ i = .int .i64 k ∧ s = .int .i64 (isum (fun k => f (off + k)) k)) (fun _ i => len - (intOf i).toNat)
  case atStart => exact ⟨0, by omega, rfl, rfl⟩
  case round =>
    obtain ⟨k, hk, rfl, rfl⟩ := hrel
    have hs := isum_bd (f := fun k => f (off + k)) (b := 1000) k (fun j hj => hb j (by omega))
    by_cases hlt : k < len
    · have hc := rowcell hg (i := off + k) (by omega)
      have hfk := hb k hlt
      have hs1 := hs.1
      have hs2 : isum (fun k => f (off + k)) k ≤ 100000 := by omega
      have hf1 := hfk.1
      have hf2 := hfk.2
      clear hs hfk
      go_wp2
      go_round
      case rel => exact ⟨k + 1, by omega, by go_num, by go_num⟩
      case measure => simp [intOf]; omega
    · obtain rfl : k = len := by omega
      go_wp2
      go_ret
      exact ⟨rfl, Below.refl _ _⟩
end Go.Proofs.Ytbiplciklmagoaa
