/- Counts of runs and of boundaries; bounds: the program's and the reference's. -/
import Derived.Test.YtbiplciklmagoaaTop
import Derived.Test.YtbiplciklmagoaaBot
import Derived.Test.YtbiplciklmagoaaFork
namespace Go.Proofs.Ytbiplciklmagoaa
set_option linter.unusedSimpArgs false
set_option linter.unusedVariables false
set_option maxRecDepth 20000
open Go.RowKit
/-- The runs of the first n tubes. -/
def rsum (f : Nat → Int) : Nat → Nat
  | 0 => 0
  | n + 1 => rsum f n + rN (tub f n) (nlay (tub f n))
theorem rsum_le (f : Nat → Int) : ∀ n, rsum f n ≤ 4 * n
  | 0 => by simp [rsum]
  | n + 1 => by
    have := rsum_le f n
    have := rN_le (tub f n) (nlay (tub f n))
    have := nlay_le (tub f n)
    unfold rsum
    omega
/-- The boundaries of the first n tubes. -/
def bsum (f : Nat → Int) : Nat → Nat
  | 0 => 0
  | n + 1 => bsum f n + (rN (tub f n) (nlay (tub f n)) - 1)
theorem bsum_le (f : Nat → Int) : ∀ n, bsum f n ≤ 3 * n
  | 0 => by simp [bsum]
  | n + 1 => by
    have := bsum_le f n
    have := rN_le (tub f n) (nlay (tub f n))
    have := nlay_le (tub f n)
    unfold bsum
    omega
theorem countRuns_any (f : Nat → Int) (hf : rackB f = true) (w : World) : Calls Try.prog 52 #[.agg (arr 24 f)] w fun e w' => e = .returned (.int .i64 (rsum f 6 : Nat)) ∧ Below w.heap.size w w' := by
  have h1 : (w.alloc (.cells (arr 24 f) 28)).heap[w.heap.size]? = some (.cells (arr 24 f) 28 (0, 0))   := heap_new rfl
  have hbel : Below w.heap.size w (w.alloc (.cells (arr 24 f) 28)) := (Below.refl _ _).alloc (by simp) _
  go_enter Try.func52, Try.ntmps52
  go_wp2_with first
    | (with_reducible refine wpList_loadW rfl _ _ rfl _ rfl h1 agg24 size24 ?_)
  go_loopw [3, 8] (fun a i wr => ∃ n : Nat, n ≤ 6 ∧ i = .int .i64 n ∧ a = .int .i64 (rsum f n : Nat) ∧ Below w.heap.size w wr) (fun _ i _ => 6 - (intOf i).toNat)
  case atStart => exact ⟨0, by omega, rfl, rfl, hbel⟩
  case round =>
    clear h1 hbel
    obtain ⟨n, hn, rfl, rfl, hbel⟩ := hrel
    have hs := rsum_le f n
    by_cases hlt : n < 6
    · have hlt' : (n : Int) < 6 := by omega
      have ht := tube_of_rack hf (show n ≤ 5 by omega)
      have hr4 : rN (tub f n) (nlay (tub f n)) ≤ 4 := by have := rN_le (tub f n) (nlay (tub f n)); have := nlay_le (tub f n); omega
      have HS : Hid (rsum f (n + 1) = rsum f n + rN (tub f n) (nlay (tub f n))) := rfl
      have tok_hA : True := trivial
      go_wp2_with first
        | (with_reducible refine wpList_indexA rfl _ _ _ rfl rfl rfl 6 _ Try.underlying23 4 agg4 size4 (by omega) rfl ?_)
        | (with_reducible refine wpList_allocA rfl 22 rfl 4 zero4 ?_; (try simp only [size_al]))
        | (have _t := tok_hA; with_reducible refine wpList_storeN rfl _ _ _ rfl rfl rfl size4 ?_; intro w1 hA hb1; replace hbel := hbel.trans (hb1.mono hbel.size); clear hb1 _t tok_hA)
        | (with_reducible refine wpList_loadW rfl _ _ rfl _ rfl hA agg4 size4 ?_)
        | (go_at_call 88; (with_reducible refine (runs_any (tub f n) ht _).mono ?_); rintro e w1 ⟨v, rfl, hS, hb1⟩; replace hbel := hbel.trans (hb1.mono hbel.size))
        | (with_reducible refine wpList_lenS slP.ht rfl _ rfl rfl hS ?_)
      go_roundw
      case rel => exact ⟨n + 1, by omega, by go_num, by rw [HS.out]; go_num, hbel⟩
      case measure => simp [intOf]; omega
    · obtain rfl : n = 6 := by omega
      go_wp2_with fail
      go_ret
      exact ⟨rfl, hbel⟩
theorem l6Runs_any (f : Nat → Int) (hf : rackB f = true) (w : World) : Calls Try.prog 50 #[.agg (arr 24 f)] w fun e w' => e = .returned (.int .i64 (rsum f 6 : Nat)) ∧ Below w.heap.size w w' := by
  have h1 : (w.alloc (.cells (arr 24 f) 28)).heap[w.heap.size]? = some (.cells (arr 24 f) 28 (0, 0))   := heap_new rfl
  have hbel : Below w.heap.size w (w.alloc (.cells (arr 24 f) 28)) := (Below.refl _ _).alloc (by simp) _
  go_enter Try.func50, Try.ntmps50
  go_wp2_with fail
  go_loopw [3, 4] (fun a i wr => ∃ n : Nat, n ≤ 6 ∧ i = .int .i64 n ∧ a = .int .i64 (rsum f n : Nat) ∧ wr.heap[w.heap.size]? = some (.cells (arr 24 f) 28 (0, 0)) ∧ Below w.heap.size w wr) (fun _ i _ => 6 - (intOf i).toNat)
  case atStart => exact ⟨0, by omega, rfl, rfl, h1, hbel⟩
  case round =>
    clear h1 hbel
    obtain ⟨n, hn, rfl, rfl, h1, hbel⟩ := hrel
    have hs := rsum_le f n
    by_cases hlt : n < 6
    · have hlt' : (n : Int) < 6 := by omega
      have ht := tube_of_rack hf (show n ≤ 5 by omega)
      have hr4 : rN (tub f n) (nlay (tub f n)) ≤ 4 := by have := rN_le (tub f n) (nlay (tub f n)); have := nlay_le (tub f n); omega
      have HS : Hid (rsum f (n + 1) = rsum f n + rN (tub f n) (nlay (tub f n))) := rfl
      go_wp2_with first
        | (with_reducible refine wpList_loadA rfl _ _ rfl _ _ rfl h1 4 agg4 size4 (by omega) ?_)
        | (go_at_call 89; (with_reducible refine (l2Runs_any (tub f n) ht _).mono ?_); rintro e w1 ⟨v, rfl, hS, hb1⟩; replace hbel := hbel.trans (hb1.mono hbel.size); replace h1 := row_keep hb1 h1)
        | (with_reducible refine wpList_lenS slP.ht rfl _ rfl rfl hS ?_)
      go_roundw
      case rel => exact ⟨n + 1, by omega, by go_num, by rw [HS.out]; go_num, h1, hbel⟩
      case measure => simp [intOf]; omega
    · obtain rfl : n = 6 := by omega
      go_wp2_with fail
      go_ret
      exact ⟨rfl, hbel⟩
variable {P : Program}
theorem wpQuiet_indexI {ops : Array Oper} {C : World → Prop} {rest : List Oper} {o : Oper} {a : Act} {Q : Act → Prop} (hw : Region.wanted o (yielded ops a.tmps) = true) (ty : TypeId) (x y : Operand) (ho : o.op = .index ty x y)
    {N : Nat} {g : Nat → Int} (hx : a.eval x = .agg (arr N g)) {k : Nat} (hy : a.eval y = .int .i64 k) (e : TypeId) (hu : P.underlying ty = some (.array N e)) (hd : aggB P e = false) (hue : (P.underlying e).isSome = true)
    (hi : (P.info? e).map (·.size) = some 1) (hk : k < N) (h : wpQuiet P ops C Q rest (a.put o.dst (.int .i64 (g k)))) : wpQuiet P ops C Q (o :: rest) a := by
  refine wpQuiet_value _ hw (fun w _ => ?_) h
  have hagg : (isAgg e).run P w = .ok false w := by
    unfold aggB at hd
    unfold isAgg
    cases hq : P.underlying e with
    | none => simp [hq] at hue
    | some d =>
      rw [Sem.run_bind, run_underlying hq w]
      cases d <;> simp_all
  have hg := arr_get N g k
  rw [if_pos hk] at hg
  have hr : (Instr.index ty (.agg (arr N g)) (.int .i64 k)).run P w = .ok (.int .i64 (g k)) w := by
    cases hq : P.info? e with
    | none => simp [hq] at hi
    | some i =>
      have hs : i.size = 1 := by simpa [hq] using hi
      simp [Instr.index, asIntOf, Sem.run_bind, run_underlying hu, part, hagg, sizeOf, typeInfo, hq, hs, hk, hg]
  unfold execOp
  simp only [ho, hx, hy, Sem.run_bind, hr, Result.andThen_ok, Sem.run_pure]
/-- Runs less tubes, and the empty ones again, are the boundaries. -/
theorem bsum_eq {f : Nat → Int} (hf : rackB f = true) : ∀ n, n ≤ 6 → (bsum f n : Int) = (rsum f n : Int) - n + tally (fun i => f (i * 4)) n 0
  | 0, _ => by simp [bsum, rsum, tally]
  | n + 1, h => by
    have ih := bsum_eq hf n (by omega)
    have ht := tube_of_rack hf (show n ≤ 5 by omega)
    have hc := cell_of_rack hf (show n < 6 by omega) (k := 0) (by omega)
    rw [tally_succ]
    unfold bsum rsum upd
    have hz : nlay (tub f n) = 0 ↔ f (n * 4) = 0 := by
      unfold nlay tub
      constructor
      · intro h; by_cases h0 : f (n * 4 + 0) = 0
        · exact h0
        · rw [if_neg h0] at h; (repeat' split at h) <;> omega
      · intro h; rw [if_pos (by exact h)]
    by_cases h0 : nlay (tub f n) = 0
    · have h1 := hz.1 h0
      rw [h0, show rN (tub f n) 0 = 0 from rfl, if_pos (by rw [h1]; rfl), show (f (n * 4)).toNat = 0 by rw [h1]; rfl]
      push_cast
      omega
    · have h1 : ¬ f (n * 4) = 0 := fun e => h0 (hz.2 e)
      have h2 := rN_pos (tub f n) (nlay (tub f n)) (by omega)
      have h3 : 0 ≤ f (n * 4) := hc.1
      rw [if_neg (by omega)]
      push_cast
      omega
def cbOf (f : Nat → Int) : Int × Bool := if rackB f = true then ((bsum f 6 : Nat), true) else (0, false)
def crOf (f : Nat → Int) : Int × Bool := if rackB f = true then ((rsum f 6 : Nat), true) else (0, false)
theorem specCr_any (f : Nat → Int) (w : World) : Calls Try.prog 16 #[.agg (arr 24 f)] w fun e w' => e = .returned (.tuple #[.int .i64 (crOf f).1, .bool (crOf f).2]) ∧ Below w.heap.size w w' := by
  have h1 : (w.alloc (.cells (arr 24 f) 28)).heap[w.heap.size]? = some (.cells (arr 24 f) 28 (0, 0))   := heap_new rfl
  have hbel : Below w.heap.size w (w.alloc (.cells (arr 24 f) 28)) := (Below.refl _ _).alloc (by simp) _
  unfold crOf
  cases hf : rackB f with
  | false =>
    have HF : Hid _ := hf
    simp only [Bool.false_eq_true, if_false]
    clear hf
    go_enter Try.func16, Try.ntmps16
    go_wp2_with first
      | (with_reducible refine wpList_loadW rfl _ _ rfl _ rfl h1 agg24r size24r ?_)
      | (go_at_call 43; (with_reducible refine (l2Rack_any _ _).mono ?_); rw [HF.out]; rintro e w1 ⟨rfl, hb1⟩; replace hbel := hbel.trans (hb1.mono hbel.size); replace h1 := row_keep hb1 h1; clear hb1)
    go_ret2
    exact ⟨rfl, hbel⟩
  | true =>
    have HF : Hid _ := hf
    simp only [if_true]
    go_enter Try.func16, Try.ntmps16
    go_wp2_with first
      | (with_reducible refine wpList_loadW rfl _ _ rfl _ rfl h1 agg24r size24r ?_)
      | (go_at_call 43; (with_reducible refine (l2Rack_any _ _).mono ?_); rw [HF.out]; rintro e w1 ⟨rfl, hb1⟩; replace hbel := hbel.trans (hb1.mono hbel.size); replace h1 := row_keep hb1 h1; clear hb1)
      | (go_at_call 50; (with_reducible refine (l6Runs_any f HF.out _).mono ?_); rintro e w1 ⟨rfl, hb1⟩; replace hbel := hbel.trans (hb1.mono hbel.size); replace h1 := row_keep hb1 h1; clear hb1)
    go_ret2
    exact ⟨rfl, hbel⟩
theorem implCr_any (f : Nat → Int) (w : World) : Calls Try.prog 17 #[.agg (arr 24 f)] w fun e w' => e = .returned (.tuple #[.int .i64 (crOf f).1, .bool (crOf f).2]) ∧ Below w.heap.size w w' := by
  have h1 : (w.alloc (.cells (arr 24 f) 28)).heap[w.heap.size]? = some (.cells (arr 24 f) 28 (0, 0))   := heap_new rfl
  have hbel : Below w.heap.size w (w.alloc (.cells (arr 24 f) 28)) := (Below.refl _ _).alloc (by simp) _
  unfold crOf
  cases hf : rackB f with
  | false =>
    have HF : Hid _ := hf
    simp only [Bool.false_eq_true, if_false]
    clear hf
    go_enter Try.func17, Try.ntmps17
    go_wp2_with first
      | (with_reducible refine wpList_loadW rfl _ _ rfl _ rfl h1 agg24r size24r ?_)
      | (go_at_call 51; (with_reducible refine (IsRack_any _ _).mono ?_); rw [HF.out]; rintro e w1 ⟨rfl, hb1⟩; replace hbel := hbel.trans (hb1.mono hbel.size); replace h1 := row_keep hb1 h1; clear hb1)
    go_ret2
    exact ⟨rfl, hbel⟩
  | true =>
    have HF : Hid _ := hf
    simp only [if_true]
    go_enter Try.func17, Try.ntmps17
    go_wp2_with first
      | (with_reducible refine wpList_loadW rfl _ _ rfl _ rfl h1 agg24r size24r ?_)
      | (go_at_call 51; (with_reducible refine (IsRack_any _ _).mono ?_); rw [HF.out]; rintro e w1 ⟨rfl, hb1⟩; replace hbel := hbel.trans (hb1.mono hbel.size); replace h1 := row_keep hb1 h1; clear hb1)
      | (go_at_call 52; (with_reducible refine (countRuns_any f HF.out _).mono ?_); rintro e w1 ⟨rfl, hb1⟩; replace hbel := hbel.trans (hb1.mono hbel.size); replace h1 := row_keep hb1 h1; clear hb1)
    go_ret2
    exact ⟨rfl, hbel⟩
set_option linter.unusedVariables false in
theorem FnExactCountRuns_walk (x0 : Nat → Int) (hx0 : ∀ j, I64 (x0 j)) (w : World) : Calls Try.prog 4 #[.agg (arr 24 x0)] w fun e w' => e = .returned (.bool true) ∧ Below w.heap.size w w' := by
  have hr0 : (w.alloc (.cells (arr 24 x0) 25)).heap[w.heap.size]? = some (.cells (arr 24 x0) 25 (0, 0)) := by rw [heap_new (by simp)]
  have hbel : Below w.heap.size w (w.alloc (.cells (arr 24 x0) 25)) := ((Below.refl _ _).alloc (by simp) _)
  go_enter Try.func4, Try.ntmps4
  go_wp2_with first
    | (with_reducible refine wpList_loadW rfl _ _ rfl _ rfl hr0 agg24l size24l ?_)
    | (go_at_call 14; (with_reducible refine (toRack_any _ _).mono ?_); (rintro e w1 ⟨rfl, hb1⟩; replace hbel := hbel.trans (hb1.mono hbel.size); replace hr0 := row_keep hb1 hr0; clear hb1))
    | (go_at_call 16; (with_reducible refine (specCr_any _ _).mono ?_); (rintro e w1 ⟨rfl, hb1⟩; replace hbel := hbel.trans (hb1.mono hbel.size); replace hr0 := row_keep hb1 hr0; clear hb1))
    | (go_at_call 17; (with_reducible refine (implCr_any _ _).mono ?_); (rintro e w1 ⟨rfl, hb1⟩; replace hbel := hbel.trans (hb1.mono hbel.size); replace hr0 := row_keep hb1 hr0; clear hb1))
  go_ret
  exact ⟨rfl, hbel⟩
end Go.Proofs.Ytbiplciklmagoaa
