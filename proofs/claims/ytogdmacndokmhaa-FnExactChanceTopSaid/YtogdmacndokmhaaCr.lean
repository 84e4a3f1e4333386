/- Counts of runs and of boundaries; bounds: the program's and the reference's. -/
import Derived.Test.YtogdmacndokmhaaTop
import Derived.Test.YtogdmacndokmhaaBot
import Derived.Test.YtogdmacndokmhaaFork
namespace Go.Proofs.Ytogdmacndokmhaa
set_option linter.unusedSimpArgs false
set_option linter.unusedVariables false
set_option maxRecDepth 20000
open Go.RowKit
/-- The runs of the first n tubes. -/
def rsum (f : Nat → Int) : Nat → Nat
  | 0 => 0
  | n + 1 => rsum f n + rN (tub f n) (nlay (tub f n))
theorem rsum_le (f : Nat → Int) : ∀ n, rsum f n ≤ 4 * n
  | 0 => by simp [rsum]
  | n + 1 => by
    have := rsum_le f n
    have := rN_le (tub f n) (nlay (tub f n))
    have := nlay_le (tub f n)
    unfold rsum
    omega
/-- The boundaries of the first n tubes. -/
def bsum (f : Nat → Int) : Nat → Nat
  | 0 => 0
  | n + 1 => bsum f n + (rN (tub f n) (nlay (tub f n)) - 1)
theorem bsum_le (f : Nat → Int) : ∀ n, bsum f n ≤ 3 * n
  | 0 => by simp [bsum]
  | n + 1 => by
    have := bsum_le f n
    have := rN_le (tub f n) (nlay (tub f n))
    have := nlay_le (tub f n)
    unfold bsum
    omega
theorem countRuns_any (f : Nat → Int) (hf : rackB f = true) (w : World) : Calls Try.prog 73 #[.agg (arr 24 f)] w fun e w' => e = .returned (.int .i64 (rsum f 6 : Nat)) ∧ Below w.heap.size w w' := by
  have h1 : (w.alloc (.cells (arr 24 f) 38)).heap[w.heap.size]? = some (.cells (arr 24 f) 38 (0, 0))   := heap_new rfl
  have hbel : Below w.heap.size w (w.alloc (.cells (arr 24 f) 38)) := (Below.refl _ _).alloc (by simp) _
  go_enter Try.func73, Try.ntmps73
  go_wp2_with first
    | (with_reducible refine wpList_loadW rfl _ _ rfl _ rfl h1 agg24 size24 ?_)
  go_loopw [3, 8] (fun a i wr => ∃ n : Nat, n ≤ 6 ∧ i = .int .i64 n ∧ a = .int .i64 (rsum f n : Nat) ∧ Below w.heap.size w wr) (fun _ i _ => 6 - (intOf i).toNat)
  case atStart => exact ⟨0, by omega, rfl, rfl, hbel⟩
  case round =>
    clear h1 hbel
    obtain ⟨n, hn, rfl, rfl, hbel⟩ := hrel
    have hs := rsum_le f n
    by_cases hlt : n < 6
    · have hlt' : (n : Int) < 6 := by omega
      have ht := tube_of_rack hf (show n ≤ 5 by omega)
      have hr4 : rN (tub f n) (nlay (tub f n)) ≤ 4 := by have := rN_le (tub f n) (nlay (tub f n)); have := nlay_le (tub f n); omega
      have HS : Hid (rsum f (n + 1) = rsum f n + rN (tub f n) (nlay (tub f n))) := rfl
      have tok_hA : True := trivial
      go_wp2_with first
        | (with_reducible refine wpList_indexA rfl _ _ _ rfl rfl rfl 6 _ Try.underlying33 4 agg4 size4 (by omega) rfl ?_)
        | (with_reducible refine wpList_allocA rfl 32 rfl 4 zero4 ?_; (try simp only [size_al]))
        | (have _t := tok_hA; with_reducible refine wpList_storeN rfl _ _ _ rfl rfl rfl size4 ?_; intro w1 hA hb1; replace hbel := hbel.trans (hb1.mono hbel.size); clear hb1 _t tok_hA)
        | (with_reducible refine wpList_loadW rfl _ _ rfl _ rfl hA agg4 size4 ?_)
        | (go_at_call 70; (with_reducible refine (runs_any (tub f n) ht _).mono ?_); rintro e w1 ⟨v, rfl, hS, hb1⟩; replace hbel := hbel.trans (hb1.mono hbel.size))
        | (with_reducible refine wpList_lenS slP.ht rfl _ rfl rfl hS ?_)
      go_roundw
      case rel => exact ⟨n + 1, by omega, by go_num, by rw [HS.out]; go_num, hbel⟩
      case measure => simp [intOf]; omega
    · obtain rfl : n = 6 := by omega
      go_wp2_with fail
      go_ret
      exact ⟨rfl, hbel⟩
theorem l6Runs_any (f : Nat → Int) (hf : rackB f = true) (w : World) : Calls Try.prog 72 #[.agg (arr 24 f)] w fun e w' => e = .returned (.int .i64 (rsum f 6 : Nat)) ∧ Below w.heap.size w w' := by
  have h1 : (w.alloc (.cells (arr 24 f) 38)).heap[w.heap.size]? = some (.cells (arr 24 f) 38 (0, 0))   := heap_new rfl
  have hbel : Below w.heap.size w (w.alloc (.cells (arr 24 f) 38)) := (Below.refl _ _).alloc (by simp) _
  go_enter Try.func72, Try.ntmps72
  go_wp2_with fail
  go_loopw [3, 4] (fun a i wr => ∃ n : Nat, n ≤ 6 ∧ i = .int .i64 n ∧ a = .int .i64 (rsum f n : Nat) ∧ wr.heap[w.heap.size]? = some (.cells (arr 24 f) 38 (0, 0)) ∧ Below w.heap.size w wr) (fun _ i _ => 6 - (intOf i).toNat)
  case atStart => exact ⟨0, by omega, rfl, rfl, h1, hbel⟩
  case round =>
    clear h1 hbel
    obtain ⟨n, hn, rfl, rfl, h1, hbel⟩ := hrel
    have hs := rsum_le f n
    by_cases hlt : n < 6
    · have hlt' : (n : Int) < 6 := by omega
      have ht := tube_of_rack hf (show n ≤ 5 by omega)
      have hr4 : rN (tub f n) (nlay (tub f n)) ≤ 4 := by have := rN_le (tub f n) (nlay (tub f n)); have := nlay_le (tub f n); omega
      have HS : Hid (rsum f (n + 1) = rsum f n + rN (tub f n) (nlay (tub f n))) := rfl
      go_wp2_with first
        | (with_reducible refine wpList_loadA rfl _ _ rfl _ _ rfl h1 4 agg4 size4 (by omega) ?_)
        | (go_at_call 69; (with_reducible refine (l2Runs_any (tub f n) ht _).mono ?_); rintro e w1 ⟨v, rfl, hS, hb1⟩; replace hbel := hbel.trans (hb1.mono hbel.size); replace h1 := row_keep hb1 h1)
        | (with_reducible refine wpList_lenS slP.ht rfl _ rfl rfl hS ?_)
      go_roundw
      case rel => exact ⟨n + 1, by omega, by go_num, by rw [HS.out]; go_num, h1, hbel⟩
      case measure => simp [intOf]; omega
    · obtain rfl : n = 6 := by omega
      go_wp2_with fail
      go_ret
      exact ⟨rfl, hbel⟩
theorem countBoundaries_any (f : Nat → Int) (hf : rackB f = true) (w : World) : Calls Try.prog 64 #[.agg (arr 24 f)] w fun e w' => e = .returned (.int .i64 (bsum f 6 : Nat)) ∧ Below w.heap.size w w' := by
  have h1 : (w.alloc (.cells (arr 24 f) 38)).heap[w.heap.size]? = some (.cells (arr 24 f) 38 (0, 0))   := heap_new rfl
  have hbel : Below w.heap.size w (w.alloc (.cells (arr 24 f) 38)) := (Below.refl _ _).alloc (by simp) _
  go_enter Try.func64, Try.ntmps64
  go_wp2_with first
    | (with_reducible refine wpList_loadW rfl _ _ rfl _ rfl h1 agg24 size24 ?_)
  go_loopw [3, 8] (fun a i wr => ∃ n : Nat, n ≤ 6 ∧ i = .int .i64 n ∧ a = .int .i64 (bsum f n : Nat) ∧ Below w.heap.size w wr) (fun _ i _ => 6 - (intOf i).toNat)
  case atStart => exact ⟨0, by omega, rfl, rfl, hbel⟩
  case round =>
    clear h1 hbel
    obtain ⟨n, hn, rfl, rfl, hbel⟩ := hrel
    have hs := bsum_le f n
    by_cases hlt : n < 6
    · have hlt' : (n : Int) < 6 := by omega
      have ht := tube_of_rack hf (show n ≤ 5 by omega)
      have hr4 : rN (tub f n) (nlay (tub f n)) ≤ 4 := by have := rN_le (tub f n) (nlay (tub f n)); have := nlay_le (tub f n); omega
      have HS : Hid (bsum f (n + 1) = bsum f n + (rN (tub f n) (nlay (tub f n)) - 1)) := rfl
      have tok_hA : True := trivial
      go_wp2_with first
        | (with_reducible refine wpList_indexA rfl _ _ _ rfl rfl rfl 6 _ Try.underlying33 4 agg4 size4 (by omega) rfl ?_)
        | (with_reducible refine wpList_allocA rfl 32 rfl 4 zero4 ?_; (try simp only [size_al]))
        | (have _t := tok_hA; with_reducible refine wpList_storeN rfl _ _ _ rfl rfl rfl size4 ?_; intro w1 hA hb1; replace hbel := hbel.trans (hb1.mono hbel.size); clear hb1 _t tok_hA)
        | (with_reducible refine wpList_loadW rfl _ _ rfl _ rfl hA agg4 size4 ?_)
        | (go_at_call 70; (with_reducible refine (runs_any (tub f n) ht _).mono ?_); rintro e w1 ⟨v, rfl, hS, hb1⟩; replace hbel := hbel.trans (hb1.mono hbel.size))
        | (with_reducible refine wpList_lenS slP.ht rfl _ rfl rfl hS ?_)
      all_goals
        go_roundw
        case rel => exact ⟨n + 1, by omega, by go_num, by rw [HS.out]; refine congrArg _ ?_; (try split) <;> omega, hbel⟩
        case measure => simp [intOf]; omega
    · obtain rfl : n = 6 := by omega
      go_wp2_with fail
      go_ret
      exact ⟨rfl, hbel⟩
variable {P : Program}
theorem wpQuiet_indexI {ops : Array Oper} {C : World → Prop} {rest : List Oper} {o : Oper} {a : Act} {Q : Act → Prop} (hw : Region.wanted o (yielded ops a.tmps) = true) (ty : TypeId) (x y : Operand) (ho : o.op = .index ty x y)
    {N : Nat} {g : Nat → Int} (hx : a.eval x = .agg (arr N g)) {k : Nat} (hy : a.eval y = .int .i64 k) (e : TypeId) (hu : P.underlying ty = some (.array N e)) (hd : aggB P e = false) (hue : (P.underlying e).isSome = true)
    (hi : (P.info? e).map (·.size) = some 1) (hk : k < N) (h : wpQuiet P ops C Q rest (a.put o.dst (.int .i64 (g k)))) : wpQuiet P ops C Q (o :: rest) a := by
  refine wpQuiet_value _ hw (fun w _ => ?_) h
  have hagg : (isAgg e).run P w = .ok false w := by
    unfold aggB at hd
    unfold isAgg
    cases hq : P.underlying e with
    | none => simp [hq] at hue
    | some d =>
      rw [Sem.run_bind, run_underlying hq w]
      cases d <;> simp_all
  have hg := arr_get N g k
  rw [if_pos hk] at hg
  have hr : (Instr.index ty (.agg (arr N g)) (.int .i64 k)).run P w = .ok (.int .i64 (g k)) w := by
    cases hq : P.info? e with
    | none => simp [hq] at hi
    | some i =>
      have hs : i.size = 1 := by simpa [hq] using hi
      simp [Instr.index, asIntOf, Sem.run_bind, run_underlying hu, part, hagg, sizeOf, typeInfo, hq, hs, hk, hg]
  unfold execOp
  simp only [ho, hx, hy, Sem.run_bind, hr, Result.andThen_ok, Sem.run_pure]
/-- Runs less tubes, and the empty ones again, are the boundaries. -/
theorem bsum_eq {f : Nat → Int} (hf : rackB f = true) : ∀ n, n ≤ 6 → (bsum f n : Int) = (rsum f n : Int) - n + tally (fun i => f (i * 4)) n 0
  | 0, _ => by simp [bsum, rsum, tally]
  | n + 1, h => by
    have ih := bsum_eq hf n (by omega)
    have ht := tube_of_rack hf (show n ≤ 5 by omega)
    have hc := cell_of_rack hf (show n < 6 by omega) (k := 0) (by omega)
    rw [tally_succ]
    unfold bsum rsum upd
    have hz : nlay (tub f n) = 0 ↔ f (n * 4) = 0 := by
      unfold nlay tub
      constructor
      · intro h; by_cases h0 : f (n * 4 + 0) = 0
        · exact h0
        · rw [if_neg h0] at h; (repeat' split at h) <;> omega
      · intro h; rw [if_pos (by exact h)]
    by_cases h0 : nlay (tub f n) = 0
    · have h1 := hz.1 h0
      rw [h0, show rN (tub f n) 0 = 0 from rfl, if_pos (by rw [h1]; rfl), show (f (n * 4)).toNat = 0 by rw [h1]; rfl]
      push_cast
      omega
    · have h1 : ¬ f (n * 4) = 0 := fun e => h0 (hz.2 e)
      have h2 := rN_pos (tub f n) (nlay (tub f n)) (by omega)
      have h3 : 0 ≤ f (n * 4) := hc.1
      rw [if_neg (by omega)]
      push_cast
      omega
theorem l6Boundaries_any (f : Nat → Int) (hf : rackB f = true) (w : World) : Calls Try.prog 62 #[.agg (arr 24 f)] w fun e w' => e = .returned (.int .i64 (bsum f 6 : Nat)) ∧ Below w.heap.size w w' := by
  have h1 : (w.alloc (.cells (arr 24 f) 38)).heap[w.heap.size]? = some (.cells (arr 24 f) 38 (0, 0))   := heap_new rfl
  have hbel : Below w.heap.size w (w.alloc (.cells (arr 24 f) 38)) := (Below.refl _ _).alloc (by simp) _
  have he := bsum_eq hf 6 (by omega)
  have hb := rsum_le f 6
  have ht := tally_bd (fun i => f (i * 4)) 6 0
  have hw1 : IntKind.i64.wrap ((rsum f 6 : Int) - 6) = (rsum f 6 : Int) - 6 := IntWalk.i64_in _ (by omega)
  have hw2 : IntKind.i64.wrap ((rsum f 6 : Int) - 6 + tally (fun i => f (i * 4)) 6 0) = (rsum f 6 : Int) - 6 + tally (fun i => f (i * 4)) 6 0 := by clear hw1; exact IntWalk.i64_in _ (by omega)
  have HE : Hid _ := he
  clear he
  go_enter Try.func62, Try.ntmps62
  go_wp2_with fail
  refine wp_region_held 8 (Cls w _) (by kernel_rfl) (by kernel_rfl) (Cls.one h1 hbel) ?_; simp only [List.take_succ_cons, List.take_zero, List.drop_succ_cons, List.drop_zero]
  repeat (first
    | (with_reducible refine wpQuiet_loadW rfl _ _ rfl _ rfl (fun _ h => h.r1) agg24r size24r ?_)
    | ((with_reducible refine wpQuiet_call rfl 72 _ _ rfl (.int .i64 (rsum f 6 : Nat)) ?_ ?_ ?_); (exact enters_of Try.func72 (by kernel_rfl) rfl); (intro w' h'; exact (l6Runs_any f hf w').mono fun _ _ ⟨he, hb⟩ => ⟨he, h'.keep hb⟩))
    | ((with_reducible refine wpQuiet_call rfl 97 _ _ rfl (.agg (arr 6 (tally (fun i => f (i * 4)) 6))) ?_ ?_ ?_); (exact enters_of Try.func97 (by kernel_rfl) rfl); (intro w' h'; exact (l6Bottoms_any f hf w').mono fun _ _ ⟨he, hb⟩ => ⟨he, h'.keep hb⟩))
    | (with_reducible refine wpQuiet_indexI rfl _ _ _ rfl rfl (k := 0) rfl _ Try.underlying22 aggI undI size1 (by omega) ?_)
    | ((with_reducible refine wpQuiet_step (fun K hK => ?_)); go_simp; (first | (refine ⟨_, fun _ _ => rfl, hK _ ?_⟩) | (refine ⟨_, fun _ _ => ⟨rfl, rfl⟩, hK _ ?_⟩) | (refine hK _ ?_)); clear hK K))
  refine wpQuiet_nil ?_
  intro wt hCt
  replace hbel := hCt.2
  go_wp2_with fail
  go_ret
  exact ⟨ret_int (by rw [HE.out]; rfl), hbel⟩
def cbOf (f : Nat → Int) : Int × Bool := if rackB f = true then ((bsum f 6 : Nat), true) else (0, false)
def crOf (f : Nat → Int) : Int × Bool := if rackB f = true then ((rsum f 6 : Nat), true) else (0, false)
theorem specCb_any (f : Nat → Int) (w : World) : Calls Try.prog 22 #[.agg (arr 24 f)] w fun e w' => e = .returned (.tuple #[.int .i64 (cbOf f).1, .bool (cbOf f).2]) ∧ Below w.heap.size w w' := by
  have h1 : (w.alloc (.cells (arr 24 f) 38)).heap[w.heap.size]? = some (.cells (arr 24 f) 38 (0, 0))   := heap_new rfl
  have hbel : Below w.heap.size w (w.alloc (.cells (arr 24 f) 38)) := (Below.refl _ _).alloc (by simp) _
  unfold cbOf
  cases hf : rackB f with
  | false =>
    have HF : Hid _ := hf
    simp only [Bool.false_eq_true, if_false]
    clear hf
    go_enter Try.func22, Try.ntmps22
    go_wp2_with first
      | (with_reducible refine wpList_loadW rfl _ _ rfl _ rfl h1 agg24r size24r ?_)
      | (go_at_call 57; (with_reducible refine (l2Rack_any _ _).mono ?_); rw [HF.out]; rintro e w1 ⟨rfl, hb1⟩; replace hbel := hbel.trans (hb1.mono hbel.size); replace h1 := row_keep hb1 h1; clear hb1)
    go_ret2
    exact ⟨rfl, hbel⟩
  | true =>
    have HF : Hid _ := hf
    simp only [if_true]
    go_enter Try.func22, Try.ntmps22
    go_wp2_with first
      | (with_reducible refine wpList_loadW rfl _ _ rfl _ rfl h1 agg24r size24r ?_)
      | (go_at_call 57; (with_reducible refine (l2Rack_any _ _).mono ?_); rw [HF.out]; rintro e w1 ⟨rfl, hb1⟩; replace hbel := hbel.trans (hb1.mono hbel.size); replace h1 := row_keep hb1 h1; clear hb1)
      | (go_at_call 62; (with_reducible refine (l6Boundaries_any f HF.out _).mono ?_); rintro e w1 ⟨rfl, hb1⟩; replace hbel := hbel.trans (hb1.mono hbel.size); replace h1 := row_keep hb1 h1; clear hb1)
    go_ret2
    exact ⟨rfl, hbel⟩
theorem implCb_any (f : Nat → Int) (w : World) : Calls Try.prog 23 #[.agg (arr 24 f)] w fun e w' => e = .returned (.tuple #[.int .i64 (cbOf f).1, .bool (cbOf f).2]) ∧ Below w.heap.size w w' := by
  have h1 : (w.alloc (.cells (arr 24 f) 38)).heap[w.heap.size]? = some (.cells (arr 24 f) 38 (0, 0))   := heap_new rfl
  have hbel : Below w.heap.size w (w.alloc (.cells (arr 24 f) 38)) := (Below.refl _ _).alloc (by simp) _
  unfold cbOf
  cases hf : rackB f with
  | false =>
    have HF : Hid _ := hf
    simp only [Bool.false_eq_true, if_false]
    clear hf
    go_enter Try.func23, Try.ntmps23
    go_wp2_with first
      | (with_reducible refine wpList_loadW rfl _ _ rfl _ rfl h1 agg24r size24r ?_)
      | (go_at_call 63; (with_reducible refine (IsRack_any _ _).mono ?_); rw [HF.out]; rintro e w1 ⟨rfl, hb1⟩; replace hbel := hbel.trans (hb1.mono hbel.size); replace h1 := row_keep hb1 h1; clear hb1)
    go_ret2
    exact ⟨rfl, hbel⟩
  | true =>
    have HF : Hid _ := hf
    simp only [if_true]
    go_enter Try.func23, Try.ntmps23
    go_wp2_with first
      | (with_reducible refine wpList_loadW rfl _ _ rfl _ rfl h1 agg24r size24r ?_)
      | (go_at_call 63; (with_reducible refine (IsRack_any _ _).mono ?_); rw [HF.out]; rintro e w1 ⟨rfl, hb1⟩; replace hbel := hbel.trans (hb1.mono hbel.size); replace h1 := row_keep hb1 h1; clear hb1)
      | (go_at_call 64; (with_reducible refine (countBoundaries_any f HF.out _).mono ?_); rintro e w1 ⟨rfl, hb1⟩; replace hbel := hbel.trans (hb1.mono hbel.size); replace h1 := row_keep hb1 h1; clear hb1)
    go_ret2
    exact ⟨rfl, hbel⟩
set_option linter.unusedVariables false in
theorem FnExactCountBoundaries_walk (x0 : Nat → Int) (hx0 : ∀ j, I64 (x0 j)) (w : World) : Calls Try.prog 5 #[.agg (arr 24 x0)] w fun e w' => e = .returned (.bool true) ∧ Below w.heap.size w w' := by
  have hr0 : (w.alloc (.cells (arr 24 x0) 35)).heap[w.heap.size]? = some (.cells (arr 24 x0) 35 (0, 0)) := by rw [heap_new (by simp)]
  have hbel : Below w.heap.size w (w.alloc (.cells (arr 24 x0) 35)) := ((Below.refl _ _).alloc (by simp) _)
  go_enter Try.func5, Try.ntmps5
  go_wp2_with first
    | (with_reducible refine wpList_loadW rfl _ _ rfl _ rfl hr0 agg24l size24l ?_)
    | (go_at_call 20; (with_reducible refine (toRack_any _ _).mono ?_); (rintro e w1 ⟨rfl, hb1⟩; replace hbel := hbel.trans (hb1.mono hbel.size); replace hr0 := row_keep hb1 hr0; clear hb1))
    | (go_at_call 22; (with_reducible refine (specCb_any _ _).mono ?_); (rintro e w1 ⟨rfl, hb1⟩; replace hbel := hbel.trans (hb1.mono hbel.size); replace hr0 := row_keep hb1 hr0; clear hb1))
    | (go_at_call 23; (with_reducible refine (implCb_any _ _).mono ?_); (rintro e w1 ⟨rfl, hb1⟩; replace hbel := hbel.trans (hb1.mono hbel.size); replace hr0 := row_keep hb1 hr0; clear hb1))
  go_ret
  exact ⟨rfl, hbel⟩
end Go.Proofs.Ytogdmacndokmhaa
