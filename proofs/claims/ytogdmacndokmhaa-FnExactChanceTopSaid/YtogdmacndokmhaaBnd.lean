/- Bounds and spare runs: the program's and the reference's, and the laws. -/
import Derived.Test.YtogdmacndokmhaaCr
namespace Go.Proofs.Ytogdmacndokmhaa
set_option linter.unusedSimpArgs false
set_option linter.unusedVariables false
set_option maxRecDepth 20000
open Go.RowKit
theorem l1Most_any (x y : Int) (w : World) : Calls Try.prog 87 #[.int .i64 x, .int .i64 y] w fun e w' => e = .returned (.int .i64 (max x y)) ∧ w = w' := by
  by_cases h : x > y
  · go_enter Try.func87, Try.ntmps87
    go_wp2
    go_ret
    exact ⟨ret_int (by omega), rfl⟩
  · go_enter Try.func87, Try.ntmps87
    go_wp2
    go_ret
    exact ⟨ret_int (by omega), rfl⟩
/-- What stands above one, of the first n. -/
def esum (g : Nat → Int) : Nat → Nat
  | 0 => 0
  | n + 1 => esum g n + (g (1 + n) - 1).toNat
theorem esum_le {g : Nat → Int} (hg : ∀ j, 0 ≤ g j ∧ g j ≤ 24) : ∀ n, esum g n ≤ 24 * n
  | 0 => by simp [esum]
  | n + 1 => by
    have := esum_le hg n
    have := hg (1 + n)
    unfold esum
    omega
/-- How many of the first n are there. -/
def dsum (g : Nat → Int) : Nat → Nat
  | 0 => 0
  | n + 1 => dsum g n + if 0 < g (1 + n) then 1 else 0
theorem dsum_le (g : Nat → Int) : ∀ n, dsum g n ≤ n
  | 0 => by simp [dsum]
  | n + 1 => by
    have := dsum_le g n
    unfold dsum
    split <;> omega
def botF (f : Nat → Int) : Nat → Int := tally (fun i => f (i * 4)) 6
theorem botF_bd (f : Nat → Int) : ∀ j, 0 ≤ botF f j ∧ botF f j ≤ 24 := fun j => by have := tally_bd (fun i => f (i * 4)) 6 j; unfold botF; omega
def bndF (f : Nat → Int) : Nat := bsum f 6 + esum (botF f) 5
theorem bound_any (f : Nat → Int) (hf : rackB f = true) (w : World) : Calls Try.prog 76 #[.agg (arr 24 f)] w fun e w' => e = .returned (.int .i64 (bndF f : Nat)) ∧ Below w.heap.size w w' := by
  have h1 : (w.alloc (.cells (arr 24 f) 38)).heap[w.heap.size]? = some (.cells (arr 24 f) 38 (0, 0))   := heap_new rfl
  have hbel : Below w.heap.size w (w.alloc (.cells (arr 24 f) 38)) := (Below.refl _ _).alloc (by simp) _
  have tok_h3 : True := trivial
  have hb0 := bsum_le f 6
  have HG : Hid _ := botF_bd f
  have HE : Hid _ := esum_le (botF_bd f)
  go_enter Try.func76, Try.ntmps76
  go_wp2_with first
    | (with_reducible refine wpList_loadW rfl _ _ rfl _ rfl h1 agg24r size24r ?_)
    | (go_at_call 64; (with_reducible refine (countBoundaries_any f hf _).mono ?_); rintro e w1 ⟨rfl, hb1⟩; replace hbel := hbel.trans (hb1.mono hbel.size); replace h1 := row_keep hb1 h1; clear hb1)
    | (go_at_call 103; (with_reducible refine (bottoms_any f hf _).mono ?_); rintro e w1 ⟨rfl, hb1⟩; replace hbel := hbel.trans (hb1.mono hbel.size); replace h1 := row_keep hb1 h1; clear hb1)
    | (have _t := tok_h3; with_reducible refine wpList_allocN rfl 22 rfl 6 zero6 ?_; intro Bh3 w1 hBh3 h3 hb1; have hWh3 := Nat.le_trans hbel.size hBh3; have hLh1h3 := Nat.lt_of_lt_of_le (row_lt h1) hBh3; replace hbel := hbel.trans (hb1.mono hbel.size); replace h1 := row_keep hb1 h1; clear hb1 _t tok_h3)
    | (with_reducible refine wpList_storeWN rfl _ _ _ rfl _ rfl rfl h3 size6 hbel hWh3 ?_; intro w1 g3 ho g4; replace h1 := (ho _ (by omega)).trans h1; clear h3 hbel; have h3 := g3; have hbel := g4; clear g3 g4 ho)
  go_loopw [3, 13] (fun a i wr => ∃ n : Nat, n ≤ 5 ∧ i = .int .i64 n ∧ a = .int .i64 (bsum f 6 + esum (botF f) n : Nat) ∧ wr.heap[Bh3]? = some (.cells (arr 6 (botF f)) 22 (0, 0)) ∧ Below w.heap.size w wr) (fun _ i _ => 5 - (intOf i).toNat)
  case atStart => exact ⟨0, by omega, rfl, rfl, h3, hbel⟩
  case round =>
    clear h1 h3 hbel
    obtain ⟨n, hn, rfl, rfl, h3, hbel⟩ := hrel
    have he := HE.out n
    by_cases hlt : n < 5
    · have hlt' : (n : Int) < 5 := by omega
      have hg := HG.out (1 + n)
      have HS : Hid (esum (botF f) (n + 1) = esum (botF f) n + (botF f (1 + n) - 1).toNat) := rfl
      obtain ⟨x, hx⟩ : ∃ x, botF f (1 + n) = x := ⟨_, rfl⟩
      have HX : Hid _ := hx
      rw [hx] at hg
      clear hx
      go_wp2_with first
        | ((with_reducible refine wpList_loadI rfl _ _ rfl _ _ rfl h3 aggI undI (by omega) ?_); rw [HX.out])
      all_goals
        go_roundw
        case rel => exact ⟨n + 1, by omega, by go_num, by rw [HS.out, HX.out]; refine congrArg _ ?_; (try split) <;> omega, h3, hbel⟩
        case measure => simp [intOf]; omega
    · obtain rfl : n = 5 := by omega
      go_wp2_with fail
      go_ret
      exact ⟨rfl, hbel⟩
set_option maxHeartbeats 8000000 in
theorem l6Bound_any (f : Nat → Int) (hf : rackB f = true) (w : World) : Calls Try.prog 75 #[.agg (arr 24 f)] w fun e w' => e = .returned (.int .i64 (bndF f : Nat)) ∧ Below w.heap.size w w' := by
  have h1 : (w.alloc (.cells (arr 24 f) 38)).heap[w.heap.size]? = some (.cells (arr 24 f) 38 (0, 0))   := heap_new rfl
  have hbel : Below w.heap.size w (w.alloc (.cells (arr 24 f) 38)) := (Below.refl _ _).alloc (by simp) _
  have tok_h3 : True := trivial
  have hb0 := bsum_le f 6
  have HG : Hid _ := botF_bd f
  have HE : Hid _ := esum_le (botF_bd f)
  go_enter Try.func75, Try.ntmps75
  go_wp2_with fail
  refine wp_region_fork [] [] [] 7 (fun l => []) (fun l => []) (Cls w _) (by kernel_rfl) (by kernel_rfl) (by kernel_rfl) (by kernel_rfl) trivial (Cls.one h1 hbel) ?_; try simp only [List.take_succ_cons, List.take_zero, List.drop_succ_cons, List.drop_zero, List.singleton_append, List.cons_append, List.nil_append]
  refine wpCalm_nil ?_
  refine wpCalm_nil ?_
  have hCt := Cls.one h1 hbel
  obtain ⟨wt, hwt⟩ : ∃ wt : World, wt = { (w.alloc (.cells (arr 24 f) 38)) with drawn := (w.alloc (.cells (arr 24 f) 38)).drawn + 1 } := ⟨_, rfl⟩
  rw [← hwt] at hCt ⊢
  clear hwt
  replace h1 := hCt.r1
  replace hbel := hCt.2
  clear hCt
  refine wpAny_fork3 0 2 4 (by kernel_rfl) rfl rfl rfl ?_ ?_ ?_
  · go_wp2_with first
      | (with_reducible refine wpList_loadW rfl _ _ rfl _ rfl h1 agg24r size24r ?_)
    refine QN.intro ?_
    refine wpAny_fork3 1 2 4 (by kernel_rfl) rfl rfl rfl ?_ ?_ ?_
    · go_wp2_with first
        | (go_at_call 62; (with_reducible refine (l6Boundaries_any f hf _).mono ?_); rintro e w1 ⟨rfl, hb1⟩; replace hbel := hbel.trans (hb1.mono hbel.size); replace h1 := row_keep hb1 h1; (try replace h3 := row_keep hb1 h3); clear hb1)
      refine QN.intro ?_
      refine wpAny_fork2 2 4 (by kernel_rfl) rfl rfl ?_ ?_
      · go_wp2_with first
          | (with_reducible refine wpList_loadW rfl _ _ rfl _ rfl h1 agg24r size24r ?_)
        refine QN.intro ?_
        refine wpAny_fork2 3 4 (by kernel_rfl) rfl rfl ?_ ?_
        · go_wp2_with first
            | (go_at_call 97; (with_reducible refine (l6Bottoms_any f hf _).mono ?_); rintro e w1 ⟨rfl, hb1⟩; replace hbel := hbel.trans (hb1.mono hbel.size); replace h1 := row_keep hb1 h1; (try replace h3 := row_keep hb1 h3); clear hb1)
          refine QN.intro ?_
          refine wpAny_fork1 4 (by kernel_rfl) rfl ?_
          go_wp2_with first
            | (have _t := tok_h3; with_reducible refine wpList_allocN rfl 22 rfl 6 zero6 ?_; intro Bh3 w1 hBh3 h3 hb1; have hWh3 := Nat.le_trans hbel.size hBh3; have hLh1h3 := Nat.lt_of_lt_of_le (row_lt h1) hBh3; replace hbel := hbel.trans (hb1.mono hbel.size); replace h1 := row_keep hb1 h1; clear hb1 _t tok_h3)
          refine QN.intro ?_
          refine wpAny_fork1 5 (by kernel_rfl) rfl ?_
          go_wp2_with fail
          refine QN.intro ?_
          refine wpAny_fork1 6 (by kernel_rfl) rfl ?_
          go_wp2_with first
            | (with_reducible refine wpList_storeWN rfl _ _ _ rfl _ rfl rfl h3 size6 hbel hWh3 ?_; intro w1 g3 ho g4; replace h1 := (ho _ (by omega)).trans h1; clear h3 hbel; have h3 := g3; have hbel := g4; clear g3 g4 ho)
          refine QN.intro ?_
          refine wpAny_end (by kernel_rfl) ?_
          go_wp2_with fail
          go_loopw [3, 5] (fun a i wr => ∃ n : Nat, n ≤ 5 ∧ i = .int .i64 (n + 1 : Nat) ∧ a = .int .i64 (bsum f 6 + esum (botF f) n : Nat) ∧ wr.heap[Bh3]? = some (.cells (arr 6 (botF f)) 22 (0, 0)) ∧ Below w.heap.size w wr) (fun _ i _ => 6 - (intOf i).toNat)
          case atStart => exact ⟨0, by omega, rfl, rfl, h3, hbel⟩
          case round =>
            clear h1 h3 hbel
            obtain ⟨n, hn, rfl, rfl, h3, hbel⟩ := hrel
            have he := HE.out n
            by_cases hlt : n < 5
            · have hlt' : (n : Int) < 5 := by omega
              have hg := HG.out (1 + n)
              have HS : Hid (esum (botF f) (n + 1) = esum (botF f) n + (botF f (1 + n) - 1).toNat) := rfl
              obtain ⟨x, hx⟩ : ∃ x, botF f (1 + n) = x := ⟨_, rfl⟩
              have HX : Hid (botF f (n + 1) = x) := by rw [Nat.add_comm]; exact hx
              have HX2 : Hid _ := hx
              rw [hx] at hg
              clear hx
              go_wp2_with first
                | ((with_reducible refine wpList_loadI rfl _ _ rfl _ _ rfl h3 aggI undI (by omega) ?_); rw [HX.out])
                | (go_at_call 87; (with_reducible refine (l1Most_any _ _ _).mono ?_); rintro e w' ⟨rfl, rfl⟩)
              all_goals
                go_roundw
                case rel => exact ⟨n + 1, by omega, by go_num, by rw [HS.out, HX2.out]; refine congrArg _ ?_; omega, h3, hbel⟩
                case measure => simp [intOf]; omega
            · obtain rfl : n = 5 := by omega
              go_wp2_with fail
              go_ret
              exact ⟨rfl, hbel⟩
        · go_wp2_with first
            | (have _t := tok_h3; with_reducible refine wpList_allocN rfl 22 rfl 6 zero6 ?_; intro Bh3 w1 hBh3 h3 hb1; have hWh3 := Nat.le_trans hbel.size hBh3; have hLh1h3 := Nat.lt_of_lt_of_le (row_lt h1) hBh3; replace hbel := hbel.trans (hb1.mono hbel.size); replace h1 := row_keep hb1 h1; clear hb1 _t tok_h3)
          refine QN.intro ?_
          refine wpAny_fork1 3 (by kernel_rfl) rfl ?_
          go_wp2_with first
            | (go_at_call 97; (with_reducible refine (l6Bottoms_any f hf _).mono ?_); rintro e w1 ⟨rfl, hb1⟩; replace hbel := hbel.trans (hb1.mono hbel.size); replace h1 := row_keep hb1 h1; (try replace h3 := row_keep hb1 h3); clear hb1)
          refine QN.intro ?_
          refine wpAny_fork1 5 (by kernel_rfl) rfl ?_
          go_wp2_with fail
          refine QN.intro ?_
          refine wpAny_fork1 6 (by kernel_rfl) rfl ?_
          go_wp2_with first
            | (with_reducible refine wpList_storeWN rfl _ _ _ rfl _ rfl rfl h3 size6 hbel hWh3 ?_; intro w1 g3 ho g4; replace h1 := (ho _ (by omega)).trans h1; clear h3 hbel; have h3 := g3; have hbel := g4; clear g3 g4 ho)
          refine QN.intro ?_
          refine wpAny_end (by kernel_rfl) ?_
          go_wp2_with fail
          go_loopw [3, 5] (fun a i wr => ∃ n : Nat, n ≤ 5 ∧ i = .int .i64 (n + 1 : Nat) ∧ a = .int .i64 (bsum f 6 + esum (botF f) n : Nat) ∧ wr.heap[Bh3]? = some (.cells (arr 6 (botF f)) 22 (0, 0)) ∧ Below w.heap.size w wr) (fun _ i _ => 6 - (intOf i).toNat)
          case atStart => exact ⟨0, by omega, rfl, rfl, h3, hbel⟩
          case round =>
            clear h1 h3 hbel
            obtain ⟨n, hn, rfl, rfl, h3, hbel⟩ := hrel
            have he := HE.out n
            by_cases hlt : n < 5
            · have hlt' : (n : Int) < 5 := by omega
              have hg := HG.out (1 + n)
              have HS : Hid (esum (botF f) (n + 1) = esum (botF f) n + (botF f (1 + n) - 1).toNat) := rfl
              obtain ⟨x, hx⟩ : ∃ x, botF f (1 + n) = x := ⟨_, rfl⟩
              have HX : Hid (botF f (n + 1) = x) := by rw [Nat.add_comm]; exact hx
              have HX2 : Hid _ := hx
              rw [hx] at hg
              clear hx
              go_wp2_with first
                | ((with_reducible refine wpList_loadI rfl _ _ rfl _ _ rfl h3 aggI undI (by omega) ?_); rw [HX.out])
                | (go_at_call 87; (with_reducible refine (l1Most_any _ _ _).mono ?_); rintro e w' ⟨rfl, rfl⟩)
              all_goals
                go_roundw
                case rel => exact ⟨n + 1, by omega, by go_num, by rw [HS.out, HX2.out]; refine congrArg _ ?_; omega, h3, hbel⟩
                case measure => simp [intOf]; omega
            · obtain rfl : n = 5 := by omega
              go_wp2_with fail
              go_ret
              exact ⟨rfl, hbel⟩
      · go_wp2_with first
          | (have _t := tok_h3; with_reducible refine wpList_allocN rfl 22 rfl 6 zero6 ?_; intro Bh3 w1 hBh3 h3 hb1; have hWh3 := Nat.le_trans hbel.size hBh3; have hLh1h3 := Nat.lt_of_lt_of_le (row_lt h1) hBh3; replace hbel := hbel.trans (hb1.mono hbel.size); replace h1 := row_keep hb1 h1; clear hb1 _t tok_h3)
        refine QN.intro ?_
        refine wpAny_fork1 2 (by kernel_rfl) rfl ?_
        go_wp2_with first
          | (with_reducible refine wpList_loadW rfl _ _ rfl _ rfl h1 agg24r size24r ?_)
        refine QN.intro ?_
        refine wpAny_fork1 3 (by kernel_rfl) rfl ?_
        go_wp2_with first
          | (go_at_call 97; (with_reducible refine (l6Bottoms_any f hf _).mono ?_); rintro e w1 ⟨rfl, hb1⟩; replace hbel := hbel.trans (hb1.mono hbel.size); replace h1 := row_keep hb1 h1; (try replace h3 := row_keep hb1 h3); clear hb1)
        refine QN.intro ?_
        refine wpAny_fork1 5 (by kernel_rfl) rfl ?_
        go_wp2_with fail
        refine QN.intro ?_
        refine wpAny_fork1 6 (by kernel_rfl) rfl ?_
        go_wp2_with first
          | (with_reducible refine wpList_storeWN rfl _ _ _ rfl _ rfl rfl h3 size6 hbel hWh3 ?_; intro w1 g3 ho g4; replace h1 := (ho _ (by omega)).trans h1; clear h3 hbel; have h3 := g3; have hbel := g4; clear g3 g4 ho)
        refine QN.intro ?_
        refine wpAny_end (by kernel_rfl) ?_
        go_wp2_with fail
        go_loopw [3, 5] (fun a i wr => ∃ n : Nat, n ≤ 5 ∧ i = .int .i64 (n + 1 : Nat) ∧ a = .int .i64 (bsum f 6 + esum (botF f) n : Nat) ∧ wr.heap[Bh3]? = some (.cells (arr 6 (botF f)) 22 (0, 0)) ∧ Below w.heap.size w wr) (fun _ i _ => 6 - (intOf i).toNat)
        case atStart => exact ⟨0, by omega, rfl, rfl, h3, hbel⟩
        case round =>
          clear h1 h3 hbel
          obtain ⟨n, hn, rfl, rfl, h3, hbel⟩ := hrel
          have he := HE.out n
          by_cases hlt : n < 5
          · have hlt' : (n : Int) < 5 := by omega
            have hg := HG.out (1 + n)
            have HS : Hid (esum (botF f) (n + 1) = esum (botF f) n + (botF f (1 + n) - 1).toNat) := rfl
            obtain ⟨x, hx⟩ : ∃ x, botF f (1 + n) = x := ⟨_, rfl⟩
            have HX : Hid (botF f (n + 1) = x) := by rw [Nat.add_comm]; exact hx
            have HX2 : Hid _ := hx
            rw [hx] at hg
            clear hx
            go_wp2_with first
              | ((with_reducible refine wpList_loadI rfl _ _ rfl _ _ rfl h3 aggI undI (by omega) ?_); rw [HX.out])
              | (go_at_call 87; (with_reducible refine (l1Most_any _ _ _).mono ?_); rintro e w' ⟨rfl, rfl⟩)
            all_goals
              go_roundw
              case rel => exact ⟨n + 1, by omega, by go_num, by rw [HS.out, HX2.out]; refine congrArg _ ?_; omega, h3, hbel⟩
              case measure => simp [intOf]; omega
          · obtain rfl : n = 5 := by omega
            go_wp2_with fail
            go_ret
            exact ⟨rfl, hbel⟩
    · go_wp2_with first
        | (with_reducible refine wpList_loadW rfl _ _ rfl _ rfl h1 agg24r size24r ?_)
      refine QN.intro ?_
      refine wpAny_fork2 1 4 (by kernel_rfl) rfl rfl ?_ ?_
      · go_wp2_with first
          | (go_at_call 62; (with_reducible refine (l6Boundaries_any f hf _).mono ?_); rintro e w1 ⟨rfl, hb1⟩; replace hbel := hbel.trans (hb1.mono hbel.size); replace h1 := row_keep hb1 h1; (try replace h3 := row_keep hb1 h3); clear hb1)
        refine QN.intro ?_
        refine wpAny_fork2 3 4 (by kernel_rfl) rfl rfl ?_ ?_
        · go_wp2_with first
            | (go_at_call 97; (with_reducible refine (l6Bottoms_any f hf _).mono ?_); rintro e w1 ⟨rfl, hb1⟩; replace hbel := hbel.trans (hb1.mono hbel.size); replace h1 := row_keep hb1 h1; (try replace h3 := row_keep hb1 h3); clear hb1)
          refine QN.intro ?_
          refine wpAny_fork1 4 (by kernel_rfl) rfl ?_
          go_wp2_with first
            | (have _t := tok_h3; with_reducible refine wpList_allocN rfl 22 rfl 6 zero6 ?_; intro Bh3 w1 hBh3 h3 hb1; have hWh3 := Nat.le_trans hbel.size hBh3; have hLh1h3 := Nat.lt_of_lt_of_le (row_lt h1) hBh3; replace hbel := hbel.trans (hb1.mono hbel.size); replace h1 := row_keep hb1 h1; clear hb1 _t tok_h3)
          refine QN.intro ?_
          refine wpAny_fork1 5 (by kernel_rfl) rfl ?_
          go_wp2_with fail
          refine QN.intro ?_
          refine wpAny_fork1 6 (by kernel_rfl) rfl ?_
          go_wp2_with first
            | (with_reducible refine wpList_storeWN rfl _ _ _ rfl _ rfl rfl h3 size6 hbel hWh3 ?_; intro w1 g3 ho g4; replace h1 := (ho _ (by omega)).trans h1; clear h3 hbel; have h3 := g3; have hbel := g4; clear g3 g4 ho)
          refine QN.intro ?_
          refine wpAny_end (by kernel_rfl) ?_
          go_wp2_with fail
          go_loopw [3, 5] (fun a i wr => ∃ n : Nat, n ≤ 5 ∧ i = .int .i64 (n + 1 : Nat) ∧ a = .int .i64 (bsum f 6 + esum (botF f) n : Nat) ∧ wr.heap[Bh3]? = some (.cells (arr 6 (botF f)) 22 (0, 0)) ∧ Below w.heap.size w wr) (fun _ i _ => 6 - (intOf i).toNat)
          case atStart => exact ⟨0, by omega, rfl, rfl, h3, hbel⟩
          case round =>
            clear h1 h3 hbel
            obtain ⟨n, hn, rfl, rfl, h3, hbel⟩ := hrel
            have he := HE.out n
            by_cases hlt : n < 5
            · have hlt' : (n : Int) < 5 := by omega
              have hg := HG.out (1 + n)
              have HS : Hid (esum (botF f) (n + 1) = esum (botF f) n + (botF f (1 + n) - 1).toNat) := rfl
              obtain ⟨x, hx⟩ : ∃ x, botF f (1 + n) = x := ⟨_, rfl⟩
              have HX : Hid (botF f (n + 1) = x) := by rw [Nat.add_comm]; exact hx
              have HX2 : Hid _ := hx
              rw [hx] at hg
              clear hx
              go_wp2_with first
                | ((with_reducible refine wpList_loadI rfl _ _ rfl _ _ rfl h3 aggI undI (by omega) ?_); rw [HX.out])
                | (go_at_call 87; (with_reducible refine (l1Most_any _ _ _).mono ?_); rintro e w' ⟨rfl, rfl⟩)
              all_goals
                go_roundw
                case rel => exact ⟨n + 1, by omega, by go_num, by rw [HS.out, HX2.out]; refine congrArg _ ?_; omega, h3, hbel⟩
                case measure => simp [intOf]; omega
            · obtain rfl : n = 5 := by omega
              go_wp2_with fail
              go_ret
              exact ⟨rfl, hbel⟩
        · go_wp2_with first
            | (have _t := tok_h3; with_reducible refine wpList_allocN rfl 22 rfl 6 zero6 ?_; intro Bh3 w1 hBh3 h3 hb1; have hWh3 := Nat.le_trans hbel.size hBh3; have hLh1h3 := Nat.lt_of_lt_of_le (row_lt h1) hBh3; replace hbel := hbel.trans (hb1.mono hbel.size); replace h1 := row_keep hb1 h1; clear hb1 _t tok_h3)
          refine QN.intro ?_
          refine wpAny_fork1 3 (by kernel_rfl) rfl ?_
          go_wp2_with first
            | (go_at_call 97; (with_reducible refine (l6Bottoms_any f hf _).mono ?_); rintro e w1 ⟨rfl, hb1⟩; replace hbel := hbel.trans (hb1.mono hbel.size); replace h1 := row_keep hb1 h1; (try replace h3 := row_keep hb1 h3); clear hb1)
          refine QN.intro ?_
          refine wpAny_fork1 5 (by kernel_rfl) rfl ?_
          go_wp2_with fail
          refine QN.intro ?_
          refine wpAny_fork1 6 (by kernel_rfl) rfl ?_
          go_wp2_with first
            | (with_reducible refine wpList_storeWN rfl _ _ _ rfl _ rfl rfl h3 size6 hbel hWh3 ?_; intro w1 g3 ho g4; replace h1 := (ho _ (by omega)).trans h1; clear h3 hbel; have h3 := g3; have hbel := g4; clear g3 g4 ho)
          refine QN.intro ?_
          refine wpAny_end (by kernel_rfl) ?_
          go_wp2_with fail
          go_loopw [3, 5] (fun a i wr => ∃ n : Nat, n ≤ 5 ∧ i = .int .i64 (n + 1 : Nat) ∧ a = .int .i64 (bsum f 6 + esum (botF f) n : Nat) ∧ wr.heap[Bh3]? = some (.cells (arr 6 (botF f)) 22 (0, 0)) ∧ Below w.heap.size w wr) (fun _ i _ => 6 - (intOf i).toNat)
          case atStart => exact ⟨0, by omega, rfl, rfl, h3, hbel⟩
          case round =>
            clear h1 h3 hbel
            obtain ⟨n, hn, rfl, rfl, h3, hbel⟩ := hrel
            have he := HE.out n
            by_cases hlt : n < 5
            · have hlt' : (n : Int) < 5 := by omega
              have hg := HG.out (1 + n)
              have HS : Hid (esum (botF f) (n + 1) = esum (botF f) n + (botF f (1 + n) - 1).toNat) := rfl
              obtain ⟨x, hx⟩ : ∃ x, botF f (1 + n) = x := ⟨_, rfl⟩
              have HX : Hid (botF f (n + 1) = x) := by rw [Nat.add_comm]; exact hx
              have HX2 : Hid _ := hx
              rw [hx] at hg
              clear hx
              go_wp2_with first
                | ((with_reducible refine wpList_loadI rfl _ _ rfl _ _ rfl h3 aggI undI (by omega) ?_); rw [HX.out])
                | (go_at_call 87; (with_reducible refine (l1Most_any _ _ _).mono ?_); rintro e w' ⟨rfl, rfl⟩)
              all_goals
                go_roundw
                case rel => exact ⟨n + 1, by omega, by go_num, by rw [HS.out, HX2.out]; refine congrArg _ ?_; omega, h3, hbel⟩
                case measure => simp [intOf]; omega
            · obtain rfl : n = 5 := by omega
              go_wp2_with fail
              go_ret
              exact ⟨rfl, hbel⟩
      · go_wp2_with first
          | (have _t := tok_h3; with_reducible refine wpList_allocN rfl 22 rfl 6 zero6 ?_; intro Bh3 w1 hBh3 h3 hb1; have hWh3 := Nat.le_trans hbel.size hBh3; have hLh1h3 := Nat.lt_of_lt_of_le (row_lt h1) hBh3; replace hbel := hbel.trans (hb1.mono hbel.size); replace h1 := row_keep hb1 h1; clear hb1 _t tok_h3)
        refine QN.intro ?_
        refine wpAny_fork1 1 (by kernel_rfl) rfl ?_
        go_wp2_with first
          | (go_at_call 62; (with_reducible refine (l6Boundaries_any f hf _).mono ?_); rintro e w1 ⟨rfl, hb1⟩; replace hbel := hbel.trans (hb1.mono hbel.size); replace h1 := row_keep hb1 h1; (try replace h3 := row_keep hb1 h3); clear hb1)
        refine QN.intro ?_
        refine wpAny_fork1 3 (by kernel_rfl) rfl ?_
        go_wp2_with first
          | (go_at_call 97; (with_reducible refine (l6Bottoms_any f hf _).mono ?_); rintro e w1 ⟨rfl, hb1⟩; replace hbel := hbel.trans (hb1.mono hbel.size); replace h1 := row_keep hb1 h1; (try replace h3 := row_keep hb1 h3); clear hb1)
        refine QN.intro ?_
        refine wpAny_fork1 5 (by kernel_rfl) rfl ?_
        go_wp2_with fail
        refine QN.intro ?_
        refine wpAny_fork1 6 (by kernel_rfl) rfl ?_
        go_wp2_with first
          | (with_reducible refine wpList_storeWN rfl _ _ _ rfl _ rfl rfl h3 size6 hbel hWh3 ?_; intro w1 g3 ho g4; replace h1 := (ho _ (by omega)).trans h1; clear h3 hbel; have h3 := g3; have hbel := g4; clear g3 g4 ho)
        refine QN.intro ?_
        refine wpAny_end (by kernel_rfl) ?_
        go_wp2_with fail
        go_loopw [3, 5] (fun a i wr => ∃ n : Nat, n ≤ 5 ∧ i = .int .i64 (n + 1 : Nat) ∧ a = .int .i64 (bsum f 6 + esum (botF f) n : Nat) ∧ wr.heap[Bh3]? = some (.cells (arr 6 (botF f)) 22 (0, 0)) ∧ Below w.heap.size w wr) (fun _ i _ => 6 - (intOf i).toNat)
        case atStart => exact ⟨0, by omega, rfl, rfl, h3, hbel⟩
        case round =>
          clear h1 h3 hbel
          obtain ⟨n, hn, rfl, rfl, h3, hbel⟩ := hrel
          have he := HE.out n
          by_cases hlt : n < 5
          · have hlt' : (n : Int) < 5 := by omega
            have hg := HG.out (1 + n)
            have HS : Hid (esum (botF f) (n + 1) = esum (botF f) n + (botF f (1 + n) - 1).toNat) := rfl
            obtain ⟨x, hx⟩ : ∃ x, botF f (1 + n) = x := ⟨_, rfl⟩
            have HX : Hid (botF f (n + 1) = x) := by rw [Nat.add_comm]; exact hx
            have HX2 : Hid _ := hx
            rw [hx] at hg
            clear hx
            go_wp2_with first
              | ((with_reducible refine wpList_loadI rfl _ _ rfl _ _ rfl h3 aggI undI (by omega) ?_); rw [HX.out])
              | (go_at_call 87; (with_reducible refine (l1Most_any _ _ _).mono ?_); rintro e w' ⟨rfl, rfl⟩)
            all_goals
              go_roundw
              case rel => exact ⟨n + 1, by omega, by go_num, by rw [HS.out, HX2.out]; refine congrArg _ ?_; omega, h3, hbel⟩
              case measure => simp [intOf]; omega
          · obtain rfl : n = 5 := by omega
            go_wp2_with fail
            go_ret
            exact ⟨rfl, hbel⟩
    · go_wp2_with first
        | (have _t := tok_h3; with_reducible refine wpList_allocN rfl 22 rfl 6 zero6 ?_; intro Bh3 w1 hBh3 h3 hb1; have hWh3 := Nat.le_trans hbel.size hBh3; have hLh1h3 := Nat.lt_of_lt_of_le (row_lt h1) hBh3; replace hbel := hbel.trans (hb1.mono hbel.size); replace h1 := row_keep hb1 h1; clear hb1 _t tok_h3)
      refine QN.intro ?_
      refine wpAny_fork2 1 2 (by kernel_rfl) rfl rfl ?_ ?_
      · go_wp2_with first
          | (go_at_call 62; (with_reducible refine (l6Boundaries_any f hf _).mono ?_); rintro e w1 ⟨rfl, hb1⟩; replace hbel := hbel.trans (hb1.mono hbel.size); replace h1 := row_keep hb1 h1; (try replace h3 := row_keep hb1 h3); clear hb1)
        refine QN.intro ?_
        refine wpAny_fork1 2 (by kernel_rfl) rfl ?_
        go_wp2_with first
          | (with_reducible refine wpList_loadW rfl _ _ rfl _ rfl h1 agg24r size24r ?_)
        refine QN.intro ?_
        refine wpAny_fork1 3 (by kernel_rfl) rfl ?_
        go_wp2_with first
          | (go_at_call 97; (with_reducible refine (l6Bottoms_any f hf _).mono ?_); rintro e w1 ⟨rfl, hb1⟩; replace hbel := hbel.trans (hb1.mono hbel.size); replace h1 := row_keep hb1 h1; (try replace h3 := row_keep hb1 h3); clear hb1)
        refine QN.intro ?_
        refine wpAny_fork1 5 (by kernel_rfl) rfl ?_
        go_wp2_with fail
        refine QN.intro ?_
        refine wpAny_fork1 6 (by kernel_rfl) rfl ?_
        go_wp2_with first
          | (with_reducible refine wpList_storeWN rfl _ _ _ rfl _ rfl rfl h3 size6 hbel hWh3 ?_; intro w1 g3 ho g4; replace h1 := (ho _ (by omega)).trans h1; clear h3 hbel; have h3 := g3; have hbel := g4; clear g3 g4 ho)
        refine QN.intro ?_
        refine wpAny_end (by kernel_rfl) ?_
        go_wp2_with fail
        go_loopw [3, 5] (fun a i wr => ∃ n : Nat, n ≤ 5 ∧ i = .int .i64 (n + 1 : Nat) ∧ a = .int .i64 (bsum f 6 + esum (botF f) n : Nat) ∧ wr.heap[Bh3]? = some (.cells (arr 6 (botF f)) 22 (0, 0)) ∧ Below w.heap.size w wr) (fun _ i _ => 6 - (intOf i).toNat)
        case atStart => exact ⟨0, by omega, rfl, rfl, h3, hbel⟩
        case round =>
          clear h1 h3 hbel
          obtain ⟨n, hn, rfl, rfl, h3, hbel⟩ := hrel
          have he := HE.out n
          by_cases hlt : n < 5
          · have hlt' : (n : Int) < 5 := by omega
            have hg := HG.out (1 + n)
            have HS : Hid (esum (botF f) (n + 1) = esum (botF f) n + (botF f (1 + n) - 1).toNat) := rfl
            obtain ⟨x, hx⟩ : ∃ x, botF f (1 + n) = x := ⟨_, rfl⟩
            have HX : Hid (botF f (n + 1) = x) := by rw [Nat.add_comm]; exact hx
            have HX2 : Hid _ := hx
            rw [hx] at hg
            clear hx
            go_wp2_with first
              | ((with_reducible refine wpList_loadI rfl _ _ rfl _ _ rfl h3 aggI undI (by omega) ?_); rw [HX.out])
              | (go_at_call 87; (with_reducible refine (l1Most_any _ _ _).mono ?_); rintro e w' ⟨rfl, rfl⟩)
            all_goals
              go_roundw
              case rel => exact ⟨n + 1, by omega, by go_num, by rw [HS.out, HX2.out]; refine congrArg _ ?_; omega, h3, hbel⟩
              case measure => simp [intOf]; omega
          · obtain rfl : n = 5 := by omega
            go_wp2_with fail
            go_ret
            exact ⟨rfl, hbel⟩
      · go_wp2_with first
          | (with_reducible refine wpList_loadW rfl _ _ rfl _ rfl h1 agg24r size24r ?_)
        refine QN.intro ?_
        refine wpAny_fork1 1 (by kernel_rfl) rfl ?_
        go_wp2_with first
          | (go_at_call 62; (with_reducible refine (l6Boundaries_any f hf _).mono ?_); rintro e w1 ⟨rfl, hb1⟩; replace hbel := hbel.trans (hb1.mono hbel.size); replace h1 := row_keep hb1 h1; (try replace h3 := row_keep hb1 h3); clear hb1)
        refine QN.intro ?_
        refine wpAny_fork1 3 (by kernel_rfl) rfl ?_
        go_wp2_with first
          | (go_at_call 97; (with_reducible refine (l6Bottoms_any f hf _).mono ?_); rintro e w1 ⟨rfl, hb1⟩; replace hbel := hbel.trans (hb1.mono hbel.size); replace h1 := row_keep hb1 h1; (try replace h3 := row_keep hb1 h3); clear hb1)
        refine QN.intro ?_
        refine wpAny_fork1 5 (by kernel_rfl) rfl ?_
        go_wp2_with fail
        refine QN.intro ?_
        refine wpAny_fork1 6 (by kernel_rfl) rfl ?_
        go_wp2_with first
          | (with_reducible refine wpList_storeWN rfl _ _ _ rfl _ rfl rfl h3 size6 hbel hWh3 ?_; intro w1 g3 ho g4; replace h1 := (ho _ (by omega)).trans h1; clear h3 hbel; have h3 := g3; have hbel := g4; clear g3 g4 ho)
        refine QN.intro ?_
        refine wpAny_end (by kernel_rfl) ?_
        go_wp2_with fail
        go_loopw [3, 5] (fun a i wr => ∃ n : Nat, n ≤ 5 ∧ i = .int .i64 (n + 1 : Nat) ∧ a = .int .i64 (bsum f 6 + esum (botF f) n : Nat) ∧ wr.heap[Bh3]? = some (.cells (arr 6 (botF f)) 22 (0, 0)) ∧ Below w.heap.size w wr) (fun _ i _ => 6 - (intOf i).toNat)
        case atStart => exact ⟨0, by omega, rfl, rfl, h3, hbel⟩
        case round =>
          clear h1 h3 hbel
          obtain ⟨n, hn, rfl, rfl, h3, hbel⟩ := hrel
          have he := HE.out n
          by_cases hlt : n < 5
          · have hlt' : (n : Int) < 5 := by omega
            have hg := HG.out (1 + n)
            have HS : Hid (esum (botF f) (n + 1) = esum (botF f) n + (botF f (1 + n) - 1).toNat) := rfl
            obtain ⟨x, hx⟩ : ∃ x, botF f (1 + n) = x := ⟨_, rfl⟩
            have HX : Hid (botF f (n + 1) = x) := by rw [Nat.add_comm]; exact hx
            have HX2 : Hid _ := hx
            rw [hx] at hg
            clear hx
            go_wp2_with first
              | ((with_reducible refine wpList_loadI rfl _ _ rfl _ _ rfl h3 aggI undI (by omega) ?_); rw [HX.out])
              | (go_at_call 87; (with_reducible refine (l1Most_any _ _ _).mono ?_); rintro e w' ⟨rfl, rfl⟩)
            all_goals
              go_roundw
              case rel => exact ⟨n + 1, by omega, by go_num, by rw [HS.out, HX2.out]; refine congrArg _ ?_; omega, h3, hbel⟩
              case measure => simp [intOf]; omega
          · obtain rfl : n = 5 := by omega
            go_wp2_with fail
            go_ret
            exact ⟨rfl, hbel⟩
  · go_wp2_with first
      | (with_reducible refine wpList_loadW rfl _ _ rfl _ rfl h1 agg24r size24r ?_)
    refine QN.intro ?_
    refine wpAny_fork2 0 4 (by kernel_rfl) rfl rfl ?_ ?_
    · go_wp2_with first
        | (with_reducible refine wpList_loadW rfl _ _ rfl _ rfl h1 agg24r size24r ?_)
      refine QN.intro ?_
      refine wpAny_fork2 1 4 (by kernel_rfl) rfl rfl ?_ ?_
      · go_wp2_with first
          | (go_at_call 62; (with_reducible refine (l6Boundaries_any f hf _).mono ?_); rintro e w1 ⟨rfl, hb1⟩; replace hbel := hbel.trans (hb1.mono hbel.size); replace h1 := row_keep hb1 h1; (try replace h3 := row_keep hb1 h3); clear hb1)
        refine QN.intro ?_
        refine wpAny_fork2 3 4 (by kernel_rfl) rfl rfl ?_ ?_
        · go_wp2_with first
            | (go_at_call 97; (with_reducible refine (l6Bottoms_any f hf _).mono ?_); rintro e w1 ⟨rfl, hb1⟩; replace hbel := hbel.trans (hb1.mono hbel.size); replace h1 := row_keep hb1 h1; (try replace h3 := row_keep hb1 h3); clear hb1)
          refine QN.intro ?_
          refine wpAny_fork1 4 (by kernel_rfl) rfl ?_
          go_wp2_with first
            | (have _t := tok_h3; with_reducible refine wpList_allocN rfl 22 rfl 6 zero6 ?_; intro Bh3 w1 hBh3 h3 hb1; have hWh3 := Nat.le_trans hbel.size hBh3; have hLh1h3 := Nat.lt_of_lt_of_le (row_lt h1) hBh3; replace hbel := hbel.trans (hb1.mono hbel.size); replace h1 := row_keep hb1 h1; clear hb1 _t tok_h3)
          refine QN.intro ?_
          refine wpAny_fork1 5 (by kernel_rfl) rfl ?_
          go_wp2_with fail
          refine QN.intro ?_
          refine wpAny_fork1 6 (by kernel_rfl) rfl ?_
          go_wp2_with first
            | (with_reducible refine wpList_storeWN rfl _ _ _ rfl _ rfl rfl h3 size6 hbel hWh3 ?_; intro w1 g3 ho g4; replace h1 := (ho _ (by omega)).trans h1; clear h3 hbel; have h3 := g3; have hbel := g4; clear g3 g4 ho)
          refine QN.intro ?_
          refine wpAny_end (by kernel_rfl) ?_
          go_wp2_with fail
          go_loopw [3, 5] (fun a i wr => ∃ n : Nat, n ≤ 5 ∧ i = .int .i64 (n + 1 : Nat) ∧ a = .int .i64 (bsum f 6 + esum (botF f) n : Nat) ∧ wr.heap[Bh3]? = some (.cells (arr 6 (botF f)) 22 (0, 0)) ∧ Below w.heap.size w wr) (fun _ i _ => 6 - (intOf i).toNat)
          case atStart => exact ⟨0, by omega, rfl, rfl, h3, hbel⟩
          case round =>
            clear h1 h3 hbel
            obtain ⟨n, hn, rfl, rfl, h3, hbel⟩ := hrel
            have he := HE.out n
            by_cases hlt : n < 5
            · have hlt' : (n : Int) < 5 := by omega
              have hg := HG.out (1 + n)
              have HS : Hid (esum (botF f) (n + 1) = esum (botF f) n + (botF f (1 + n) - 1).toNat) := rfl
              obtain ⟨x, hx⟩ : ∃ x, botF f (1 + n) = x := ⟨_, rfl⟩
              have HX : Hid (botF f (n + 1) = x) := by rw [Nat.add_comm]; exact hx
              have HX2 : Hid _ := hx
              rw [hx] at hg
              clear hx
              go_wp2_with first
                | ((with_reducible refine wpList_loadI rfl _ _ rfl _ _ rfl h3 aggI undI (by omega) ?_); rw [HX.out])
                | (go_at_call 87; (with_reducible refine (l1Most_any _ _ _).mono ?_); rintro e w' ⟨rfl, rfl⟩)
              all_goals
                go_roundw
                case rel => exact ⟨n + 1, by omega, by go_num, by rw [HS.out, HX2.out]; refine congrArg _ ?_; omega, h3, hbel⟩
                case measure => simp [intOf]; omega
            · obtain rfl : n = 5 := by omega
              go_wp2_with fail
              go_ret
              exact ⟨rfl, hbel⟩
        · go_wp2_with first
            | (have _t := tok_h3; with_reducible refine wpList_allocN rfl 22 rfl 6 zero6 ?_; intro Bh3 w1 hBh3 h3 hb1; have hWh3 := Nat.le_trans hbel.size hBh3; have hLh1h3 := Nat.lt_of_lt_of_le (row_lt h1) hBh3; replace hbel := hbel.trans (hb1.mono hbel.size); replace h1 := row_keep hb1 h1; clear hb1 _t tok_h3)
          refine QN.intro ?_
          refine wpAny_fork1 3 (by kernel_rfl) rfl ?_
          go_wp2_with first
            | (go_at_call 97; (with_reducible refine (l6Bottoms_any f hf _).mono ?_); rintro e w1 ⟨rfl, hb1⟩; replace hbel := hbel.trans (hb1.mono hbel.size); replace h1 := row_keep hb1 h1; (try replace h3 := row_keep hb1 h3); clear hb1)
          refine QN.intro ?_
          refine wpAny_fork1 5 (by kernel_rfl) rfl ?_
          go_wp2_with fail
          refine QN.intro ?_
          refine wpAny_fork1 6 (by kernel_rfl) rfl ?_
          go_wp2_with first
            | (with_reducible refine wpList_storeWN rfl _ _ _ rfl _ rfl rfl h3 size6 hbel hWh3 ?_; intro w1 g3 ho g4; replace h1 := (ho _ (by omega)).trans h1; clear h3 hbel; have h3 := g3; have hbel := g4; clear g3 g4 ho)
          refine QN.intro ?_
          refine wpAny_end (by kernel_rfl) ?_
          go_wp2_with fail
          go_loopw [3, 5] (fun a i wr => ∃ n : Nat, n ≤ 5 ∧ i = .int .i64 (n + 1 : Nat) ∧ a = .int .i64 (bsum f 6 + esum (botF f) n : Nat) ∧ wr.heap[Bh3]? = some (.cells (arr 6 (botF f)) 22 (0, 0)) ∧ Below w.heap.size w wr) (fun _ i _ => 6 - (intOf i).toNat)
          case atStart => exact ⟨0, by omega, rfl, rfl, h3, hbel⟩
          case round =>
            clear h1 h3 hbel
            obtain ⟨n, hn, rfl, rfl, h3, hbel⟩ := hrel
            have he := HE.out n
            by_cases hlt : n < 5
            · have hlt' : (n : Int) < 5 := by omega
              have hg := HG.out (1 + n)
              have HS : Hid (esum (botF f) (n + 1) = esum (botF f) n + (botF f (1 + n) - 1).toNat) := rfl
              obtain ⟨x, hx⟩ : ∃ x, botF f (1 + n) = x := ⟨_, rfl⟩
              have HX : Hid (botF f (n + 1) = x) := by rw [Nat.add_comm]; exact hx
              have HX2 : Hid _ := hx
              rw [hx] at hg
              clear hx
              go_wp2_with first
                | ((with_reducible refine wpList_loadI rfl _ _ rfl _ _ rfl h3 aggI undI (by omega) ?_); rw [HX.out])
                | (go_at_call 87; (with_reducible refine (l1Most_any _ _ _).mono ?_); rintro e w' ⟨rfl, rfl⟩)
              all_goals
                go_roundw
                case rel => exact ⟨n + 1, by omega, by go_num, by rw [HS.out, HX2.out]; refine congrArg _ ?_; omega, h3, hbel⟩
                case measure => simp [intOf]; omega
            · obtain rfl : n = 5 := by omega
              go_wp2_with fail
              go_ret
              exact ⟨rfl, hbel⟩
      · go_wp2_with first
          | (have _t := tok_h3; with_reducible refine wpList_allocN rfl 22 rfl 6 zero6 ?_; intro Bh3 w1 hBh3 h3 hb1; have hWh3 := Nat.le_trans hbel.size hBh3; have hLh1h3 := Nat.lt_of_lt_of_le (row_lt h1) hBh3; replace hbel := hbel.trans (hb1.mono hbel.size); replace h1 := row_keep hb1 h1; clear hb1 _t tok_h3)
        refine QN.intro ?_
        refine wpAny_fork1 1 (by kernel_rfl) rfl ?_
        go_wp2_with first
          | (go_at_call 62; (with_reducible refine (l6Boundaries_any f hf _).mono ?_); rintro e w1 ⟨rfl, hb1⟩; replace hbel := hbel.trans (hb1.mono hbel.size); replace h1 := row_keep hb1 h1; (try replace h3 := row_keep hb1 h3); clear hb1)
        refine QN.intro ?_
        refine wpAny_fork1 3 (by kernel_rfl) rfl ?_
        go_wp2_with first
          | (go_at_call 97; (with_reducible refine (l6Bottoms_any f hf _).mono ?_); rintro e w1 ⟨rfl, hb1⟩; replace hbel := hbel.trans (hb1.mono hbel.size); replace h1 := row_keep hb1 h1; (try replace h3 := row_keep hb1 h3); clear hb1)
        refine QN.intro ?_
        refine wpAny_fork1 5 (by kernel_rfl) rfl ?_
        go_wp2_with fail
        refine QN.intro ?_
        refine wpAny_fork1 6 (by kernel_rfl) rfl ?_
        go_wp2_with first
          | (with_reducible refine wpList_storeWN rfl _ _ _ rfl _ rfl rfl h3 size6 hbel hWh3 ?_; intro w1 g3 ho g4; replace h1 := (ho _ (by omega)).trans h1; clear h3 hbel; have h3 := g3; have hbel := g4; clear g3 g4 ho)
        refine QN.intro ?_
        refine wpAny_end (by kernel_rfl) ?_
        go_wp2_with fail
        go_loopw [3, 5] (fun a i wr => ∃ n : Nat, n ≤ 5 ∧ i = .int .i64 (n + 1 : Nat) ∧ a = .int .i64 (bsum f 6 + esum (botF f) n : Nat) ∧ wr.heap[Bh3]? = some (.cells (arr 6 (botF f)) 22 (0, 0)) ∧ Below w.heap.size w wr) (fun _ i _ => 6 - (intOf i).toNat)
        case atStart => exact ⟨0, by omega, rfl, rfl, h3, hbel⟩
        case round =>
          clear h1 h3 hbel
          obtain ⟨n, hn, rfl, rfl, h3, hbel⟩ := hrel
          have he := HE.out n
          by_cases hlt : n < 5
          · have hlt' : (n : Int) < 5 := by omega
            have hg := HG.out (1 + n)
            have HS : Hid (esum (botF f) (n + 1) = esum (botF f) n + (botF f (1 + n) - 1).toNat) := rfl
            obtain ⟨x, hx⟩ : ∃ x, botF f (1 + n) = x := ⟨_, rfl⟩
            have HX : Hid (botF f (n + 1) = x) := by rw [Nat.add_comm]; exact hx
            have HX2 : Hid _ := hx
            rw [hx] at hg
            clear hx
            go_wp2_with first
              | ((with_reducible refine wpList_loadI rfl _ _ rfl _ _ rfl h3 aggI undI (by omega) ?_); rw [HX.out])
              | (go_at_call 87; (with_reducible refine (l1Most_any _ _ _).mono ?_); rintro e w' ⟨rfl, rfl⟩)
            all_goals
              go_roundw
              case rel => exact ⟨n + 1, by omega, by go_num, by rw [HS.out, HX2.out]; refine congrArg _ ?_; omega, h3, hbel⟩
              case measure => simp [intOf]; omega
          · obtain rfl : n = 5 := by omega
            go_wp2_with fail
            go_ret
            exact ⟨rfl, hbel⟩
    · go_wp2_with first
        | (have _t := tok_h3; with_reducible refine wpList_allocN rfl 22 rfl 6 zero6 ?_; intro Bh3 w1 hBh3 h3 hb1; have hWh3 := Nat.le_trans hbel.size hBh3; have hLh1h3 := Nat.lt_of_lt_of_le (row_lt h1) hBh3; replace hbel := hbel.trans (hb1.mono hbel.size); replace h1 := row_keep hb1 h1; clear hb1 _t tok_h3)
      refine QN.intro ?_
      refine wpAny_fork1 0 (by kernel_rfl) rfl ?_
      go_wp2_with first
        | (with_reducible refine wpList_loadW rfl _ _ rfl _ rfl h1 agg24r size24r ?_)
      refine QN.intro ?_
      refine wpAny_fork1 1 (by kernel_rfl) rfl ?_
      go_wp2_with first
        | (go_at_call 62; (with_reducible refine (l6Boundaries_any f hf _).mono ?_); rintro e w1 ⟨rfl, hb1⟩; replace hbel := hbel.trans (hb1.mono hbel.size); replace h1 := row_keep hb1 h1; (try replace h3 := row_keep hb1 h3); clear hb1)
      refine QN.intro ?_
      refine wpAny_fork1 3 (by kernel_rfl) rfl ?_
      go_wp2_with first
        | (go_at_call 97; (with_reducible refine (l6Bottoms_any f hf _).mono ?_); rintro e w1 ⟨rfl, hb1⟩; replace hbel := hbel.trans (hb1.mono hbel.size); replace h1 := row_keep hb1 h1; (try replace h3 := row_keep hb1 h3); clear hb1)
      refine QN.intro ?_
      refine wpAny_fork1 5 (by kernel_rfl) rfl ?_
      go_wp2_with fail
      refine QN.intro ?_
      refine wpAny_fork1 6 (by kernel_rfl) rfl ?_
      go_wp2_with first
        | (with_reducible refine wpList_storeWN rfl _ _ _ rfl _ rfl rfl h3 size6 hbel hWh3 ?_; intro w1 g3 ho g4; replace h1 := (ho _ (by omega)).trans h1; clear h3 hbel; have h3 := g3; have hbel := g4; clear g3 g4 ho)
      refine QN.intro ?_
      refine wpAny_end (by kernel_rfl) ?_
      go_wp2_with fail
      go_loopw [3, 5] (fun a i wr => ∃ n : Nat, n ≤ 5 ∧ i = .int .i64 (n + 1 : Nat) ∧ a = .int .i64 (bsum f 6 + esum (botF f) n : Nat) ∧ wr.heap[Bh3]? = some (.cells (arr 6 (botF f)) 22 (0, 0)) ∧ Below w.heap.size w wr) (fun _ i _ => 6 - (intOf i).toNat)
      case atStart => exact ⟨0, by omega, rfl, rfl, h3, hbel⟩
      case round =>
        clear h1 h3 hbel
        obtain ⟨n, hn, rfl, rfl, h3, hbel⟩ := hrel
        have he := HE.out n
        by_cases hlt : n < 5
        · have hlt' : (n : Int) < 5 := by omega
          have hg := HG.out (1 + n)
          have HS : Hid (esum (botF f) (n + 1) = esum (botF f) n + (botF f (1 + n) - 1).toNat) := rfl
          obtain ⟨x, hx⟩ : ∃ x, botF f (1 + n) = x := ⟨_, rfl⟩
          have HX : Hid (botF f (n + 1) = x) := by rw [Nat.add_comm]; exact hx
          have HX2 : Hid _ := hx
          rw [hx] at hg
          clear hx
          go_wp2_with first
            | ((with_reducible refine wpList_loadI rfl _ _ rfl _ _ rfl h3 aggI undI (by omega) ?_); rw [HX.out])
            | (go_at_call 87; (with_reducible refine (l1Most_any _ _ _).mono ?_); rintro e w' ⟨rfl, rfl⟩)
          all_goals
            go_roundw
            case rel => exact ⟨n + 1, by omega, by go_num, by rw [HS.out, HX2.out]; refine congrArg _ ?_; omega, h3, hbel⟩
            case measure => simp [intOf]; omega
        · obtain rfl : n = 5 := by omega
          go_wp2_with fail
          go_ret
          exact ⟨rfl, hbel⟩
  · go_wp2_with first
      | (have _t := tok_h3; with_reducible refine wpList_allocN rfl 22 rfl 6 zero6 ?_; intro Bh3 w1 hBh3 h3 hb1; have hWh3 := Nat.le_trans hbel.size hBh3; have hLh1h3 := Nat.lt_of_lt_of_le (row_lt h1) hBh3; replace hbel := hbel.trans (hb1.mono hbel.size); replace h1 := row_keep hb1 h1; clear hb1 _t tok_h3)
    refine QN.intro ?_
    refine wpAny_fork2 0 2 (by kernel_rfl) rfl rfl ?_ ?_
    · go_wp2_with first
        | (with_reducible refine wpList_loadW rfl _ _ rfl _ rfl h1 agg24r size24r ?_)
      refine QN.intro ?_
      refine wpAny_fork2 1 2 (by kernel_rfl) rfl rfl ?_ ?_
      · go_wp2_with first
          | (go_at_call 62; (with_reducible refine (l6Boundaries_any f hf _).mono ?_); rintro e w1 ⟨rfl, hb1⟩; replace hbel := hbel.trans (hb1.mono hbel.size); replace h1 := row_keep hb1 h1; (try replace h3 := row_keep hb1 h3); clear hb1)
        refine QN.intro ?_
        refine wpAny_fork1 2 (by kernel_rfl) rfl ?_
        go_wp2_with first
          | (with_reducible refine wpList_loadW rfl _ _ rfl _ rfl h1 agg24r size24r ?_)
        refine QN.intro ?_
        refine wpAny_fork1 3 (by kernel_rfl) rfl ?_
        go_wp2_with first
          | (go_at_call 97; (with_reducible refine (l6Bottoms_any f hf _).mono ?_); rintro e w1 ⟨rfl, hb1⟩; replace hbel := hbel.trans (hb1.mono hbel.size); replace h1 := row_keep hb1 h1; (try replace h3 := row_keep hb1 h3); clear hb1)
        refine QN.intro ?_
        refine wpAny_fork1 5 (by kernel_rfl) rfl ?_
        go_wp2_with fail
        refine QN.intro ?_
        refine wpAny_fork1 6 (by kernel_rfl) rfl ?_
        go_wp2_with first
          | (with_reducible refine wpList_storeWN rfl _ _ _ rfl _ rfl rfl h3 size6 hbel hWh3 ?_; intro w1 g3 ho g4; replace h1 := (ho _ (by omega)).trans h1; clear h3 hbel; have h3 := g3; have hbel := g4; clear g3 g4 ho)
        refine QN.intro ?_
        refine wpAny_end (by kernel_rfl) ?_
        go_wp2_with fail
        go_loopw [3, 5] (fun a i wr => ∃ n : Nat, n ≤ 5 ∧ i = .int .i64 (n + 1 : Nat) ∧ a = .int .i64 (bsum f 6 + esum (botF f) n : Nat) ∧ wr.heap[Bh3]? = some (.cells (arr 6 (botF f)) 22 (0, 0)) ∧ Below w.heap.size w wr) (fun _ i _ => 6 - (intOf i).toNat)
        case atStart => exact ⟨0, by omega, rfl, rfl, h3, hbel⟩
        case round =>
          clear h1 h3 hbel
          obtain ⟨n, hn, rfl, rfl, h3, hbel⟩ := hrel
          have he := HE.out n
          by_cases hlt : n < 5
          · have hlt' : (n : Int) < 5 := by omega
            have hg := HG.out (1 + n)
            have HS : Hid (esum (botF f) (n + 1) = esum (botF f) n + (botF f (1 + n) - 1).toNat) := rfl
            obtain ⟨x, hx⟩ : ∃ x, botF f (1 + n) = x := ⟨_, rfl⟩
            have HX : Hid (botF f (n + 1) = x) := by rw [Nat.add_comm]; exact hx
            have HX2 : Hid _ := hx
            rw [hx] at hg
            clear hx
            go_wp2_with first
              | ((with_reducible refine wpList_loadI rfl _ _ rfl _ _ rfl h3 aggI undI (by omega) ?_); rw [HX.out])
              | (go_at_call 87; (with_reducible refine (l1Most_any _ _ _).mono ?_); rintro e w' ⟨rfl, rfl⟩)
            all_goals
              go_roundw
              case rel => exact ⟨n + 1, by omega, by go_num, by rw [HS.out, HX2.out]; refine congrArg _ ?_; omega, h3, hbel⟩
              case measure => simp [intOf]; omega
          · obtain rfl : n = 5 := by omega
            go_wp2_with fail
            go_ret
            exact ⟨rfl, hbel⟩
      · go_wp2_with first
          | (with_reducible refine wpList_loadW rfl _ _ rfl _ rfl h1 agg24r size24r ?_)
        refine QN.intro ?_
        refine wpAny_fork1 1 (by kernel_rfl) rfl ?_
        go_wp2_with first
          | (go_at_call 62; (with_reducible refine (l6Boundaries_any f hf _).mono ?_); rintro e w1 ⟨rfl, hb1⟩; replace hbel := hbel.trans (hb1.mono hbel.size); replace h1 := row_keep hb1 h1; (try replace h3 := row_keep hb1 h3); clear hb1)
        refine QN.intro ?_
        refine wpAny_fork1 3 (by kernel_rfl) rfl ?_
        go_wp2_with first
          | (go_at_call 97; (with_reducible refine (l6Bottoms_any f hf _).mono ?_); rintro e w1 ⟨rfl, hb1⟩; replace hbel := hbel.trans (hb1.mono hbel.size); replace h1 := row_keep hb1 h1; (try replace h3 := row_keep hb1 h3); clear hb1)
        refine QN.intro ?_
        refine wpAny_fork1 5 (by kernel_rfl) rfl ?_
        go_wp2_with fail
        refine QN.intro ?_
        refine wpAny_fork1 6 (by kernel_rfl) rfl ?_
        go_wp2_with first
          | (with_reducible refine wpList_storeWN rfl _ _ _ rfl _ rfl rfl h3 size6 hbel hWh3 ?_; intro w1 g3 ho g4; replace h1 := (ho _ (by omega)).trans h1; clear h3 hbel; have h3 := g3; have hbel := g4; clear g3 g4 ho)
        refine QN.intro ?_
        refine wpAny_end (by kernel_rfl) ?_
        go_wp2_with fail
        go_loopw [3, 5] (fun a i wr => ∃ n : Nat, n ≤ 5 ∧ i = .int .i64 (n + 1 : Nat) ∧ a = .int .i64 (bsum f 6 + esum (botF f) n : Nat) ∧ wr.heap[Bh3]? = some (.cells (arr 6 (botF f)) 22 (0, 0)) ∧ Below w.heap.size w wr) (fun _ i _ => 6 - (intOf i).toNat)
        case atStart => exact ⟨0, by omega, rfl, rfl, h3, hbel⟩
        case round =>
          clear h1 h3 hbel
          obtain ⟨n, hn, rfl, rfl, h3, hbel⟩ := hrel
          have he := HE.out n
          by_cases hlt : n < 5
          · have hlt' : (n : Int) < 5 := by omega
            have hg := HG.out (1 + n)
            have HS : Hid (esum (botF f) (n + 1) = esum (botF f) n + (botF f (1 + n) - 1).toNat) := rfl
            obtain ⟨x, hx⟩ : ∃ x, botF f (1 + n) = x := ⟨_, rfl⟩
            have HX : Hid (botF f (n + 1) = x) := by rw [Nat.add_comm]; exact hx
            have HX2 : Hid _ := hx
            rw [hx] at hg
            clear hx
            go_wp2_with first
              | ((with_reducible refine wpList_loadI rfl _ _ rfl _ _ rfl h3 aggI undI (by omega) ?_); rw [HX.out])
              | (go_at_call 87; (with_reducible refine (l1Most_any _ _ _).mono ?_); rintro e w' ⟨rfl, rfl⟩)
            all_goals
              go_roundw
              case rel => exact ⟨n + 1, by omega, by go_num, by rw [HS.out, HX2.out]; refine congrArg _ ?_; omega, h3, hbel⟩
              case measure => simp [intOf]; omega
          · obtain rfl : n = 5 := by omega
            go_wp2_with fail
            go_ret
            exact ⟨rfl, hbel⟩
    · go_wp2_with first
        | (with_reducible refine wpList_loadW rfl _ _ rfl _ rfl h1 agg24r size24r ?_)
      refine QN.intro ?_
      refine wpAny_fork1 0 (by kernel_rfl) rfl ?_
      go_wp2_with first
        | (with_reducible refine wpList_loadW rfl _ _ rfl _ rfl h1 agg24r size24r ?_)
      refine QN.intro ?_
      refine wpAny_fork1 1 (by kernel_rfl) rfl ?_
      go_wp2_with first
        | (go_at_call 62; (with_reducible refine (l6Boundaries_any f hf _).mono ?_); rintro e w1 ⟨rfl, hb1⟩; replace hbel := hbel.trans (hb1.mono hbel.size); replace h1 := row_keep hb1 h1; (try replace h3 := row_keep hb1 h3); clear hb1)
      refine QN.intro ?_
      refine wpAny_fork1 3 (by kernel_rfl) rfl ?_
      go_wp2_with first
        | (go_at_call 97; (with_reducible refine (l6Bottoms_any f hf _).mono ?_); rintro e w1 ⟨rfl, hb1⟩; replace hbel := hbel.trans (hb1.mono hbel.size); replace h1 := row_keep hb1 h1; (try replace h3 := row_keep hb1 h3); clear hb1)
      refine QN.intro ?_
      refine wpAny_fork1 5 (by kernel_rfl) rfl ?_
      go_wp2_with fail
      refine QN.intro ?_
      refine wpAny_fork1 6 (by kernel_rfl) rfl ?_
      go_wp2_with first
        | (with_reducible refine wpList_storeWN rfl _ _ _ rfl _ rfl rfl h3 size6 hbel hWh3 ?_; intro w1 g3 ho g4; replace h1 := (ho _ (by omega)).trans h1; clear h3 hbel; have h3 := g3; have hbel := g4; clear g3 g4 ho)
      refine QN.intro ?_
      refine wpAny_end (by kernel_rfl) ?_
      go_wp2_with fail
      go_loopw [3, 5] (fun a i wr => ∃ n : Nat, n ≤ 5 ∧ i = .int .i64 (n + 1 : Nat) ∧ a = .int .i64 (bsum f 6 + esum (botF f) n : Nat) ∧ wr.heap[Bh3]? = some (.cells (arr 6 (botF f)) 22 (0, 0)) ∧ Below w.heap.size w wr) (fun _ i _ => 6 - (intOf i).toNat)
      case atStart => exact ⟨0, by omega, rfl, rfl, h3, hbel⟩
      case round =>
        clear h1 h3 hbel
        obtain ⟨n, hn, rfl, rfl, h3, hbel⟩ := hrel
        have he := HE.out n
        by_cases hlt : n < 5
        · have hlt' : (n : Int) < 5 := by omega
          have hg := HG.out (1 + n)
          have HS : Hid (esum (botF f) (n + 1) = esum (botF f) n + (botF f (1 + n) - 1).toNat) := rfl
          obtain ⟨x, hx⟩ : ∃ x, botF f (1 + n) = x := ⟨_, rfl⟩
          have HX : Hid (botF f (n + 1) = x) := by rw [Nat.add_comm]; exact hx
          have HX2 : Hid _ := hx
          rw [hx] at hg
          clear hx
          go_wp2_with first
            | ((with_reducible refine wpList_loadI rfl _ _ rfl _ _ rfl h3 aggI undI (by omega) ?_); rw [HX.out])
            | (go_at_call 87; (with_reducible refine (l1Most_any _ _ _).mono ?_); rintro e w' ⟨rfl, rfl⟩)
          all_goals
            go_roundw
            case rel => exact ⟨n + 1, by omega, by go_num, by rw [HS.out, HX2.out]; refine congrArg _ ?_; omega, h3, hbel⟩
            case measure => simp [intOf]; omega
        · obtain rfl : n = 5 := by omega
          go_wp2_with fail
          go_ret
          exact ⟨rfl, hbel⟩
def bndOf (f : Nat → Int) : Int × Bool := if rackB f = true then ((bndF f : Nat), true) else (0, false)
theorem specBnd_any (f : Nat → Int) (w : World) : Calls Try.prog 35 #[.agg (arr 24 f)] w fun e w' => e = .returned (.tuple #[.int .i64 (bndOf f).1, .bool (bndOf f).2]) ∧ Below w.heap.size w w' := by
  have h1 : (w.alloc (.cells (arr 24 f) 38)).heap[w.heap.size]? = some (.cells (arr 24 f) 38 (0, 0))   := heap_new rfl
  have hbel : Below w.heap.size w (w.alloc (.cells (arr 24 f) 38)) := (Below.refl _ _).alloc (by simp) _
  unfold bndOf
  cases hf : rackB f with
  | false =>
    have HF : Hid _ := hf
    simp only [Bool.false_eq_true, if_false]
    clear hf
    go_enter Try.func35, Try.ntmps35
    go_wp2_with first
      | (with_reducible refine wpList_loadW rfl _ _ rfl _ rfl h1 agg24r size24r ?_)
      | (go_at_call 57; (with_reducible refine (l2Rack_any _ _).mono ?_); rw [HF.out]; rintro e w1 ⟨rfl, hb1⟩; replace hbel := hbel.trans (hb1.mono hbel.size); replace h1 := row_keep hb1 h1; clear hb1)
    go_ret2
    exact ⟨rfl, hbel⟩
  | true =>
    have HF : Hid _ := hf
    simp only [if_true]
    go_enter Try.func35, Try.ntmps35
    go_wp2_with first
      | (with_reducible refine wpList_loadW rfl _ _ rfl _ rfl h1 agg24r size24r ?_)
      | (go_at_call 57; (with_reducible refine (l2Rack_any _ _).mono ?_); rw [HF.out]; rintro e w1 ⟨rfl, hb1⟩; replace hbel := hbel.trans (hb1.mono hbel.size); replace h1 := row_keep hb1 h1; clear hb1)
      | (go_at_call 75; (with_reducible refine (l6Bound_any f HF.out _).mono ?_); rintro e w1 ⟨rfl, hb1⟩; replace hbel := hbel.trans (hb1.mono hbel.size); replace h1 := row_keep hb1 h1; clear hb1)
    go_ret2
    exact ⟨rfl, hbel⟩
theorem implBnd_any (f : Nat → Int) (w : World) : Calls Try.prog 36 #[.agg (arr 24 f)] w fun e w' => e = .returned (.tuple #[.int .i64 (bndOf f).1, .bool (bndOf f).2]) ∧ Below w.heap.size w w' := by
  have h1 : (w.alloc (.cells (arr 24 f) 38)).heap[w.heap.size]? = some (.cells (arr 24 f) 38 (0, 0))   := heap_new rfl
  have hbel : Below w.heap.size w (w.alloc (.cells (arr 24 f) 38)) := (Below.refl _ _).alloc (by simp) _
  unfold bndOf
  cases hf : rackB f with
  | false =>
    have HF : Hid _ := hf
    simp only [Bool.false_eq_true, if_false]
    clear hf
    go_enter Try.func36, Try.ntmps36
    go_wp2_with first
      | (with_reducible refine wpList_loadW rfl _ _ rfl _ rfl h1 agg24r size24r ?_)
      | (go_at_call 63; (with_reducible refine (IsRack_any _ _).mono ?_); rw [HF.out]; rintro e w1 ⟨rfl, hb1⟩; replace hbel := hbel.trans (hb1.mono hbel.size); replace h1 := row_keep hb1 h1; clear hb1)
    go_ret2
    exact ⟨rfl, hbel⟩
  | true =>
    have HF : Hid _ := hf
    simp only [if_true]
    go_enter Try.func36, Try.ntmps36
    go_wp2_with first
      | (with_reducible refine wpList_loadW rfl _ _ rfl _ rfl h1 agg24r size24r ?_)
      | (go_at_call 63; (with_reducible refine (IsRack_any _ _).mono ?_); rw [HF.out]; rintro e w1 ⟨rfl, hb1⟩; replace hbel := hbel.trans (hb1.mono hbel.size); replace h1 := row_keep hb1 h1; clear hb1)
      | (go_at_call 76; (with_reducible refine (bound_any f HF.out _).mono ?_); rintro e w1 ⟨rfl, hb1⟩; replace hbel := hbel.trans (hb1.mono hbel.size); replace h1 := row_keep hb1 h1; clear hb1)
    go_ret2
    exact ⟨rfl, hbel⟩
set_option linter.unusedVariables false in
theorem FnExactBoundOf_walk (x0 : Nat → Int) (hx0 : ∀ j, I64 (x0 j)) (w : World) : Calls Try.prog 10 #[.agg (arr 24 x0)] w fun e w' => e = .returned (.bool true) ∧ Below w.heap.size w w' := by
  have hr0 : (w.alloc (.cells (arr 24 x0) 35)).heap[w.heap.size]? = some (.cells (arr 24 x0) 35 (0, 0)) := by rw [heap_new (by simp)]
  have hbel : Below w.heap.size w (w.alloc (.cells (arr 24 x0) 35)) := ((Below.refl _ _).alloc (by simp) _)
  go_enter Try.func10, Try.ntmps10
  go_wp2_with first
    | (with_reducible refine wpList_loadW rfl _ _ rfl _ rfl hr0 agg24l size24l ?_)
    | (go_at_call 20; (with_reducible refine (toRack_any _ _).mono ?_); (rintro e w1 ⟨rfl, hb1⟩; replace hbel := hbel.trans (hb1.mono hbel.size); replace hr0 := row_keep hb1 hr0; clear hb1))
    | (go_at_call 35; (with_reducible refine (specBnd_any _ _).mono ?_); (rintro e w1 ⟨rfl, hb1⟩; replace hbel := hbel.trans (hb1.mono hbel.size); replace hr0 := row_keep hb1 hr0; clear hb1))
    | (go_at_call 36; (with_reducible refine (implBnd_any _ _).mono ?_); (rintro e w1 ⟨rfl, hb1⟩; replace hbel := hbel.trans (hb1.mono hbel.size); replace hr0 := row_keep hb1 hr0; clear hb1))
  go_ret
  exact ⟨rfl, hbel⟩
end Go.Proofs.Ytogdmacndokmhaa
