/- CountRenamings: the program's and the reference's, and the law. -/
import Derived.Test.YtljajgaicdffkaaRtg
namespace Go.Proofs.Ytljajgaicdffkaa
set_option linter.unusedSimpArgs false
set_option linter.unusedVariables false
set_option maxRecDepth 20000
open Go.RowKit
noncomputable def crR (f : Nat → Int) : Int × Bool := if rackB f = true then ((((kp f f 120).length : Nat) : Int), true) else (0, false)
theorem implCn_any (f : Nat → Int) (w : World) : Calls Try.prog 33 #[.agg (arr 24 f)] w fun e w' => e = .returned (.tuple #[.int .i64 (crR f).1, .bool (crR f).2]) ∧ Below w.heap.size w w' := by
  have h1 : (w.alloc (.cells (arr 24 f) 33)).heap[w.heap.size]? = some (.cells (arr 24 f) 33 (0, 0))   := heap_new rfl
  have hbel : Below w.heap.size w (w.alloc (.cells (arr 24 f) 33)) := (Below.refl _ _).alloc (by simp) _
  cases hf : rackB f with
  | false =>
    rw [show crR f = (0, false) from if_neg (by simp [hf])]
    have HF : Hid _ := hf
    clear hf
    go_enter Try.func33, Try.ntmps33
    go_wp2_with first
      | (with_reducible refine wpList_loadW rfl _ _ rfl _ rfl h1 agg24r size24r ?_)
      | (go_at_call 47; (with_reducible refine (IsRack_at HF.out _).mono ?_); rintro e w1 ⟨rfl, hb1⟩; replace hbel := hbel.trans (hb1.mono hbel.size); replace h1 := row_keep hb1 h1; clear hb1)
    go_ret2
    exact ⟨rfl, hbel⟩
  | true =>
    rw [show crR f = ((((kp f f 120).length : Nat) : Int), true) from if_pos hf]
    have HF : Hid _ := hf
    clear hf
    go_enter Try.func33, Try.ntmps33
    go_wp2_with first
      | (with_reducible refine wpList_loadW rfl _ _ rfl _ rfl h1 agg24r size24r ?_)
      | (go_at_call 47; (with_reducible refine (IsRack_at HF.out _).mono ?_); rintro e w1 ⟨rfl, hb1⟩; replace hbel := hbel.trans (hb1.mono hbel.size); replace h1 := row_keep hb1 h1; clear hb1)
      | (go_at_call 55; (with_reducible refine (renamingsTo_any f f HF.out HF.out _).mono ?_); rintro e w1 ⟨v, rfl, hS, hb1⟩; replace hbel := hbel.trans (hb1.mono hbel.size); clear hb1)
      | (with_reducible refine wpList_lenS Try.underlying53 rfl _ rfl rfl hS ?_)
    go_ret2
    exact ⟨rfl, hbel⟩
set_option maxHeartbeats 1000000 in
theorem specCn_any (a : Nat → Int) (w : World) : Calls Try.prog 32 #[.agg (arr 24 a)] w fun e w' => e = .returned (.tuple #[.int .i64 (crR a).1, .bool (crR a).2]) ∧ Below w.heap.size w w' := by
  have h1 : (w.alloc (.cells (arr 24 a) 33)).heap[w.heap.size]? = some (.cells (arr 24 a) 33 (0, 0))   := heap_new rfl
  have hbel : Below w.heap.size w (w.alloc (.cells (arr 24 a) 33)) := (Below.refl _ _).alloc (by simp) _
  cases hf : rackB a with
  | false =>
    rw [show crR a = (0, false) from if_neg (by simp [hf])]
    have HF : Hid _ := hf
    clear hf
    go_enter Try.func32, Try.ntmps32
    go_wp2_with first
      | (with_reducible refine wpList_loadW rfl _ _ rfl _ rfl h1 agg24r size24r ?_)
      | (go_at_call 44; (with_reducible refine (l2Rack_at HF.out _).mono ?_); rintro e w1 ⟨rfl, hb1⟩; replace hbel := hbel.trans (hb1.mono hbel.size); replace h1 := row_keep hb1 h1; clear hb1)
    go_ret2
    exact ⟨rfl, hbel⟩
  | true =>
    rw [show crR a = ((((kp a a 120).length : Nat) : Int), true) from if_pos hf]
    have hc := cellB_of_rack hf
    go_enter Try.func32, Try.ntmps32
    go_wp2_with first
      | (with_reducible refine wpList_loadW rfl _ _ rfl _ rfl h1 agg24r size24r ?_)
      | (go_at_call 44; (with_reducible refine (l2Rack_at hf _).mono ?_); rintro e w1 ⟨rfl, hb1⟩; replace hbel := hbel.trans (hb1.mono hbel.size); replace h1 := row_keep hb1 h1; clear hb1)
    refine wp_region_ord 7 (Cls w _) (fun a' w' => ∃ g cap F B, a' = { tmps := #[.agg (arr 24 a), .pointer (some ⟨w.heap.size, 0, none⟩), .int .i64 0, .bool false, .int .i64 0, .slice (some ⟨g, 0, none⟩) 120 cap, .pointer (some ⟨B, 0, none⟩), undef, .agg (arr 24 a), .bool true, .bool false, .slice (some ⟨g, 0, none⟩) 120 cap, .agg (arr 24 a), .agg (arr 24 (formF a)), undef, undef, undef, undef, undef, undef, undef, undef, undef, undef, undef, undef, undef, undef, undef, undef, undef, undef], defers := [] } ∧ 120 ≤ cap ∧ cap ≤ maxLen ∧ (∀ j, j < 120 * 6 → F j = fls 6 (nmL.map fnL) j) ∧ w'.heap[w.heap.size]? = some (.cells (arr 24 a) 33 (0, 0)) ∧ w'.heap[g]? = some (.cells (arr (cap * 6) F) 22 (0, 0)) ∧ w'.heap[B]? = some (.cells (arr 24 (formF a)) 33 (0, 0)) ∧ Below w.heap.size w w') (by kernel_rfl) rfl (Cls.one h1 hbel) ?_ ?_
    · intro wt hCt
      replace h1 := hCt.1 _ (.head _); replace hbel := hCt.2; clear hCt
      have tok_h6 : True := trivial
      refine wpAny_fork3 0 1 3 (by kernel_rfl) rfl rfl rfl ?_ ?_ ?_
      · go_wp2_with first
          | (go_at_call 54; (with_reducible refine (l4AllNames_any _).mono ?_); rintro e w1 ⟨v, rfl, hS, hb1⟩; replace h1 := row_keep hb1 h1; (try have hl6 := row_lt h6); (try replace h6 := row_keep hb1 h6); replace hbel := hbel.trans (hb1.mono hbel.size); clear hb1; (obtain ⟨g, cap, F, rfl, a1, hg, a3, a4, a5⟩ := hS.blk (by omega)); clear hS)
        refine QN.intro ?_
        refine wpAny_fork2 1 3 (by kernel_rfl) rfl rfl ?_ ?_
        · go_wp2_with first
            | (with_reducible refine wpList_loadW rfl _ _ rfl _ rfl h1 agg24r size24r ?_)
          refine QN.intro ?_
          refine wpAny_fork2 2 3 (by kernel_rfl) rfl rfl ?_ ?_
          · go_wp2_with first
              | (go_at_call 52; (with_reducible refine (l3Form_any a hf _).mono ?_); rintro e w1 ⟨rfl, hb1⟩; replace h1 := row_keep hb1 h1; (try replace hg := row_keep hb1 hg); (try replace h6 := row_keep hb1 h6); replace hbel := hbel.trans (hb1.mono hbel.size); clear hb1)
            refine QN.intro ?_
            refine wpAny_fork1 3 (by kernel_rfl) rfl ?_
            go_wp2_with first
              | (have _t := tok_h6; with_reducible refine wpList_allocN rfl 33 rfl 24 zero24r ?_; intro B6 w1 hB6 h6 hb1; have hl1 := row_lt h1; (try have hlg := row_lt hg); replace h1 := row_keep hb1 h1; (try replace hg := row_keep hb1 hg); have hz6 := Nat.le_trans hbel.size hB6; replace hbel := hbel.trans (hb1.mono hbel.size); clear hb1 _t tok_h6)
            refine QN.intro ?_
            refine wpAny_fork1 4 (by kernel_rfl) rfl ?_
            go_wp2_with fail
            refine QN.intro ?_
            refine wpAny_fork1 5 (by kernel_rfl) rfl ?_
            go_wp2_with fail
            refine QN.intro ?_
            refine wpAny_fork1 6 (by kernel_rfl) rfl ?_
            go_wp2_with first
              | (with_reducible refine wpList_storeWN rfl _ _ _ rfl _ rfl rfl h6 size24r hbel hz6 ?_; intro w1 g3 ho g4; replace h1 := (ho _ (by omega)).trans h1; replace hg := (ho _ (by omega)).trans hg; clear h6 hbel; have h6 := g3; have hbel := g4; clear g3 g4 ho)
            refine QN.intro ?_
            refine wpAny_end (by kernel_rfl) ?_
            exact ⟨g, cap, F, B6, rfl, a3, a4, a5, h1, hg, h6, hbel⟩
          · go_wp2_with first
              | (have _t := tok_h6; with_reducible refine wpList_allocN rfl 33 rfl 24 zero24r ?_; intro B6 w1 hB6 h6 hb1; have hl1 := row_lt h1; (try have hlg := row_lt hg); replace h1 := row_keep hb1 h1; (try replace hg := row_keep hb1 hg); have hz6 := Nat.le_trans hbel.size hB6; replace hbel := hbel.trans (hb1.mono hbel.size); clear hb1 _t tok_h6)
            refine QN.intro ?_
            refine wpAny_fork1 2 (by kernel_rfl) rfl ?_
            go_wp2_with first
              | (go_at_call 52; (with_reducible refine (l3Form_any a hf _).mono ?_); rintro e w1 ⟨rfl, hb1⟩; replace h1 := row_keep hb1 h1; (try replace hg := row_keep hb1 hg); (try replace h6 := row_keep hb1 h6); replace hbel := hbel.trans (hb1.mono hbel.size); clear hb1)
            refine QN.intro ?_
            refine wpAny_fork1 4 (by kernel_rfl) rfl ?_
            go_wp2_with fail
            refine QN.intro ?_
            refine wpAny_fork1 5 (by kernel_rfl) rfl ?_
            go_wp2_with fail
            refine QN.intro ?_
            refine wpAny_fork1 6 (by kernel_rfl) rfl ?_
            go_wp2_with first
              | (with_reducible refine wpList_storeWN rfl _ _ _ rfl _ rfl rfl h6 size24r hbel hz6 ?_; intro w1 g3 ho g4; replace h1 := (ho _ (by omega)).trans h1; replace hg := (ho _ (by omega)).trans hg; clear h6 hbel; have h6 := g3; have hbel := g4; clear g3 g4 ho)
            refine QN.intro ?_
            refine wpAny_end (by kernel_rfl) ?_
            exact ⟨g, cap, F, B6, rfl, a3, a4, a5, h1, hg, h6, hbel⟩
        · go_wp2_with first
            | (have _t := tok_h6; with_reducible refine wpList_allocN rfl 33 rfl 24 zero24r ?_; intro B6 w1 hB6 h6 hb1; have hl1 := row_lt h1; (try have hlg := row_lt hg); replace h1 := row_keep hb1 h1; (try replace hg := row_keep hb1 hg); have hz6 := Nat.le_trans hbel.size hB6; replace hbel := hbel.trans (hb1.mono hbel.size); clear hb1 _t tok_h6)
          refine QN.intro ?_
          refine wpAny_fork1 1 (by kernel_rfl) rfl ?_
          go_wp2_with first
            | (with_reducible refine wpList_loadW rfl _ _ rfl _ rfl h1 agg24r size24r ?_)
          refine QN.intro ?_
          refine wpAny_fork1 2 (by kernel_rfl) rfl ?_
          go_wp2_with first
            | (go_at_call 52; (with_reducible refine (l3Form_any a hf _).mono ?_); rintro e w1 ⟨rfl, hb1⟩; replace h1 := row_keep hb1 h1; (try replace hg := row_keep hb1 hg); (try replace h6 := row_keep hb1 h6); replace hbel := hbel.trans (hb1.mono hbel.size); clear hb1)
          refine QN.intro ?_
          refine wpAny_fork1 4 (by kernel_rfl) rfl ?_
          go_wp2_with fail
          refine QN.intro ?_
          refine wpAny_fork1 5 (by kernel_rfl) rfl ?_
          go_wp2_with fail
          refine QN.intro ?_
          refine wpAny_fork1 6 (by kernel_rfl) rfl ?_
          go_wp2_with first
            | (with_reducible refine wpList_storeWN rfl _ _ _ rfl _ rfl rfl h6 size24r hbel hz6 ?_; intro w1 g3 ho g4; replace h1 := (ho _ (by omega)).trans h1; replace hg := (ho _ (by omega)).trans hg; clear h6 hbel; have h6 := g3; have hbel := g4; clear g3 g4 ho)
          refine QN.intro ?_
          refine wpAny_end (by kernel_rfl) ?_
          exact ⟨g, cap, F, B6, rfl, a3, a4, a5, h1, hg, h6, hbel⟩
      · go_wp2_with first
          | (with_reducible refine wpList_loadW rfl _ _ rfl _ rfl h1 agg24r size24r ?_)
        refine QN.intro ?_
        refine wpAny_fork2 0 3 (by kernel_rfl) rfl rfl ?_ ?_
        · go_wp2_with first
            | (go_at_call 54; (with_reducible refine (l4AllNames_any _).mono ?_); rintro e w1 ⟨v, rfl, hS, hb1⟩; replace h1 := row_keep hb1 h1; (try have hl6 := row_lt h6); (try replace h6 := row_keep hb1 h6); replace hbel := hbel.trans (hb1.mono hbel.size); clear hb1; (obtain ⟨g, cap, F, rfl, a1, hg, a3, a4, a5⟩ := hS.blk (by omega)); clear hS)
          refine QN.intro ?_
          refine wpAny_fork2 2 3 (by kernel_rfl) rfl rfl ?_ ?_
          · go_wp2_with first
              | (go_at_call 52; (with_reducible refine (l3Form_any a hf _).mono ?_); rintro e w1 ⟨rfl, hb1⟩; replace h1 := row_keep hb1 h1; (try replace hg := row_keep hb1 hg); (try replace h6 := row_keep hb1 h6); replace hbel := hbel.trans (hb1.mono hbel.size); clear hb1)
            refine QN.intro ?_
            refine wpAny_fork1 3 (by kernel_rfl) rfl ?_
            go_wp2_with first
              | (have _t := tok_h6; with_reducible refine wpList_allocN rfl 33 rfl 24 zero24r ?_; intro B6 w1 hB6 h6 hb1; have hl1 := row_lt h1; (try have hlg := row_lt hg); replace h1 := row_keep hb1 h1; (try replace hg := row_keep hb1 hg); have hz6 := Nat.le_trans hbel.size hB6; replace hbel := hbel.trans (hb1.mono hbel.size); clear hb1 _t tok_h6)
            refine QN.intro ?_
            refine wpAny_fork1 4 (by kernel_rfl) rfl ?_
            go_wp2_with fail
            refine QN.intro ?_
            refine wpAny_fork1 5 (by kernel_rfl) rfl ?_
            go_wp2_with fail
            refine QN.intro ?_
            refine wpAny_fork1 6 (by kernel_rfl) rfl ?_
            go_wp2_with first
              | (with_reducible refine wpList_storeWN rfl _ _ _ rfl _ rfl rfl h6 size24r hbel hz6 ?_; intro w1 g3 ho g4; replace h1 := (ho _ (by omega)).trans h1; replace hg := (ho _ (by omega)).trans hg; clear h6 hbel; have h6 := g3; have hbel := g4; clear g3 g4 ho)
            refine QN.intro ?_
            refine wpAny_end (by kernel_rfl) ?_
            exact ⟨g, cap, F, B6, rfl, a3, a4, a5, h1, hg, h6, hbel⟩
          · go_wp2_with first
              | (have _t := tok_h6; with_reducible refine wpList_allocN rfl 33 rfl 24 zero24r ?_; intro B6 w1 hB6 h6 hb1; have hl1 := row_lt h1; (try have hlg := row_lt hg); replace h1 := row_keep hb1 h1; (try replace hg := row_keep hb1 hg); have hz6 := Nat.le_trans hbel.size hB6; replace hbel := hbel.trans (hb1.mono hbel.size); clear hb1 _t tok_h6)
            refine QN.intro ?_
            refine wpAny_fork1 2 (by kernel_rfl) rfl ?_
            go_wp2_with first
              | (go_at_call 52; (with_reducible refine (l3Form_any a hf _).mono ?_); rintro e w1 ⟨rfl, hb1⟩; replace h1 := row_keep hb1 h1; (try replace hg := row_keep hb1 hg); (try replace h6 := row_keep hb1 h6); replace hbel := hbel.trans (hb1.mono hbel.size); clear hb1)
            refine QN.intro ?_
            refine wpAny_fork1 4 (by kernel_rfl) rfl ?_
            go_wp2_with fail
            refine QN.intro ?_
            refine wpAny_fork1 5 (by kernel_rfl) rfl ?_
            go_wp2_with fail
            refine QN.intro ?_
            refine wpAny_fork1 6 (by kernel_rfl) rfl ?_
            go_wp2_with first
              | (with_reducible refine wpList_storeWN rfl _ _ _ rfl _ rfl rfl h6 size24r hbel hz6 ?_; intro w1 g3 ho g4; replace h1 := (ho _ (by omega)).trans h1; replace hg := (ho _ (by omega)).trans hg; clear h6 hbel; have h6 := g3; have hbel := g4; clear g3 g4 ho)
            refine QN.intro ?_
            refine wpAny_end (by kernel_rfl) ?_
            exact ⟨g, cap, F, B6, rfl, a3, a4, a5, h1, hg, h6, hbel⟩
        · go_wp2_with first
            | (have _t := tok_h6; with_reducible refine wpList_allocN rfl 33 rfl 24 zero24r ?_; intro B6 w1 hB6 h6 hb1; have hl1 := row_lt h1; (try have hlg := row_lt hg); replace h1 := row_keep hb1 h1; (try replace hg := row_keep hb1 hg); have hz6 := Nat.le_trans hbel.size hB6; replace hbel := hbel.trans (hb1.mono hbel.size); clear hb1 _t tok_h6)
          refine QN.intro ?_
          refine wpAny_fork1 0 (by kernel_rfl) rfl ?_
          go_wp2_with first
            | (go_at_call 54; (with_reducible refine (l4AllNames_any _).mono ?_); rintro e w1 ⟨v, rfl, hS, hb1⟩; replace h1 := row_keep hb1 h1; (try have hl6 := row_lt h6); (try replace h6 := row_keep hb1 h6); replace hbel := hbel.trans (hb1.mono hbel.size); clear hb1; (obtain ⟨g, cap, F, rfl, a1, hg, a3, a4, a5⟩ := hS.blk (by omega)); clear hS)
          refine QN.intro ?_
          refine wpAny_fork1 2 (by kernel_rfl) rfl ?_
          go_wp2_with first
            | (go_at_call 52; (with_reducible refine (l3Form_any a hf _).mono ?_); rintro e w1 ⟨rfl, hb1⟩; replace h1 := row_keep hb1 h1; (try replace hg := row_keep hb1 hg); (try replace h6 := row_keep hb1 h6); replace hbel := hbel.trans (hb1.mono hbel.size); clear hb1)
          refine QN.intro ?_
          refine wpAny_fork1 4 (by kernel_rfl) rfl ?_
          go_wp2_with fail
          refine QN.intro ?_
          refine wpAny_fork1 5 (by kernel_rfl) rfl ?_
          go_wp2_with fail
          refine QN.intro ?_
          refine wpAny_fork1 6 (by kernel_rfl) rfl ?_
          go_wp2_with first
            | (with_reducible refine wpList_storeWN rfl _ _ _ rfl _ rfl rfl h6 size24r hbel hz6 ?_; intro w1 g3 ho g4; replace h1 := (ho _ (by omega)).trans h1; replace hg := (ho _ (by omega)).trans hg; clear h6 hbel; have h6 := g3; have hbel := g4; clear g3 g4 ho)
          refine QN.intro ?_
          refine wpAny_end (by kernel_rfl) ?_
          exact ⟨g, cap, F, B6, rfl, a3, a4, a5, h1, hg, h6, hbel⟩
      · go_wp2_with first
          | (have _t := tok_h6; with_reducible refine wpList_allocN rfl 33 rfl 24 zero24r ?_; intro B6 w1 hB6 h6 hb1; have hl1 := row_lt h1; (try have hlg := row_lt hg); replace h1 := row_keep hb1 h1; (try replace hg := row_keep hb1 hg); have hz6 := Nat.le_trans hbel.size hB6; replace hbel := hbel.trans (hb1.mono hbel.size); clear hb1 _t tok_h6)
        refine QN.intro ?_
        refine wpAny_fork2 0 1 (by kernel_rfl) rfl rfl ?_ ?_
        · go_wp2_with first
            | (go_at_call 54; (with_reducible refine (l4AllNames_any _).mono ?_); rintro e w1 ⟨v, rfl, hS, hb1⟩; replace h1 := row_keep hb1 h1; (try have hl6 := row_lt h6); (try replace h6 := row_keep hb1 h6); replace hbel := hbel.trans (hb1.mono hbel.size); clear hb1; (obtain ⟨g, cap, F, rfl, a1, hg, a3, a4, a5⟩ := hS.blk (by omega)); clear hS)
          refine QN.intro ?_
          refine wpAny_fork1 1 (by kernel_rfl) rfl ?_
          go_wp2_with first
            | (with_reducible refine wpList_loadW rfl _ _ rfl _ rfl h1 agg24r size24r ?_)
          refine QN.intro ?_
          refine wpAny_fork1 2 (by kernel_rfl) rfl ?_
          go_wp2_with first
            | (go_at_call 52; (with_reducible refine (l3Form_any a hf _).mono ?_); rintro e w1 ⟨rfl, hb1⟩; replace h1 := row_keep hb1 h1; (try replace hg := row_keep hb1 hg); (try replace h6 := row_keep hb1 h6); replace hbel := hbel.trans (hb1.mono hbel.size); clear hb1)
          refine QN.intro ?_
          refine wpAny_fork1 4 (by kernel_rfl) rfl ?_
          go_wp2_with fail
          refine QN.intro ?_
          refine wpAny_fork1 5 (by kernel_rfl) rfl ?_
          go_wp2_with fail
          refine QN.intro ?_
          refine wpAny_fork1 6 (by kernel_rfl) rfl ?_
          go_wp2_with first
            | (with_reducible refine wpList_storeWN rfl _ _ _ rfl _ rfl rfl h6 size24r hbel hz6 ?_; intro w1 g3 ho g4; replace h1 := (ho _ (by omega)).trans h1; replace hg := (ho _ (by omega)).trans hg; clear h6 hbel; have h6 := g3; have hbel := g4; clear g3 g4 ho)
          refine QN.intro ?_
          refine wpAny_end (by kernel_rfl) ?_
          exact ⟨g, cap, F, B6, rfl, a3, a4, a5, h1, hg, h6, hbel⟩
        · go_wp2_with first
            | (with_reducible refine wpList_loadW rfl _ _ rfl _ rfl h1 agg24r size24r ?_)
          refine QN.intro ?_
          refine wpAny_fork1 0 (by kernel_rfl) rfl ?_
          go_wp2_with first
            | (go_at_call 54; (with_reducible refine (l4AllNames_any _).mono ?_); rintro e w1 ⟨v, rfl, hS, hb1⟩; replace h1 := row_keep hb1 h1; (try have hl6 := row_lt h6); (try replace h6 := row_keep hb1 h6); replace hbel := hbel.trans (hb1.mono hbel.size); clear hb1; (obtain ⟨g, cap, F, rfl, a1, hg, a3, a4, a5⟩ := hS.blk (by omega)); clear hS)
          refine QN.intro ?_
          refine wpAny_fork1 2 (by kernel_rfl) rfl ?_
          go_wp2_with first
            | (go_at_call 52; (with_reducible refine (l3Form_any a hf _).mono ?_); rintro e w1 ⟨rfl, hb1⟩; replace h1 := row_keep hb1 h1; (try replace hg := row_keep hb1 hg); (try replace h6 := row_keep hb1 h6); replace hbel := hbel.trans (hb1.mono hbel.size); clear hb1)
          refine QN.intro ?_
          refine wpAny_fork1 4 (by kernel_rfl) rfl ?_
          go_wp2_with fail
          refine QN.intro ?_
          refine wpAny_fork1 5 (by kernel_rfl) rfl ?_
          go_wp2_with fail
          refine QN.intro ?_
          refine wpAny_fork1 6 (by kernel_rfl) rfl ?_
          go_wp2_with first
            | (with_reducible refine wpList_storeWN rfl _ _ _ rfl _ rfl rfl h6 size24r hbel hz6 ?_; intro w1 g3 ho g4; replace h1 := (ho _ (by omega)).trans h1; replace hg := (ho _ (by omega)).trans hg; clear h6 hbel; have h6 := g3; have hbel := g4; clear g3 g4 ho)
          refine QN.intro ?_
          refine wpAny_end (by kernel_rfl) ?_
          exact ⟨g, cap, F, B6, rfl, a3, a4, a5, h1, hg, h6, hbel⟩
    · rintro a' w' ⟨g, cap, F, B6, rfl, a3, a4, a5, h1, hg, h6, hbel⟩
      go_wp2_with fail
      go_loopw [4, 7] (fun c i wr => ∃ n : Nat, n ≤ 120 ∧ c = .int .i64 ((kp a a n).length : Nat) ∧ i = .int .i64 n ∧ wr.heap[w.heap.size]? = some (.cells (arr 24 a) 33 (0, 0)) ∧ wr.heap[B6]? = some (.cells (arr 24 (formF a)) 33 (0, 0)) ∧ wr.heap[g]? = some (.cells (arr (cap * 6) F) 22 (0, 0)) ∧ Below w.heap.size w wr) (fun _ i _ => 120 - (intOf i).toNat)
      case atStart => exact ⟨0, by omega, rfl, rfl, h1, h6, hg, hbel⟩
      case round =>
        clear h1 h6 hg hbel
        obtain ⟨n, hn, rfl, rfl, h1, h6, hg, hbel⟩ := hrel
        have hkl := kp_len a a n
        by_cases hlt : n < 120
        · have hlt' : (n : Int) < 120 := by omega
          have HM : Hid _ := nm_arr a5 hlt
          have HR := ren_rack hf (nm_ren hlt)
          cases hm : mt a a n with
          | false =>
            have HE : Hid (eqv 24 (formF (renF a (nmS n))) (formF a) = false) := hm
            have HN : Hid _ := kp_no hm
            clear hm
            generalize hil : (kp a a n).length = c at *
            go_wp2_with fail
            refine wp_region_held 9 (Cls wr []) (by kernel_rfl) (by kernel_rfl) (Cls.zero (Below.refl _ _)) ?_; simp only [List.take_succ_cons, List.take_zero, List.drop_succ_cons, List.drop_zero]
            repeat (first
              | (with_reducible refine wpQuiet_loadW rfl _ _ rfl _ rfl (fun _ h => h.kp h1) agg24r size24r ?_)
              | (with_reducible refine wpQuiet_loadW rfl _ _ rfl _ rfl (fun _ h => h.kp h6) agg24r size24r ?_)
              | ((with_reducible refine wpQuiet_loadA rfl _ _ rfl _ _ rfl (fun _ h => h.kp hg) 6 agg6 size6 (by omega) ?_); rw [HM.out])
              | ((with_reducible refine wpQuiet_callE rfl 50 _ _ rfl (.agg (arr 24 (renF a (nmS n)))) (#[.agg (arr 24 a), .agg (arr 6 (nmS n))]) rfl ?_ ?_ ?_); (exact enters_of Try.func50 (by kernel_rfl) rfl); (intro w' h'; with_reducible exact (l4Rename_at hc n w').mono fun _ _ ⟨he, hb⟩ => ⟨he, h'.keep hb⟩))
              | ((with_reducible refine wpQuiet_callE rfl 52 _ _ rfl (.agg (arr 24 (formF (renF a (nmS n))))) (#[.agg (arr 24 (renF a (nmS n)))]) rfl ?_ ?_ ?_); (exact enters_of Try.func52 (by kernel_rfl) rfl); (intro w' h'; with_reducible exact (l3Form_any _ HR w').mono fun _ _ ⟨he, hb⟩ => ⟨he, h'.keep hb⟩))
              | ((with_reducible refine wpQuiet_eqlA eqRk (by decide) gdRk rfl _ _ _ rfl rfl rfl ?_); rw [HE.out])
              | ((with_reducible refine wpQuiet_step (fun K hK => ?_)); go_simp; (first | (refine ⟨_, fun _ _ => rfl, hK _ ?_⟩) | (refine ⟨_, fun _ _ => ⟨rfl, rfl⟩, hK _ ?_⟩) | (refine hK _ ?_)); clear hK K))
            refine wpQuiet_nil ?_; intro wt hCt; replace hCt := hCt.2; replace hbel := hbel.trans (hCt.mono hbel.size); replace h1 := row_keep hCt h1; replace h6 := row_keep hCt h6; replace hg := row_keep hCt hg; clear hCt
            go_wp2_with fail
            go_roundw
            case rel => exact ⟨n + 1, by omega, by rw [HN.out, hil], by go_num, h1, h6, hg, hbel⟩
            case measure => simp [intOf]; omega
          | true =>
            have HE : Hid (eqv 24 (formF (renF a (nmS n))) (formF a) = true) := hm
            have HN : Hid ((kp a a (n + 1)).length = (kp a a n).length + 1) := by show _ = _; rw [kp_yes hm, List.length_append]; rfl
            clear hm
            generalize hil : (kp a a n).length = c at *
            have hc120 : (c : Int) ≤ 120 := by omega
            go_wp2_with fail
            refine wp_region_held 9 (Cls wr []) (by kernel_rfl) (by kernel_rfl) (Cls.zero (Below.refl _ _)) ?_; simp only [List.take_succ_cons, List.take_zero, List.drop_succ_cons, List.drop_zero]
            repeat (first
              | (with_reducible refine wpQuiet_loadW rfl _ _ rfl _ rfl (fun _ h => h.kp h1) agg24r size24r ?_)
              | (with_reducible refine wpQuiet_loadW rfl _ _ rfl _ rfl (fun _ h => h.kp h6) agg24r size24r ?_)
              | ((with_reducible refine wpQuiet_loadA rfl _ _ rfl _ _ rfl (fun _ h => h.kp hg) 6 agg6 size6 (by omega) ?_); rw [HM.out])
              | ((with_reducible refine wpQuiet_callE rfl 50 _ _ rfl (.agg (arr 24 (renF a (nmS n)))) (#[.agg (arr 24 a), .agg (arr 6 (nmS n))]) rfl ?_ ?_ ?_); (exact enters_of Try.func50 (by kernel_rfl) rfl); (intro w' h'; with_reducible exact (l4Rename_at hc n w').mono fun _ _ ⟨he, hb⟩ => ⟨he, h'.keep hb⟩))
              | ((with_reducible refine wpQuiet_callE rfl 52 _ _ rfl (.agg (arr 24 (formF (renF a (nmS n))))) (#[.agg (arr 24 (renF a (nmS n)))]) rfl ?_ ?_ ?_); (exact enters_of Try.func52 (by kernel_rfl) rfl); (intro w' h'; with_reducible exact (l3Form_any _ HR w').mono fun _ _ ⟨he, hb⟩ => ⟨he, h'.keep hb⟩))
              | ((with_reducible refine wpQuiet_eqlA eqRk (by decide) gdRk rfl _ _ _ rfl rfl rfl ?_); rw [HE.out])
              | ((with_reducible refine wpQuiet_step (fun K hK => ?_)); go_simp; (first | (refine ⟨_, fun _ _ => rfl, hK _ ?_⟩) | (refine ⟨_, fun _ _ => ⟨rfl, rfl⟩, hK _ ?_⟩) | (refine hK _ ?_)); clear hK K))
            refine wpQuiet_nil ?_; intro wt hCt; replace hCt := hCt.2; replace hbel := hbel.trans (hCt.mono hbel.size); replace h1 := row_keep hCt h1; replace h6 := row_keep hCt h6; replace hg := row_keep hCt hg; clear hCt
            go_wp2_with fail
            go_roundw
            case rel => exact ⟨n + 1, by omega, by rw [HN.out]; go_num, by go_num, h1, h6, hg, hbel⟩
            case measure => simp [intOf]; omega
        · obtain rfl : n = 120 := by omega
          go_wp2_with fail
          go_ret2
          exact ⟨rfl, hbel⟩
set_option linter.unusedVariables false in
theorem FnExactCountRenamings_walk (x0 : Nat → Int) (hx0 : ∀ j, I64 (x0 j)) (w : World) : Calls Try.prog 10 #[.agg (arr 24 x0)] w fun e w' => e = .returned (.bool true) ∧ Below w.heap.size w w' := by
  have hr0 : (w.alloc (.cells (arr 24 x0) 32)).heap[w.heap.size]? = some (.cells (arr 24 x0) 32 (0, 0)) := by rw [heap_new (by simp)]
  have hbel : Below w.heap.size w (w.alloc (.cells (arr 24 x0) 32)) := ((Below.refl _ _).alloc (by simp) _)
  go_enter Try.func10, Try.ntmps10
  go_wp2_with first
    | (with_reducible refine wpList_loadW rfl _ _ rfl _ rfl hr0 agg24l size24l ?_)
    | (go_at_call 25; (with_reducible refine (toRack_any _ _).mono ?_); (rintro e w1 ⟨rfl, hb1⟩; replace hbel := hbel.trans (hb1.mono hbel.size); replace hr0 := row_keep hb1 hr0; clear hb1))
    | (go_at_call 32; (with_reducible refine (specCn_any _ _).mono ?_); (rintro e w1 ⟨rfl, hb1⟩; replace hbel := hbel.trans (hb1.mono hbel.size); replace hr0 := row_keep hb1 hr0; clear hb1))
    | (go_at_call 33; (with_reducible refine (implCn_any _ _).mono ?_); (rintro e w1 ⟨rfl, hb1⟩; replace hbel := hbel.trans (hb1.mono hbel.size); replace hr0 := row_keep hb1 hr0; clear hb1))
  go_ret
  exact ⟨rfl, hbel⟩
end Go.Proofs.Ytljajgaicdffkaa
