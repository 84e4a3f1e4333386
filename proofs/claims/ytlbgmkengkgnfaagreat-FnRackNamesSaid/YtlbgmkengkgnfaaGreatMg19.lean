/- A part (number 19) of the proof of the law FnRackNames: what each of its sections proves stands in the section's own first remark. No conditions beside those that each theorem states. -/
import Derived.Test.YtlbgmkengkgnfaaGreatMg18
import Derived.Test.YtlbgmkengkgnfaaGreatMg15
import Derived.Test.YtlbgmkengkgnfaaGreatMg8
section
/- CountRenamings: the program's and the reference's, and the law. -/
namespace Go.Proofs.YtlbgmkengkgnfaaGreat
set_option linter.unusedSimpArgs false
set_option linter.unusedVariables false
set_option maxRecDepth 20000
open Go.RowKit
noncomputable def crR (f : Nat → Int) : Int × Bool := if rackB f = true then ((((kp f f 120).length : Nat) : Int), true) else (0, false)
theorem implCn_any (f : Nat → Int) (w : World) : Calls Tryz.prog 22 #[.agg (arr 24 f)] w fun e w' => e = .returned (.tuple #[.int .i64 (crR f).1, .bool (crR f).2]) ∧ Below w.heap.size w w' := by
  have h1 : (w.alloc (.cells (arr 24 f) 27)).heap[w.heap.size]? = some (.cells (arr 24 f) 27 (0, 0))   := heap_new rfl
  have hbel : Below w.heap.size w (w.alloc (.cells (arr 24 f) 27)) := (Below.refl _ _).alloc (by simp) _
  cases hf : rackB f with
  | false =>
    rw [show crR f = (0, false) from if_neg (by simp [hf])]
    have HF : Hid _ := hf
    clear hf
    go_enter Tryz.func22, Tryz.ntmps22
    go_wp2_with first
      | (with_reducible refine wpList_loadW rfl _ _ rfl _ rfl h1 agg24r size24r ?_)
      | (go_at_call 8; (with_reducible refine (IsRack_at HF.out _).mono ?_); rintro e w1 ⟨rfl, hb1⟩; replace hbel := hbel.trans (hb1.mono hbel.size); replace h1 := row_keep hb1 h1; clear hb1)
    go_ret2
    exact ⟨rfl, hbel⟩
  | true =>
    rw [show crR f = ((((kp f f 120).length : Nat) : Int), true) from if_pos hf]
    have HF : Hid _ := hf
    clear hf
    go_enter Tryz.func22, Tryz.ntmps22
    go_wp2_with first
      | (with_reducible refine wpList_loadW rfl _ _ rfl _ rfl h1 agg24r size24r ?_)
      | (go_at_call 8; (with_reducible refine (IsRack_at HF.out _).mono ?_); rintro e w1 ⟨rfl, hb1⟩; replace hbel := hbel.trans (hb1.mono hbel.size); replace h1 := row_keep hb1 h1; clear hb1)
      | (go_at_call 38; (with_reducible refine (renamingsTo_any f f HF.out HF.out _).mono ?_); rintro e w1 ⟨v, rfl, hS, hb1⟩; replace hbel := hbel.trans (hb1.mono hbel.size); clear hb1)
      | (with_reducible refine wpList_lenS Tryz.underlying60 rfl _ rfl rfl hS ?_)
    go_ret2
    exact ⟨rfl, hbel⟩
set_option maxHeartbeats 1000000 in
theorem specCn_any (a : Nat → Int) (w : World) : Calls Tryz.prog 23 #[.agg (arr 24 a)] w fun e w' => e = .returned (.tuple #[.int .i64 (crR a).1, .bool (crR a).2]) ∧ Below w.heap.size w w' := by
  have h1 : (w.alloc (.cells (arr 24 a) 27)).heap[w.heap.size]? = some (.cells (arr 24 a) 27 (0, 0))   := heap_new rfl
  have hbel : Below w.heap.size w (w.alloc (.cells (arr 24 a) 27)) := (Below.refl _ _).alloc (by simp) _
  cases hf : rackB a with
  | false =>
    rw [show crR a = (0, false) from if_neg (by simp [hf])]
    have HF : Hid _ := hf
    clear hf
    go_enter Tryz.func23, Tryz.ntmps23
    go_wp2_with first
      | (with_reducible refine wpList_loadW rfl _ _ rfl _ rfl h1 agg24r size24r ?_)
      | (go_at_call 29; (with_reducible refine (l2Rack_at HF.out _).mono ?_); rintro e w1 ⟨rfl, hb1⟩; replace hbel := hbel.trans (hb1.mono hbel.size); replace h1 := row_keep hb1 h1; clear hb1)
    go_ret2
    exact ⟨rfl, hbel⟩
  | true =>
    rw [show crR a = ((((kp a a 120).length : Nat) : Int), true) from if_pos hf]
    have hc := cellB_of_rack hf
    go_enter Tryz.func23, Tryz.ntmps23
    go_wp2_with first
      | (with_reducible refine wpList_loadW rfl _ _ rfl _ rfl h1 agg24r size24r ?_)
      | (go_at_call 29; (with_reducible refine (l2Rack_at hf _).mono ?_); rintro e w1 ⟨rfl, hb1⟩; replace hbel := hbel.trans (hb1.mono hbel.size); replace h1 := row_keep hb1 h1; clear hb1)
    refine wp_region_ord 7 (Cls w _) (fun a' w' => ∃ g cap F B, a' = { tmps := #[.agg (arr 24 a), .pointer (some ⟨w.heap.size, 0, none⟩), .int .i64 0, .bool false, .int .i64 0, .slice (some ⟨g, 0, none⟩) 120 cap, .pointer (some ⟨B, 0, none⟩), undef, .agg (arr 24 a), .bool true, .bool false, .slice (some ⟨g, 0, none⟩) 120 cap, .agg (arr 24 a), .agg (arr 24 (formF a)), undef, undef, undef, undef, undef, undef, undef, undef, undef, undef, undef, undef, undef, undef, undef, undef, undef, undef], defers := [] } ∧ 120 ≤ cap ∧ cap ≤ maxLen ∧ (∀ j, j < 120 * 6 → F j = fls 6 (nmL.map fnL) j) ∧ w'.heap[w.heap.size]? = some (.cells (arr 24 a) 27 (0, 0)) ∧ w'.heap[g]? = some (.cells (arr (cap * 6) F) 28 (0, 0)) ∧ w'.heap[B]? = some (.cells (arr 24 (formF a)) 27 (0, 0)) ∧ Below w.heap.size w w') (by kernel_rfl) rfl (Cls.one h1 hbel) ?_ ?_
    · intro wt hCt
      replace h1 := hCt.1 _ (.head _); replace hbel := hCt.2; clear hCt
      have tok_h6 : True := trivial
      refine wpAny_fork3 0 1 3 (by kernel_rfl) rfl rfl rfl ?_ ?_ ?_
      · go_wp2_with first
          | (go_at_call 39; (with_reducible refine (l4AllNames_any _).mono ?_); rintro e w1 ⟨v, rfl, hS, hb1⟩; replace h1 := row_keep hb1 h1; (try have hl6 := row_lt h6); (try replace h6 := row_keep hb1 h6); replace hbel := hbel.trans (hb1.mono hbel.size); clear hb1; (obtain ⟨g, cap, F, rfl, a1, hg, a3, a4, a5⟩ := hS.blk (by omega)); clear hS)
        refine QN.intro ?_
        refine wpAny_fork2 1 3 (by kernel_rfl) rfl rfl ?_ ?_
        · go_wp2_with first
            | (with_reducible refine wpList_loadW rfl _ _ rfl _ rfl h1 agg24r size24r ?_)
          refine QN.intro ?_
          refine wpAny_fork2 2 3 (by kernel_rfl) rfl rfl ?_ ?_
          · go_wp2_with first
              | (go_at_call 40; (with_reducible refine (l3Form_any a hf _).mono ?_); rintro e w1 ⟨rfl, hb1⟩; replace h1 := row_keep hb1 h1; (try replace hg := row_keep hb1 hg); (try replace h6 := row_keep hb1 h6); replace hbel := hbel.trans (hb1.mono hbel.size); clear hb1)
            refine QN.intro ?_
            refine wpAny_fork1 3 (by kernel_rfl) rfl ?_
            go_wp2_with first
              | (have _t := tok_h6; with_reducible refine wpList_allocN rfl 27 rfl 24 zero24r ?_; intro B6 w1 hB6 h6 hb1; have hl1 := row_lt h1; (try have hlg := row_lt hg); replace h1 := row_keep hb1 h1; (try replace hg := row_keep hb1 hg); have hz6 := Nat.le_trans hbel.size hB6; replace hbel := hbel.trans (hb1.mono hbel.size); clear hb1 _t tok_h6)
            refine QN.intro ?_
            refine wpAny_fork1 4 (by kernel_rfl) rfl ?_
            go_wp2_with fail
            refine QN.intro ?_
            refine wpAny_fork1 5 (by kernel_rfl) rfl ?_
            go_wp2_with fail
            refine QN.intro ?_
            refine wpAny_fork1 6 (by kernel_rfl) rfl ?_
            go_wp2_with first
              | (with_reducible refine wpList_storeWN rfl _ _ _ rfl _ rfl rfl h6 size24r hbel hz6 ?_; intro w1 g3 ho g4; replace h1 := (ho _ (by omega)).trans h1; replace hg := (ho _ (by omega)).trans hg; clear h6 hbel; have h6 := g3; have hbel := g4; clear g3 g4 ho)
            refine QN.intro ?_
            refine wpAny_end (by kernel_rfl) ?_
            exact ⟨g, cap, F, B6, rfl, a3, a4, a5, h1, hg, h6, hbel⟩
          · go_wp2_with first
              | (have _t := tok_h6; with_reducible refine wpList_allocN rfl 27 rfl 24 zero24r ?_; intro B6 w1 hB6 h6 hb1; have hl1 := row_lt h1; (try have hlg := row_lt hg); replace h1 := row_keep hb1 h1; (try replace hg := row_keep hb1 hg); have hz6 := Nat.le_trans hbel.size hB6; replace hbel := hbel.trans (hb1.mono hbel.size); clear hb1 _t tok_h6)
            refine QN.intro ?_
            refine wpAny_fork1 2 (by kernel_rfl) rfl ?_
            go_wp2_with first
              | (go_at_call 40; (with_reducible refine (l3Form_any a hf _).mono ?_); rintro e w1 ⟨rfl, hb1⟩; replace h1 := row_keep hb1 h1; (try replace hg := row_keep hb1 hg); (try replace h6 := row_keep hb1 h6); replace hbel := hbel.trans (hb1.mono hbel.size); clear hb1)
            refine QN.intro ?_
            refine wpAny_fork1 4 (by kernel_rfl) rfl ?_
            go_wp2_with fail
            refine QN.intro ?_
            refine wpAny_fork1 5 (by kernel_rfl) rfl ?_
            go_wp2_with fail
            refine QN.intro ?_
            refine wpAny_fork1 6 (by kernel_rfl) rfl ?_
            go_wp2_with first
              | (with_reducible refine wpList_storeWN rfl _ _ _ rfl _ rfl rfl h6 size24r hbel hz6 ?_; intro w1 g3 ho g4; replace h1 := (ho _ (by omega)).trans h1; replace hg := (ho _ (by omega)).trans hg; clear h6 hbel; have h6 := g3; have hbel := g4; clear g3 g4 ho)
            refine QN.intro ?_
            refine wpAny_end (by kernel_rfl) ?_
            exact ⟨g, cap, F, B6, rfl, a3, a4, a5, h1, hg, h6, hbel⟩
        · go_wp2_with first
            | (have _t := tok_h6; with_reducible refine wpList_allocN rfl 27 rfl 24 zero24r ?_; intro B6 w1 hB6 h6 hb1; have hl1 := row_lt h1; (try have hlg := row_lt hg); replace h1 := row_keep hb1 h1; (try replace hg := row_keep hb1 hg); have hz6 := Nat.le_trans hbel.size hB6; replace hbel := hbel.trans (hb1.mono hbel.size); clear hb1 _t tok_h6)
          refine QN.intro ?_
          refine wpAny_fork1 1 (by kernel_rfl) rfl ?_
          go_wp2_with first
            | (with_reducible refine wpList_loadW rfl _ _ rfl _ rfl h1 agg24r size24r ?_)
          refine QN.intro ?_
          refine wpAny_fork1 2 (by kernel_rfl) rfl ?_
          go_wp2_with first
            | (go_at_call 40; (with_reducible refine (l3Form_any a hf _).mono ?_); rintro e w1 ⟨rfl, hb1⟩; replace h1 := row_keep hb1 h1; (try replace hg := row_keep hb1 hg); (try replace h6 := row_keep hb1 h6); replace hbel := hbel.trans (hb1.mono hbel.size); clear hb1)
          refine QN.intro ?_
          refine wpAny_fork1 4 (by kernel_rfl) rfl ?_
          go_wp2_with fail
          refine QN.intro ?_
          refine wpAny_fork1 5 (by kernel_rfl) rfl ?_
          go_wp2_with fail
          refine QN.intro ?_
          refine wpAny_fork1 6 (by kernel_rfl) rfl ?_
          go_wp2_with first
            | (with_reducible refine wpList_storeWN rfl _ _ _ rfl _ rfl rfl h6 size24r hbel hz6 ?_; intro w1 g3 ho g4; replace h1 := (ho _ (by omega)).trans h1; replace hg := (ho _ (by omega)).trans hg; clear h6 hbel; have h6 := g3; have hbel := g4; clear g3 g4 ho)
          refine QN.intro ?_
          refine wpAny_end (by kernel_rfl) ?_
          exact ⟨g, cap, F, B6, rfl, a3, a4, a5, h1, hg, h6, hbel⟩
      · go_wp2_with first
          | (with_reducible refine wpList_loadW rfl _ _ rfl _ rfl h1 agg24r size24r ?_)
        refine QN.intro ?_
        refine wpAny_fork2 0 3 (by kernel_rfl) rfl rfl ?_ ?_
        · go_wp2_with first
            | (go_at_call 39; (with_reducible refine (l4AllNames_any _).mono ?_); rintro e w1 ⟨v, rfl, hS, hb1⟩; replace h1 := row_keep hb1 h1; (try have hl6 := row_lt h6); (try replace h6 := row_keep hb1 h6); replace hbel := hbel.trans (hb1.mono hbel.size); clear hb1; (obtain ⟨g, cap, F, rfl, a1, hg, a3, a4, a5⟩ := hS.blk (by omega)); clear hS)
          refine QN.intro ?_
          refine wpAny_fork2 2 3 (by kernel_rfl) rfl rfl ?_ ?_
          · go_wp2_with first
              | (go_at_call 40; (with_reducible refine (l3Form_any a hf _).mono ?_); rintro e w1 ⟨rfl, hb1⟩; replace h1 := row_keep hb1 h1; (try replace hg := row_keep hb1 hg); (try replace h6 := row_keep hb1 h6); replace hbel := hbel.trans (hb1.mono hbel.size); clear hb1)
            refine QN.intro ?_
            refine wpAny_fork1 3 (by kernel_rfl) rfl ?_
            go_wp2_with first
              | (have _t := tok_h6; with_reducible refine wpList_allocN rfl 27 rfl 24 zero24r ?_; intro B6 w1 hB6 h6 hb1; have hl1 := row_lt h1; (try have hlg := row_lt hg); replace h1 := row_keep hb1 h1; (try replace hg := row_keep hb1 hg); have hz6 := Nat.le_trans hbel.size hB6; replace hbel := hbel.trans (hb1.mono hbel.size); clear hb1 _t tok_h6)
            refine QN.intro ?_
            refine wpAny_fork1 4 (by kernel_rfl) rfl ?_
            go_wp2_with fail
            refine QN.intro ?_
            refine wpAny_fork1 5 (by kernel_rfl) rfl ?_
            go_wp2_with fail
            refine QN.intro ?_
            refine wpAny_fork1 6 (by kernel_rfl) rfl ?_
            go_wp2_with first
              | (with_reducible refine wpList_storeWN rfl _ _ _ rfl _ rfl rfl h6 size24r hbel hz6 ?_; intro w1 g3 ho g4; replace h1 := (ho _ (by omega)).trans h1; replace hg := (ho _ (by omega)).trans hg; clear h6 hbel; have h6 := g3; have hbel := g4; clear g3 g4 ho)
            refine QN.intro ?_
            refine wpAny_end (by kernel_rfl) ?_
            exact ⟨g, cap, F, B6, rfl, a3, a4, a5, h1, hg, h6, hbel⟩
          · go_wp2_with first
              | (have _t := tok_h6; with_reducible refine wpList_allocN rfl 27 rfl 24 zero24r ?_; intro B6 w1 hB6 h6 hb1; have hl1 := row_lt h1; (try have hlg := row_lt hg); replace h1 := row_keep hb1 h1; (try replace hg := row_keep hb1 hg); have hz6 := Nat.le_trans hbel.size hB6; replace hbel := hbel.trans (hb1.mono hbel.size); clear hb1 _t tok_h6)
            refine QN.intro ?_
            refine wpAny_fork1 2 (by kernel_rfl) rfl ?_
            go_wp2_with first
              | (go_at_call 40; (with_reducible refine (l3Form_any a hf _).mono ?_); rintro e w1 ⟨rfl, hb1⟩; replace h1 := row_keep hb1 h1; (try replace hg := row_keep hb1 hg); (try replace h6 := row_keep hb1 h6); replace hbel := hbel.trans (hb1.mono hbel.size); clear hb1)
            refine QN.intro ?_
            refine wpAny_fork1 4 (by kernel_rfl) rfl ?_
            go_wp2_with fail
            refine QN.intro ?_
            refine wpAny_fork1 5 (by kernel_rfl) rfl ?_
            go_wp2_with fail
            refine QN.intro ?_
            refine wpAny_fork1 6 (by kernel_rfl) rfl ?_
            go_wp2_with first
              | (with_reducible refine wpList_storeWN rfl _ _ _ rfl _ rfl rfl h6 size24r hbel hz6 ?_; intro w1 g3 ho g4; replace h1 := (ho _ (by omega)).trans h1; replace hg := (ho _ (by omega)).trans hg; clear h6 hbel; have h6 := g3; have hbel := g4; clear g3 g4 ho)
            refine QN.intro ?_
            refine wpAny_end (by kernel_rfl) ?_
            exact ⟨g, cap, F, B6, rfl, a3, a4, a5, h1, hg, h6, hbel⟩
        · go_wp2_with first
            | (have _t := tok_h6; with_reducible refine wpList_allocN rfl 27 rfl 24 zero24r ?_; intro B6 w1 hB6 h6 hb1; have hl1 := row_lt h1; (try have hlg := row_lt hg); replace h1 := row_keep hb1 h1; (try replace hg := row_keep hb1 hg); have hz6 := Nat.le_trans hbel.size hB6; replace hbel := hbel.trans (hb1.mono hbel.size); clear hb1 _t tok_h6)
          refine QN.intro ?_
          refine wpAny_fork1 0 (by kernel_rfl) rfl ?_
          go_wp2_with first
            | (go_at_call 39; (with_reducible refine (l4AllNames_any _).mono ?_); rintro e w1 ⟨v, rfl, hS, hb1⟩; replace h1 := row_keep hb1 h1; (try have hl6 := row_lt h6); (try replace h6 := row_keep hb1 h6); replace hbel := hbel.trans (hb1.mono hbel.size); clear hb1; (obtain ⟨g, cap, F, rfl, a1, hg, a3, a4, a5⟩ := hS.blk (by omega)); clear hS)
          refine QN.intro ?_
          refine wpAny_fork1 2 (by kernel_rfl) rfl ?_
          go_wp2_with first
            | (go_at_call 40; (with_reducible refine (l3Form_any a hf _).mono ?_); rintro e w1 ⟨rfl, hb1⟩; replace h1 := row_keep hb1 h1; (try replace hg := row_keep hb1 hg); (try replace h6 := row_keep hb1 h6); replace hbel := hbel.trans (hb1.mono hbel.size); clear hb1)
          refine QN.intro ?_
          refine wpAny_fork1 4 (by kernel_rfl) rfl ?_
          go_wp2_with fail
          refine QN.intro ?_
          refine wpAny_fork1 5 (by kernel_rfl) rfl ?_
          go_wp2_with fail
          refine QN.intro ?_
          refine wpAny_fork1 6 (by kernel_rfl) rfl ?_
          go_wp2_with first
            | (with_reducible refine wpList_storeWN rfl _ _ _ rfl _ rfl rfl h6 size24r hbel hz6 ?_; intro w1 g3 ho g4; replace h1 := (ho _ (by omega)).trans h1; replace hg := (ho _ (by omega)).trans hg; clear h6 hbel; have h6 := g3; have hbel := g4; clear g3 g4 ho)
          refine QN.intro ?_
          refine wpAny_end (by kernel_rfl) ?_
          exact ⟨g, cap, F, B6, rfl, a3, a4, a5, h1, hg, h6, hbel⟩
      · go_wp2_with first
          | (have _t := tok_h6; with_reducible refine wpList_allocN rfl 27 rfl 24 zero24r ?_; intro B6 w1 hB6 h6 hb1; have hl1 := row_lt h1; (try have hlg := row_lt hg); replace h1 := row_keep hb1 h1; (try replace hg := row_keep hb1 hg); have hz6 := Nat.le_trans hbel.size hB6; replace hbel := hbel.trans (hb1.mono hbel.size); clear hb1 _t tok_h6)
        refine QN.intro ?_
        refine wpAny_fork2 0 1 (by kernel_rfl) rfl rfl ?_ ?_
        · go_wp2_with first
            | (go_at_call 39; (with_reducible refine (l4AllNames_any _).mono ?_); rintro e w1 ⟨v, rfl, hS, hb1⟩; replace h1 := row_keep hb1 h1; (try have hl6 := row_lt h6); (try replace h6 := row_keep hb1 h6); replace hbel := hbel.trans (hb1.mono hbel.size); clear hb1; (obtain ⟨g, cap, F, rfl, a1, hg, a3, a4, a5⟩ := hS.blk (by omega)); clear hS)
          refine QN.intro ?_
          refine wpAny_fork1 1 (by kernel_rfl) rfl ?_
          go_wp2_with first
            | (with_reducible refine wpList_loadW rfl _ _ rfl _ rfl h1 agg24r size24r ?_)
          refine QN.intro ?_
          refine wpAny_fork1 2 (by kernel_rfl) rfl ?_
          go_wp2_with first
            | (go_at_call 40; (with_reducible refine (l3Form_any a hf _).mono ?_); rintro e w1 ⟨rfl, hb1⟩; replace h1 := row_keep hb1 h1; (try replace hg := row_keep hb1 hg); (try replace h6 := row_keep hb1 h6); replace hbel := hbel.trans (hb1.mono hbel.size); clear hb1)
          refine QN.intro ?_
          refine wpAny_fork1 4 (by kernel_rfl) rfl ?_
          go_wp2_with fail
          refine QN.intro ?_
          refine wpAny_fork1 5 (by kernel_rfl) rfl ?_
          go_wp2_with fail
          refine QN.intro ?_
          refine wpAny_fork1 6 (by kernel_rfl) rfl ?_
          go_wp2_with first
            | (with_reducible refine wpList_storeWN rfl _ _ _ rfl _ rfl rfl h6 size24r hbel hz6 ?_; intro w1 g3 ho g4; replace h1 := (ho _ (by omega)).trans h1; replace hg := (ho _ (by omega)).trans hg; clear h6 hbel; have h6 := g3; have hbel := g4; clear g3 g4 ho)
          refine QN.intro ?_
          refine wpAny_end (by kernel_rfl) ?_
          exact ⟨g, cap, F, B6, rfl, a3, a4, a5, h1, hg, h6, hbel⟩
        · go_wp2_with first
            | (with_reducible refine wpList_loadW rfl _ _ rfl _ rfl h1 agg24r size24r ?_)
          refine QN.intro ?_
          refine wpAny_fork1 0 (by kernel_rfl) rfl ?_
          go_wp2_with first
            | (go_at_call 39; (with_reducible refine (l4AllNames_any _).mono ?_); rintro e w1 ⟨v, rfl, hS, hb1⟩; replace h1 := row_keep hb1 h1; (try have hl6 := row_lt h6); (try replace h6 := row_keep hb1 h6); replace hbel := hbel.trans (hb1.mono hbel.size); clear hb1; (obtain ⟨g, cap, F, rfl, a1, hg, a3, a4, a5⟩ := hS.blk (by omega)); clear hS)
          refine QN.intro ?_
          refine wpAny_fork1 2 (by kernel_rfl) rfl ?_
          go_wp2_with first
            | (go_at_call 40; (with_reducible refine (l3Form_any a hf _).mono ?_); rintro e w1 ⟨rfl, hb1⟩; replace h1 := row_keep hb1 h1; (try replace hg := row_keep hb1 hg); (try replace h6 := row_keep hb1 h6); replace hbel := hbel.trans (hb1.mono hbel.size); clear hb1)
          refine QN.intro ?_
          refine wpAny_fork1 4 (by kernel_rfl) rfl ?_
          go_wp2_with fail
          refine QN.intro ?_
          refine wpAny_fork1 5 (by kernel_rfl) rfl ?_
          go_wp2_with fail
          refine QN.intro ?_
          refine wpAny_fork1 6 (by kernel_rfl) rfl ?_
          go_wp2_with first
            | (with_reducible refine wpList_storeWN rfl _ _ _ rfl _ rfl rfl h6 size24r hbel hz6 ?_; intro w1 g3 ho g4; replace h1 := (ho _ (by omega)).trans h1; replace hg := (ho _ (by omega)).trans hg; clear h6 hbel; have h6 := g3; have hbel := g4; clear g3 g4 ho)
          refine QN.intro ?_
          refine wpAny_end (by kernel_rfl) ?_
          exact ⟨g, cap, F, B6, rfl, a3, a4, a5, h1, hg, h6, hbel⟩
    · rintro a' w' ⟨g, cap, F, B6, rfl, a3, a4, a5, h1, hg, h6, hbel⟩
      go_wp2_with fail
      go_loopw [4, 7] (fun c i wr => ∃ n : Nat, n ≤ 120 ∧ c = .int .i64 ((kp a a n).length : Nat) ∧ i = .int .i64 n ∧ wr.heap[w.heap.size]? = some (.cells (arr 24 a) 27 (0, 0)) ∧ wr.heap[B6]? = some (.cells (arr 24 (formF a)) 27 (0, 0)) ∧ wr.heap[g]? = some (.cells (arr (cap * 6) F) 28 (0, 0)) ∧ Below w.heap.size w wr) (fun _ i _ => 120 - (intOf i).toNat)
      case atStart => exact ⟨0, by omega, rfl, rfl, h1, h6, hg, hbel⟩
      case round =>
        clear h1 h6 hg hbel
        obtain ⟨n, hn, rfl, rfl, h1, h6, hg, hbel⟩ := hrel
        have hkl := kp_len a a n
        by_cases hlt : n < 120
        · have hlt' : (n : Int) < 120 := by omega
          have HM : Hid _ := nm_arr a5 hlt
          have HR := ren_rack hf (nm_ren hlt)
          cases hm : mt a a n with
          | false =>
            have HE : Hid (eqv 24 (formF (renF a (nmS n))) (formF a) = false) := hm
            have HN : Hid _ := kp_no hm
            clear hm
            generalize hil : (kp a a n).length = c at *
            go_wp2_with fail
            refine wp_region_held 9 (Cls wr []) (by kernel_rfl) (by kernel_rfl) (Cls.zero (Below.refl _ _)) ?_; simp only [List.take_succ_cons, List.take_zero, List.drop_succ_cons, List.drop_zero]
            repeat (first
              | (with_reducible refine wpQuiet_loadW rfl _ _ rfl _ rfl (fun _ h => h.kp h1) agg24r size24r ?_)
              | (with_reducible refine wpQuiet_loadW rfl _ _ rfl _ rfl (fun _ h => h.kp h6) agg24r size24r ?_)
              | ((with_reducible refine wpQuiet_loadA rfl _ _ rfl _ _ rfl (fun _ h => h.kp hg) 6 agg6 size6 (by omega) ?_); rw [HM.out])
              | ((with_reducible refine wpQuiet_callE rfl 31 _ _ rfl (.agg (arr 24 (renF a (nmS n)))) (#[.agg (arr 24 a), .agg (arr 6 (nmS n))]) rfl ?_ ?_ ?_); (exact enters_of Tryz.func31 (by kernel_rfl) rfl); (intro w' h'; with_reducible exact (l4Rename_at hc n w').mono fun _ _ ⟨he, hb⟩ => ⟨he, h'.keep hb⟩))
              | ((with_reducible refine wpQuiet_callE rfl 40 _ _ rfl (.agg (arr 24 (formF (renF a (nmS n))))) (#[.agg (arr 24 (renF a (nmS n)))]) rfl ?_ ?_ ?_); (exact enters_of Tryz.func40 (by kernel_rfl) rfl); (intro w' h'; with_reducible exact (l3Form_any _ HR w').mono fun _ _ ⟨he, hb⟩ => ⟨he, h'.keep hb⟩))
              | ((with_reducible refine wpQuiet_eqlA eqRk (by decide) gdRk rfl _ _ _ rfl rfl rfl ?_); rw [HE.out])
              | ((with_reducible refine wpQuiet_step (fun K hK => ?_)); go_simp; (first | (refine ⟨_, fun _ _ => rfl, hK _ ?_⟩) | (refine ⟨_, fun _ _ => ⟨rfl, rfl⟩, hK _ ?_⟩) | (refine hK _ ?_)); clear hK K))
            refine wpQuiet_nil ?_; intro wt hCt; replace hCt := hCt.2; replace hbel := hbel.trans (hCt.mono hbel.size); replace h1 := row_keep hCt h1; replace h6 := row_keep hCt h6; replace hg := row_keep hCt hg; clear hCt
            go_wp2_with fail
            go_roundw
            case rel => exact ⟨n + 1, by omega, by rw [HN.out, hil], by go_num, h1, h6, hg, hbel⟩
            case measure => simp [intOf]; omega
          | true =>
            have HE : Hid (eqv 24 (formF (renF a (nmS n))) (formF a) = true) := hm
            have HN : Hid ((kp a a (n + 1)).length = (kp a a n).length + 1) := by show _ = _; rw [kp_yes hm, List.length_append]; rfl
            clear hm
            generalize hil : (kp a a n).length = c at *
            have hc120 : (c : Int) ≤ 120 := by omega
            go_wp2_with fail
            refine wp_region_held 9 (Cls wr []) (by kernel_rfl) (by kernel_rfl) (Cls.zero (Below.refl _ _)) ?_; simp only [List.take_succ_cons, List.take_zero, List.drop_succ_cons, List.drop_zero]
            repeat (first
              | (with_reducible refine wpQuiet_loadW rfl _ _ rfl _ rfl (fun _ h => h.kp h1) agg24r size24r ?_)
              | (with_reducible refine wpQuiet_loadW rfl _ _ rfl _ rfl (fun _ h => h.kp h6) agg24r size24r ?_)
              | ((with_reducible refine wpQuiet_loadA rfl _ _ rfl _ _ rfl (fun _ h => h.kp hg) 6 agg6 size6 (by omega) ?_); rw [HM.out])
              | ((with_reducible refine wpQuiet_callE rfl 31 _ _ rfl (.agg (arr 24 (renF a (nmS n)))) (#[.agg (arr 24 a), .agg (arr 6 (nmS n))]) rfl ?_ ?_ ?_); (exact enters_of Tryz.func31 (by kernel_rfl) rfl); (intro w' h'; with_reducible exact (l4Rename_at hc n w').mono fun _ _ ⟨he, hb⟩ => ⟨he, h'.keep hb⟩))
              | ((with_reducible refine wpQuiet_callE rfl 40 _ _ rfl (.agg (arr 24 (formF (renF a (nmS n))))) (#[.agg (arr 24 (renF a (nmS n)))]) rfl ?_ ?_ ?_); (exact enters_of Tryz.func40 (by kernel_rfl) rfl); (intro w' h'; with_reducible exact (l3Form_any _ HR w').mono fun _ _ ⟨he, hb⟩ => ⟨he, h'.keep hb⟩))
              | ((with_reducible refine wpQuiet_eqlA eqRk (by decide) gdRk rfl _ _ _ rfl rfl rfl ?_); rw [HE.out])
              | ((with_reducible refine wpQuiet_step (fun K hK => ?_)); go_simp; (first | (refine ⟨_, fun _ _ => rfl, hK _ ?_⟩) | (refine ⟨_, fun _ _ => ⟨rfl, rfl⟩, hK _ ?_⟩) | (refine hK _ ?_)); clear hK K))
            refine wpQuiet_nil ?_; intro wt hCt; replace hCt := hCt.2; replace hbel := hbel.trans (hCt.mono hbel.size); replace h1 := row_keep hCt h1; replace h6 := row_keep hCt h6; replace hg := row_keep hCt hg; clear hCt
            go_wp2_with fail
            go_roundw
            case rel => exact ⟨n + 1, by omega, by rw [HN.out]; go_num, by go_num, h1, h6, hg, hbel⟩
            case measure => simp [intOf]; omega
        · obtain rfl : n = 120 := by omega
          go_wp2_with fail
          go_ret2
          exact ⟨rfl, hbel⟩
end Go.Proofs.YtlbgmkengkgnfaaGreat
end

section
/- Renamings of a rack to itself divide all: plain law; and what renamings do to forms. -/
namespace Go.Proofs.YtlbgmkengkgnfaaGreat
set_option linter.unusedSimpArgs false
set_option linter.unusedVariables false
set_option maxRecDepth 20000
theorem sub_len : ∀ (l m : List Nat), l.Nodup → (∀ x, x ∈ l → x ∈ m) → l.length ≤ m.length
  | [], _, _, _ => Nat.zero_le _
  | a :: t, m, hn, h => by
    rw [List.nodup_cons] at hn
    have ha := h a (by simp)
    have hp : 0 < m.length := List.length_pos_of_mem ha
    have ih := sub_len t (m.erase a) hn.2 fun x hx => (List.mem_erase_of_ne (fun e => hn.1 (by rw [← e]; exact hx))).2 (h x (by simp [hx]))
    rw [List.length_erase_of_mem ha] at ih
    simp only [List.length_cons]
    omega
theorem map_len {p q : Nat → Bool} {N : Nat} (F : Nat → Nat) (hF : ∀ n, n < N → p n = true → F n < N ∧ q (F n) = true) (inj : ∀ n m, n < N → m < N → F n = F m → n = m) : ((List.range N).filter p).length ≤ ((List.range N).filter q).length := by
  have h1 : (((List.range N).filter p).map F).length = ((List.range N).filter p).length := List.length_map ..
  rw [← h1]
  refine sub_len _ _ ?_ fun x hx => ?_
  · unfold List.Nodup
    rw [List.pairwise_map]
    refine List.Pairwise.imp_of_mem ?_ ((List.nodup_range (n := N)).filter p)
    intro a b ha hb hne e
    have ha' := List.mem_range.1 (List.mem_filter.1 ha).1
    have hb' := List.mem_range.1 (List.mem_filter.1 hb).1
    exact hne (inj a b ha' hb' e)
  · obtain ⟨n, hn, rfl⟩ := List.mem_map.1 hx
    obtain ⟨h2, h3⟩ := List.mem_filter.1 hn
    obtain ⟨h4, h5⟩ := hF n (List.mem_range.1 h2) h3
    exact List.mem_filter.2 ⟨List.mem_range.2 h4, h5⟩
/-- Cut into classes of one size. -/
theorem class_dvd {γ : Type} [DecidableEq γ] (φ : Nat → γ) (k : Nat) : ∀ (N : Nat) (l : List Nat), l.length ≤ N → (∀ n, n ∈ l → (l.filter fun m => decide (φ m = φ n)).length = k) → k ∣ l.length
  | _, [], _, _ => ⟨0, by simp⟩
  | 0, a :: t, h, _ => by simp at h
  | N + 1, a :: t, h, hk => by
    have h1 := hk a (by simp)
    have h2 : ((a :: t).filter fun m => decide (φ m = φ a)).length + ((a :: t).filter fun m => !(decide (φ m = φ a))).length = (a :: t).length := by
      have := List.length_eq_countP_add_countP (fun m => decide (φ m = φ a)) (l := a :: t)
      rw [List.countP_eq_length_filter, List.countP_eq_length_filter] at this
      rw [this]
      congr 2
      refine List.filter_congr fun m _ => ?_
      by_cases e : φ m = φ a <;> simp [e]
    have hpos : 0 < ((a :: t).filter fun m => decide (φ m = φ a)).length := List.length_pos_of_mem (List.mem_filter.2 ⟨by simp, by simp⟩ : a ∈ _)
    have ih := class_dvd φ k N ((a :: t).filter fun m => !(decide (φ m = φ a))) (by omega) fun n hn => by
      obtain ⟨hm, hne⟩ := List.mem_filter.1 hn
      rw [← hk n hm, List.filter_filter]
      congr 1
      refine List.filter_congr fun m _ => ?_
      by_cases e : φ m = φ n
      · have hne2 : ¬ φ n = φ a := by simpa using hne
        simp [e, hne2]
      · simp [e]
    rw [← h2, h1]
    exact Nat.dvd_add (Nat.dvd_refl _) ih
theorem nmL_nodup : nmL.Nodup := by decide +kernel
theorem nmL_len6 : nmL.all (fun l => l.length == 6) = true := by decide +kernel
theorem nm_inj {n m : Nat} (hn : n < 120) (hm : m < 120) (h : ∀ i, i < 6 → nmS n i = nmS m i) : n = m := by
  have hln : n < nmL.length := by rw [nmL_len]; exact hn
  have hlm : m < nmL.length := by rw [nmL_len]; exact hm
  have hall := List.all_eq_true.1 nmL_len6
  have an := hall nmL[n] (List.getElem_mem hln)
  have am := hall nmL[m] (List.getElem_mem hlm)
  simp only [beq_iff_eq] at an am
  have e : nmL[n] = nmL[m] := by
    apply List.ext_getElem (by omega)
    intro i h1 h2
    have := h i (by omega)
    unfold nmS fnL at this
    rw [List.getD_eq_getElem?_getD (l := nmL), List.getD_eq_getElem?_getD (l := nmL), List.getElem?_eq_getElem hln, List.getElem?_eq_getElem hlm] at this
    simp only [Option.getD_some] at this
    rw [List.getD_eq_getElem?_getD, List.getD_eq_getElem?_getD, List.getElem?_eq_getElem h1, List.getElem?_eq_getElem h2] at this
    have h3 : ((nmL[n][i] : Nat) : Int) = ((nmL[m][i] : Nat) : Int) := by simpa using this
    omega
  rcases Nat.lt_trichotomy n m with h4 | h4 | h4
  · exact absurd e (List.pairwise_iff_getElem.1 nmL_nodup n m hln hlm h4)
  · exact h4
  · exact absurd e.symm (List.pairwise_iff_getElem.1 nmL_nodup m n hlm hln h4)
open Classical in
noncomputable def ixR (s : Nat → Int) : Nat := if h : isRen s then (nmS_all.2 s h).choose else 0
open Classical in
theorem ixR_spec {s : Nat → Int} (h : isRen s) : ixR s < 120 ∧ ∀ i, i < 6 → nmS (ixR s) i = s i := by
  unfold ixR
  rw [dif_pos h]
  exact (nmS_all.2 s h).choose_spec
theorem form_ext {f s t : Nat → Int} (hf : cellB f) (hs : isRen s) (ht : isRen t) (h : ∀ i, i < 6 → s i = t i) : arr 24 (formF (renF f s)) = arr 24 (formF (renF f t)) :=
  form_perm (ren_cell hf hs) (ren_cell hf ht) (by rw [cdl_congr (renF_congr hf (fun _ _ => rfl) h)])
theorem form_then {f s s' t : Nat → Int} (hf : cellB f) (hs : isRen s) (hs' : isRen s') (ht : isRen t) (h : arr 24 (formF (renF f s)) = arr 24 (formF (renF f s'))) : arr 24 (formF (renF f (cmp2 s t))) = arr 24 (formF (renF f (cmp2 s' t))) := by
  have hp := perm_form (ren_cell hf hs) (ren_cell hf hs') h
  refine form_perm (ren_cell hf (cmp2_ren hs ht)) (ren_cell hf (cmp2_ren hs' ht)) ?_
  rw [← renF_cmp, ← renF_cmp, cdl_ren (ren_cell hf hs), cdl_ren (ren_cell hf hs')]
  exact hp.map _
theorem cmp_inj {s s' t : Nat → Int} (hs : isRen s) (hs' : isRen s') (ht : isRen t) (h : ∀ i, i < 6 → cmp2 s t i = cmp2 s' t i) : ∀ i, i < 6 → s i = s' i := fun i hi => by
  have a := hs.2.1 i hi
  have b := hs'.2.1 i hi
  have := ht.2.2 (s i).toNat (s' i).toNat (by omega) (by omega) (h i hi)
  omega
noncomputable def phi (f : Nat → Int) (n : Nat) : List Int := cdl (formF (renF f (nmS n)))
theorem phi_arr {f : Nat → Int} (hf : cellB f) {n m : Nat} (hn : n < 120) (hm : m < 120) : phi f n = phi f m ↔ arr 24 (formF (renF f (nmS n))) = arr 24 (formF (renF f (nmS m))) :=
  ⟨fun e => arr_of_cdl (form_is (ren_cell hf (nm_ren hn))).1.2 (form_is (ren_cell hf (nm_ren hm))).1.2 e, fun e => cdl_congr (arr_inj e)⟩
theorem mt_self {f : Nat → Int} {n : Nat} : mt f f n = true ↔ arr 24 (formF (renF f (nmS n))) = arr 24 (formF f) := by unfold mt; rw [eqv_arr]
theorem form_idR {f : Nat → Int} (hf : cellB f) : arr 24 (formF (renF f idR)) = arr 24 (formF f) := form_perm (ren_cell hf idR_ren) hf (by rw [cdl_congr (renF_id hf)])
theorem class_size {f : Nat → Int} (hf : cellB f) {n : Nat} (hn : n < 120) : ((List.range 120).filter fun m => decide (phi f m = phi f n)).length = (kp f f 120).length := by
  have hrn := nm_ren hn
  have hri := invR_ren hrn
  refine Nat.le_antisymm ?_ ?_
  · unfold kp
    refine map_len (fun m => ixR (cmp2 (nmS m) (invR (nmS n)))) (fun m hm hp => ?_) (fun m m' hm hm' e => ?_)
    · have hrm := nm_ren hm
      obtain ⟨h1, h2⟩ := ixR_spec (cmp2_ren hrm hri)
      refine ⟨h1, ?_⟩
      have hp2 := (phi_arr hf hm hn).1 (by simpa using hp)
      rw [mt_self, form_ext hf (nm_ren h1) (cmp2_ren hrm hri) h2, form_then hf hrm hrn hri hp2, form_ext hf (cmp2_ren hrn hri) idR_ren (fun i hi => cmp_inv hrn i hi), form_idR hf]
    · have hrm := nm_ren hm
      have hrm' := nm_ren hm'
      obtain ⟨h1, h2⟩ := ixR_spec (cmp2_ren hrm hri)
      obtain ⟨h1', h2'⟩ := ixR_spec (cmp2_ren hrm' hri)
      refine nm_inj hm hm' (cmp_inj hrm hrm' hri fun i hi => ?_)
      rw [← h2 i hi, ← h2' i hi]
      have e2 : ixR _ = ixR _ := e
      rw [e2]
  · unfold kp
    refine map_len (fun m => ixR (cmp2 (nmS m) (nmS n))) (fun m hm hp => ?_) (fun m m' hm hm' e => ?_)
    · have hrm := nm_ren hm
      obtain ⟨h1, h2⟩ := ixR_spec (cmp2_ren hrm hrn)
      refine ⟨h1, ?_⟩
      have hp2 := mt_self.1 hp
      rw [decide_eq_true_iff, phi_arr hf h1 hn, form_ext hf (nm_ren h1) (cmp2_ren hrm hrn) h2, form_then hf hrm idR_ren hrn (hp2.trans (form_idR hf).symm)]
      exact form_ext hf (cmp2_ren idR_ren hrn) hrn fun i hi => by unfold cmp2 idR; simp
    · have hrm := nm_ren hm
      have hrm' := nm_ren hm'
      obtain ⟨h1, h2⟩ := ixR_spec (cmp2_ren hrm hrn)
      obtain ⟨h1', h2'⟩ := ixR_spec (cmp2_ren hrm' hrn)
      refine nm_inj hm hm' (cmp_inj hrm hrm' hrn fun i hi => ?_)
      rw [← h2 i hi, ← h2' i hi]
      have e2 : ixR _ = ixR _ := e
      rw [e2]
theorem many_dvd {f : Nat → Int} (hf : cellB f) : (kp f f 120).length ∣ 120 := by
  have := class_dvd (phi f) (kp f f 120).length 120 (List.range 120) (by simp) fun n hn => class_size hf (List.mem_range.1 hn)
  simpa using this
theorem many_pos {f : Nat → Int} (hf : cellB f) : 0 < (kp f f 120).length := by
  obtain ⟨d, hd⟩ := many_dvd hf
  rcases Nat.eq_zero_or_pos (kp f f 120).length with h | h
  · rw [h] at hd; omega
  · exact h
end Go.Proofs.YtlbgmkengkgnfaaGreat
end

section
/- What the law on names says of the answers: plain laws. -/
namespace Go.Proofs.YtlbgmkengkgnfaaGreat
set_option linter.unusedSimpArgs false
set_option linter.unusedVariables false
set_option maxRecDepth 20000
open Go.RowKit
def rnB (s : Nat → Int) : Bool := (s 0 == 0) && pB s 6
theorem rnB_iff {s : Nat → Int} : rnB s = true ↔ isRen s := ren_iff
theorem rn2 (f s : Nat → Int) : (rnR f s).2 = (rackB f && rnB s) := by
  unfold rnR rnB
  by_cases h : rackB f = true ∧ ((s 0 == 0) && pB s 6) = true
  · rw [if_pos h, h.1, h.2]; rfl
  · rw [if_neg h]
    cases h1 : rackB f with
    | false => rfl
    | true =>
      have : ((s 0 == 0) && pB s 6) = false := Bool.eq_false_iff.2 fun e => h ⟨h1, e⟩
      rw [this]; rfl
theorem bn2 (s : Nat → Int) : (bnR s).2 = rnB s := by
  unfold bnR rnB
  cases h : ((s 0 == 0) && pB s 6) with
  | true => rw [if_pos rfl]
  | false => rw [if_neg (by simp)]
theorem nb2 (s t : Nat → Int) : (nbR s t).2 = (rnB s && rnB t) := by
  unfold nbR rnB
  by_cases h : ((s 0 == 0) && pB s 6) = true ∧ ((t 0 == 0) && pB t 6) = true
  · rw [if_pos h, h.1, h.2]; rfl
  · rw [if_neg h]
    cases h1 : ((s 0 == 0) && pB s 6) with
    | false => rfl
    | true =>
      have : ((t 0 == 0) && pB t 6) = false := Bool.eq_false_iff.2 fun e => h ⟨h1, e⟩
      rw [this]; rfl
theorem ff2 (f : Nat → Int) : (ffR f).2 = rackB f := by
  unfold ffR
  cases h : rackB f with
  | true => rw [if_pos rfl]
  | false => rw [if_neg (by simp)]
theorem fo2 (f : Nat → Int) : (foR f).2 = rackB f := by
  unfold foR
  cases h : rackB f with
  | true => rw [if_pos rfl]
  | false => rw [if_neg (by simp)]
theorem cr2 (f : Nat → Int) : (crR f).2 = rackB f := by
  unfold crR
  cases h : rackB f with
  | true => rw [if_pos rfl]
  | false => rw [if_neg (by simp)]
theorem aa2 (a b : Nat → Int) : (aaR a b).2 = (rackB a && rackB b) := by
  unfold aaR
  by_cases h : rackB a = true ∧ rackB b = true
  · rw [if_pos h, h.1, h.2]; rfl
  · rw [if_neg h]
    cases h1 : rackB a with
    | false => rfl
    | true =>
      have : rackB b = false := Bool.eq_false_iff.2 fun e => h ⟨h1, e⟩
      rw [this]; rfl
theorem rt2 (a b : Nat → Int) : (rtR a b).2 = ((aaR a b).2 && (aaR a b).1) := by
  unfold rtR aaR
  by_cases h : rackB a = true ∧ rackB b = true
  · rw [if_pos h, if_pos h]; rfl
  · rw [if_neg h, if_neg h]; rfl
theorem racks2 {a b : Nat → Int} (h : (aaR a b).2 = true) : rackB a = true ∧ rackB b = true := by
  rw [aa2, Bool.and_eq_true] at h
  exact h
/-- Alike racks have one first form. -/
theorem four_eq {a b : Nat → Int} (h : (aaR a b).2 = true) : eqv 24 (ffR a).1 (ffR b).1 = (aaR a b).1 := by
  obtain ⟨ha, hb⟩ := racks2 h
  unfold ffR aaR
  rw [if_pos ha, if_pos hb, if_pos ⟨ha, hb⟩]
  exact alk_fd (cellB_of_rack ha) (cellB_of_rack hb)
theorem ren_made {f s : Nat → Int} (hf : rackB f = true) (hs : rnB s = true) : (rnR f s).1 = renF f s ∧ rackB (renF f s) = true := by
  refine ⟨?_, ren_rack hf (rnB_iff.1 hs)⟩
  unfold rnR
  rw [if_pos ⟨hf, hs⟩]; rfl
/-- The renaming to a rack leads to its form. -/
theorem five_all {a b : Nat → Int} (h : (rtR a b).2 = true) : rackB a = true ∧ rackB b = true ∧ rnB (rtR a b).1 = true ∧ eqv 24 (formF (renF a (rtR a b).1)) (formF b) = true := by
  rw [rt2, Bool.and_eq_true] at h
  obtain ⟨ha, hb⟩ := racks2 h.1
  have e : rtR a b = rgR a b := by unfold rtR; rw [if_pos ⟨ha, hb⟩]
  have h2 : (rgR a b).2 = true := by
    have := h.2
    unfold aaR at this
    rw [if_pos ⟨ha, hb⟩] at this
    exact this
  rw [e]
  refine ⟨ha, hb, ?_⟩
  unfold rgR at h2 ⊢
  cases hfd : fd1 a b with
  | none => rw [hfd] at h2; simp at h2
  | some n =>
    have hf := hfd
    unfold fd1 at hf
    have h3 := List.find?_some hf
    have h4 := List.mem_range.1 (List.mem_of_find?_eq_some hf)
    exact ⟨rnB_iff.2 (nm_ren h4), h3⟩
theorem isRen_congr {s t : Nat → Int} (h : ∀ i, i < 6 → s i = t i) (hs : isRen s) : isRen t :=
  ⟨by rw [← h 0 (by omega)]; exact hs.1, fun i hi => by rw [← h i hi]; exact hs.2.1 i hi, fun i j hi hj e => hs.2.2 i j hi hj (by rw [h i hi, h j hj]; exact e)⟩
/-- One renaming behind another one. -/
theorem behind_all {f x y : Nat → Int} (hf : rackB f = true) (hx : rnB x = true) (hy : rnB y = true) : rnB (nbR x y).1 = true ∧ eqv 24 (renF (renF f x) y) (renF f (nbR x y).1) = true := by
  have rx := rnB_iff.1 hx
  have ry := rnB_iff.1 hy
  have e : ∀ i, i < 6 → cmp2 x y i = (nbR x y).1 i := fun i hi => by
    unfold nbR
    rw [if_pos ⟨hx, hy⟩]
    show _ = nN x y 6 i
    unfold nN cmp2
    rw [if_pos hi]
  refine ⟨rnB_iff.2 (isRen_congr e (cmp2_ren rx ry)), ?_⟩
  rw [eqv_iff]
  intro j hj
  rw [renF_cmp]
  exact renF_congr (cellB_of_rack hf) (fun _ _ => rfl) e j hj
theorem bN_at {s : Nat → Int} (hs : isRen s) : ∀ n, n ≤ 6 → ∀ c, c < n → bN s n (s c).toNat = c
  | 0, _, c, h => by omega
  | n + 1, hn, c, h => by
    show upd (bN s n) (s n).toNat n (s c).toNat = c
    by_cases e : c = n
    · subst e; rw [upd_same]
    · have h1 := hs.2.1 c (by omega)
      have h2 := hs.2.1 n (by omega)
      rw [upd_other _ _ _ _ (fun e2 => e (hs.2.2 c n (by omega) (by omega) (by omega)))]
      exact bN_at hs n (by omega) c (by omega)
theorem bN_inv {s : Nat → Int} (hs : isRen s) : ∀ j, j < 6 → invR s j = bN s 6 j := fun j hj => by
  obtain ⟨i, hi, h1, h2⟩ := invR_at hs hj
  rw [h2]
  have := bN_at hs 6 (Nat.le_refl _) i hi
  rw [h1] at this
  exact this.symm
/-- A renaming is taken back. -/
theorem back_all {f s : Nat → Int} (hf : rackB f = true) (hs : rnB s = true) : rnB (bnR s).1 = true ∧ eqv 24 (renF (renF f s) (bnR s).1) f = true ∧ eqv 24 (ffR (renF f s)).1 (ffR f).1 = true := by
  have rs := rnB_iff.1 hs
  have hc := cellB_of_rack hf
  have e : (bnR s).1 = bN s 6 := by unfold bnR; rw [if_pos (show ((s 0 == 0) && pB s 6) = true from hs)]
  rw [e]
  refine ⟨rnB_iff.2 (isRen_congr (bN_inv rs) (invR_ren rs)), ?_, ?_⟩
  · rw [eqv_iff]
    intro j hj
    rw [renF_cmp]
    have h1 := renF_congr (f := f) (g := f) (s := cmp2 s (bN s 6)) (t := idR) hc (fun _ _ => rfl) (fun i hi => by
      show bN s 6 (s i).toNat = i
      exact bN_at rs 6 (Nat.le_refl _) i hi) j hj
    rw [h1]
    exact renF_id hc j hj
  · have hr := ren_rack hf rs
    unfold ffR
    rw [if_pos hr, if_pos hf, eqv_arr]
    unfold ffF
    rw [alk_iff (cellB_of_rack hr) hc nmS_all]
    exact alk_symm hc (cellB_of_rack hr) ⟨s, rs, rfl⟩
theorem eqv_self (n : Nat) (f : Nat → Int) : eqv n f f = true := eqv_iff.2 fun _ _ => rfl
theorem many_is {f : Nat → Int} (h : rackB f = true) : ∃ k : Nat, (crR f).1 = k ∧ 0 < k ∧ k ≤ 120 ∧ 120 % k = 0 := by
  have hd := many_dvd (cellB_of_rack h)
  refine ⟨(kp f f 120).length, by unfold crR; rw [if_pos h], many_pos (cellB_of_rack h), Nat.le_of_dvd (by omega) hd, Nat.mod_eq_zero_of_dvd hd⟩
theorem implBack_b (p : Nat → Int) (w : World) : Calls Tryz.prog 10 #[.agg (arr 6 p)] w fun e w' => e = .returned (.tuple #[.agg (arr 6 (bnR p).1), .bool (rnB p)]) ∧ Below w.heap.size w w' := by
  have := implBack_any p w; rwa [bn2] at this
theorem specBack_b (p : Nat → Int) (w : World) : Calls Tryz.prog 11 #[.agg (arr 6 p)] w fun e w' => e = .returned (.tuple #[.agg (arr 6 (bnR p).1), .bool (rnB p)]) ∧ Below w.heap.size w w' := by
  have := specBack_any p w; rwa [bn2] at this
theorem implFf_b (f : Nat → Int) (w : World) : Calls Tryz.prog 15 #[.agg (arr 24 f)] w fun e w' => e = .returned (.tuple #[.agg (arr 24 (ffR f).1), .bool (rackB f)]) ∧ Below w.heap.size w w' := by
  have := implFf_any f w; rwa [ff2] at this
theorem specFf_b (f : Nat → Int) (w : World) : Calls Tryz.prog 16 #[.agg (arr 24 f)] w fun e w' => e = .returned (.tuple #[.agg (arr 24 (ffR f).1), .bool (rackB f)]) ∧ Below w.heap.size w w' := by
  have := specFf_any f w; rwa [ff2] at this
theorem implFo_b (f : Nat → Int) (w : World) : Calls Tryz.prog 24 #[.agg (arr 24 f)] w fun e w' => e = .returned (.tuple #[.agg (arr 24 (foR f).1), .bool (rackB f)]) ∧ Below w.heap.size w w' := by
  have := implFo_any f w; rwa [fo2] at this
theorem implCn_b (f : Nat → Int) (w : World) : Calls Tryz.prog 22 #[.agg (arr 24 f)] w fun e w' => e = .returned (.tuple #[.int .i64 (crR f).1, .bool (rackB f)]) ∧ Below w.heap.size w w' := by
  have := implCn_any f w; rwa [cr2] at this
theorem specCn_b (f : Nat → Int) (w : World) : Calls Tryz.prog 23 #[.agg (arr 24 f)] w fun e w' => e = .returned (.tuple #[.int .i64 (crR f).1, .bool (rackB f)]) ∧ Below w.heap.size w w' := by
  have := specCn_any f w; rwa [cr2] at this
theorem implRn_b (f s : Nat → Int) (w : World) : Calls Tryz.prog 6 #[.agg (arr 24 f), .agg (arr 6 s)] w fun e w' => e = .returned (.tuple #[.agg (arr 24 (rnR f s).1), .bool (rackB f && rnB s)]) ∧ Below w.heap.size w w' := by
  have := implRn_any f s w; rwa [rn2] at this
theorem specRn_b (f s : Nat → Int) (w : World) : Calls Tryz.prog 7 #[.agg (arr 24 f), .agg (arr 6 s)] w fun e w' => e = .returned (.tuple #[.agg (arr 24 (rnR f s).1), .bool (rackB f && rnB s)]) ∧ Below w.heap.size w w' := by
  have := specRn_any f s w; rwa [rn2] at this
theorem IsRen_b (s : Nat → Int) (w : World) : Calls Tryz.prog 9 #[.agg (arr 6 s)] w fun e w' => e = .returned (.bool (rnB s)) ∧ Below w.heap.size w w' := IsRenaming_impl s w
theorem implRt_b (a b : Nat → Int) (w : World) : Calls Tryz.prog 20 #[.agg (arr 24 a), .agg (arr 24 b)] w fun e w' => e = .returned (.tuple #[.agg (arr 6 (rtR a b).1), .bool ((aaR a b).2 && (aaR a b).1)]) ∧ Below w.heap.size w w' := by
  have := implRt_any a b w; rwa [rt2] at this
theorem specRt_b (a b : Nat → Int) (w : World) : Calls Tryz.prog 21 #[.agg (arr 24 a), .agg (arr 24 b)] w fun e w' => e = .returned (.tuple #[.agg (arr 6 (rtR a b).1), .bool ((aaR a b).2 && (aaR a b).1)]) ∧ Below w.heap.size w w' := by
  have := specRt_any a b w; rwa [rt2] at this
theorem gd24 : Tryz.prog.eqGuardType Tryz.prog.depth 27 = false := by kernel_rfl
theorem eqN6 : EqA Tryz.prog 28 6 2 := EqA.ints agg6 size6 Tryz.underlying28 Tryz.underlying3 size1 (by kernel_rfl)
theorem gd6 : Tryz.prog.eqGuardType Tryz.prog.depth 28 = false := by kernel_rfl
attribute [irreducible] rnB
theorem rBig_is (p : Option Addr) (n c : Nat) (w : World) : Calls Tryz.prog 4 #[.slice p n c] w fun e w' => e = .returned (.bool (decide ((65536 : Int) < (n : Int)))) ∧ w = w' := by
  go_enter Tryz.func4, Tryz.ntmps4
  go_wp2
  go_ret
  exact ⟨rfl, rfl⟩
end Go.Proofs.YtlbgmkengkgnfaaGreat
end
