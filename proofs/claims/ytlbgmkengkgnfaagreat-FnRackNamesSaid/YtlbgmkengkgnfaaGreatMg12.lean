/- A part (number 12) of the proof of the law FnRackNames: what each of its sections proves stands in the section's own first remark. No conditions beside those that each theorem states. -/
import Derived.Test.YtlbgmkengkgnfaaGreatMg9
import Derived.Test.YtlbgmkengkgnfaaGreatMg6
import Derived.Test.YtlbgmkengkgnfaaGreatMg11
import Derived.Test.YtlbgmkengkgnfaaGreatMg3
section
/- The reference's draws of renamings and orders. -/
namespace Go.Proofs.YtlbgmkengkgnfaaGreat
set_option linter.unusedSimpArgs false
set_option linter.unusedVariables false
set_option maxRecDepth 20000
open Go.RowKit
theorem arr6_litN (g : Nat → Int) : arr 6 g = #[.int .i64 (g 0), .int .i64 (g 1), .int .i64 (g 2), .int .i64 (g 3), .int .i64 (g 4), .int .i64 (g 5)] := by
  refine Array.ext_getElem? fun i => ?_
  rw [arr_get]
  match i with
  | 0 => rfl
  | 1 => rfl
  | 2 => rfl
  | 3 => rfl
  | 4 => rfl
  | 5 => rfl
  | i + 6 => rw [if_neg (by omega)]; rfl
def idN (j : Nat) : Int := j
theorem id_lit : Value.agg #[.int .i64 0, .int .i64 1, .int .i64 2, .int .i64 3, .int .i64 4, .int .i64 5] = .agg (arr 6 idN) := by rw [arr6_litN]; rfl
set_option maxHeartbeats 4000000 in
theorem names_d {w0 w : World} {B K : Nat} {p : Option Addr} {n c i : Nat} (hi : i ≤ 700000) (hD : DD w0 w B K p n c i) :
    Calls Tryz.prog 25 #[.pointer (some ⟨B, 0, none⟩)] w fun e W' => ∃ (g : Nat → Int) (i' : Nat), e = .returned (.agg (arr 6 g)) ∧ i' ≤ i + 20 ∧ DD w0 W' B K p n c i' ∧ w.grownBy W' (some B) := by
  have HD0 : Hid (DD w0 w B K p n c i) := hD
  have hlt := hD.lt
  have HD : Hid (DD w w B K p n c i) := hD.re
  clear hD
  have tok_r : True := trivial
  have tok_3 : True := trivial
  have tok_w : True := trivial
  have tok_p : True := trivial
  go_enter Tryz.func25, Tryz.ntmps25
  go_wp2_with first
    | (have _t := tok_r; (with_reducible refine wpList_allocN rfl 28 rfl 6 zero6 ?_); intro Bh2 w1 hW2 h2 hb1; have HD' : Hid _ := HD.out.below hb1; clear HD; have HD := HD'; clear HD' hb1 _t tok_r)
    | (go_at_call 39; (with_reducible refine (l4AllNames_any _).mono ?_); rintro e w1 ⟨v, rfl, hS, hb1⟩; (obtain ⟨g, cap, F, rfl, a1, hg, a3, a4, _⟩ := hS.blk (by omega)); have hgB : g ≠ B := (by have := HD.out.lt; omega); replace h2 := row_keep hb1 h2; have HD' : Hid _ := HD.out.below hb1; clear HD hS; have HD := HD'; clear HD' hb1)
    | (have _t := tok_p; go_at_call 42; (with_reducible refine Calls.mono (pick_d 120 (by omega) (by omega) _ (by omega) (by omega) HD.out) ?_); rintro e w1 ⟨r, i1, rfl, hr, hi1, hD1, hg1⟩; (try replace hg := row_grown hg hg1 hgB); (try replace h2 := row_grown h2 hg1 (by omega)); (try replace h3 := row_grown h3 hg1 (by omega)); clear HD; have HD : Hid (DD w w1 B K p n c i1) := hD1; clear hD1 hg1; have hr6 : (r : Int) < 120 := (by omega); clear _t tok_p)
    | (with_reducible refine wpList_loadA rfl _ _ rfl _ _ rfl hg 6 agg6 size6 (by omega) ?_)
    | (have _t := tok_3; (with_reducible refine wpList_allocN rfl 28 rfl 6 zero6 ?_); intro Bh3 w1 hB3 h3 hb1; have hW3 : w.heap.size ≤ Bh3 := Nat.le_trans HD.out.size hB3; have hR3 : Bh2 ≠ Bh3 := (by have := row_lt h2; omega); replace h2 := row_keep hb1 h2; (try replace h3 := row_keep hb1 h3); (try replace hg := row_keep hb1 hg); have HD' : Hid _ := HD.out.below hb1; clear HD; have HD := HD'; clear HD' hb1; clear _t tok_3)
    | (have _t := tok_w; (with_reducible refine wpList_storeWN rfl _ _ _ rfl _ rfl rfl h3 size6 (Below.refl w.heap.size _) hW3 ?_); intro w1 g3 ho g4; replace h2 := (ho _ hR3).trans h2; clear h3; have h3 := g3; have HD' : Hid _ := HD.out.belowK g4 (Nat.le_refl _); clear HD; have HD := HD'; clear HD' g3 ho g4 _t tok_w)
    | (go_at_call 43; (with_reducible refine Calls.mono (one_d 24 (by omega) (by omega) _ (by omega) (by omega) HD.out) ?_); rintro e w1 ⟨bq, i1, rfl, hi1, hD1, hg1⟩; (try replace hg := row_grown hg hg1 hgB); (try replace h2 := row_grown h2 hg1 (by omega)); (try replace h3 := row_grown h3 hg1 (by omega)); clear HD; have HD : Hid (DD w w1 B K p n c i1) := hD1; clear hD1 hg1)
    | (go_at_call 42; (with_reducible refine Calls.mono (pick_d 6 (by omega) (by omega) _ (by omega) (by omega) HD.out) ?_); rintro e w1 ⟨r, i1, rfl, hr, hi1, hD1, hg1⟩; (try replace hg := row_grown hg hg1 hgB); (try replace h2 := row_grown h2 hg1 (by omega)); (try replace h3 := row_grown h3 hg1 (by omega)); clear HD; have HD : Hid (DD w w1 B K p n c i1) := hD1; clear hD1 hg1; have hr6 : (r : Int) < 6 := (by omega))
    | (go_at_call 44; (with_reducible refine Calls.mono (amongc_d [0, 1, 6, -1] (by simp) (by simp) (by omega) (by omega) (by omega) HD.out) ?_); rintro e w1 ⟨ux, i1, rfl, hx, hi1, hD1, hg1⟩; (try replace hg := row_grown hg hg1 hgB); (try replace h2 := row_grown h2 hg1 (by omega)); (try replace h3 := row_grown h3 hg1 (by omega)); clear HD; have HD : Hid (DD w w1 B K p n c i1) := hD1; clear hD1 hg1; clear hx)
    | ((with_reducible refine wpList_storePI rfl 3 _ _ rfl _ _ rfl rfl h3 size1 (by omega) (Below.refl w.heap.size _) hW3 ?_); intro w1 g3 ho g4; replace h2 := (ho _ hR3).trans h2; clear h3; have h3 := g3; have HD' : Hid _ := HD.out.belowK g4 (Nat.le_refl _); clear HD; have HD := HD'; clear HD' g3 ho g4)
    | (with_reducible refine wpList_loadW rfl _ _ rfl _ rfl h3 agg6 size6 ?_)
    | ((with_reducible refine wpList_storeWN rfl _ _ _ rfl _ rfl rfl h2 size6 (Below.refl w.heap.size _) hW2 ?_); intro w1 g3 ho g4; clear h2; have h2 := g3; have HD' : Hid _ := HD.out.belowK g4 (Nat.le_refl _); clear HD; have HD := HD'; clear HD' g3 ho g4)
  all_goals exact bodyPost_ret_by (results_cellA rfl _ _ _ _ _ _ _ rfl h2 agg6 size6) rfl ⟨_, _, rfl, by omega, HD0.out.call HD.out.cur HD.out.grown, HD.out.grown⟩
set_option maxHeartbeats 4000000 in
theorem order_d {w0 w : World} {B K : Nat} {p : Option Addr} {n c i : Nat} (hi : i ≤ 700000) (hD : DD w0 w B K p n c i) :
    Calls Tryz.prog 59 #[.pointer (some ⟨B, 0, none⟩)] w fun e W' => ∃ (g : Nat → Int) (i' : Nat), e = .returned (.agg (arr 6 g)) ∧ i' ≤ i + 40 ∧ DD w0 W' B K p n c i' ∧ w.grownBy W' (some B) := by
  have HD0 : Hid (DD w0 w B K p n c i) := hD
  have hlt := hD.lt
  have HD : Hid (DD w w B K p n c i) := hD.re
  clear hD
  have tok_r : True := trivial
  have tok_3 : True := trivial
  have tok_w : True := trivial
  have tok_p : True := trivial
  go_enter Tryz.func59, Tryz.ntmps59
  go_wp2_with first
    | (have _t := tok_r; (with_reducible refine wpList_allocN rfl 28 rfl 6 zero6 ?_); intro Bh2 w1 hW2 h2 hb1; have HD' : Hid _ := HD.out.below hb1; clear HD; have HD := HD'; clear HD' hb1 _t tok_r)
    | (have _t := tok_3; (with_reducible refine wpList_allocN rfl 28 rfl 6 zero6 ?_); intro Bh3 w1 hB3 h3 hb1; have hW3 : w.heap.size ≤ Bh3 := Nat.le_trans HD.out.size hB3; have hR3 : Bh2 ≠ Bh3 := (by have := row_lt h2; omega); replace h2 := row_keep hb1 h2; (try replace h3 := row_keep hb1 h3); (try replace hg := row_keep hb1 hg); have HD' : Hid _ := HD.out.below hb1; clear HD; have HD := HD'; clear HD' hb1; clear _t tok_3)
    | (have _t := tok_w; (with_reducible refine wpList_storeWN (g := idN) rfl _ _ _ rfl _ rfl ?_ h3 size6 (Below.refl w.heap.size _) hW3 ?_); (exact id_lit); intro w1 g3 ho g4; replace h2 := (ho _ hR3).trans h2; clear h3; have h3 := g3; have HD' : Hid _ := HD.out.belowK g4 (Nat.le_refl _); clear HD; have HD := HD'; clear HD' g3 ho g4 _t tok_w)
  go_loopw [4] (fun x wr => ∃ (q j : Nat) (f : Nat → Int), q ≤ 5 ∧ x = .int .i64 q ∧ j + 2 * q ≤ i + 10 ∧ wr.heap[Bh2]? = some (.cells (arr 6 fun _ => 0) 28 (0, 0)) ∧ wr.heap[Bh3]? = some (.cells (arr 6 f) 28 (0, 0)) ∧ Hid (DD w wr B K p n c j)) (fun x _ => (intOf x).toNat)
  case atStart => exact ⟨5, i, _, by omega, rfl, by omega, h2, h3, HD⟩
  case round =>
    clear h2 h3 HD
    obtain ⟨q, j, f, hq, rfl, hj, h2, h3, HD⟩ := hrel
    by_cases h0 : 0 < q
    · have h0' : (0 : Int) < (q : Int) := by omega
      have hq6 : (q : Int) < 6 := by omega
      go_wp2_with first
        | (go_at_call 42; (with_reducible refine Calls.mono (pick_d (q + 1) (by omega) (by omega) _ (by omega) (by omega) HD.out) ?_); rintro e w1 ⟨r, i1, rfl, hr, hi1, hD1, hg1⟩; (try replace hg := row_grown hg hg1 hgB); (try replace h2 := row_grown h2 hg1 (by omega)); (try replace h3 := row_grown h3 hg1 (by omega)); clear HD; have HD : Hid (DD w w1 B K p n c i1) := hD1; clear hD1 hg1; have hr6 : (r : Int) < 6 := (by omega))
      refine wp_region_held 8 (fun W => W = { w1 with drawn := w1.drawn + 1 }) (by kernel_rfl) (by kernel_rfl) rfl ?_
      simp only [List.take_succ_cons, List.take_zero, List.drop_succ_cons, List.drop_zero]
      repeat (first
        | (with_reducible refine wpQuiet_loadI rfl _ _ rfl _ _ rfl (fun _ h => (by rw [h]; exact h3)) aggI undI (by omega) ?_)
        | ((with_reducible refine wpQuiet_step (fun K hK => ?_)); go_simp; (first | (refine ⟨_, fun _ _ => rfl, hK _ ?_⟩) | (refine ⟨_, fun _ _ => ⟨rfl, rfl⟩, hK _ ?_⟩) | (refine hK _ ?_)); clear hK K))
      refine wpQuiet_nil ?_
      intro wx hwx
      subst hwx
      have hb1 : Below w1.heap.size w1 { w1 with drawn := w1.drawn + 1 } := (Below.refl _ _).drew
      obtain ⟨w1, hwt⟩ : ∃ w2 : World, w2 = { w1 with drawn := w1.drawn + 1 } := ⟨_, rfl⟩
      rw [← hwt] at hb1 ⊢
      clear hwt
      replace h2 := row_keep hb1 h2; (try replace h3 := row_keep hb1 h3); (try replace hg := row_keep hb1 hg); have HD' : Hid _ := HD.out.below hb1; clear HD; have HD := HD'; clear HD' hb1
      go_wp2_with first
        | ((with_reducible refine wpList_storePI rfl 3 _ _ rfl _ _ rfl rfl h3 size1 (by omega) (Below.refl w.heap.size _) hW3 ?_); intro w1 g3 ho g4; replace h2 := (ho _ hR3).trans h2; clear h3; have h3 := g3; have HD' : Hid _ := HD.out.belowK g4 (Nat.le_refl _); clear HD; have HD := HD'; clear HD' g3 ho g4)
      go_roundw
      case rel => exact ⟨q - 1, _, _, by omega, by go_num, by omega, h2, h3, HD⟩
      case measure => simp [intOf]; omega
    · obtain rfl : q = 0 := by omega
      go_wp2_with first
        | (go_at_call 43; (with_reducible refine Calls.mono (one_d 24 (by omega) (by omega) _ (by omega) (by omega) HD.out) ?_); rintro e w1 ⟨bq, i1, rfl, hi1, hD1, hg1⟩; (try replace hg := row_grown hg hg1 hgB); (try replace h2 := row_grown h2 hg1 (by omega)); (try replace h3 := row_grown h3 hg1 (by omega)); clear HD; have HD : Hid (DD w w1 B K p n c i1) := hD1; clear hD1 hg1)
        | (go_at_call 42; (with_reducible refine Calls.mono (pick_d 6 (by omega) (by omega) _ (by omega) (by omega) HD.out) ?_); rintro e w1 ⟨r, i1, rfl, hr, hi1, hD1, hg1⟩; (try replace hg := row_grown hg hg1 hgB); (try replace h2 := row_grown h2 hg1 (by omega)); (try replace h3 := row_grown h3 hg1 (by omega)); clear HD; have HD : Hid (DD w w1 B K p n c i1) := hD1; clear hD1 hg1; have hr6 : (r : Int) < 6 := (by omega))
        | (go_at_call 44; (with_reducible refine Calls.mono (amongc_d [0, 1, 6, -1] (by simp) (by simp) (by omega) (by omega) (by omega) HD.out) ?_); rintro e w1 ⟨ux, i1, rfl, hx, hi1, hD1, hg1⟩; (try replace hg := row_grown hg hg1 hgB); (try replace h2 := row_grown h2 hg1 (by omega)); (try replace h3 := row_grown h3 hg1 (by omega)); clear HD; have HD : Hid (DD w w1 B K p n c i1) := hD1; clear hD1 hg1; clear hx)
        | ((with_reducible refine wpList_storePI rfl 3 _ _ rfl _ _ rfl rfl h3 size1 (by omega) (Below.refl w.heap.size _) hW3 ?_); intro w1 g3 ho g4; replace h2 := (ho _ hR3).trans h2; clear h3; have h3 := g3; have HD' : Hid _ := HD.out.belowK g4 (Nat.le_refl _); clear HD; have HD := HD'; clear HD' g3 ho g4)
        | (with_reducible refine wpList_loadW rfl _ _ rfl _ rfl h3 agg6 size6 ?_)
        | ((with_reducible refine wpList_storeWN rfl _ _ _ rfl _ rfl rfl h2 size6 (Below.refl w.heap.size _) hW2 ?_); intro w1 g3 ho g4; clear h2; have h2 := g3; have HD' : Hid _ := HD.out.belowK g4 (Nat.le_refl _); clear HD; have HD := HD'; clear HD' g3 ho g4)
      all_goals exact bodyPost_ret_by (results_cellA rfl _ _ _ _ _ _ _ rfl h2 agg6 size6) rfl ⟨_, _, rfl, by omega, HD0.out.call HD.out.cur HD.out.grown, HD.out.grown⟩
end Go.Proofs.YtlbgmkengkgnfaaGreat
end
