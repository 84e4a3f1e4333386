/- A part (number 10) of the proof of the law FnRackNames: what each of its sections proves stands in the section's own first remark. No conditions beside those that each theorem states. -/
import Derived.Deep.DeepCutAuto
import Derived.Test.YtlbgmkengkgnfaaGreatMg9
import Derived.Test.YtlbgmkengkgnfaaGreatMg6
section
/- The reference's draw of a rack. -/
namespace Go.Proofs.YtlbgmkengkgnfaaGreat
set_option linter.unusedSimpArgs false
set_option linter.unusedVariables false
set_option maxRecDepth 20000
open Go.RowKit
set_option maxHeartbeats 8000000 in
theorem rack_d {w0 w : World} {B K : Nat} {p : Option Addr} {n c i : Nat} (hi : i ≤ 600000) (hD : DD w0 w B K p n c i) :
    Calls Tryz.prog 26 #[.pointer (some ⟨B, 0, none⟩)] w fun e W' => ∃ (f : Nat → Int) (i' : Nat), e = .returned (.agg (arr 24 f)) ∧ i' ≤ i + 1000 ∧ DD w0 W' B K p n c i' ∧ w.grownBy W' (some B) := by
  have HD0 : Hid (DD w0 w B K p n c i) := hD
  have hlt := hD.lt
  have HD : Hid (DD w w B K p n c i) := hD.re
  clear hD
  have tok_r : True := trivial
  have tok_3 : True := trivial
  have tok_c : True := trivial
  have tok_t : True := trivial
  go_enter Tryz.func26, Tryz.ntmps26
  go_wp2_with first
    | (have _t := tok_r; (with_reducible refine wpList_allocN rfl 27 rfl 24 zero24r ?_); intro Bh2 w1 hW2 h2 hb1; have HD' : Hid _ := HD.out.below hb1; clear HD; have HD := HD'; clear HD' hb1 _t tok_r)
    | (with_reducible refine wpList_build0 rfl 27 rfl 24 zbuild24 ?_)
    | (have _t := tok_c; go_at_call 44; (with_reducible refine Calls.mono (amongc_d [2, 3, 2, 4, 5, 1] (by simp) (by simp) (by omega) (by omega) (by omega) HD.out) ?_); rintro e w1 ⟨cl, i1, rfl, hx, hi1, hD1, hg1⟩; (try replace hs := row_grown hs hg1 hsB); (try replace h2 := row_grown h2 hg1 (by omega)); (try replace h3 := row_grown h3 hg1 (by omega)); clear HD; have HD : Hid (DD w w1 B K p n c i1) := hD1; clear hD1 hg1; have hxcl : 1 ≤ cl ∧ cl ≤ 5 := (by simp only [List.mem_cons, List.not_mem_nil, or_false] at hx; omega); clear hx _t tok_c)
    | (have _t := tok_t; go_at_call 44; (with_reducible refine Calls.mono (amongc_d [3, 4, 2, 5, 6] (by simp) (by simp) (by omega) (by omega) (by omega) HD.out) ?_); rintro e w1 ⟨tb, i1, rfl, hx, hi1, hD1, hg1⟩; (try replace hs := row_grown hs hg1 hsB); (try replace h2 := row_grown h2 hg1 (by omega)); (try replace h3 := row_grown h3 hg1 (by omega)); clear HD; have HD : Hid (DD w w1 B K p n c i1) := hD1; clear hD1 hg1; have hxtb : 2 ≤ tb ∧ tb ≤ 6 := (by simp only [List.mem_cons, List.not_mem_nil, or_false] at hx; omega); clear hx _t tok_t)
    | (have _t := tok_3; (with_reducible refine wpList_allocN rfl 27 rfl 24 zero24r ?_); intro Bh3 w1 hB3 h3 hb1; have hW3 : w.heap.size ≤ Bh3 := Nat.le_trans HD.out.size hB3; have hR3 : Bh2 ≠ Bh3 := (by have := row_lt h2; omega); replace h2 := row_keep hb1 h2; (try replace h3 := row_keep hb1 h3); have HD' : Hid _ := HD.out.below hb1; clear HD; have HD := HD'; clear HD' hb1; clear _t tok_3)
    | ((with_reducible refine wpList_storeWN rfl _ _ _ rfl _ rfl rfl h3 size24r (Below.refl w.heap.size _) hW3 ?_); intro w1 g3 ho g4; replace h2 := (ho _ hR3).trans h2; clear h3; have h3 := g3; have HD' : Hid _ := HD.out.belowK g4 (Nat.le_refl _); clear HD; have HD := HD'; clear HD' g3 ho g4)
  obtain ⟨cl, rfl⟩ : ∃ m : Nat, cl = m := ⟨cl.toNat, by omega⟩
  obtain ⟨tb, rfl⟩ : ∃ m : Nat, tb = m := ⟨tb.toNat, by omega⟩
  go_loopw [6] (fun q wr => ∃ (k j : Nat) (f : Nat → Int), k ≤ 6 ∧ q = .int .i64 k ∧ j ≤ i + 4 + k * 40 ∧ wr.heap[Bh2]? = some (.cells (arr 24 fun _ => 0) 27 (0, 0)) ∧ wr.heap[Bh3]? = some (.cells (arr 24 f) 27 (0, 0)) ∧ Hid (DD w wr B K p n c j)) (fun q _ => 6 - (intOf q).toNat)
  case atStart => exact ⟨0, _, _, by omega, rfl, by omega, h2, h3, HD⟩
  case round =>
    clear h2 h3 HD
    obtain ⟨k, j, f, hk, rfl, hj, h2, h3, HD⟩ := hrel
    by_cases hlt : k < tb
    · have hlt' : (k : Int) < (tb : Int) := by omega
      have hk6 : (k : Int) < 6 := by omega
      go_wp2_with fail
      go_loopw [7] (fun q wr => ∃ (l j : Nat) (f : Nat → Int), l ≤ 4 ∧ q = .int .i64 l ∧ j ≤ i + 4 + k * 40 + l * 8 ∧ wr.heap[Bh2]? = some (.cells (arr 24 fun _ => 0) 27 (0, 0)) ∧ wr.heap[Bh3]? = some (.cells (arr 24 f) 27 (0, 0)) ∧ Hid (DD w wr B K p n c j)) (fun q _ => 4 - (intOf q).toNat)
      case atStart => exact ⟨0, j, f, by omega, rfl, by omega, h2, h3, HD⟩
      case round =>
        clear h2 h3 HD hj
        obtain ⟨l, j, f, hl, rfl, hj, h2, h3, HD⟩ := hrel
        have tok_k : True := trivial
        go_wp2_with first
          | (have _t := tok_k; go_at_call 44; (with_reducible refine Calls.mono (amongc_d [4, 3, 4, 2, 1, 0] (by simp) (by simp) (by omega) (by omega) (by omega) HD.out) ?_); rintro e w1 ⟨kx, i1, rfl, hx, hi1, hD1, hg1⟩; (try replace hs := row_grown hs hg1 hsB); (try replace h2 := row_grown h2 hg1 (by omega)); (try replace h3 := row_grown h3 hg1 (by omega)); clear HD; have HD : Hid (DD w w1 B K p n c i1) := hD1; clear hD1 hg1; have hxkx : 0 ≤ kx ∧ kx ≤ 4 := (by simp only [List.mem_cons, List.not_mem_nil, or_false] at hx; omega); clear hx _t tok_k)
        · have hl4 : (l : Int) < 4 := by omega
          have hlb : l < 4 := by omega
          clear hxkx
          refine wp_region_fork [0, 1, 2, 3, 6, 7] [] [] 4 (fun l => l.take 4 ++ (l.drop 6).take 2) (fun l => []) (fun _ => True) (by kernel_rfl) (by kernel_rfl) (by kernel_rfl) (by kernel_rfl) trivial trivial ?_
          try simp only [List.take_succ_cons, List.take_zero, List.drop_succ_cons, List.drop_zero, List.singleton_append, List.cons_append, List.nil_append]
          repeat (first
            | ((with_reducible refine wpCalm_step (fun K hK => ?_)); go_simp; (first | (refine ⟨_, fun _ _ => rfl, hK _ ?_⟩) | (refine hK _ ?_)); clear hK K))
          refine wpCalm_nil ?_
          refine wpCalm_nil ?_
          have hb1 : Below w1.heap.size w1 { w1 with drawn := w1.drawn + 1 } := (Below.refl _ _).drew
          obtain ⟨w1, hwt⟩ : ∃ w2 : World, w2 = { w1 with drawn := w1.drawn + 1 } := ⟨_, rfl⟩
          rw [← hwt] at hb1 ⊢
          clear hwt
          replace h2 := row_keep hb1 h2
          replace h3 := row_keep hb1 h3
          have HD' : Hid _ := HD.out.below hb1
          clear HD hb1
          have HD := HD'
          clear HD'
          refine wpAny_fork1 4 (by kernel_rfl) rfl ?_
          go_wp2_with first
            | (go_at_call 42; (with_reducible refine Calls.mono (pick_d cl (by omega) (by omega) _ rfl (by omega) HD.out) ?_); rintro e w1 ⟨r, i1, rfl, hr, hi1, hD1, hg1⟩; (try replace hs := row_grown hs hg1 hsB); (try replace h2 := row_grown h2 hg1 (by omega)); (try replace h3 := row_grown h3 hg1 (by omega)); clear HD; have HD : Hid (DD w w1 B K p n c i1) := hD1; clear hD1 hg1)
          refine QN.intro ?_
          refine wpAny_fork1 5 (by kernel_rfl) rfl ?_
          go_wp2_with fail
          refine QN.intro ?_
          refine wpAny_fork1 8 (by kernel_rfl) rfl ?_
          go_wp2_with fail
          refine QN.intro ?_
          refine wpAny_fork1 9 (by kernel_rfl) rfl ?_
          go_wp2_with first
            | ((with_reducible refine wpList_storePI rfl 3 _ _ rfl _ _ rfl rfl h3 size1 (by omega) (Below.refl w.heap.size _) hW3 ?_); intro w1 g3 ho g4; replace h2 := (ho _ hR3).trans h2; clear h3; have h3 := g3; have HD' : Hid _ := HD.out.belowK g4 (Nat.le_refl _); clear HD; have HD := HD'; clear HD' g3 ho g4)
          refine QN.intro ?_
          refine wpAny_end (by kernel_rfl) ?_
          by_cases hl0 : l = 0
          · have hl0' : ¬ (0 : Int) < (l : Int) := by omega
            go_wp2_with fail
            go_roundw
            case rel => exact ⟨l + 1, _, _, by omega, by go_num, by omega, h2, h3, HD⟩
            case measure => simp [intOf]; omega
          · have hl0' : (0 : Int) < (l : Int) := by omega
            obtain ⟨lp, hlp⟩ : ∃ lp, l = lp + 1 := ⟨l - 1, by omega⟩
            have hwl : IntKind.i64.wrap ((l : Int) - 1) = (lp : Int) := by rw [IntWalk.i64_in _ (by omega)]; omega
            have hlp4 : (lp : Int) < 4 := by omega
            have hlpb : lp < 4 := by omega
            clear hlp hl0
            go_wp2_with first
              | (go_at_call 43; (with_reducible refine Calls.mono (one_d 3 (by omega) (by omega) _ (by omega) (by omega) HD.out) ?_); rintro e w1 ⟨bq, i1, rfl, hi1, hD1, hg1⟩; (try replace hs := row_grown hs hg1 hsB); (try replace h2 := row_grown h2 hg1 (by omega)); (try replace h3 := row_grown h3 hg1 (by omega)); clear HD; have HD : Hid (DD w w1 B K p n c i1) := hD1; clear hD1 hg1)
            · refine wp_region_held 12 (fun W => W = { w1 with drawn := w1.drawn + 1 }) (by kernel_rfl) (by kernel_rfl) rfl ?_
              simp only [List.take_succ_cons, List.take_zero, List.drop_succ_cons, List.drop_zero]
              repeat (first
                | (with_reducible refine wpQuiet_loadI rfl _ _ rfl _ _ rfl (fun _ h => (by rw [h]; exact h3)) aggI undI (by omega) ?_)
                | ((with_reducible refine wpQuiet_step (fun K hK => ?_)); go_simp; (first | (refine ⟨_, fun _ _ => rfl, hK _ ?_⟩) | (refine ⟨_, fun _ _ => ⟨rfl, rfl⟩, hK _ ?_⟩) | (refine hK _ ?_)); clear hK K))
              refine wpQuiet_nil ?_
              intro wx hwx
              subst hwx
              have hb1 : Below w1.heap.size w1 { w1 with drawn := w1.drawn + 1 } := (Below.refl _ _).drew
              obtain ⟨w1, hwt⟩ : ∃ w2 : World, w2 = { w1 with drawn := w1.drawn + 1 } := ⟨_, rfl⟩
              rw [← hwt] at hb1 ⊢
              clear hwt
              replace h2 := row_keep hb1 h2
              replace h3 := row_keep hb1 h3
              have HD' : Hid _ := HD.out.below hb1
              clear HD hb1
              have HD := HD'
              clear HD'
              go_wp2_with first
                | ((with_reducible refine wpList_storePI rfl 3 _ _ rfl _ _ rfl rfl h3 size1 (by omega) (Below.refl w.heap.size _) hW3 ?_); intro w1 g3 ho g4; replace h2 := (ho _ hR3).trans h2; clear h3; have h3 := g3; have HD' : Hid _ := HD.out.belowK g4 (Nat.le_refl _); clear HD; have HD := HD'; clear HD' g3 ho g4)
              go_roundw
              case rel => exact ⟨l + 1, _, _, by omega, by go_num, by omega, h2, h3, HD⟩
              case measure => simp [intOf]; omega
            · go_roundw
              case rel => exact ⟨l + 1, _, _, by omega, by go_num, by omega, h2, h3, HD⟩
              case measure => simp [intOf]; omega
        · go_roundw
          case rel => exact ⟨k + 1, _, _, by omega, by go_num, by omega, h2, h3, HD⟩
          case measure => simp [intOf]; omega
    · have hlt' : ¬ (k : Int) < (tb : Int) := by omega
      have hjb : j ≤ i + 300 := by omega
      clear hxcl hxtb hlt
      go_wp2_with fail
      go_loopw [8] (fun q wr => ∃ (m : Nat) (f : Nat → Int), m ≤ 6 ∧ q = .int .i64 m ∧ wr.heap[Bh2]? = some (.cells (arr 24 fun _ => 0) 27 (0, 0)) ∧ wr.heap[Bh3]? = some (.cells (arr 24 f) 27 (0, 0)) ∧ Hid (DD w wr B K p n c j)) (fun q _ => 6 - (intOf q).toNat)
      case atStart => exact ⟨0, f, by omega, rfl, h2, h3, HD⟩
      case round =>
        clear h2 h3 HD
        obtain ⟨m, f, hm, rfl, h2, h3, HD⟩ := hrel
        by_cases hm6 : m < 6
        · have hm6' : (m : Int) < 6 := by omega
          go_wp2_with fail
          go_loopw [9] (fun q wr => ∃ (l : Nat) (f : Nat → Int), 1 ≤ l ∧ l ≤ 4 ∧ q = .int .i64 l ∧ wr.heap[Bh2]? = some (.cells (arr 24 fun _ => 0) 27 (0, 0)) ∧ wr.heap[Bh3]? = some (.cells (arr 24 f) 27 (0, 0)) ∧ Hid (DD w wr B K p n c j)) (fun q _ => 4 - (intOf q).toNat)
          case atStart => exact ⟨1, f, by omega, by omega, rfl, h2, h3, HD⟩
          case round =>
            clear h2 h3 HD
            obtain ⟨l, f, hl1, hl, rfl, h2, h3, HD⟩ := hrel
            by_cases hl4 : l < 4
            · have hl4' : (l : Int) < 4 := by omega
              obtain ⟨lp, hlp⟩ : ∃ lp : Nat, (l : Int) - 1 = (lp : Int) := ⟨l - 1, by omega⟩
              have hlp4 : (lp : Int) < 4 := by omega
              have hlpb : lp < 4 := by omega
              by_cases hz : f (m * 4 + lp) = 0
              · go_wp2_with first
                  | ((with_reducible refine wpList_loadI rfl _ _ rfl _ _ rfl h3 aggI undI (by omega) ?_); rw [hz])
                  | ((with_reducible refine wpList_storePI rfl 3 _ _ rfl _ _ rfl rfl h3 size1 (by omega) (Below.refl w.heap.size _) hW3 ?_); intro w1 g3 ho g4; replace h2 := (ho _ hR3).trans h2; clear h3; have h3 := g3; have HD' : Hid _ := HD.out.belowK g4 (Nat.le_refl _); clear HD; have HD := HD'; clear HD' g3 ho g4)
                go_roundw
                case rel => exact ⟨l + 1, _, by omega, by omega, by go_num, h2, h3, HD⟩
                case measure => simp [intOf]; omega
              · go_wp2_with first
                  | (with_reducible refine wpList_loadI rfl _ _ rfl _ _ rfl h3 aggI undI (by omega) ?_)
                go_roundw
                case rel => exact ⟨l + 1, _, by omega, by omega, by go_num, h2, h3, HD⟩
                case measure => simp [intOf]; omega
            · obtain rfl : l = 4 := by omega
              go_wp2_with fail
              go_roundw
              case rel => exact ⟨m + 1, _, by omega, by go_num, h2, h3, HD⟩
              case measure => simp [intOf]; omega
        · obtain rfl : m = 6 := by omega
          have tok_40 : True := trivial
          go_wp2_with first
            | (go_at_call 43; (with_reducible refine Calls.mono (one_d 3 (by omega) (by omega) _ (by omega) (by omega) HD.out) ?_); rintro e w1 ⟨bq, i1, rfl, hi1, hD1, hg1⟩; (try replace hs := row_grown hs hg1 hsB); (try replace h2 := row_grown h2 hg1 (by omega)); (try replace h3 := row_grown h3 hg1 (by omega)); clear HD; have HD : Hid (DD w w1 B K p n c i1) := hD1; clear hD1 hg1)
            | (go_at_call 42; (with_reducible refine Calls.mono (pick_d 6 (by omega) (by omega) _ (by omega) (by omega) HD.out) ?_); rintro e w1 ⟨r, i1, rfl, hr, hi1, hD1, hg1⟩; (try replace hs := row_grown hs hg1 hsB); (try replace h2 := row_grown h2 hg1 (by omega)); (try replace h3 := row_grown h3 hg1 (by omega)); clear HD; have HD : Hid (DD w w1 B K p n c i1) := hD1; clear hD1 hg1; have hr6 : (r : Int) < 6 := (by omega))
            | (have _t := tok_40; go_at_call 42; (with_reducible refine Calls.mono (pick_d 40 (by omega) (by omega) _ (by omega) (by omega) HD.out) ?_); rintro e w1 ⟨r, i1, rfl, hr, hi1, hD1, hg1⟩; (try replace hs := row_grown hs hg1 hsB); (try replace h2 := row_grown h2 hg1 (by omega)); (try replace h3 := row_grown h3 hg1 (by omega)); clear HD; have HD : Hid (DD w w1 B K p n c i1) := hD1; clear hD1 hg1; clear _t tok_40)
            | ((with_reducible refine wpList_storePN rfl _ _ _ rfl _ _ rfl rfl h3 size4 (by omega) (Below.refl w.heap.size _) hW3 ?_); intro w1 g3 ho g4; replace h2 := (ho _ hR3).trans h2; (try replace hp := (ho _ (by omega)).trans hp); (try replace hq := (ho _ (by omega)).trans hq); clear h3; have h3 := g3; have HD' : Hid _ := HD.out.belowK g4 (Nat.le_refl _); clear HD; have HD := HD'; clear HD' g3 ho g4)
            | ((with_reducible refine wpList_storePN (g := one1) (m := 4) rfl _ _ _ rfl _ _ rfl ?_ h3 size4 (by omega) (Below.refl w.heap.size _) hW3 ?_); (exact one1_lit); intro w1 g3 ho g4; replace h2 := (ho _ hR3).trans h2; (try replace hp := (ho _ (by omega)).trans hp); (try replace hq := (ho _ (by omega)).trans hq); clear h3; have h3 := g3; have HD' : Hid _ := HD.out.belowK g4 (Nat.le_refl _); clear HD; have HD := HD'; clear HD' g3 ho g4)
            | (have _t := hp; (with_reducible refine wpList_loadW rfl _ _ rfl _ rfl hp agg4 size4 ?_); clear _t)
            | (have _t := hq; (with_reducible refine wpList_loadW rfl _ _ rfl _ rfl hq agg4 size4 ?_); clear _t)
            | (with_reducible refine wpList_loadW rfl _ _ rfl _ rfl h3 agg24r size24r ?_)
            | (with_reducible refine wpList_build0 rfl 27 rfl 24 zbuild24 ?_)
            | ((with_reducible refine wpList_storeWN rfl _ _ _ rfl _ rfl rfl h2 size24r (Below.refl w.heap.size _) hW2 ?_); intro w1 g3 ho g4; clear h2; have h2 := g3; have HD' : Hid _ := HD.out.belowK g4 (Nat.le_refl _); clear HD; have HD := HD'; clear HD' g3 ho g4)
          · go_simp
            go_cut [12, 13] (fun s12 s13 wx => ∃ (p4 q4 j : Nat) (f g1 g2 : Nat → Int), j ≤ i + 320 ∧ Bh2 ≠ p4 ∧ Bh2 ≠ q4 ∧ Bh3 ≠ p4 ∧ Bh3 ≠ q4 ∧ w.heap.size ≤ p4 ∧ w.heap.size ≤ q4 ∧ s12 = .pointer (some ⟨p4, 0, none⟩) ∧ s13 = .pointer (some ⟨q4, 0, none⟩) ∧ wx.heap[p4]? = some (.cells (arr 4 g1) 24 (0, 0)) ∧ wx.heap[q4]? = some (.cells (arr 4 g2) 24 (0, 0)) ∧ wx.heap[Bh2]? = some (.cells (arr 24 fun _ => 0) 27 (0, 0)) ∧ wx.heap[Bh3]? = some (.cells (arr 24 f) 27 (0, 0)) ∧ Hid (DD w wx B K p n c j))
            case first =>
              refine wp_region_fork [0, 1, 2, 4, 5, 6] [3] [7, 8, 9] 5 (fun l => l.take 3 ++ (l.drop 4).take 3) (fun l => (l.drop 3).take 1) (Cls w1 _) (by kernel_rfl) (by kernel_rfl) (by kernel_rfl) (by kernel_rfl) ⟨Pres.load _ _ rfl, Pres.alloc _ rfl 4 zero4, Pres.alloc _ rfl 4 zero4, trivial⟩ (Cls.one h3 (Below.refl _ _)) ?_
              try simp only [List.take_succ_cons, List.take_zero, List.drop_succ_cons, List.drop_zero, List.singleton_append, List.cons_append, List.nil_append]
              repeat (first
                | ((with_reducible refine wpCalm_step (fun K hK => ?_)); go_simp; (first | (refine ⟨_, fun _ _ => rfl, hK _ ?_⟩) | (refine hK _ ?_)); clear hK K))
              refine wpCalm_nil ?_
              repeat (first
                | (with_reducible refine wpCalm_loadA rfl _ _ rfl _ _ rfl (fun _ h => h.r1) 4 agg4 size4 (by omega) ?_)
                | ((with_reducible refine wpCalm_step (fun K hK => ?_)); go_simp; (first | (refine ⟨_, fun _ _ => rfl, hK _ ?_⟩) | (refine hK _ ?_)); clear hK K))
              refine wpCalm_nil ?_
              have hb1 : Below w1.heap.size w1 { w1 with drawn := w1.drawn + 1 } := (Below.refl _ _).drew
              obtain ⟨w1, hwt⟩ : ∃ w2 : World, w2 = { w1 with drawn := w1.drawn + 1 } := ⟨_, rfl⟩
              rw [← hwt] at hb1 ⊢
              clear hwt
              replace h2 := row_keep hb1 h2
              replace h3 := row_keep hb1 h3
              have HD' : Hid _ := HD.out.below hb1
              clear HD hb1
              have HD := HD'
              clear HD'
              refine wpAny_fork3 7 8 9 (by kernel_rfl) rfl rfl rfl ?_ ?_ ?_
              · go_wp2_with first
                  | (with_reducible refine wpList_loadA rfl _ _ rfl _ _ rfl h3 4 agg4 size4 (by omega) ?_)
                refine QN.intro ?_
                refine wpAny_fork2 8 9 (by kernel_rfl) rfl rfl ?_ ?_
                · go_wp2_with first
                    | ((with_reducible refine wpList_allocN rfl 24 rfl 4 zero4 ?_); intro p4 w1 hp0 hp hb1; have hpW := Nat.le_trans HD.out.size hp0; have hpl := Nat.lt_of_lt_of_le (row_lt h2) hp0; have hpl3 := Nat.lt_of_lt_of_le (row_lt h3) hp0; (try have hpq := Nat.lt_of_lt_of_le (row_lt hq) hp0); (try replace hq := row_keep hb1 hq); replace h2 := row_keep hb1 h2; replace h3 := row_keep hb1 h3; have HD' : Hid _ := HD.out.below hb1; clear HD; have HD := HD'; clear HD'; clear hb1 hp0)
                  refine QN.intro ?_
                  refine wpAny_fork1 9 (by kernel_rfl) rfl ?_
                  go_wp2_with first
                    | ((with_reducible refine wpList_allocN rfl 24 rfl 4 zero4 ?_); intro q4 w1 hq0 hq hb1; have hqW := Nat.le_trans HD.out.size hq0; have hql := Nat.lt_of_lt_of_le (row_lt h2) hq0; have hql3 := Nat.lt_of_lt_of_le (row_lt h3) hq0; (try have hpq := Nat.lt_of_lt_of_le (row_lt hp) hq0); (try replace hp := row_keep hb1 hp); replace h2 := row_keep hb1 h2; replace h3 := row_keep hb1 h3; have HD' : Hid _ := HD.out.below hb1; clear HD; have HD := HD'; clear HD'; clear hb1 hq0)
                  refine QN.intro ?_
                  refine wpAny_fork1 10 (by kernel_rfl) rfl ?_
                  go_wp2_with first
                    | ((with_reducible refine wpList_storeWN rfl _ _ _ rfl _ rfl rfl hp size4 (Below.refl w.heap.size _) hpW ?_); intro w1 g3 ho g4; replace h3 := (ho _ (by omega)).trans h3; replace h2 := (ho _ (by omega)).trans h2; replace hq := (ho _ (by omega)).trans hq; clear hp; have hp := g3; have HD' : Hid _ := HD.out.belowK g4 (Nat.le_refl _); clear HD; have HD := HD'; clear HD' g3 g4 ho)
                  refine QN.intro ?_
                  refine wpAny_fork1 11 (by kernel_rfl) rfl ?_
                  go_wp2_with first
                    | ((with_reducible refine wpList_storeWN rfl _ _ _ rfl _ rfl rfl hq size4 (Below.refl w.heap.size _) hqW ?_); intro w1 g3 ho g4; replace h3 := (ho _ (by omega)).trans h3; replace h2 := (ho _ (by omega)).trans h2; replace hp := (ho _ (by omega)).trans hp; clear hq; have hq := g3; have HD' : Hid _ := HD.out.belowK g4 (Nat.le_refl _); clear HD; have HD := HD'; clear HD' g3 g4 ho)
                  refine QN.intro ?_
                  refine wpAny_end (by kernel_rfl) ?_
                  go_wp2_with fail
                  go_meet
                  exact ⟨p4, q4, _, _, _, _, by omega, by omega, by omega, by omega, by omega, hpW, hqW, rfl, rfl, hp, hq, h2, h3, HD⟩
                · go_wp2_with first
                    | ((with_reducible refine wpList_allocN rfl 24 rfl 4 zero4 ?_); intro q4 w1 hq0 hq hb1; have hqW := Nat.le_trans HD.out.size hq0; have hql := Nat.lt_of_lt_of_le (row_lt h2) hq0; have hql3 := Nat.lt_of_lt_of_le (row_lt h3) hq0; (try have hpq := Nat.lt_of_lt_of_le (row_lt hp) hq0); (try replace hp := row_keep hb1 hp); replace h2 := row_keep hb1 h2; replace h3 := row_keep hb1 h3; have HD' : Hid _ := HD.out.below hb1; clear HD; have HD := HD'; clear HD'; clear hb1 hq0)
                  refine QN.intro ?_
                  refine wpAny_fork1 8 (by kernel_rfl) rfl ?_
                  go_wp2_with first
                    | ((with_reducible refine wpList_allocN rfl 24 rfl 4 zero4 ?_); intro p4 w1 hp0 hp hb1; have hpW := Nat.le_trans HD.out.size hp0; have hpl := Nat.lt_of_lt_of_le (row_lt h2) hp0; have hpl3 := Nat.lt_of_lt_of_le (row_lt h3) hp0; (try have hpq := Nat.lt_of_lt_of_le (row_lt hq) hp0); (try replace hq := row_keep hb1 hq); replace h2 := row_keep hb1 h2; replace h3 := row_keep hb1 h3; have HD' : Hid _ := HD.out.below hb1; clear HD; have HD := HD'; clear HD'; clear hb1 hp0)
                  refine QN.intro ?_
                  refine wpAny_fork1 10 (by kernel_rfl) rfl ?_
                  go_wp2_with first
                    | ((with_reducible refine wpList_storeWN rfl _ _ _ rfl _ rfl rfl hp size4 (Below.refl w.heap.size _) hpW ?_); intro w1 g3 ho g4; replace h3 := (ho _ (by omega)).trans h3; replace h2 := (ho _ (by omega)).trans h2; replace hq := (ho _ (by omega)).trans hq; clear hp; have hp := g3; have HD' : Hid _ := HD.out.belowK g4 (Nat.le_refl _); clear HD; have HD := HD'; clear HD' g3 g4 ho)
                  refine QN.intro ?_
                  refine wpAny_fork1 11 (by kernel_rfl) rfl ?_
                  go_wp2_with first
                    | ((with_reducible refine wpList_storeWN rfl _ _ _ rfl _ rfl rfl hq size4 (Below.refl w.heap.size _) hqW ?_); intro w1 g3 ho g4; replace h3 := (ho _ (by omega)).trans h3; replace h2 := (ho _ (by omega)).trans h2; replace hp := (ho _ (by omega)).trans hp; clear hq; have hq := g3; have HD' : Hid _ := HD.out.belowK g4 (Nat.le_refl _); clear HD; have HD := HD'; clear HD' g3 g4 ho)
                  refine QN.intro ?_
                  refine wpAny_end (by kernel_rfl) ?_
                  go_wp2_with fail
                  go_meet
                  exact ⟨p4, q4, _, _, _, _, by omega, by omega, by omega, by omega, by omega, hpW, hqW, rfl, rfl, hp, hq, h2, h3, HD⟩
              · go_wp2_with first
                  | ((with_reducible refine wpList_allocN rfl 24 rfl 4 zero4 ?_); intro p4 w1 hp0 hp hb1; have hpW := Nat.le_trans HD.out.size hp0; have hpl := Nat.lt_of_lt_of_le (row_lt h2) hp0; have hpl3 := Nat.lt_of_lt_of_le (row_lt h3) hp0; (try have hpq := Nat.lt_of_lt_of_le (row_lt hq) hp0); (try replace hq := row_keep hb1 hq); replace h2 := row_keep hb1 h2; replace h3 := row_keep hb1 h3; have HD' : Hid _ := HD.out.below hb1; clear HD; have HD := HD'; clear HD'; clear hb1 hp0)
                refine QN.intro ?_
                refine wpAny_fork2 7 9 (by kernel_rfl) rfl rfl ?_ ?_
                · go_wp2_with first
                    | (with_reducible refine wpList_loadA rfl _ _ rfl _ _ rfl h3 4 agg4 size4 (by omega) ?_)
                  refine QN.intro ?_
                  refine wpAny_fork1 9 (by kernel_rfl) rfl ?_
                  go_wp2_with first
                    | ((with_reducible refine wpList_allocN rfl 24 rfl 4 zero4 ?_); intro q4 w1 hq0 hq hb1; have hqW := Nat.le_trans HD.out.size hq0; have hql := Nat.lt_of_lt_of_le (row_lt h2) hq0; have hql3 := Nat.lt_of_lt_of_le (row_lt h3) hq0; (try have hpq := Nat.lt_of_lt_of_le (row_lt hp) hq0); (try replace hp := row_keep hb1 hp); replace h2 := row_keep hb1 h2; replace h3 := row_keep hb1 h3; have HD' : Hid _ := HD.out.below hb1; clear HD; have HD := HD'; clear HD'; clear hb1 hq0)
                  refine QN.intro ?_
                  refine wpAny_fork1 10 (by kernel_rfl) rfl ?_
                  go_wp2_with first
                    | ((with_reducible refine wpList_storeWN rfl _ _ _ rfl _ rfl rfl hp size4 (Below.refl w.heap.size _) hpW ?_); intro w1 g3 ho g4; replace h3 := (ho _ (by omega)).trans h3; replace h2 := (ho _ (by omega)).trans h2; replace hq := (ho _ (by omega)).trans hq; clear hp; have hp := g3; have HD' : Hid _ := HD.out.belowK g4 (Nat.le_refl _); clear HD; have HD := HD'; clear HD' g3 g4 ho)
                  refine QN.intro ?_
                  refine wpAny_fork1 11 (by kernel_rfl) rfl ?_
                  go_wp2_with first
                    | ((with_reducible refine wpList_storeWN rfl _ _ _ rfl _ rfl rfl hq size4 (Below.refl w.heap.size _) hqW ?_); intro w1 g3 ho g4; replace h3 := (ho _ (by omega)).trans h3; replace h2 := (ho _ (by omega)).trans h2; replace hp := (ho _ (by omega)).trans hp; clear hq; have hq := g3; have HD' : Hid _ := HD.out.belowK g4 (Nat.le_refl _); clear HD; have HD := HD'; clear HD' g3 g4 ho)
                  refine QN.intro ?_
                  refine wpAny_end (by kernel_rfl) ?_
                  go_wp2_with fail
                  go_meet
                  exact ⟨p4, q4, _, _, _, _, by omega, by omega, by omega, by omega, by omega, hpW, hqW, rfl, rfl, hp, hq, h2, h3, HD⟩
                · go_wp2_with first
                    | ((with_reducible refine wpList_allocN rfl 24 rfl 4 zero4 ?_); intro q4 w1 hq0 hq hb1; have hqW := Nat.le_trans HD.out.size hq0; have hql := Nat.lt_of_lt_of_le (row_lt h2) hq0; have hql3 := Nat.lt_of_lt_of_le (row_lt h3) hq0; (try have hpq := Nat.lt_of_lt_of_le (row_lt hp) hq0); (try replace hp := row_keep hb1 hp); replace h2 := row_keep hb1 h2; replace h3 := row_keep hb1 h3; have HD' : Hid _ := HD.out.below hb1; clear HD; have HD := HD'; clear HD'; clear hb1 hq0)
                  refine QN.intro ?_
                  refine wpAny_fork2 7 10 (by kernel_rfl) rfl rfl ?_ ?_
                  · go_wp2_with first
                      | (with_reducible refine wpList_loadA rfl _ _ rfl _ _ rfl h3 4 agg4 size4 (by omega) ?_)
                    refine QN.intro ?_
                    refine wpAny_fork1 10 (by kernel_rfl) rfl ?_
                    go_wp2_with first
                      | ((with_reducible refine wpList_storeWN rfl _ _ _ rfl _ rfl rfl hp size4 (Below.refl w.heap.size _) hpW ?_); intro w1 g3 ho g4; replace h3 := (ho _ (by omega)).trans h3; replace h2 := (ho _ (by omega)).trans h2; replace hq := (ho _ (by omega)).trans hq; clear hp; have hp := g3; have HD' : Hid _ := HD.out.belowK g4 (Nat.le_refl _); clear HD; have HD := HD'; clear HD' g3 g4 ho)
                    refine QN.intro ?_
                    refine wpAny_fork1 11 (by kernel_rfl) rfl ?_
                    go_wp2_with first
                      | ((with_reducible refine wpList_storeWN rfl _ _ _ rfl _ rfl rfl hq size4 (Below.refl w.heap.size _) hqW ?_); intro w1 g3 ho g4; replace h3 := (ho _ (by omega)).trans h3; replace h2 := (ho _ (by omega)).trans h2; replace hp := (ho _ (by omega)).trans hp; clear hq; have hq := g3; have HD' : Hid _ := HD.out.belowK g4 (Nat.le_refl _); clear HD; have HD := HD'; clear HD' g3 g4 ho)
                    refine QN.intro ?_
                    refine wpAny_end (by kernel_rfl) ?_
                    go_wp2_with fail
                    go_meet
                    exact ⟨p4, q4, _, _, _, _, by omega, by omega, by omega, by omega, by omega, hpW, hqW, rfl, rfl, hp, hq, h2, h3, HD⟩
                  · go_wp2_with first
                      | ((with_reducible refine wpList_storeWN rfl _ _ _ rfl _ rfl rfl hp size4 (Below.refl w.heap.size _) hpW ?_); intro w1 g3 ho g4; replace h3 := (ho _ (by omega)).trans h3; replace h2 := (ho _ (by omega)).trans h2; replace hq := (ho _ (by omega)).trans hq; clear hp; have hp := g3; have HD' : Hid _ := HD.out.belowK g4 (Nat.le_refl _); clear HD; have HD := HD'; clear HD' g3 g4 ho)
                    refine QN.intro ?_
                    refine wpAny_fork1 7 (by kernel_rfl) rfl ?_
                    go_wp2_with first
                      | (with_reducible refine wpList_loadA rfl _ _ rfl _ _ rfl h3 4 agg4 size4 (by omega) ?_)
                    refine QN.intro ?_
                    refine wpAny_fork1 11 (by kernel_rfl) rfl ?_
                    go_wp2_with first
                      | ((with_reducible refine wpList_storeWN rfl _ _ _ rfl _ rfl rfl hq size4 (Below.refl w.heap.size _) hqW ?_); intro w1 g3 ho g4; replace h3 := (ho _ (by omega)).trans h3; replace h2 := (ho _ (by omega)).trans h2; replace hp := (ho _ (by omega)).trans hp; clear hq; have hq := g3; have HD' : Hid _ := HD.out.belowK g4 (Nat.le_refl _); clear HD; have HD := HD'; clear HD' g3 g4 ho)
                    refine QN.intro ?_
                    refine wpAny_end (by kernel_rfl) ?_
                    go_wp2_with fail
                    go_meet
                    exact ⟨p4, q4, _, _, _, _, by omega, by omega, by omega, by omega, by omega, hpW, hqW, rfl, rfl, hp, hq, h2, h3, HD⟩
              · go_wp2_with first
                  | ((with_reducible refine wpList_allocN rfl 24 rfl 4 zero4 ?_); intro q4 w1 hq0 hq hb1; have hqW := Nat.le_trans HD.out.size hq0; have hql := Nat.lt_of_lt_of_le (row_lt h2) hq0; have hql3 := Nat.lt_of_lt_of_le (row_lt h3) hq0; (try have hpq := Nat.lt_of_lt_of_le (row_lt hp) hq0); (try replace hp := row_keep hb1 hp); replace h2 := row_keep hb1 h2; replace h3 := row_keep hb1 h3; have HD' : Hid _ := HD.out.below hb1; clear HD; have HD := HD'; clear HD'; clear hb1 hq0)
                refine QN.intro ?_
                refine wpAny_fork2 7 8 (by kernel_rfl) rfl rfl ?_ ?_
                · go_wp2_with first
                    | (with_reducible refine wpList_loadA rfl _ _ rfl _ _ rfl h3 4 agg4 size4 (by omega) ?_)
                  refine QN.intro ?_
                  refine wpAny_fork1 8 (by kernel_rfl) rfl ?_
                  go_wp2_with first
                    | ((with_reducible refine wpList_allocN rfl 24 rfl 4 zero4 ?_); intro p4 w1 hp0 hp hb1; have hpW := Nat.le_trans HD.out.size hp0; have hpl := Nat.lt_of_lt_of_le (row_lt h2) hp0; have hpl3 := Nat.lt_of_lt_of_le (row_lt h3) hp0; (try have hpq := Nat.lt_of_lt_of_le (row_lt hq) hp0); (try replace hq := row_keep hb1 hq); replace h2 := row_keep hb1 h2; replace h3 := row_keep hb1 h3; have HD' : Hid _ := HD.out.below hb1; clear HD; have HD := HD'; clear HD'; clear hb1 hp0)
                  refine QN.intro ?_
                  refine wpAny_fork1 10 (by kernel_rfl) rfl ?_
                  go_wp2_with first
                    | ((with_reducible refine wpList_storeWN rfl _ _ _ rfl _ rfl rfl hp size4 (Below.refl w.heap.size _) hpW ?_); intro w1 g3 ho g4; replace h3 := (ho _ (by omega)).trans h3; replace h2 := (ho _ (by omega)).trans h2; replace hq := (ho _ (by omega)).trans hq; clear hp; have hp := g3; have HD' : Hid _ := HD.out.belowK g4 (Nat.le_refl _); clear HD; have HD := HD'; clear HD' g3 g4 ho)
                  refine QN.intro ?_
                  refine wpAny_fork1 11 (by kernel_rfl) rfl ?_
                  go_wp2_with first
                    | ((with_reducible refine wpList_storeWN rfl _ _ _ rfl _ rfl rfl hq size4 (Below.refl w.heap.size _) hqW ?_); intro w1 g3 ho g4; replace h3 := (ho _ (by omega)).trans h3; replace h2 := (ho _ (by omega)).trans h2; replace hp := (ho _ (by omega)).trans hp; clear hq; have hq := g3; have HD' : Hid _ := HD.out.belowK g4 (Nat.le_refl _); clear HD; have HD := HD'; clear HD' g3 g4 ho)
                  refine QN.intro ?_
                  refine wpAny_end (by kernel_rfl) ?_
                  go_wp2_with fail
                  go_meet
                  exact ⟨p4, q4, _, _, _, _, by omega, by omega, by omega, by omega, by omega, hpW, hqW, rfl, rfl, hp, hq, h2, h3, HD⟩
                · go_wp2_with first
                    | ((with_reducible refine wpList_allocN rfl 24 rfl 4 zero4 ?_); intro p4 w1 hp0 hp hb1; have hpW := Nat.le_trans HD.out.size hp0; have hpl := Nat.lt_of_lt_of_le (row_lt h2) hp0; have hpl3 := Nat.lt_of_lt_of_le (row_lt h3) hp0; (try have hpq := Nat.lt_of_lt_of_le (row_lt hq) hp0); (try replace hq := row_keep hb1 hq); replace h2 := row_keep hb1 h2; replace h3 := row_keep hb1 h3; have HD' : Hid _ := HD.out.below hb1; clear HD; have HD := HD'; clear HD'; clear hb1 hp0)
                  refine QN.intro ?_
                  refine wpAny_fork2 7 10 (by kernel_rfl) rfl rfl ?_ ?_
                  · go_wp2_with first
                      | (with_reducible refine wpList_loadA rfl _ _ rfl _ _ rfl h3 4 agg4 size4 (by omega) ?_)
                    refine QN.intro ?_
                    refine wpAny_fork1 10 (by kernel_rfl) rfl ?_
                    go_wp2_with first
                      | ((with_reducible refine wpList_storeWN rfl _ _ _ rfl _ rfl rfl hp size4 (Below.refl w.heap.size _) hpW ?_); intro w1 g3 ho g4; replace h3 := (ho _ (by omega)).trans h3; replace h2 := (ho _ (by omega)).trans h2; replace hq := (ho _ (by omega)).trans hq; clear hp; have hp := g3; have HD' : Hid _ := HD.out.belowK g4 (Nat.le_refl _); clear HD; have HD := HD'; clear HD' g3 g4 ho)
                    refine QN.intro ?_
                    refine wpAny_fork1 11 (by kernel_rfl) rfl ?_
                    go_wp2_with first
                      | ((with_reducible refine wpList_storeWN rfl _ _ _ rfl _ rfl rfl hq size4 (Below.refl w.heap.size _) hqW ?_); intro w1 g3 ho g4; replace h3 := (ho _ (by omega)).trans h3; replace h2 := (ho _ (by omega)).trans h2; replace hp := (ho _ (by omega)).trans hp; clear hq; have hq := g3; have HD' : Hid _ := HD.out.belowK g4 (Nat.le_refl _); clear HD; have HD := HD'; clear HD' g3 g4 ho)
                    refine QN.intro ?_
                    refine wpAny_end (by kernel_rfl) ?_
                    go_wp2_with fail
                    go_meet
                    exact ⟨p4, q4, _, _, _, _, by omega, by omega, by omega, by omega, by omega, hpW, hqW, rfl, rfl, hp, hq, h2, h3, HD⟩
                  · go_wp2_with first
                      | ((with_reducible refine wpList_storeWN rfl _ _ _ rfl _ rfl rfl hp size4 (Below.refl w.heap.size _) hpW ?_); intro w1 g3 ho g4; replace h3 := (ho _ (by omega)).trans h3; replace h2 := (ho _ (by omega)).trans h2; replace hq := (ho _ (by omega)).trans hq; clear hp; have hp := g3; have HD' : Hid _ := HD.out.belowK g4 (Nat.le_refl _); clear HD; have HD := HD'; clear HD' g3 g4 ho)
                    refine QN.intro ?_
                    refine wpAny_fork1 7 (by kernel_rfl) rfl ?_
                    go_wp2_with first
                      | (with_reducible refine wpList_loadA rfl _ _ rfl _ _ rfl h3 4 agg4 size4 (by omega) ?_)
                    refine QN.intro ?_
                    refine wpAny_fork1 11 (by kernel_rfl) rfl ?_
                    go_wp2_with first
                      | ((with_reducible refine wpList_storeWN rfl _ _ _ rfl _ rfl rfl hq size4 (Below.refl w.heap.size _) hqW ?_); intro w1 g3 ho g4; replace h3 := (ho _ (by omega)).trans h3; replace h2 := (ho _ (by omega)).trans h2; replace hp := (ho _ (by omega)).trans hp; clear hq; have hq := g3; have HD' : Hid _ := HD.out.belowK g4 (Nat.le_refl _); clear HD; have HD := HD'; clear HD' g3 g4 ho)
                    refine QN.intro ?_
                    refine wpAny_end (by kernel_rfl) ?_
                    go_wp2_with fail
                    go_meet
                    exact ⟨p4, q4, _, _, _, _, by omega, by omega, by omega, by omega, by omega, hpW, hqW, rfl, rfl, hp, hq, h2, h3, HD⟩
            case rest =>
              obtain ⟨p4, q4, j, f, ga, gb, hj4, n1, n2, n3, n4, hpW, hqW, rfl, rfl, hp, hq, h2, h3, HD⟩ := hcut
              go_wp2_with first
                | (go_at_call 43; (with_reducible refine Calls.mono (one_d 3 (by omega) (by omega) _ (by omega) (by omega) HD.out) ?_); rintro e w1 ⟨bq, i1, rfl, hi1, hD1, hg1⟩; (try replace hs := row_grown hs hg1 hsB); (try replace h2 := row_grown h2 hg1 (by omega)); (try replace h3 := row_grown h3 hg1 (by omega)); clear HD; have HD : Hid (DD w w1 B K p n c i1) := hD1; clear hD1 hg1)
                | (go_at_call 42; (with_reducible refine Calls.mono (pick_d 6 (by omega) (by omega) _ (by omega) (by omega) HD.out) ?_); rintro e w1 ⟨r, i1, rfl, hr, hi1, hD1, hg1⟩; (try replace hs := row_grown hs hg1 hsB); (try replace h2 := row_grown h2 hg1 (by omega)); (try replace h3 := row_grown h3 hg1 (by omega)); clear HD; have HD : Hid (DD w w1 B K p n c i1) := hD1; clear hD1 hg1; have hr6 : (r : Int) < 6 := (by omega))
                | (have _t := tok_40; go_at_call 42; (with_reducible refine Calls.mono (pick_d 40 (by omega) (by omega) _ (by omega) (by omega) HD.out) ?_); rintro e w1 ⟨r, i1, rfl, hr, hi1, hD1, hg1⟩; (try replace hs := row_grown hs hg1 hsB); (try replace h2 := row_grown h2 hg1 (by omega)); (try replace h3 := row_grown h3 hg1 (by omega)); clear HD; have HD : Hid (DD w w1 B K p n c i1) := hD1; clear hD1 hg1; clear _t tok_40)
                | ((with_reducible refine wpList_storePN rfl _ _ _ rfl _ _ rfl rfl h3 size4 (by omega) (Below.refl w.heap.size _) hW3 ?_); intro w1 g3 ho g4; replace h2 := (ho _ hR3).trans h2; (try replace hp := (ho _ (by omega)).trans hp); (try replace hq := (ho _ (by omega)).trans hq); clear h3; have h3 := g3; have HD' : Hid _ := HD.out.belowK g4 (Nat.le_refl _); clear HD; have HD := HD'; clear HD' g3 ho g4)
                | ((with_reducible refine wpList_storePN (g := one1) (m := 4) rfl _ _ _ rfl _ _ rfl ?_ h3 size4 (by omega) (Below.refl w.heap.size _) hW3 ?_); (exact one1_lit); intro w1 g3 ho g4; replace h2 := (ho _ hR3).trans h2; (try replace hp := (ho _ (by omega)).trans hp); (try replace hq := (ho _ (by omega)).trans hq); clear h3; have h3 := g3; have HD' : Hid _ := HD.out.belowK g4 (Nat.le_refl _); clear HD; have HD := HD'; clear HD' g3 ho g4)
                | (have _t := hp; (with_reducible refine wpList_loadW rfl _ _ rfl _ rfl hp agg4 size4 ?_); clear _t)
                | (have _t := hq; (with_reducible refine wpList_loadW rfl _ _ rfl _ rfl hq agg4 size4 ?_); clear _t)
                | (with_reducible refine wpList_loadW rfl _ _ rfl _ rfl h3 agg24r size24r ?_)
                | (with_reducible refine wpList_build0 rfl 27 rfl 24 zbuild24 ?_)
                | ((with_reducible refine wpList_storeWN rfl _ _ _ rfl _ rfl rfl h2 size24r (Below.refl w.heap.size _) hW2 ?_); intro w1 g3 ho g4; clear h2; have h2 := g3; have HD' : Hid _ := HD.out.belowK g4 (Nat.le_refl _); clear HD; have HD := HD'; clear HD' g3 ho g4)
              · refine wp_region_fork [0, 2, 4, 7] [] [] 7 (fun l => l.take 1 ++ (l.drop 2).take 1 ++ (l.drop 4).take 1 ++ (l.drop 7).take 1) (fun l => []) (fun _ => True) (by kernel_rfl) (by kernel_rfl) (by kernel_rfl) (by kernel_rfl) trivial trivial ?_
                try simp only [List.take_succ_cons, List.take_zero, List.drop_succ_cons, List.drop_zero, List.singleton_append, List.cons_append, List.nil_append]
                repeat (first
                  | ((with_reducible refine wpCalm_step (fun K hK => ?_)); go_simp; (first | (refine ⟨_, fun _ _ => rfl, hK _ ?_⟩) | (refine hK _ ?_)); clear hK K))
                refine wpCalm_nil ?_
                refine wpCalm_nil ?_
                have hb1 : Below w1.heap.size w1 { w1 with drawn := w1.drawn + 1 } := (Below.refl _ _).drew
                obtain ⟨w1, hwt⟩ : ∃ w2 : World, w2 = { w1 with drawn := w1.drawn + 1 } := ⟨_, rfl⟩
                rw [← hwt] at hb1 ⊢
                clear hwt
                replace h2 := row_keep hb1 h2
                replace h3 := row_keep hb1 h3
                have HD' : Hid _ := HD.out.below hb1
                clear HD hb1
                have HD := HD'
                clear HD'
                refine wpAny_fork2 1 5 (by kernel_rfl) rfl rfl ?_ ?_
                · go_wp2_with first
                    | (go_at_call 42; (with_reducible refine Calls.mono (pick_d 6 (by omega) (by omega) _ (by omega) (by omega) HD.out) ?_); rintro e w1 ⟨r, i1, rfl, hr, hi1, hD1, hg1⟩; (try replace hs := row_grown hs hg1 hsB); (try replace h2 := row_grown h2 hg1 (by omega)); (try replace h3 := row_grown h3 hg1 (by omega)); clear HD; have HD : Hid (DD w w1 B K p n c i1) := hD1; clear hD1 hg1; have hr6 : (r : Int) < 6 := (by omega))
                  refine QN.intro ?_
                  refine wpAny_peel1 8 (by kernel_rfl) rfl (by kernel_rfl) ?_
                  repeat (first
                    | ((with_reducible refine wpCalm_step (fun K hK => ?_)); go_simp; (first | (refine ⟨_, fun _ _ => rfl, hK _ ?_⟩) | (refine hK _ ?_)); clear hK K))
                  refine wpCalm_nil ?_
                  refine wpAny_fork2 3 5 (by kernel_rfl) rfl rfl ?_ ?_
                  · go_wp2_with first
                      | (go_at_call 42; (with_reducible refine Calls.mono (pick_d 4 (by omega) (by omega) _ (by omega) (by omega) HD.out) ?_); rintro e w1 ⟨r, i1, rfl, hr, hi1, hD1, hg1⟩; (try replace hs := row_grown hs hg1 hsB); (try replace h2 := row_grown h2 hg1 (by omega)); (try replace h3 := row_grown h3 hg1 (by omega)); clear HD; have HD : Hid (DD w w1 B K p n c i1) := hD1; clear hD1 hg1; have hr4 : (r : Int) < 4 := (by omega))
                    refine QN.intro ?_
                    refine wpAny_fork1 5 (by kernel_rfl) rfl ?_
                    go_wp2_with fail
                    have hb1 : Below w1.heap.size w1 (w1.alloc (.cells #[.int .i64 (-1), .int .i64 6, .int .i64 4611686018427387904] 3)) := (Below.refl _ _).alloc (Nat.le_refl _) _
                    have hs : (w1.alloc (.cells #[.int .i64 (-1), .int .i64 6, .int .i64 4611686018427387904] 3)).heap[w1.heap.size]? = some (.cells #[.int .i64 (-1), .int .i64 6, .int .i64 4611686018427387904] 3 (0, 0)) := heap_alloc_new _ _
                    have hsB : w1.heap.size ≠ B := by have := HD.out.lt; omega
                    replace h2 := row_keep hb1 h2; replace h3 := row_keep hb1 h3; have HD' : Hid _ := HD.out.below hb1; clear HD; have HD := HD'; clear HD'
                    obtain ⟨gs, hgs⟩ : ∃ gs, gs = w1.heap.size := ⟨_, rfl⟩
                    rw [← hgs] at hs hsB ⊢
                    clear hb1 hgs
                    generalize w1.alloc (.cells #[.int .i64 (-1), .int .i64 6, .int .i64 4611686018427387904] 3) = w1 at *
                    refine QN.intro ?_
                    refine wpAny_fork1 6 (by kernel_rfl) rfl ?_
                    go_wp2_with first
                      | (go_at_call 44; (with_reducible refine Calls.mono (amongr_d [-1, 6, 4611686018427387904] (by simp) (by simp) (by omega) (by omega) hs hsB (by omega) HD.out) ?_); rintro e w1 ⟨ux, i1, rfl, hx, hi1, hD1, hg1⟩; clear hs hsB; (try replace hs := row_grown hs hg1 hsB); (try replace h2 := row_grown h2 hg1 (by omega)); (try replace h3 := row_grown h3 hg1 (by omega)); clear HD; have HD : Hid (DD w w1 B K p n c i1) := hD1; clear hD1 hg1; clear hx)
                    refine QN.intro ?_
                    refine wpAny_fork1 9 (by kernel_rfl) rfl ?_
                    go_wp2_with fail
                    refine QN.intro ?_
                    refine wpAny_fork1 10 (by kernel_rfl) rfl ?_
                    go_wp2_with first
                      | ((with_reducible refine wpList_storePI rfl 3 _ _ rfl _ _ rfl rfl h3 size1 (by omega) (Below.refl w.heap.size _) hW3 ?_); intro w1 g3 ho g4; replace h2 := (ho _ hR3).trans h2; clear h3; have h3 := g3; have HD' : Hid _ := HD.out.belowK g4 (Nat.le_refl _); clear HD; have HD := HD'; clear HD' g3 ho g4)
                    refine QN.intro ?_
                    refine wpAny_end (by kernel_rfl) ?_
                    go_wp2_with first
                      | (with_reducible refine wpList_loadW rfl _ _ rfl _ rfl h3 agg24r size24r ?_)
                      | (with_reducible refine wpList_build0 rfl 27 rfl 24 zbuild24 ?_)
                      | ((with_reducible refine wpList_storeWN rfl _ _ _ rfl _ rfl rfl h2 size24r (Below.refl w.heap.size _) hW2 ?_); intro w1 g3 ho g4; clear h2; have h2 := g3; have HD' : Hid _ := HD.out.belowK g4 (Nat.le_refl _); clear HD; have HD := HD'; clear HD' g3 ho g4)
                    exact bodyPost_ret_by (results_cellA rfl _ _ _ _ _ _ _ rfl h2 agg24r size24r) rfl ⟨_, _, rfl, by omega, HD0.out.call HD.out.cur HD.out.grown, HD.out.grown⟩
                  · go_wp2_with fail
                    have hb1 : Below w1.heap.size w1 (w1.alloc (.cells #[.int .i64 (-1), .int .i64 6, .int .i64 4611686018427387904] 3)) := (Below.refl _ _).alloc (Nat.le_refl _) _
                    have hs : (w1.alloc (.cells #[.int .i64 (-1), .int .i64 6, .int .i64 4611686018427387904] 3)).heap[w1.heap.size]? = some (.cells #[.int .i64 (-1), .int .i64 6, .int .i64 4611686018427387904] 3 (0, 0)) := heap_alloc_new _ _
                    have hsB : w1.heap.size ≠ B := by have := HD.out.lt; omega
                    replace h2 := row_keep hb1 h2; replace h3 := row_keep hb1 h3; have HD' : Hid _ := HD.out.below hb1; clear HD; have HD := HD'; clear HD'
                    obtain ⟨gs, hgs⟩ : ∃ gs, gs = w1.heap.size := ⟨_, rfl⟩
                    rw [← hgs] at hs hsB ⊢
                    clear hb1 hgs
                    generalize w1.alloc (.cells #[.int .i64 (-1), .int .i64 6, .int .i64 4611686018427387904] 3) = w1 at *
                    refine QN.intro ?_
                    refine wpAny_fork1 3 (by kernel_rfl) rfl ?_
                    go_wp2_with first
                      | (go_at_call 42; (with_reducible refine Calls.mono (pick_d 4 (by omega) (by omega) _ (by omega) (by omega) HD.out) ?_); rintro e w1 ⟨r, i1, rfl, hr, hi1, hD1, hg1⟩; (try replace hs := row_grown hs hg1 hsB); (try replace h2 := row_grown h2 hg1 (by omega)); (try replace h3 := row_grown h3 hg1 (by omega)); clear HD; have HD : Hid (DD w w1 B K p n c i1) := hD1; clear hD1 hg1; have hr4 : (r : Int) < 4 := (by omega))
                    refine QN.intro ?_
                    refine wpAny_fork1 6 (by kernel_rfl) rfl ?_
                    go_wp2_with first
                      | (go_at_call 44; (with_reducible refine Calls.mono (amongr_d [-1, 6, 4611686018427387904] (by simp) (by simp) (by omega) (by omega) hs hsB (by omega) HD.out) ?_); rintro e w1 ⟨ux, i1, rfl, hx, hi1, hD1, hg1⟩; clear hs hsB; (try replace hs := row_grown hs hg1 hsB); (try replace h2 := row_grown h2 hg1 (by omega)); (try replace h3 := row_grown h3 hg1 (by omega)); clear HD; have HD : Hid (DD w w1 B K p n c i1) := hD1; clear hD1 hg1; clear hx)
                    refine QN.intro ?_
                    refine wpAny_fork1 9 (by kernel_rfl) rfl ?_
                    go_wp2_with fail
                    refine QN.intro ?_
                    refine wpAny_fork1 10 (by kernel_rfl) rfl ?_
                    go_wp2_with first
                      | ((with_reducible refine wpList_storePI rfl 3 _ _ rfl _ _ rfl rfl h3 size1 (by omega) (Below.refl w.heap.size _) hW3 ?_); intro w1 g3 ho g4; replace h2 := (ho _ hR3).trans h2; clear h3; have h3 := g3; have HD' : Hid _ := HD.out.belowK g4 (Nat.le_refl _); clear HD; have HD := HD'; clear HD' g3 ho g4)
                    refine QN.intro ?_
                    refine wpAny_end (by kernel_rfl) ?_
                    go_wp2_with first
                      | (with_reducible refine wpList_loadW rfl _ _ rfl _ rfl h3 agg24r size24r ?_)
                      | (with_reducible refine wpList_build0 rfl 27 rfl 24 zbuild24 ?_)
                      | ((with_reducible refine wpList_storeWN rfl _ _ _ rfl _ rfl rfl h2 size24r (Below.refl w.heap.size _) hW2 ?_); intro w1 g3 ho g4; clear h2; have h2 := g3; have HD' : Hid _ := HD.out.belowK g4 (Nat.le_refl _); clear HD; have HD := HD'; clear HD' g3 ho g4)
                    exact bodyPost_ret_by (results_cellA rfl _ _ _ _ _ _ _ rfl h2 agg24r size24r) rfl ⟨_, _, rfl, by omega, HD0.out.call HD.out.cur HD.out.grown, HD.out.grown⟩
                · go_wp2_with fail
                  have hb1 : Below w1.heap.size w1 (w1.alloc (.cells #[.int .i64 (-1), .int .i64 6, .int .i64 4611686018427387904] 3)) := (Below.refl _ _).alloc (Nat.le_refl _) _
                  have hs : (w1.alloc (.cells #[.int .i64 (-1), .int .i64 6, .int .i64 4611686018427387904] 3)).heap[w1.heap.size]? = some (.cells #[.int .i64 (-1), .int .i64 6, .int .i64 4611686018427387904] 3 (0, 0)) := heap_alloc_new _ _
                  have hsB : w1.heap.size ≠ B := by have := HD.out.lt; omega
                  replace h2 := row_keep hb1 h2; replace h3 := row_keep hb1 h3; have HD' : Hid _ := HD.out.below hb1; clear HD; have HD := HD'; clear HD'
                  obtain ⟨gs, hgs⟩ : ∃ gs, gs = w1.heap.size := ⟨_, rfl⟩
                  rw [← hgs] at hs hsB ⊢
                  clear hb1 hgs
                  generalize w1.alloc (.cells #[.int .i64 (-1), .int .i64 6, .int .i64 4611686018427387904] 3) = w1 at *
                  refine QN.intro ?_
                  refine wpAny_fork1 1 (by kernel_rfl) rfl ?_
                  go_wp2_with first
                    | (go_at_call 42; (with_reducible refine Calls.mono (pick_d 6 (by omega) (by omega) _ (by omega) (by omega) HD.out) ?_); rintro e w1 ⟨r, i1, rfl, hr, hi1, hD1, hg1⟩; (try replace hs := row_grown hs hg1 hsB); (try replace h2 := row_grown h2 hg1 (by omega)); (try replace h3 := row_grown h3 hg1 (by omega)); clear HD; have HD : Hid (DD w w1 B K p n c i1) := hD1; clear hD1 hg1; have hr6 : (r : Int) < 6 := (by omega))
                  refine QN.intro ?_
                  refine wpAny_peel1 8 (by kernel_rfl) rfl (by kernel_rfl) ?_
                  repeat (first
                    | ((with_reducible refine wpCalm_step (fun K hK => ?_)); go_simp; (first | (refine ⟨_, fun _ _ => rfl, hK _ ?_⟩) | (refine hK _ ?_)); clear hK K))
                  refine wpCalm_nil ?_
                  refine wpAny_fork1 3 (by kernel_rfl) rfl ?_
                  go_wp2_with first
                    | (go_at_call 42; (with_reducible refine Calls.mono (pick_d 4 (by omega) (by omega) _ (by omega) (by omega) HD.out) ?_); rintro e w1 ⟨r, i1, rfl, hr, hi1, hD1, hg1⟩; (try replace hs := row_grown hs hg1 hsB); (try replace h2 := row_grown h2 hg1 (by omega)); (try replace h3 := row_grown h3 hg1 (by omega)); clear HD; have HD : Hid (DD w w1 B K p n c i1) := hD1; clear hD1 hg1; have hr4 : (r : Int) < 4 := (by omega))
                  refine QN.intro ?_
                  refine wpAny_fork1 6 (by kernel_rfl) rfl ?_
                  go_wp2_with first
                    | (go_at_call 44; (with_reducible refine Calls.mono (amongr_d [-1, 6, 4611686018427387904] (by simp) (by simp) (by omega) (by omega) hs hsB (by omega) HD.out) ?_); rintro e w1 ⟨ux, i1, rfl, hx, hi1, hD1, hg1⟩; clear hs hsB; (try replace hs := row_grown hs hg1 hsB); (try replace h2 := row_grown h2 hg1 (by omega)); (try replace h3 := row_grown h3 hg1 (by omega)); clear HD; have HD : Hid (DD w w1 B K p n c i1) := hD1; clear hD1 hg1; clear hx)
                  refine QN.intro ?_
                  refine wpAny_fork1 9 (by kernel_rfl) rfl ?_
                  go_wp2_with fail
                  refine QN.intro ?_
                  refine wpAny_fork1 10 (by kernel_rfl) rfl ?_
                  go_wp2_with first
                    | ((with_reducible refine wpList_storePI rfl 3 _ _ rfl _ _ rfl rfl h3 size1 (by omega) (Below.refl w.heap.size _) hW3 ?_); intro w1 g3 ho g4; replace h2 := (ho _ hR3).trans h2; clear h3; have h3 := g3; have HD' : Hid _ := HD.out.belowK g4 (Nat.le_refl _); clear HD; have HD := HD'; clear HD' g3 ho g4)
                  refine QN.intro ?_
                  refine wpAny_end (by kernel_rfl) ?_
                  go_wp2_with first
                    | (with_reducible refine wpList_loadW rfl _ _ rfl _ rfl h3 agg24r size24r ?_)
                    | (with_reducible refine wpList_build0 rfl 27 rfl 24 zbuild24 ?_)
                    | ((with_reducible refine wpList_storeWN rfl _ _ _ rfl _ rfl rfl h2 size24r (Below.refl w.heap.size _) hW2 ?_); intro w1 g3 ho g4; clear h2; have h2 := g3; have HD' : Hid _ := HD.out.belowK g4 (Nat.le_refl _); clear HD; have HD := HD'; clear HD' g3 ho g4)
                  exact bodyPost_ret_by (results_cellA rfl _ _ _ _ _ _ _ rfl h2 agg24r size24r) rfl ⟨_, _, rfl, by omega, HD0.out.call HD.out.cur HD.out.grown, HD.out.grown⟩
              · exact bodyPost_ret_by (results_cellA rfl _ _ _ _ _ _ _ rfl h2 agg24r size24r) rfl ⟨_, _, rfl, by omega, HD0.out.call HD.out.cur HD.out.grown, HD.out.grown⟩
              · exact bodyPost_ret_by (results_cellA rfl _ _ _ _ _ _ _ rfl h2 agg24r size24r) rfl ⟨_, _, rfl, by omega, HD0.out.call HD.out.cur HD.out.grown, HD.out.grown⟩
              · exact bodyPost_ret_by (results_cellA rfl _ _ _ _ _ _ _ rfl h2 agg24r size24r) rfl ⟨_, _, rfl, by omega, HD0.out.call HD.out.cur HD.out.grown, HD.out.grown⟩
          · refine wp_region_fork [0, 2, 4, 7] [] [] 7 (fun l => l.take 1 ++ (l.drop 2).take 1 ++ (l.drop 4).take 1 ++ (l.drop 7).take 1) (fun l => []) (fun _ => True) (by kernel_rfl) (by kernel_rfl) (by kernel_rfl) (by kernel_rfl) trivial trivial ?_
            try simp only [List.take_succ_cons, List.take_zero, List.drop_succ_cons, List.drop_zero, List.singleton_append, List.cons_append, List.nil_append]
            repeat (first
              | ((with_reducible refine wpCalm_step (fun K hK => ?_)); go_simp; (first | (refine ⟨_, fun _ _ => rfl, hK _ ?_⟩) | (refine hK _ ?_)); clear hK K))
            refine wpCalm_nil ?_
            refine wpCalm_nil ?_
            have hb1 : Below w1.heap.size w1 { w1 with drawn := w1.drawn + 1 } := (Below.refl _ _).drew
            obtain ⟨w1, hwt⟩ : ∃ w2 : World, w2 = { w1 with drawn := w1.drawn + 1 } := ⟨_, rfl⟩
            rw [← hwt] at hb1 ⊢
            clear hwt
            replace h2 := row_keep hb1 h2
            replace h3 := row_keep hb1 h3
            have HD' : Hid _ := HD.out.below hb1
            clear HD hb1
            have HD := HD'
            clear HD'
            refine wpAny_fork2 1 5 (by kernel_rfl) rfl rfl ?_ ?_
            · go_wp2_with first
                | (go_at_call 42; (with_reducible refine Calls.mono (pick_d 6 (by omega) (by omega) _ (by omega) (by omega) HD.out) ?_); rintro e w1 ⟨r, i1, rfl, hr, hi1, hD1, hg1⟩; (try replace hs := row_grown hs hg1 hsB); (try replace h2 := row_grown h2 hg1 (by omega)); (try replace h3 := row_grown h3 hg1 (by omega)); clear HD; have HD : Hid (DD w w1 B K p n c i1) := hD1; clear hD1 hg1; have hr6 : (r : Int) < 6 := (by omega))
              refine QN.intro ?_
              refine wpAny_peel1 8 (by kernel_rfl) rfl (by kernel_rfl) ?_
              repeat (first
                | ((with_reducible refine wpCalm_step (fun K hK => ?_)); go_simp; (first | (refine ⟨_, fun _ _ => rfl, hK _ ?_⟩) | (refine hK _ ?_)); clear hK K))
              refine wpCalm_nil ?_
              refine wpAny_fork2 3 5 (by kernel_rfl) rfl rfl ?_ ?_
              · go_wp2_with first
                  | (go_at_call 42; (with_reducible refine Calls.mono (pick_d 4 (by omega) (by omega) _ (by omega) (by omega) HD.out) ?_); rintro e w1 ⟨r, i1, rfl, hr, hi1, hD1, hg1⟩; (try replace hs := row_grown hs hg1 hsB); (try replace h2 := row_grown h2 hg1 (by omega)); (try replace h3 := row_grown h3 hg1 (by omega)); clear HD; have HD : Hid (DD w w1 B K p n c i1) := hD1; clear hD1 hg1; have hr4 : (r : Int) < 4 := (by omega))
                refine QN.intro ?_
                refine wpAny_fork1 5 (by kernel_rfl) rfl ?_
                go_wp2_with fail
                have hb1 : Below w1.heap.size w1 (w1.alloc (.cells #[.int .i64 (-1), .int .i64 6, .int .i64 4611686018427387904] 3)) := (Below.refl _ _).alloc (Nat.le_refl _) _
                have hs : (w1.alloc (.cells #[.int .i64 (-1), .int .i64 6, .int .i64 4611686018427387904] 3)).heap[w1.heap.size]? = some (.cells #[.int .i64 (-1), .int .i64 6, .int .i64 4611686018427387904] 3 (0, 0)) := heap_alloc_new _ _
                have hsB : w1.heap.size ≠ B := by have := HD.out.lt; omega
                replace h2 := row_keep hb1 h2; replace h3 := row_keep hb1 h3; have HD' : Hid _ := HD.out.below hb1; clear HD; have HD := HD'; clear HD'
                obtain ⟨gs, hgs⟩ : ∃ gs, gs = w1.heap.size := ⟨_, rfl⟩
                rw [← hgs] at hs hsB ⊢
                clear hb1 hgs
                generalize w1.alloc (.cells #[.int .i64 (-1), .int .i64 6, .int .i64 4611686018427387904] 3) = w1 at *
                refine QN.intro ?_
                refine wpAny_fork1 6 (by kernel_rfl) rfl ?_
                go_wp2_with first
                  | (go_at_call 44; (with_reducible refine Calls.mono (amongr_d [-1, 6, 4611686018427387904] (by simp) (by simp) (by omega) (by omega) hs hsB (by omega) HD.out) ?_); rintro e w1 ⟨ux, i1, rfl, hx, hi1, hD1, hg1⟩; clear hs hsB; (try replace hs := row_grown hs hg1 hsB); (try replace h2 := row_grown h2 hg1 (by omega)); (try replace h3 := row_grown h3 hg1 (by omega)); clear HD; have HD : Hid (DD w w1 B K p n c i1) := hD1; clear hD1 hg1; clear hx)
                refine QN.intro ?_
                refine wpAny_fork1 9 (by kernel_rfl) rfl ?_
                go_wp2_with fail
                refine QN.intro ?_
                refine wpAny_fork1 10 (by kernel_rfl) rfl ?_
                go_wp2_with first
                  | ((with_reducible refine wpList_storePI rfl 3 _ _ rfl _ _ rfl rfl h3 size1 (by omega) (Below.refl w.heap.size _) hW3 ?_); intro w1 g3 ho g4; replace h2 := (ho _ hR3).trans h2; clear h3; have h3 := g3; have HD' : Hid _ := HD.out.belowK g4 (Nat.le_refl _); clear HD; have HD := HD'; clear HD' g3 ho g4)
                refine QN.intro ?_
                refine wpAny_end (by kernel_rfl) ?_
                go_wp2_with first
                  | (with_reducible refine wpList_loadW rfl _ _ rfl _ rfl h3 agg24r size24r ?_)
                  | (with_reducible refine wpList_build0 rfl 27 rfl 24 zbuild24 ?_)
                  | ((with_reducible refine wpList_storeWN rfl _ _ _ rfl _ rfl rfl h2 size24r (Below.refl w.heap.size _) hW2 ?_); intro w1 g3 ho g4; clear h2; have h2 := g3; have HD' : Hid _ := HD.out.belowK g4 (Nat.le_refl _); clear HD; have HD := HD'; clear HD' g3 ho g4)
                exact bodyPost_ret_by (results_cellA rfl _ _ _ _ _ _ _ rfl h2 agg24r size24r) rfl ⟨_, _, rfl, by omega, HD0.out.call HD.out.cur HD.out.grown, HD.out.grown⟩
              · go_wp2_with fail
                have hb1 : Below w1.heap.size w1 (w1.alloc (.cells #[.int .i64 (-1), .int .i64 6, .int .i64 4611686018427387904] 3)) := (Below.refl _ _).alloc (Nat.le_refl _) _
                have hs : (w1.alloc (.cells #[.int .i64 (-1), .int .i64 6, .int .i64 4611686018427387904] 3)).heap[w1.heap.size]? = some (.cells #[.int .i64 (-1), .int .i64 6, .int .i64 4611686018427387904] 3 (0, 0)) := heap_alloc_new _ _
                have hsB : w1.heap.size ≠ B := by have := HD.out.lt; omega
                replace h2 := row_keep hb1 h2; replace h3 := row_keep hb1 h3; have HD' : Hid _ := HD.out.below hb1; clear HD; have HD := HD'; clear HD'
                obtain ⟨gs, hgs⟩ : ∃ gs, gs = w1.heap.size := ⟨_, rfl⟩
                rw [← hgs] at hs hsB ⊢
                clear hb1 hgs
                generalize w1.alloc (.cells #[.int .i64 (-1), .int .i64 6, .int .i64 4611686018427387904] 3) = w1 at *
                refine QN.intro ?_
                refine wpAny_fork1 3 (by kernel_rfl) rfl ?_
                go_wp2_with first
                  | (go_at_call 42; (with_reducible refine Calls.mono (pick_d 4 (by omega) (by omega) _ (by omega) (by omega) HD.out) ?_); rintro e w1 ⟨r, i1, rfl, hr, hi1, hD1, hg1⟩; (try replace hs := row_grown hs hg1 hsB); (try replace h2 := row_grown h2 hg1 (by omega)); (try replace h3 := row_grown h3 hg1 (by omega)); clear HD; have HD : Hid (DD w w1 B K p n c i1) := hD1; clear hD1 hg1; have hr4 : (r : Int) < 4 := (by omega))
                refine QN.intro ?_
                refine wpAny_fork1 6 (by kernel_rfl) rfl ?_
                go_wp2_with first
                  | (go_at_call 44; (with_reducible refine Calls.mono (amongr_d [-1, 6, 4611686018427387904] (by simp) (by simp) (by omega) (by omega) hs hsB (by omega) HD.out) ?_); rintro e w1 ⟨ux, i1, rfl, hx, hi1, hD1, hg1⟩; clear hs hsB; (try replace hs := row_grown hs hg1 hsB); (try replace h2 := row_grown h2 hg1 (by omega)); (try replace h3 := row_grown h3 hg1 (by omega)); clear HD; have HD : Hid (DD w w1 B K p n c i1) := hD1; clear hD1 hg1; clear hx)
                refine QN.intro ?_
                refine wpAny_fork1 9 (by kernel_rfl) rfl ?_
                go_wp2_with fail
                refine QN.intro ?_
                refine wpAny_fork1 10 (by kernel_rfl) rfl ?_
                go_wp2_with first
                  | ((with_reducible refine wpList_storePI rfl 3 _ _ rfl _ _ rfl rfl h3 size1 (by omega) (Below.refl w.heap.size _) hW3 ?_); intro w1 g3 ho g4; replace h2 := (ho _ hR3).trans h2; clear h3; have h3 := g3; have HD' : Hid _ := HD.out.belowK g4 (Nat.le_refl _); clear HD; have HD := HD'; clear HD' g3 ho g4)
                refine QN.intro ?_
                refine wpAny_end (by kernel_rfl) ?_
                go_wp2_with first
                  | (with_reducible refine wpList_loadW rfl _ _ rfl _ rfl h3 agg24r size24r ?_)
                  | (with_reducible refine wpList_build0 rfl 27 rfl 24 zbuild24 ?_)
                  | ((with_reducible refine wpList_storeWN rfl _ _ _ rfl _ rfl rfl h2 size24r (Below.refl w.heap.size _) hW2 ?_); intro w1 g3 ho g4; clear h2; have h2 := g3; have HD' : Hid _ := HD.out.belowK g4 (Nat.le_refl _); clear HD; have HD := HD'; clear HD' g3 ho g4)
                exact bodyPost_ret_by (results_cellA rfl _ _ _ _ _ _ _ rfl h2 agg24r size24r) rfl ⟨_, _, rfl, by omega, HD0.out.call HD.out.cur HD.out.grown, HD.out.grown⟩
            · go_wp2_with fail
              have hb1 : Below w1.heap.size w1 (w1.alloc (.cells #[.int .i64 (-1), .int .i64 6, .int .i64 4611686018427387904] 3)) := (Below.refl _ _).alloc (Nat.le_refl _) _
              have hs : (w1.alloc (.cells #[.int .i64 (-1), .int .i64 6, .int .i64 4611686018427387904] 3)).heap[w1.heap.size]? = some (.cells #[.int .i64 (-1), .int .i64 6, .int .i64 4611686018427387904] 3 (0, 0)) := heap_alloc_new _ _
              have hsB : w1.heap.size ≠ B := by have := HD.out.lt; omega
              replace h2 := row_keep hb1 h2; replace h3 := row_keep hb1 h3; have HD' : Hid _ := HD.out.below hb1; clear HD; have HD := HD'; clear HD'
              obtain ⟨gs, hgs⟩ : ∃ gs, gs = w1.heap.size := ⟨_, rfl⟩
              rw [← hgs] at hs hsB ⊢
              clear hb1 hgs
              generalize w1.alloc (.cells #[.int .i64 (-1), .int .i64 6, .int .i64 4611686018427387904] 3) = w1 at *
              refine QN.intro ?_
              refine wpAny_fork1 1 (by kernel_rfl) rfl ?_
              go_wp2_with first
                | (go_at_call 42; (with_reducible refine Calls.mono (pick_d 6 (by omega) (by omega) _ (by omega) (by omega) HD.out) ?_); rintro e w1 ⟨r, i1, rfl, hr, hi1, hD1, hg1⟩; (try replace hs := row_grown hs hg1 hsB); (try replace h2 := row_grown h2 hg1 (by omega)); (try replace h3 := row_grown h3 hg1 (by omega)); clear HD; have HD : Hid (DD w w1 B K p n c i1) := hD1; clear hD1 hg1; have hr6 : (r : Int) < 6 := (by omega))
              refine QN.intro ?_
              refine wpAny_peel1 8 (by kernel_rfl) rfl (by kernel_rfl) ?_
              repeat (first
                | ((with_reducible refine wpCalm_step (fun K hK => ?_)); go_simp; (first | (refine ⟨_, fun _ _ => rfl, hK _ ?_⟩) | (refine hK _ ?_)); clear hK K))
              refine wpCalm_nil ?_
              refine wpAny_fork1 3 (by kernel_rfl) rfl ?_
              go_wp2_with first
                | (go_at_call 42; (with_reducible refine Calls.mono (pick_d 4 (by omega) (by omega) _ (by omega) (by omega) HD.out) ?_); rintro e w1 ⟨r, i1, rfl, hr, hi1, hD1, hg1⟩; (try replace hs := row_grown hs hg1 hsB); (try replace h2 := row_grown h2 hg1 (by omega)); (try replace h3 := row_grown h3 hg1 (by omega)); clear HD; have HD : Hid (DD w w1 B K p n c i1) := hD1; clear hD1 hg1; have hr4 : (r : Int) < 4 := (by omega))
              refine QN.intro ?_
              refine wpAny_fork1 6 (by kernel_rfl) rfl ?_
              go_wp2_with first
                | (go_at_call 44; (with_reducible refine Calls.mono (amongr_d [-1, 6, 4611686018427387904] (by simp) (by simp) (by omega) (by omega) hs hsB (by omega) HD.out) ?_); rintro e w1 ⟨ux, i1, rfl, hx, hi1, hD1, hg1⟩; clear hs hsB; (try replace hs := row_grown hs hg1 hsB); (try replace h2 := row_grown h2 hg1 (by omega)); (try replace h3 := row_grown h3 hg1 (by omega)); clear HD; have HD : Hid (DD w w1 B K p n c i1) := hD1; clear hD1 hg1; clear hx)
              refine QN.intro ?_
              refine wpAny_fork1 9 (by kernel_rfl) rfl ?_
              go_wp2_with fail
              refine QN.intro ?_
              refine wpAny_fork1 10 (by kernel_rfl) rfl ?_
              go_wp2_with first
                | ((with_reducible refine wpList_storePI rfl 3 _ _ rfl _ _ rfl rfl h3 size1 (by omega) (Below.refl w.heap.size _) hW3 ?_); intro w1 g3 ho g4; replace h2 := (ho _ hR3).trans h2; clear h3; have h3 := g3; have HD' : Hid _ := HD.out.belowK g4 (Nat.le_refl _); clear HD; have HD := HD'; clear HD' g3 ho g4)
              refine QN.intro ?_
              refine wpAny_end (by kernel_rfl) ?_
              go_wp2_with first
                | (with_reducible refine wpList_loadW rfl _ _ rfl _ rfl h3 agg24r size24r ?_)
                | (with_reducible refine wpList_build0 rfl 27 rfl 24 zbuild24 ?_)
                | ((with_reducible refine wpList_storeWN rfl _ _ _ rfl _ rfl rfl h2 size24r (Below.refl w.heap.size _) hW2 ?_); intro w1 g3 ho g4; clear h2; have h2 := g3; have HD' : Hid _ := HD.out.belowK g4 (Nat.le_refl _); clear HD; have HD := HD'; clear HD' g3 ho g4)
              exact bodyPost_ret_by (results_cellA rfl _ _ _ _ _ _ _ rfl h2 agg24r size24r) rfl ⟨_, _, rfl, by omega, HD0.out.call HD.out.cur HD.out.grown, HD.out.grown⟩
          · exact bodyPost_ret_by (results_cellA rfl _ _ _ _ _ _ _ rfl h2 agg24r size24r) rfl ⟨_, _, rfl, by omega, HD0.out.call HD.out.cur HD.out.grown, HD.out.grown⟩
          · exact bodyPost_ret_by (results_cellA rfl _ _ _ _ _ _ _ rfl h2 agg24r size24r) rfl ⟨_, _, rfl, by omega, HD0.out.call HD.out.cur HD.out.grown, HD.out.grown⟩
          · exact bodyPost_ret_by (results_cellA rfl _ _ _ _ _ _ _ rfl h2 agg24r size24r) rfl ⟨_, _, rfl, by omega, HD0.out.call HD.out.cur HD.out.grown, HD.out.grown⟩
end Go.Proofs.YtlbgmkengkgnfaaGreat
end
