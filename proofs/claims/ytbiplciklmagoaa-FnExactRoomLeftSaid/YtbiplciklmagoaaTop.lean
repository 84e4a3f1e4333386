/- The top of a tube; whether one can pour. -/
import Derived.Test.YtbiplciklmagoaaRuns
import Derived.Test.YtbiplciklmagoaaPut
namespace Go.Proofs.Ytbiplciklmagoaa
set_option linter.unusedSimpArgs false
set_option linter.unusedVariables false
set_option maxRecDepth 20000
open Go.RowKit
theorem zeroP : ((Try.prog.info? 51).bind (·.zero)).map (·.cells) = some (arr 2 fun _ => 0) := by kernel_rfl
theorem tpF_eq {g : Nat → Int} {m : Nat} {F : Nat → Int} (h0 : 0 < nlay g) (hm : rN g (nlay g) = m + 1) (hF : ∀ j, j < (m + 1) * 2 → F j = rF g (nlay g) j) : F (m * 2) = (tpF g).1 ∧ F (m * 2 + 1) = (tpF g).2 := by
  rw [tpF_pos h0]
  have hl := rF_last g (nlay g) h0
  rw [hm, Nat.add_sub_cancel] at hl
  refine ⟨by rw [hF _ (by omega), hl], ?_⟩
  show _ = rT g (nlay g)
  unfold rT
  rw [hF _ (by omega), hm, Nat.add_sub_cancel]
theorem top_any (g : Nat → Int) (hg : tubeB g = true) (w : World) : Calls Try.prog 49 #[.agg (arr 4 g)] w fun e w' => e = .returned (.tuple #[.int .i64 (tpF g).1, .int .i64 (tpF g).2]) ∧ Below w.heap.size w w' := by
  have h1 : (w.alloc (.cells (arr 4 g) 22)).heap[w.heap.size]? = some (.cells (arr 4 g) 22 (0, 0))   := heap_new rfl
  have hbel : Below w.heap.size w (w.alloc (.cells (arr 4 g) 22)) := (Below.refl _ _).alloc (by simp) _
  have tok_h5 : True := trivial
  by_cases h0 : nlay g = 0
  · rw [tpF_zero h0]
    have HZ : Hid _ := h0
    clear h0
    go_enter Try.func49, Try.ntmps49
    go_wp2_with first
      | (with_reducible refine wpList_loadW rfl _ _ rfl _ rfl h1 agg4 size4 ?_)
      | (go_at_call 88; (with_reducible refine (runs_any g hg _).mono ?_); rintro e w1 ⟨v, rfl, hS, hb1⟩; rw [HZ.out] at hS; replace hbel := hbel.trans (hb1.mono hbel.size))
      | (with_reducible refine wpList_lenS slP.ht rfl _ rfl rfl hS ?_)
    go_ret2
    exact ⟨rfl, hbel⟩
  · have hp : 0 < nlay g := by omega
    obtain ⟨m, hm⟩ : ∃ m, rN g (nlay g) = m + 1 := ⟨rN g (nlay g) - 1, by have := rN_pos g _ hp; omega⟩
    have hm4 : m < 4 := by have := rN_le g (nlay g); have := nlay_le g; omega
    have HM : Hid _ := hm
    have HP : Hid _ := hp
    have hmi : (m : Int) < (m : Int) + 1 := by omega
    clear hm hp h0
    go_enter Try.func49, Try.ntmps49
    go_wp2_with first
      | (with_reducible refine wpList_loadW rfl _ _ rfl _ rfl h1 agg4 size4 ?_)
      | (go_at_call 88; (with_reducible refine (runs_any g hg _).mono ?_); rintro e w1 ⟨v, rfl, hS, hb1⟩; rw [HM.out] at hS; replace hbel := hbel.trans (hb1.mono hbel.size); obtain ⟨q, cap, F, rfl, hq1, hq2, hq3, hq4, hq5⟩ := hS.blk (by omega); clear hS; have HQ : Hid _ := hq5; clear hq5)
      | (with_reducible refine wpList_loadA rfl _ _ rfl _ _ rfl hq2 2 pairA pairS (by omega) ?_)
      | (with_reducible refine wpList_allocA rfl 51 rfl 2 zeroP ?_; (try simp only [size_al]))
      | (have _t := tok_h5; with_reducible refine wpList_storeN rfl _ _ _ rfl rfl rfl pairS ?_; intro w1 h5 hb1; replace hbel := hbel.trans (hb1.mono hbel.size); clear hb1 _t tok_h5)
    refine wp_region_held 6 (Cls w1 []) (by kernel_rfl) (by kernel_rfl) (Cls.zero (Below.refl _ _)) ?_; simp only [List.take_succ_cons, List.take_zero, List.drop_succ_cons, List.drop_zero]
    repeat (first
      | (with_reducible refine wpQuiet_loadI rfl _ _ rfl _ _ rfl (fun _ h => h.kp h5) aggI undI (by omega) ?_)
      | ((with_reducible refine wpQuiet_step (fun K hK => ?_)); go_simp; (first | (refine ⟨_, fun _ _ => rfl, hK _ ?_⟩) | (refine ⟨_, fun _ _ => ⟨rfl, rfl⟩, hK _ ?_⟩) | (refine hK _ ?_)); clear hK K))
    refine wpQuiet_nil ?_; intro wt hCt; replace hCt := hCt.2; replace hbel := hbel.trans (hCt.mono hbel.size); clear hCt
    go_wp2_with fail
    go_ret2
    obtain ⟨e1, e2⟩ := tpF_eq HP.out HM.out HQ.out
    refine ⟨?_, hbel⟩
    rw [← e1, ← e2]
    try rfl
theorem l2Top_any (g : Nat → Int) (hg : tubeB g = true) (w : World) : Calls Try.prog 45 #[.agg (arr 4 g)] w fun e w' => e = .returned (.tuple #[.int .i64 (tpF g).1, .int .i64 (tpF g).2]) ∧ Below w.heap.size w w' := by
  have h1 : (w.alloc (.cells (arr 4 g) 22)).heap[w.heap.size]? = some (.cells (arr 4 g) 22 (0, 0))   := heap_new rfl
  have hbel : Below w.heap.size w (w.alloc (.cells (arr 4 g) 22)) := (Below.refl _ _).alloc (by simp) _
  by_cases h0 : nlay g = 0
  · rw [tpF_zero h0]
    have HZ : Hid _ := h0
    clear h0
    go_enter Try.func45, Try.ntmps45
    go_wp2_with first
      | (with_reducible refine wpList_loadW rfl _ _ rfl _ rfl h1 agg4 size4 ?_)
      | (go_at_call 79; (with_reducible refine (l2Many_ok g hg _).mono ?_); rw [HZ.out]; rintro e w1 ⟨rfl, hb1⟩; replace hbel := hbel.trans (hb1.mono hbel.size); replace h1 := row_keep hb1 h1; clear hb1)
    go_ret2
    exact ⟨rfl, hbel⟩
  · obtain ⟨R, r1, r2, r3, r4, r5⟩ := rT_spec g (nlay g) (by omega)
    obtain ⟨N, hN⟩ : ∃ N, nlay g = N := ⟨_, rfl⟩
    have hn4 := nlay_le g
    rw [tpF_pos (by omega)]
    rw [hN] at r1 r3 r4 r5 hn4 h0 ⊢
    rw [r1]
    have HN : Hid _ := hN
    have hN1 : 0 < N := by omega
    have hN2 : ((N : Int) == 0) = false := by simpa using h0
    have H4 : Hid _ := r4
    have H5 : Hid _ := r5
    clear hN r1 r4 r5 h0
    go_enter Try.func45, Try.ntmps45
    go_wp2_with first
      | (with_reducible refine wpList_loadW rfl _ _ rfl _ rfl h1 agg4 size4 ?_)
      | (go_at_call 79; (with_reducible refine (l2Many_ok g hg _).mono ?_); rw [HN.out]; rintro e w1 ⟨rfl, hb1⟩; replace hbel := hbel.trans (hb1.mono hbel.size); replace h1 := row_keep hb1 h1; clear hb1)
    clear hN2
    go_loopw [5] (fun i wr => ∃ r : Nat, r ≤ R ∧ i = .int .i64 r ∧ wr.heap[w.heap.size]? = some (.cells (arr 4 g) 22 (0, 0)) ∧ Below w.heap.size w wr) (fun i _ => R - (intOf i).toNat)
    case atStart => exact ⟨0, by omega, rfl, h1, hbel⟩
    case round =>
      clear h1 hbel
      obtain ⟨r, hr, rfl, h1, hbel⟩ := hrel
      have hd := Nat.lt_or_ge r N
      by_cases hc : r < N
      · have hcd : decide (r < N) = true := by simpa using hc
        have i1 : ((N - 1 - r : Nat) : Int) < 4 := by omega
        have i2 : ((N - 1 : Nat) : Int) < 4 := by omega
        have hw1 : IntKind.i64.wrap ((N : Int) - 1) = ((N - 1 : Nat) : Int) := wrapN (by omega) (by omega)
        have hw2 : IntKind.i64.wrap (((N - 1 : Nat) : Int) - (r : Int)) = ((N - 1 - r : Nat) : Int) := by clear hw1; exact wrapN (by omega) (by omega)
        have k1 : N - 1 - r < 4 := by clear hw1 hw2; omega
        have k2 : N - 1 < 4 := by clear hw1 hw2; omega
        clear hd hc
        by_cases hR : r < R
        · have he := H4.out r hR
          have hed : (g (N - 1 - r) == g (N - 1)) = true := by simpa using he
          clear he
          go_wp2_with fail
          refine wp_region_held 16 (Cls wr []) (by kernel_rfl) (by kernel_rfl) (Cls.zero (Below.refl _ _)) ?_; simp only [List.take_succ_cons, List.take_zero, List.drop_succ_cons, List.drop_zero]
          repeat (first
            | (with_reducible refine wpQuiet_loadI rfl _ _ rfl _ _ rfl (fun _ h => h.kp h1) aggI undI k1 ?_)
            | (with_reducible refine wpQuiet_loadI rfl _ _ rfl _ _ rfl (fun _ h => h.kp h1) aggI undI k2 ?_)
            | ((with_reducible refine wpQuiet_step (fun K hK => ?_)); go_simp; (first | (refine ⟨_, fun _ _ => rfl, hK _ ?_⟩) | (refine ⟨_, fun _ _ => ⟨rfl, rfl⟩, hK _ ?_⟩) | (refine hK _ ?_)); clear hK K))
          refine wpQuiet_nil ?_; intro wt hCt; replace hCt := hCt.2; replace hbel := hbel.trans (hCt.mono hbel.size); replace h1 := row_keep hCt h1; clear hCt
          clear hw1 hw2
          go_wp2_with fail
          go_roundw
          case rel => exact ⟨r + 1, by omega, by go_num, h1, hbel⟩
          case measure => simp [intOf]; omega
        · obtain rfl : r = R := by clear hw1 hw2; omega
          have hed : (g (N - 1 - r) == g (N - 1)) = false := by
            rcases H5.out with h | h
            · exfalso; clear hw1 hw2; simp at hcd; omega
            · simpa using h
          go_wp2_with fail
          refine wp_region_held 16 (Cls wr []) (by kernel_rfl) (by kernel_rfl) (Cls.zero (Below.refl _ _)) ?_; simp only [List.take_succ_cons, List.take_zero, List.drop_succ_cons, List.drop_zero]
          repeat (first
            | (with_reducible refine wpQuiet_loadI rfl _ _ rfl _ _ rfl (fun _ h => h.kp h1) aggI undI k1 ?_)
            | (with_reducible refine wpQuiet_loadI rfl _ _ rfl _ _ rfl (fun _ h => h.kp h1) aggI undI k2 ?_)
            | ((with_reducible refine wpQuiet_step (fun K hK => ?_)); go_simp; (first | (refine ⟨_, fun _ _ => rfl, hK _ ?_⟩) | (refine ⟨_, fun _ _ => ⟨rfl, rfl⟩, hK _ ?_⟩) | (refine hK _ ?_)); clear hK K))
          refine wpQuiet_nil ?_; intro wt hCt; replace hCt := hCt.2; replace hbel := hbel.trans (hCt.mono hbel.size); replace h1 := row_keep hCt h1; clear hCt
          clear hw1 hw2
          go_wp2_with first
            | (with_reducible refine wpList_loadI rfl _ _ rfl _ _ rfl h1 aggI undI k2 ?_)
          go_ret2
          exact ⟨rfl, hbel⟩
      · have hcd : decide (r < N) = false := by simpa using hc
        obtain rfl : r = R := by omega
        have k2 : N - 1 < 4 := by omega
        have i2 : ((N - 1 : Nat) : Int) < 4 := by omega
        have hrN : ¬ ((r : Int) < (N : Int)) := by omega
        clear hd
        go_wp2_with fail
        refine wp_region_held 16 (Cls wr []) (by kernel_rfl) (by kernel_rfl) (Cls.zero (Below.refl _ _)) ?_; simp only [List.take_succ_cons, List.take_zero, List.drop_succ_cons, List.drop_zero]
        repeat (first
          | (with_reducible refine wpQuiet_loadI rfl _ _ rfl _ _ rfl (fun _ h => h.kp h1) aggI undI k2 ?_)
          | ((with_reducible refine wpQuiet_step (fun K hK => ?_)); go_simp; (first | (refine ⟨_, fun _ _ => rfl, hK _ ?_⟩) | (refine ⟨_, fun _ _ => ⟨rfl, rfl⟩, hK _ ?_⟩) | (refine hK _ ?_)); clear hK K))
        refine wpQuiet_nil ?_; intro wt hCt; replace hCt := hCt.2; replace hbel := hbel.trans (hCt.mono hbel.size); replace h1 := row_keep hCt h1; clear hCt
        go_wp2_with first
          | (with_reducible refine wpList_loadI rfl _ _ rfl _ _ rfl h1 aggI undI k2 ?_)
        go_ret2
        exact ⟨rfl, hbel⟩
end Go.Proofs.Ytbiplciklmagoaa
