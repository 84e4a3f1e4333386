/- How many orders a rack has: the program's walk, and the law. -/
import Derived.Test.YtlbgmkengkgnfaaCoW
namespace Go.Proofs.Ytlbgmkengkgnfaa
set_option linter.unusedSimpArgs false
set_option linter.unusedVariables false
set_option maxRecDepth 20000
open Go.RowKit Go.Maps
theorem below_grownB {K : Nat} {w w' : World} {row : Option Nat} (h : w.grownBy w' row) (hK : K ≤ w.heap.size) (hr : ∀ k, row = some k → K ≤ k) : Below K w w' :=
  ⟨h.os, h.tape, h.output, h.size, fun k hk => h.block k (by omega) (fun e => by have := hr k e.symm; omega)⟩
theorem mD_zero (f : Nat → Int) : mD f 0 = .map [] := by unfold mD; rfl
theorem mD_succ (f : Nat → Int) (n : Nat) : mD f (n + 1) = (mD f n).put (kd f n) (.lit (.int .i64 ((cK f n (kd f n) : Nat) + 1))) := by rw [mD]
set_option maxHeartbeats 1000000 in
theorem implCo_any (f : Nat → Int) (w : World) : Calls Try.prog 7 #[.agg (arr 24 f)] w fun e w' => e = .returned (.tuple #[.int .i64 (coR f).1, .bool (coR f).2]) ∧ Below w.heap.size w w' := by
  have h1 : (w.alloc (.cells (arr 24 f) 28)).heap[w.heap.size]? = some (.cells (arr 24 f) 28 (0, 0))   := heap_new rfl
  have hbel : Below w.heap.size w (w.alloc (.cells (arr 24 f) 28)) := (Below.refl _ _).alloc (by simp) _
  unfold coR
  cases hf : rackB f with
  | false =>
    have HF : Hid _ := hf
    simp only [Bool.false_eq_true, if_false]
    clear hf
    go_enter Try.func7, Try.ntmps7
    go_wp2_with first
      | (with_reducible refine wpList_loadW rfl _ _ rfl _ rfl h1 agg24r size24r ?_)
      | (go_at_call 10; (with_reducible refine (l2Rack_at HF.out _).mono ?_); rintro e w1 ⟨rfl, hb1⟩; replace hbel := hbel.trans (hb1.mono hbel.size); replace h1 := row_keep hb1 h1; clear hb1)
      | (go_at_call 13; (with_reducible refine (IsRack_at HF.out _).mono ?_); rintro e w1 ⟨rfl, hb1⟩; replace hbel := hbel.trans (hb1.mono hbel.size); replace h1 := row_keep hb1 h1; clear hb1)
    go_ret2
    exact ⟨rfl, hbel⟩
  | true =>
    have HF : Hid _ := hf
    have hc := cellB_of_rack hf
    have HCB : Hid _ := hc
    simp only [if_true]
    clear hf
    have hmm := @run_makeMap Try.prog
    have tok_h6 : True := trivial
    go_enter Try.func7, Try.ntmps7
    go_wp2_with first
      | (with_reducible refine wpList_loadW rfl _ _ rfl _ rfl h1 agg24r size24r ?_)
      | (go_at_call 13; (with_reducible refine (IsRack_at HF.out _).mono ?_); rintro e w1 ⟨rfl, hb1⟩; replace hbel := hbel.trans (hb1.mono hbel.size); replace h1 := row_keep hb1 h1; clear hb1)
      | (with_reducible refine wpList_loadW rfl _ _ rfl _ rfl (row_alloc h1) agg24 size24 ?_)
    have ho := World.ownsMap_made w1 Try.prog 22 (plainElem (H := Unit) Try.prog 3)
    rw [← mD_zero f] at ho
    have hB1 := row_lt h1
    replace h1 := row_alloc (x := .map #[] 0) h1
    have hBl := hbel.size
    replace hbel := hbel.alloc hbel.size (.map #[] 0)
    obtain ⟨BM, hBM⟩ : ∃ B, B = w1.heap.size := ⟨_, rfl⟩
    rw [← hBM] at ho hBl hB1 ⊢
    generalize w1.alloc (.map #[] 0) = wm at *
    clear hBM hmm
    go_loopw [16] (fun i wr => ∃ n : Nat, n ≤ 6 ∧ i = .int .i64 n ∧ wr.heap[w.heap.size]? = some (.cells (arr 24 f) 28 (0, 0)) ∧ wr.ownsMap Try.prog 22 (plainElem (H := Unit) Try.prog 3) BM n (mD f n) ∧ Below w.heap.size w wr) (fun i _ => 6 - (intOf i).toNat)
    case atStart => exact ⟨0, by omega, rfl, h1, ho, hbel⟩
    case round =>
      clear h1 ho hbel
      obtain ⟨n, hn, rfl, h1, ho, hbo⟩ := hrel
      obtain ⟨wo, hwo⟩ : ∃ wo : World, wo = wr := ⟨_, rfl⟩
      subst hwo
      by_cases hlt : n < 6
      · have hlt' : (n : Int) < 6 := by omega
        have hbel := Below.refl wo.heap.size wo
        have hk := kd_key hc hlt
        have HO : Hid _ := ho
        go_wp2_with first
          | (with_reducible refine wpList_indexA rfl _ _ _ rfl rfl rfl 6 _ Try.underlying23 4 agg4 size4 (by omega) rfl ?_)
          | (have _t := tok_h6; with_reducible refine wpList_allocN rfl 22 rfl 4 zero4 ?_; intro Bh6 w1 hBh6 h6 hb1; have hWh6 := Nat.le_trans hbel.size hBh6; replace hbel := hbel.trans (hb1.mono hbel.size); clear hb1 _t tok_h6)
          | (with_reducible refine wpList_storeWN rfl _ _ _ rfl _ rfl rfl h6 size4 hbel hWh6 ?_; intro w1 g3 ho g4; clear h6 hbel; have h6 := g3; have hbel := g4; clear g3 g4 ho)
        have how := owns_of_block ho (hbel.block BM ho.lt)
        refine wp_region_fork [0] [] [] 6 (fun l => l.take 1) (fun l => []) (Cls w _) (by kernel_rfl) (by kernel_rfl) (by kernel_rfl) (by kernel_rfl) trivial (Cls.one h6 (hbo.trans (hbel.mono hbo.size))) ?_; try simp only [List.take_succ_cons, List.take_zero, List.drop_succ_cons, List.drop_zero, List.singleton_append, List.cons_append, List.nil_append]
        repeat (first
          | ((with_reducible refine wpCalm_step (fun K hK => ?_)); go_simp; (first | (refine ⟨_, fun _ _ => rfl, hK _ ?_⟩) | (refine hK _ ?_)); clear hK K))
        refine wpCalm_nil ?_
        refine wpCalm_nil ?_
        obtain ⟨wt, hwt⟩ : ∃ wt : World, wt = { w1 with drawn := w1.drawn + 1 } := ⟨_, rfl⟩
        rw [← hwt]
        have h6t : wt.heap[Bh6]? = some (.cells (arr 4 fun j => f (n * 4 + j)) 22 (0, 0)) := by rw [hwt]; exact h6
        have howt := owns_of_block (w' := wt) how (by rw [hwt])
        have hbt : Below wo.heap.size wo wt := by rw [hwt]; exact hbel.drew
        clear hwt h6 how hbel
        have h6 := h6t
        have hbel := hbt
        obtain ⟨c, v0, st, w2, hat, hlk, hme, hlk2, _, hes⟩ := bump_runs keyLaw Try.underlying36 Try.underlying3 zeroIn howt (by unfold maxLen; omega) hk
        rw [mD_at] at hat
        have hcb := cK_bd f n (kd f n)
        obtain rfl : ((cK f n (kd f n) : Nat) : Int) = c := by injection hat with h5; injection h5
        obtain ⟨w3, hst, ho3, hg3⟩ := hes (((cK f n (kd f n) : Nat) : Int) + 1) (lit_wf (by omega))
        rw [← mD_succ] at ho3
        have hb3 : Below w.heap.size w w3 := (hbo.trans (hbt.mono hbo.size)).trans (below_grownB hg3 (Nat.le_trans hbo.size hbt.size) (fun k hk => by injection hk; omega))
        have h13 := (hg3.block w.heap.size (Nat.lt_of_lt_of_le (row_lt h1) hbt.size) (fun e => by injection e; omega)).trans ((hbt.block w.heap.size (row_lt h1)).trans h1)
        have HO3 : Hid _ := fun (_u : Unit) => ho3
        have H13 : Hid _ := h13
        have HLA : Hid _ := hlk
        have HLB : Hid _ := hlk2
        have HME : Hid _ := hme
        have hes2 : (Instr.entryStore 36 (.map (some BM)) (.int .i64 ((st : Nat) : Int)) (.int .i64 (((cK f n (kd f n) : Nat) : Int) + 1))).run Try.prog w2 = .ok () w3 := hst
        generalize cK f n (kd f n) = c0 at *
        clear hlk hlk2 hme hst h13 ho3 hes hat h6t hbt howt ho HO hk
        have hwp : IntKind.i64.wrap ((c0 : Int) + 1) = (c0 : Int) + 1 := IntWalk.i64_in _ (by omega)
        refine wpAny_fork1 1 (by kernel_rfl) rfl ?_
        go_wp2_with first
          | (with_reducible refine wpList_loadW rfl _ _ rfl _ rfl h6 agg4 size4 ?_)
        refine QN.intro ?_
        refine wpAny_fork2 2 4 (by kernel_rfl) rfl rfl ?_ ?_
        · go_wp2_with first
            | (with_reducible refine wpList_lookupE rfl _ _ _ rfl rfl rfl HLA.out ?_)
            | (with_reducible refine wpList_lookupE rfl _ _ _ rfl rfl rfl HLB.out ?_)
          refine QN.intro ?_
          refine wpAny_peel1 3 (by kernel_rfl) rfl (by kernel_rfl) ?_
          repeat (first
            | ((with_reducible refine wpCalm_step (fun K hK => ?_)); go_simp; (first | (refine ⟨_, fun _ _ => rfl, hK _ ?_⟩) | (refine hK _ ?_)); clear hK K))
          refine wpCalm_nil ?_
          refine wpAny_fork1 4 (by kernel_rfl) rfl ?_
          go_wp2_with first
            | (with_reducible refine wpList_mapEntryE rfl _ _ _ rfl rfl rfl HME.out ?_)
          refine QN.intro ?_
          refine wpAny_peel1 5 (by kernel_rfl) rfl (by kernel_rfl) ?_
          repeat (first
            | ((with_reducible refine wpCalm_step (fun K hK => ?_)); go_simp; (first | (refine ⟨_, fun _ _ => rfl, hK _ ?_⟩) | (refine hK _ ?_)); clear hK K))
          refine wpCalm_nil ?_
          refine wpAny_fork1 6 (by kernel_rfl) rfl ?_
          go_wp2_with first
            | (with_reducible refine wpList_entryStoreE rfl _ _ _ _ rfl rfl rfl rfl hes2 ?_)
          refine QN.intro ?_
          refine wpAny_end (by kernel_rfl) ?_
          go_wp2_with fail
          go_roundw
          case rel => exact ⟨n + 1, by omega, by go_num, H13.out, HO3.out (), hb3⟩
          case measure => simp [intOf]; omega
        · go_wp2_with first
            | (with_reducible refine wpList_mapEntryE rfl _ _ _ rfl rfl rfl HME.out ?_)
          refine QN.intro ?_
          refine wpAny_peel1 5 (by kernel_rfl) rfl (by kernel_rfl) ?_
          repeat (first
            | ((with_reducible refine wpCalm_step (fun K hK => ?_)); go_simp; (first | (refine ⟨_, fun _ _ => rfl, hK _ ?_⟩) | (refine hK _ ?_)); clear hK K))
          refine wpCalm_nil ?_
          refine wpAny_fork1 2 (by kernel_rfl) rfl ?_
          go_wp2_with first
            | (with_reducible refine wpList_lookupE rfl _ _ _ rfl rfl rfl HLA.out ?_)
            | (with_reducible refine wpList_lookupE rfl _ _ _ rfl rfl rfl HLB.out ?_)
          refine QN.intro ?_
          refine wpAny_peel1 3 (by kernel_rfl) rfl (by kernel_rfl) ?_
          repeat (first
            | ((with_reducible refine wpCalm_step (fun K hK => ?_)); go_simp; (first | (refine ⟨_, fun _ _ => rfl, hK _ ?_⟩) | (refine hK _ ?_)); clear hK K))
          refine wpCalm_nil ?_
          refine wpAny_fork1 6 (by kernel_rfl) rfl ?_
          go_wp2_with first
            | (with_reducible refine wpList_entryStoreE rfl _ _ _ _ rfl rfl rfl rfl hes2 ?_)
          refine QN.intro ?_
          refine wpAny_end (by kernel_rfl) ?_
          go_wp2_with fail
          go_roundw
          case rel => exact ⟨n + 1, by omega, by go_num, H13.out, HO3.out (), hb3⟩
          case measure => simp [intOf]; omega
      · obtain rfl : n = 6 := by omega
        go_wp2_with first
          | (go_at_call 14; (with_reducible refine (factorial_any 6 (by omega) 6 rfl _).mono ?_); rintro e w1 ⟨rfl, hb1⟩; replace ho := owns_of_block ho (hb1.block BM ho.lt); replace hbo := hbo.trans (hb1.mono hbo.size); clear hb1 h1)
          | (at_range; refine wpList_range_own _ rfl _ 36 rfl 22 3 keyed Try.underlying36 _ BM 6 (mD f 6) rfl ho ?_; intro w0 hrg0 hg0 hs0)
        go_frame
        have hb0 : Below w.heap.size w w0 := hbo.trans (below_grownB hg0 hbo.size (fun k hk => by cases hk))
        have hsz := hbo.size
        obtain ⟨BR, hBR⟩ : ∃ B, B = w1.heap.size := ⟨_, rfl⟩
        rw [← hBR] at hrg0 hsz ⊢
        clear hBR hg0 hs0 ho hbo
        go_loopw [7] (fun o wr => ∃ (left : Lit → Bool) (cnt q : Nat), Hid (q = 720 / pK f left) ∧ q ≤ 720 ∧ o = .int .i64 q ∧ wr.ranges Try.prog 22 (plainElem (H := Unit) Try.prog 3) BM BR 6 (mD f 6) left cnt ∧ Below w.heap.size w wr) (fun _ wr => wr.rangeLeft BM BR)
        case atStart => exact ⟨_, _, 720, by rw [pK_start]; exact (rfl : 720 = 720 / 1), by omega, rfl, hrg0, hb0⟩
        case round =>
          clear hrg0 hb0
          obtain ⟨left, cnt, q, HQ, hq, rfl, hrg, hbel⟩ := hrel
          go_wp2_with first
            | (at_next; refine wpList_next_ranges _ rfl _ rfl 22 keyed (plainElem (H := Unit) Try.prog 3) (fun x : Value => x) (fun c : Int => .int .i64 c) (fun key kl _ => ⟨key, rfl⟩) (fun v y hv => by obtain ⟨c, rfl, _⟩ := plainElem_int_inv Try.underlying3 hv; exact ⟨c, rfl⟩) BM BR 6 (mD f 6) left cnt rfl hrg ?_ ?_)
          case refine_1 =>
            intro _ hl0
            have HL : Hid (q = ordN f) := HQ.out.trans (pK_end hc hl0)
            clear hl0 hrg
            go_wp2_with fail
            go_ret2
            exact ⟨by rw [← HL.out]; rfl, hbel⟩
          case refine_2 =>
            intro x c kl y y2 w2 cnt2 hkey hlk hRc hat hrg1 hlt2 hg1 hs1 hen
            have hkl := keyed.key hkey
            have hy := hat (.lit (.int .i64 0))
            rw [mD_at] at hy
            obtain ⟨c', hc', hyy, _⟩ := plainElem_int_inv Try.underlying3 hRc
            injection hc' with _ hc'
            injection hyy with hyy _
            rw [hyy, ← hc'] at hy
            have hcc : ((cK f 6 kl : Nat) : Int) = c := by injection hy with h5; injection h5
            have hcb := cK_bd f 6 kl
            have hst := pK_strike f hkl hlk
            obtain ⟨n0, hn0⟩ : ∃ n0, cK f 6 kl = n0 := ⟨_, rfl⟩
            rw [hn0] at hcc hcb hst
            subst hcc
            have hfp := fac_pos n0
            have hfl := fac_le n0 hcb
            have HN : Hid (q / fac n0 = 720 / pK f (fun z => left z && !z.sameKey kl)) := by show _ = _; rw [hst, HQ.out, Nat.div_div_eq_div_mul]
            have HF2 : Hid _ := fun (w : World) => factorial_any n0 hcb _ rfl w
            have hb2 : Below w.heap.size w w2 := hbel.trans (below_grownB hg1 hbel.size (fun k hk => by injection hk; omega))
            have HR1 : Hid _ := fun (_u : Unit) => hrg1
            have HR0 : Hid _ := fun (_u : Unit) => hrg
            have hf0 : ¬ fac n0 = 0 := by omega
            have hdiv : wrap64 ((q : Int) / (fac n0 : Nat)) = ((q / fac n0 : Nat) : Int) := by
              have e : ((q / fac n0 : Nat) : Int) = (q : Int) / (fac n0 : Nat) := by push_cast; rfl
              rw [← e]
              exact w64_nat _ (Nat.le_trans (Nat.div_le_self _ _) hq)
            have hq2 : q / fac n0 ≤ 720 := Nat.le_trans (Nat.div_le_self _ _) hq
            generalize fac n0 = g0 at *
            clear hst hn0 hyy hc' hy hat hRc hlk hkey hkl hg1 hs1 hrg hrg1 hbel
            have hbel := hb2
            clear hb2
            go_wp2_with first
              | (go_at_call 14; (with_reducible refine (HF2.out _).mono ?_); rintro e w3 ⟨rfl, hb1⟩; have HB1 : Hid (Below w2.heap.size w2 w3) := hb1; replace hbel := hbel.trans (hb1.mono hbel.size); clear hb1)
            have hr3 := (HR1.out ()).kept (w' := w3) (row := none) ⟨HB1.out.os, HB1.out.tape, HB1.out.output, HB1.out.size, fun k hk _ => HB1.out.block k hk⟩ (by simp) (by simp)
            have hr0 := HR0.out ()
            clear HR1 HR0 HB1
            go_roundw
            case rel => exact ⟨_, cnt2, q / g0, HN.out, hq2, by rw [hdiv], hr3, hbel⟩
            case measure => rw [hr3.left_eq, hr0.left_eq]; exact hlt2
set_option linter.unusedVariables false in
theorem FnExactCountOrders_walk (x0 : Nat → Int) (hx0 : ∀ j, I64 (x0 j)) (w : World) : Calls Try.prog 3 #[.agg (arr 24 x0)] w fun e w' => e = .returned (.bool true) ∧ Below w.heap.size w w' := by
  have hr0 : (w.alloc (.cells (arr 24 x0) 25)).heap[w.heap.size]? = some (.cells (arr 24 x0) 25 (0, 0)) := by rw [heap_new (by simp)]
  have hbel : Below w.heap.size w (w.alloc (.cells (arr 24 x0) 25)) := ((Below.refl _ _).alloc (by simp) _)
  go_enter Try.func3, Try.ntmps3
  go_wp2_with first
    | (with_reducible refine wpList_loadW rfl _ _ rfl _ rfl hr0 agg24l size24l ?_)
    | (go_at_call 6; (with_reducible refine (toRack_any _ _).mono ?_); (rintro e w1 ⟨rfl, hb1⟩; replace hbel := hbel.trans (hb1.mono hbel.size); replace hr0 := row_keep hb1 hr0; clear hb1))
    | (go_at_call 5; (with_reducible refine (specCo_any _ _).mono ?_); (rintro e w1 ⟨rfl, hb1⟩; replace hbel := hbel.trans (hb1.mono hbel.size); replace hr0 := row_keep hb1 hr0; clear hb1))
    | (go_at_call 7; (with_reducible refine (implCo_any _ _).mono ?_); (rintro e w1 ⟨rfl, hb1⟩; replace hbel := hbel.trans (hb1.mono hbel.size); replace hr0 := row_keep hb1 hr0; clear hb1))
  go_ret
  exact ⟨rfl, hbel⟩
end Go.Proofs.Ytlbgmkengkgnfaa
