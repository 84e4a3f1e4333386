/- The form of a rack: the program's sort and the reference's. -/
import Derived.Test.YtlbgmkengkgnfaaCmp
namespace Go.Proofs.Ytlbgmkengkgnfaa
set_option linter.unusedSimpArgs false
set_option linter.unusedVariables false
set_option maxRecDepth 20000
open Go.RowKit
section
variable {P : Program}
/-- A function value of no captured values is called with two. -/
theorem wpQuiet_callV2 {ops : Array Oper} {C : World → Prop} {Q : Act → Prop} {a : Act} {o : Oper} {rest : List Oper} (hw : Region.wanted o (yielded ops a.tmps) = true) (x y z : Operand) (ats : Array TypeId)
    (ho : o.op = .call { callee := .value x, args := #[y, z], argTypes := ats }) (f : FuncId) {u1 u2 : Value} (hx : a.eval x = .func (.func f) #[] #[]) (hy : a.eval y = u1) (hz : a.eval z = u2) (v : Value) (hE : Enters P f)
    (hc : ∀ w, C w → Calls P f #[u1, u2] w fun e w' => e = .returned v ∧ C w') (hk : wpQuiet P ops C Q rest (a.put o.dst v)) : wpQuiet P ops C Q (o :: rest) a := by
  refine wpQuiet_enter v f #[u1, u2] hw (fun w _ => ?_) hc hk
  unfold execOp
  have h1 : (invoke (.fn (.func f) #[]) #[u1, u2]).run P w = .ok (.enter f #[u1, u2]) w := by
    unfold invoke
    simpa using hE #[u1, u2] w
  simpa [ho, resolve, Deferred.ofValue, hx, hy, hz] using h1
end
theorem wrapI {x : Int} (h1 : -4611686018427387904 < x) (h2 : x < 4611686018427387904) : IntKind.i64.wrap x = x := IntWalk.i64_in _ (by omega)
theorem results_none {fn : Func} (h : fn.results = #[]) (tmps : Array Value) (w : World) : (results fn tmps).run Try.prog w = .ok (.tuple #[]) w := by simp [results, h]
/-- The insertion's swap is the neighbours'. -/
theorem swp_ins (F : Nat → Int) (J : Nat) : arr 24 (updN (updN F ((J + 1) * 4) 4 fun l => F (J * 4 + l)) (J * 4) 4 fun l => F ((J + 1) * 4 + l)) = arr 24 (swp F J) := by
  refine arr_congr fun q hq => ?_
  unfold swp updN
  by_cases h1 : J * 4 ≤ q ∧ q < J * 4 + 4
  · rw [if_pos h1, if_neg (by omega), if_pos h1]
  · rw [if_neg h1]
    by_cases h2 : (J + 1) * 4 ≤ q ∧ q < (J + 1) * 4 + 4
    · rw [if_pos h2, if_pos h2]
    · rw [if_neg h2, if_neg h2, if_neg h1]
theorem lex_tub {F : Nat → Int} (h : cellB F) {a b : Nat} (ha : a < 6) (hb : b < 6) : decide (lexC (fun l => F (a * 4 + l)) (fun l => F (b * 4 + l)) 4 < 0) = decide (cod (tub F a) < cod (tub F b)) := by
  have := (lexC_cod (tub_cell h ha) (tub_cell h hb)).1
  rw [Bool.eq_iff_iff, decide_eq_true_iff, decide_eq_true_iff]
  exact this
theorem l3Below_any (f g : Nat → Int) (w : World) : Calls Try.prog 18 #[.agg (arr 4 f), .agg (arr 4 g)] w fun e w' => e = .returned (.bool (decide (lexC f g 4 < 0))) ∧ Below w.heap.size w w' := by
  have h1 : ((w.alloc (.cells (arr 4 f) 22)).alloc (.cells (arr 4 g) 22)).heap[w.heap.size]? = some (.cells (arr 4 f) 22 (0, 0)) := by rw [heap_old (by simp), heap_new rfl]
  have h2 : ((w.alloc (.cells (arr 4 f) 22)).alloc (.cells (arr 4 g) 22)).heap[w.heap.size + 1]? = some (.cells (arr 4 g) 22 (0, 0)) := heap_new (by simp)
  have hbel : Below w.heap.size w ((w.alloc (.cells (arr 4 f) 22)).alloc (.cells (arr 4 g) 22)) := ((Below.refl _ _).alloc (by simp) _).alloc (by simp) _
  go_enter Try.func18, Try.ntmps18
  go_wp2_with fail
  go_loopw [5] (fun i wr => ∃ j : Nat, j ≤ 4 ∧ i = .int .i64 j ∧ lexC f g j = 0 ∧ wr.heap[w.heap.size]? = some (.cells (arr 4 f) 22 (0, 0)) ∧ wr.heap[w.heap.size + 1]? = some (.cells (arr 4 g) 22 (0, 0)) ∧ Below w.heap.size w wr) (fun i _ => 4 - (intOf i).toNat)
  case atStart => exact ⟨0, by omega, rfl, rfl, h1, h2, hbel⟩
  case round =>
    clear h1 h2 hbel
    obtain ⟨j, hj, rfl, h0, h1, h2, hbel⟩ := hrel
    by_cases hjt : j < 4
    · have hjt' : (j : Int) < 4 := by omega
      by_cases he : f j = g j
      · have HS : Hid (lexC f g (j + 1) = 0) := by
          show lexC f g (j + 1) = 0
          rw [lexC_next h0, he]
          simp [c3]
        have hed : (f j != g j) = false := by simpa using he
        clear he h0
        go_wp2_with fail
        refine wp_region_held 7 (Cls w _) (by kernel_rfl) (by kernel_rfl) (Cls.two h1 h2 hbel) ?_; simp only [List.take_succ_cons, List.take_zero, List.drop_succ_cons, List.drop_zero]
        repeat (first
          | (with_reducible refine wpQuiet_loadI rfl _ _ rfl _ _ rfl (fun _ h => h.r1) aggI undI (by omega) ?_)
          | (with_reducible refine wpQuiet_loadI rfl _ _ rfl _ _ rfl (fun _ h => h.r2) aggI undI (by omega) ?_)
          | ((with_reducible refine wpQuiet_step (fun K hK => ?_)); go_simp; (first | (refine ⟨_, fun _ _ => rfl, hK _ ?_⟩) | (refine ⟨_, fun _ _ => ⟨rfl, rfl⟩, hK _ ?_⟩) | (refine hK _ ?_)); clear hK K))
        refine wpQuiet_nil ?_
        intro wt hCt
        replace h1 := hCt.r1
        replace h2 := hCt.r2
        replace hbel := hCt.2
        clear hCt
        go_wp2_with fail
        go_roundw
        case rel => exact ⟨j + 1, by omega, by go_num, HS.out, h1, h2, hbel⟩
        case measure => simp [intOf]; omega
      · have hed : (f j != g j) = true := by simpa using he
        have HS : Hid (decide (lexC f g 4 < 0) = decide (f j < g j)) := lexC_neg h0 he (by omega)
        clear he h0
        go_wp2_with fail
        refine wp_region_held 7 (Cls w _) (by kernel_rfl) (by kernel_rfl) (Cls.two h1 h2 hbel) ?_; simp only [List.take_succ_cons, List.take_zero, List.drop_succ_cons, List.drop_zero]
        repeat (first
          | (with_reducible refine wpQuiet_loadI rfl _ _ rfl _ _ rfl (fun _ h => h.r1) aggI undI (by omega) ?_)
          | (with_reducible refine wpQuiet_loadI rfl _ _ rfl _ _ rfl (fun _ h => h.r2) aggI undI (by omega) ?_)
          | ((with_reducible refine wpQuiet_step (fun K hK => ?_)); go_simp; (first | (refine ⟨_, fun _ _ => rfl, hK _ ?_⟩) | (refine ⟨_, fun _ _ => ⟨rfl, rfl⟩, hK _ ?_⟩) | (refine hK _ ?_)); clear hK K))
        refine wpQuiet_nil ?_
        intro wt hCt
        replace h1 := hCt.r1
        replace h2 := hCt.r2
        replace hbel := hCt.2
        clear hCt
        go_wp2_with fail
        refine wp_region_held 7 (Cls w _) (by kernel_rfl) (by kernel_rfl) (Cls.two h1 h2 hbel) ?_; simp only [List.take_succ_cons, List.take_zero, List.drop_succ_cons, List.drop_zero]
        repeat (first
          | (with_reducible refine wpQuiet_loadI rfl _ _ rfl _ _ rfl (fun _ h => h.r1) aggI undI (by omega) ?_)
          | (with_reducible refine wpQuiet_loadI rfl _ _ rfl _ _ rfl (fun _ h => h.r2) aggI undI (by omega) ?_)
          | ((with_reducible refine wpQuiet_step (fun K hK => ?_)); go_simp; (first | (refine ⟨_, fun _ _ => rfl, hK _ ?_⟩) | (refine ⟨_, fun _ _ => ⟨rfl, rfl⟩, hK _ ?_⟩) | (refine hK _ ?_)); clear hK K))
        refine wpQuiet_nil ?_
        intro wt hCt
        replace h1 := hCt.r1
        replace h2 := hCt.r2
        replace hbel := hCt.2
        clear hCt
        go_wp2_with fail
        go_ret
        exact ⟨ret_bool HS.out.symm, hbel⟩
    · obtain rfl : j = 4 := by omega
      have HS : Hid (decide (lexC f g 4 < 0) = false) := by show decide (lexC f g 4 < 0) = false; rw [h0]; rfl
      clear h0
      go_wp2_with fail
      go_ret
      exact ⟨ret_bool HS.out.symm, hbel⟩
set_option maxHeartbeats 4000000 in
theorem l3Form_any (f : Nat → Int) (hf : rackB f = true) (w : World) : Calls Try.prog 11 #[.agg (arr 24 f)] w fun e w' => e = .returned (.agg (arr 24 (formF f))) ∧ Below w.heap.size w w' := by
  have h1 : ((w.alloc (.cells (arr 24 f) 28)).alloc (.cells (arr 24 fun _ => 0) 28)).heap[w.heap.size]? = some (.cells (arr 24 f) 28 (0, 0)) := by rw [heap_old (by simp), heap_new rfl]
  have h2 : ((w.alloc (.cells (arr 24 f) 28)).alloc (.cells (arr 24 fun _ => 0) 28)).heap[w.heap.size + 1]? = some (.cells (arr 24 fun _ => 0) 28 (0, 0)) := heap_new (by simp)
  have hbel : Below w.heap.size w ((w.alloc (.cells (arr 24 f) 28)).alloc (.cells (arr 24 fun _ => 0) 28)) := ((Below.refl _ _).alloc (by simp) _).alloc (by simp) _
  have hR : Rr f f := Rr.refl (cellB_of_rack hf)
  go_enter Try.func11, Try.ntmps11
  go_wp2_with first
    | (with_reducible refine wpList_allocA rfl 28 rfl 24 zero24r ?_; (try simp only [size_al]))
  go_loopw [3] (fun i wr => ∃ n : Nat, ∃ F, n ≤ 6 ∧ i = .int .i64 n ∧ Rr f F ∧ bI F n 0 ∧ wr.heap[w.heap.size]? = some (.cells (arr 24 F) 28 (0, 0)) ∧ wr.heap[w.heap.size + 1]? = some (.cells (arr 24 fun _ => 0) 28 (0, 0)) ∧ Below w.heap.size w wr) (fun i _ => 6 - (intOf i).toNat)
  case atStart => exact ⟨0, f, by omega, rfl, hR, bI_start f, h1, h2, hbel⟩
  case round =>
    clear h1 h2 hbel hR
    obtain ⟨n, F, hn, rfl, hR, hI, h1, h2, hbel⟩ := hrel
    obtain ⟨wo, hwo⟩ : ∃ wo : World, wo = wr := ⟨_, rfl⟩
    rw [← hwo] at h1 h2 hbel ⊢
    clear hwo
    by_cases hlt : n < 6
    · have hlt' : (n : Int) < 6 := by omega
      go_wp2_with fail
      go_loopw [4] (fun i wr => ∃ k : Nat, ∃ F, k ≤ 5 ∧ i = .int .i64 k ∧ Rr f F ∧ bI F n k ∧ wr.heap[w.heap.size]? = some (.cells (arr 24 F) 28 (0, 0)) ∧ wr.heap[w.heap.size + 1]? = some (.cells (arr 24 fun _ => 0) 28 (0, 0)) ∧ Below w.heap.size w wr) (fun i _ => 5 - (intOf i).toNat)
      case atStart => exact ⟨0, F, by omega, rfl, hR, hI, h1, h2, hbel⟩
      case round =>
        clear h1 h2 hbel hR hI
        obtain ⟨k, F, hk, rfl, hR, hI, h1, h2, hbel⟩ := hrel
        by_cases hkt : k < 5
        · have hk6 : (k : Int) + 1 < 6 := by omega
          have hk7 : (k : Int) < 6 := by omega
          have hk0 : 0 ≤ (k : Int) + 1 := by omega
          have e1 : IntKind.i64.wrap ((k : Int) + 1) = (k : Int) + 1 := wrapI (by omega) (by omega)
          have hz := lex_tub hR.2 (show k + 1 < 6 by omega) (show k < 6 by omega)
          have hst := bI_step hkt hI
          cases hd : decide (cod (tub F (k + 1)) < cod (tub F k)) with
          | false =>
            obtain ⟨d, hdd⟩ : ∃ d, d = false := ⟨_, rfl⟩
            have HZ : Hid (decide (lexC (fun l => F ((k + 1) * 4 + l)) (fun l => F (k * 4 + l)) 4 < 0) = d) := by show _ = d; rw [hz, hd, hdd]
            have HS : Hid (Rr f F ∧ bI F n (k + 1)) := ⟨hR, by rw [show bS F k = F from if_neg (of_decide_eq_false hd)] at hst; exact hst⟩
            clear hz hst hd hR hI
            go_wp2_with fail
            refine wp_region_held 10 (Cls w _) (by kernel_rfl) (by kernel_rfl) (Cls.two h1 h2 hbel) ?_; simp only [List.take_succ_cons, List.take_zero, List.drop_succ_cons, List.drop_zero]
            repeat (first
              | (with_reducible refine wpQuiet_loadA rfl _ _ rfl _ _ rfl (fun _ h => h.r1) 4 agg4 size4 (by omega) ?_)
              | ((with_reducible refine wpQuiet_callE rfl 18 _ _ rfl (.bool d) (#[.agg (arr 4 fun l => F ((k + 1) * 4 + l)), .agg (arr 4 fun l => F (k * 4 + l))]) rfl ?_ ?_ ?_); (exact enters_of Try.func18 (by kernel_rfl) rfl); (intro w' h'; with_reducible exact (HZ.out ▸ l3Below_any (fun l => F ((k + 1) * 4 + l)) (fun l => F (k * 4 + l)) w').mono fun _ _ ⟨he, hb⟩ => ⟨he, h'.keep hb⟩))
              | ((with_reducible refine wpQuiet_step (fun K hK => ?_)); go_simp; (first | (refine ⟨_, fun _ _ => rfl, hK _ ?_⟩) | (refine ⟨_, fun _ _ => ⟨rfl, rfl⟩, hK _ ?_⟩) | (refine hK _ ?_)); clear hK K))
            refine wpQuiet_nil ?_
            intro wt hCt
            replace h1 := hCt.r1
            replace h2 := hCt.r2
            replace hbel := hCt.2
            clear hCt
            rw [hdd]
            clear e1
            go_wp2_with fail
            go_roundw
            case rel => exact ⟨k + 1, F, by omega, by go_num, HS.out.1, HS.out.2, h1, h2, hbel⟩
            case measure => simp [intOf]; omega
          | true =>
            obtain ⟨d, hdd⟩ : ∃ d, d = true := ⟨_, rfl⟩
            have HZ : Hid (decide (lexC (fun l => F ((k + 1) * 4 + l)) (fun l => F (k * 4 + l)) 4 < 0) = d) := by show _ = d; rw [hz, hd, hdd]
            have HS : Hid (Rr f (swp F k) ∧ bI (swp F k) n (k + 1)) := ⟨hR.swp hkt, by rw [show bS F k = swp F k from if_pos (of_decide_eq_true hd)] at hst; exact hst⟩
            clear hz hst hd hR hI
            go_wp2_with fail
            refine wp_region_held 10 (Cls w _) (by kernel_rfl) (by kernel_rfl) (Cls.two h1 h2 hbel) ?_; simp only [List.take_succ_cons, List.take_zero, List.drop_succ_cons, List.drop_zero]
            repeat (first
              | (with_reducible refine wpQuiet_loadA rfl _ _ rfl _ _ rfl (fun _ h => h.r1) 4 agg4 size4 (by omega) ?_)
              | ((with_reducible refine wpQuiet_callE rfl 18 _ _ rfl (.bool d) (#[.agg (arr 4 fun l => F ((k + 1) * 4 + l)), .agg (arr 4 fun l => F (k * 4 + l))]) rfl ?_ ?_ ?_); (exact enters_of Try.func18 (by kernel_rfl) rfl); (intro w' h'; with_reducible exact (HZ.out ▸ l3Below_any (fun l => F ((k + 1) * 4 + l)) (fun l => F (k * 4 + l)) w').mono fun _ _ ⟨he, hb⟩ => ⟨he, h'.keep hb⟩))
              | ((with_reducible refine wpQuiet_step (fun K hK => ?_)); go_simp; (first | (refine ⟨_, fun _ _ => rfl, hK _ ?_⟩) | (refine ⟨_, fun _ _ => ⟨rfl, rfl⟩, hK _ ?_⟩) | (refine hK _ ?_)); clear hK K))
            refine wpQuiet_nil ?_
            intro wt hCt
            replace h1 := hCt.r1
            replace h2 := hCt.r2
            replace hbel := hCt.2
            clear hCt
            rw [hdd]
            go_wp2_with fail
            obtain ⟨wm, hwm⟩ : ∃ wm : World, wm = wt := ⟨_, rfl⟩
            rw [← hwm] at h1 h2 hbel ⊢
            clear hwm
            refine wp_region_fork [0, 1, 2, 4, 5, 6, 7] [3] [8, 9, 10] 5 (fun l => l.take 3 ++ (l.drop 4).take 4) (fun l => (l.drop 3).take 1) (Cls w _) (by kernel_rfl) (by kernel_rfl) (by kernel_rfl) (by kernel_rfl) ⟨Pres.load _ _ rfl, Pres.alloc _ rfl 4 zero4, Pres.alloc _ rfl 4 zero4, trivial⟩ (Cls.two h1 h2 hbel) ?_; try simp only [List.take_succ_cons, List.take_zero, List.drop_succ_cons, List.drop_zero, List.singleton_append, List.cons_append, List.nil_append]
            repeat (first
              | ((with_reducible refine wpCalm_step (fun K hK => ?_)); go_simp; (first | (refine ⟨_, fun _ _ => rfl, hK _ ?_⟩) | (refine hK _ ?_)); clear hK K))
            refine wpCalm_nil ?_
            repeat (first
              | (with_reducible refine wpCalm_loadA rfl _ _ rfl _ _ rfl (fun _ h => h.r1) 4 agg4 size4 (by omega) ?_)
              | ((with_reducible refine wpCalm_step (fun K hK => ?_)); go_simp; (first | (refine ⟨_, fun _ _ => rfl, hK _ ?_⟩) | (refine hK _ ?_)); clear hK K))
            refine wpCalm_nil ?_
            have hCt := Cls.two h1 h2 hbel
            obtain ⟨wt, hwt⟩ : ∃ wt : World, wt = { wm with drawn := wm.drawn + 1 } := ⟨_, rfl⟩
            rw [← hwt] at hCt ⊢
            clear hwt
            replace h1 := hCt.r1
            replace h2 := hCt.r2
            replace hbel := hCt.2
            clear hCt e1
            refine wpAny_fork3 8 9 10 (by kernel_rfl) rfl rfl rfl ?_ ?_ ?_
            · go_wp2_with first
                | (with_reducible refine wpList_loadA rfl _ _ rfl _ _ rfl h1 4 agg4 size4 (by omega) ?_)
              refine QN.intro ?_
              refine wpAny_fork2 9 10 (by kernel_rfl) rfl rfl ?_ ?_
              · go_wp2_with first
                  | (with_reducible refine wpList_allocN rfl 22 rfl 4 zero4 ?_; intro p w1 hp0 hp hb1; have hpl := Nat.lt_of_lt_of_le (Array.getElem?_eq_some_iff.1 h2).1 hp0; (try have hpq := Nat.lt_of_lt_of_le (Array.getElem?_eq_some_iff.1 hq).1 hp0); replace hbel := hbel.trans (hb1.mono hbel.size); replace h1 := row_keep hb1 h1; replace h2 := row_keep hb1 h2; (try replace hq := row_keep hb1 hq); clear hb1 hp0)
                refine QN.intro ?_
                refine wpAny_fork1 10 (by kernel_rfl) rfl ?_
                go_wp2_with first
                  | (with_reducible refine wpList_allocN rfl 22 rfl 4 zero4 ?_; intro q w1 hq0 hq hb1; have hql := Nat.lt_of_lt_of_le (Array.getElem?_eq_some_iff.1 h2).1 hq0; (try have hpq := Nat.lt_of_lt_of_le (Array.getElem?_eq_some_iff.1 hp).1 hq0); replace hbel := hbel.trans (hb1.mono hbel.size); replace h1 := row_keep hb1 h1; replace h2 := row_keep hb1 h2; (try replace hp := row_keep hb1 hp); clear hb1 hq0)
                refine QN.intro ?_
                refine wpAny_fork1 11 (by kernel_rfl) rfl ?_
                go_wp2_with first
                  | (with_reducible refine wpList_storeWN rfl _ _ _ rfl _ rfl rfl hp size4 hbel (by omega) ?_; intro w1 g3 ho g4; replace h1 := (ho _ (by omega)).trans h1; replace h2 := (ho _ (by omega)).trans h2; replace hq := (ho _ (by omega)).trans hq; clear hp hbel; have hp := g3; have hbel := g4; clear g3 g4 ho)
                refine QN.intro ?_
                refine wpAny_fork1 12 (by kernel_rfl) rfl ?_
                go_wp2_with first
                  | (with_reducible refine wpList_storeWN rfl _ _ _ rfl _ rfl rfl hq size4 hbel (by omega) ?_; intro w1 g3 ho g4; replace h1 := (ho _ (by omega)).trans h1; replace h2 := (ho _ (by omega)).trans h2; replace hp := (ho _ (by omega)).trans hp; clear hq hbel; have hq := g3; have hbel := g4; clear g3 g4 ho)
                refine QN.intro ?_
                refine wpAny_end (by kernel_rfl) ?_
                go_wp2_with first
                  | (with_reducible refine wpList_loadW rfl _ _ rfl _ rfl hq agg4 size4 ?_)
                  | (with_reducible refine wpList_loadW rfl _ _ rfl _ rfl hp agg4 size4 ?_)
                  | (with_reducible refine wpList_storePN rfl _ _ _ rfl _ _ rfl rfl h1 size4 (by omega) hbel (by omega) ?_; intro w1 g3 ho g4; replace h2 := (ho _ (by omega)).trans h2; (try replace hp := (ho _ (by omega)).trans hp); (try replace hq := (ho _ (by omega)).trans hq); clear h1 hbel; have h1 := g3; have hbel := g4; clear g3 g4 ho)
                go_roundw
                case rel => exact ⟨k + 1, _, by omega, by go_num, HS.out.1, HS.out.2, h1, h2, hbel⟩
                case measure => simp [intOf] <;> omega
              · go_wp2_with first
                  | (with_reducible refine wpList_allocN rfl 22 rfl 4 zero4 ?_; intro q w1 hq0 hq hb1; have hql := Nat.lt_of_lt_of_le (Array.getElem?_eq_some_iff.1 h2).1 hq0; (try have hpq := Nat.lt_of_lt_of_le (Array.getElem?_eq_some_iff.1 hp).1 hq0); replace hbel := hbel.trans (hb1.mono hbel.size); replace h1 := row_keep hb1 h1; replace h2 := row_keep hb1 h2; (try replace hp := row_keep hb1 hp); clear hb1 hq0)
                refine QN.intro ?_
                refine wpAny_fork1 9 (by kernel_rfl) rfl ?_
                go_wp2_with first
                  | (with_reducible refine wpList_allocN rfl 22 rfl 4 zero4 ?_; intro p w1 hp0 hp hb1; have hpl := Nat.lt_of_lt_of_le (Array.getElem?_eq_some_iff.1 h2).1 hp0; (try have hpq := Nat.lt_of_lt_of_le (Array.getElem?_eq_some_iff.1 hq).1 hp0); replace hbel := hbel.trans (hb1.mono hbel.size); replace h1 := row_keep hb1 h1; replace h2 := row_keep hb1 h2; (try replace hq := row_keep hb1 hq); clear hb1 hp0)
                refine QN.intro ?_
                refine wpAny_fork1 11 (by kernel_rfl) rfl ?_
                go_wp2_with first
                  | (with_reducible refine wpList_storeWN rfl _ _ _ rfl _ rfl rfl hp size4 hbel (by omega) ?_; intro w1 g3 ho g4; replace h1 := (ho _ (by omega)).trans h1; replace h2 := (ho _ (by omega)).trans h2; replace hq := (ho _ (by omega)).trans hq; clear hp hbel; have hp := g3; have hbel := g4; clear g3 g4 ho)
                refine QN.intro ?_
                refine wpAny_fork1 12 (by kernel_rfl) rfl ?_
                go_wp2_with first
                  | (with_reducible refine wpList_storeWN rfl _ _ _ rfl _ rfl rfl hq size4 hbel (by omega) ?_; intro w1 g3 ho g4; replace h1 := (ho _ (by omega)).trans h1; replace h2 := (ho _ (by omega)).trans h2; replace hp := (ho _ (by omega)).trans hp; clear hq hbel; have hq := g3; have hbel := g4; clear g3 g4 ho)
                refine QN.intro ?_
                refine wpAny_end (by kernel_rfl) ?_
                go_wp2_with first
                  | (with_reducible refine wpList_loadW rfl _ _ rfl _ rfl hq agg4 size4 ?_)
                  | (with_reducible refine wpList_loadW rfl _ _ rfl _ rfl hp agg4 size4 ?_)
                  | (with_reducible refine wpList_storePN rfl _ _ _ rfl _ _ rfl rfl h1 size4 (by omega) hbel (by omega) ?_; intro w1 g3 ho g4; replace h2 := (ho _ (by omega)).trans h2; (try replace hp := (ho _ (by omega)).trans hp); (try replace hq := (ho _ (by omega)).trans hq); clear h1 hbel; have h1 := g3; have hbel := g4; clear g3 g4 ho)
                go_roundw
                case rel => exact ⟨k + 1, _, by omega, by go_num, HS.out.1, HS.out.2, h1, h2, hbel⟩
                case measure => simp [intOf] <;> omega
            · go_wp2_with first
                | (with_reducible refine wpList_allocN rfl 22 rfl 4 zero4 ?_; intro p w1 hp0 hp hb1; have hpl := Nat.lt_of_lt_of_le (Array.getElem?_eq_some_iff.1 h2).1 hp0; (try have hpq := Nat.lt_of_lt_of_le (Array.getElem?_eq_some_iff.1 hq).1 hp0); replace hbel := hbel.trans (hb1.mono hbel.size); replace h1 := row_keep hb1 h1; replace h2 := row_keep hb1 h2; (try replace hq := row_keep hb1 hq); clear hb1 hp0)
              refine QN.intro ?_
              refine wpAny_fork2 8 10 (by kernel_rfl) rfl rfl ?_ ?_
              · go_wp2_with first
                  | (with_reducible refine wpList_loadA rfl _ _ rfl _ _ rfl h1 4 agg4 size4 (by omega) ?_)
                refine QN.intro ?_
                refine wpAny_fork1 10 (by kernel_rfl) rfl ?_
                go_wp2_with first
                  | (with_reducible refine wpList_allocN rfl 22 rfl 4 zero4 ?_; intro q w1 hq0 hq hb1; have hql := Nat.lt_of_lt_of_le (Array.getElem?_eq_some_iff.1 h2).1 hq0; (try have hpq := Nat.lt_of_lt_of_le (Array.getElem?_eq_some_iff.1 hp).1 hq0); replace hbel := hbel.trans (hb1.mono hbel.size); replace h1 := row_keep hb1 h1; replace h2 := row_keep hb1 h2; (try replace hp := row_keep hb1 hp); clear hb1 hq0)
                refine QN.intro ?_
                refine wpAny_fork1 11 (by kernel_rfl) rfl ?_
                go_wp2_with first
                  | (with_reducible refine wpList_storeWN rfl _ _ _ rfl _ rfl rfl hp size4 hbel (by omega) ?_; intro w1 g3 ho g4; replace h1 := (ho _ (by omega)).trans h1; replace h2 := (ho _ (by omega)).trans h2; replace hq := (ho _ (by omega)).trans hq; clear hp hbel; have hp := g3; have hbel := g4; clear g3 g4 ho)
                refine QN.intro ?_
                refine wpAny_fork1 12 (by kernel_rfl) rfl ?_
                go_wp2_with first
                  | (with_reducible refine wpList_storeWN rfl _ _ _ rfl _ rfl rfl hq size4 hbel (by omega) ?_; intro w1 g3 ho g4; replace h1 := (ho _ (by omega)).trans h1; replace h2 := (ho _ (by omega)).trans h2; replace hp := (ho _ (by omega)).trans hp; clear hq hbel; have hq := g3; have hbel := g4; clear g3 g4 ho)
                refine QN.intro ?_
                refine wpAny_end (by kernel_rfl) ?_
                go_wp2_with first
                  | (with_reducible refine wpList_loadW rfl _ _ rfl _ rfl hq agg4 size4 ?_)
                  | (with_reducible refine wpList_loadW rfl _ _ rfl _ rfl hp agg4 size4 ?_)
                  | (with_reducible refine wpList_storePN rfl _ _ _ rfl _ _ rfl rfl h1 size4 (by omega) hbel (by omega) ?_; intro w1 g3 ho g4; replace h2 := (ho _ (by omega)).trans h2; (try replace hp := (ho _ (by omega)).trans hp); (try replace hq := (ho _ (by omega)).trans hq); clear h1 hbel; have h1 := g3; have hbel := g4; clear g3 g4 ho)
                go_roundw
                case rel => exact ⟨k + 1, _, by omega, by go_num, HS.out.1, HS.out.2, h1, h2, hbel⟩
                case measure => simp [intOf] <;> omega
              · go_wp2_with first
                  | (with_reducible refine wpList_allocN rfl 22 rfl 4 zero4 ?_; intro q w1 hq0 hq hb1; have hql := Nat.lt_of_lt_of_le (Array.getElem?_eq_some_iff.1 h2).1 hq0; (try have hpq := Nat.lt_of_lt_of_le (Array.getElem?_eq_some_iff.1 hp).1 hq0); replace hbel := hbel.trans (hb1.mono hbel.size); replace h1 := row_keep hb1 h1; replace h2 := row_keep hb1 h2; (try replace hp := row_keep hb1 hp); clear hb1 hq0)
                refine QN.intro ?_
                refine wpAny_fork2 8 11 (by kernel_rfl) rfl rfl ?_ ?_
                · go_wp2_with first
                    | (with_reducible refine wpList_loadA rfl _ _ rfl _ _ rfl h1 4 agg4 size4 (by omega) ?_)
                  refine QN.intro ?_
                  refine wpAny_fork1 11 (by kernel_rfl) rfl ?_
                  go_wp2_with first
                    | (with_reducible refine wpList_storeWN rfl _ _ _ rfl _ rfl rfl hp size4 hbel (by omega) ?_; intro w1 g3 ho g4; replace h1 := (ho _ (by omega)).trans h1; replace h2 := (ho _ (by omega)).trans h2; replace hq := (ho _ (by omega)).trans hq; clear hp hbel; have hp := g3; have hbel := g4; clear g3 g4 ho)
                  refine QN.intro ?_
                  refine wpAny_fork1 12 (by kernel_rfl) rfl ?_
                  go_wp2_with first
                    | (with_reducible refine wpList_storeWN rfl _ _ _ rfl _ rfl rfl hq size4 hbel (by omega) ?_; intro w1 g3 ho g4; replace h1 := (ho _ (by omega)).trans h1; replace h2 := (ho _ (by omega)).trans h2; replace hp := (ho _ (by omega)).trans hp; clear hq hbel; have hq := g3; have hbel := g4; clear g3 g4 ho)
                  refine QN.intro ?_
                  refine wpAny_end (by kernel_rfl) ?_
                  go_wp2_with first
                    | (with_reducible refine wpList_loadW rfl _ _ rfl _ rfl hq agg4 size4 ?_)
                    | (with_reducible refine wpList_loadW rfl _ _ rfl _ rfl hp agg4 size4 ?_)
                    | (with_reducible refine wpList_storePN rfl _ _ _ rfl _ _ rfl rfl h1 size4 (by omega) hbel (by omega) ?_; intro w1 g3 ho g4; replace h2 := (ho _ (by omega)).trans h2; (try replace hp := (ho _ (by omega)).trans hp); (try replace hq := (ho _ (by omega)).trans hq); clear h1 hbel; have h1 := g3; have hbel := g4; clear g3 g4 ho)
                  go_roundw
                  case rel => exact ⟨k + 1, _, by omega, by go_num, HS.out.1, HS.out.2, h1, h2, hbel⟩
                  case measure => simp [intOf] <;> omega
                · go_wp2_with first
                    | (with_reducible refine wpList_storeWN rfl _ _ _ rfl _ rfl rfl hp size4 hbel (by omega) ?_; intro w1 g3 ho g4; replace h1 := (ho _ (by omega)).trans h1; replace h2 := (ho _ (by omega)).trans h2; replace hq := (ho _ (by omega)).trans hq; clear hp hbel; have hp := g3; have hbel := g4; clear g3 g4 ho)
                  refine QN.intro ?_
                  refine wpAny_fork1 8 (by kernel_rfl) rfl ?_
                  go_wp2_with first
                    | (with_reducible refine wpList_loadA rfl _ _ rfl _ _ rfl h1 4 agg4 size4 (by omega) ?_)
                  refine QN.intro ?_
                  refine wpAny_fork1 12 (by kernel_rfl) rfl ?_
                  go_wp2_with first
                    | (with_reducible refine wpList_storeWN rfl _ _ _ rfl _ rfl rfl hq size4 hbel (by omega) ?_; intro w1 g3 ho g4; replace h1 := (ho _ (by omega)).trans h1; replace h2 := (ho _ (by omega)).trans h2; replace hp := (ho _ (by omega)).trans hp; clear hq hbel; have hq := g3; have hbel := g4; clear g3 g4 ho)
                  refine QN.intro ?_
                  refine wpAny_end (by kernel_rfl) ?_
                  go_wp2_with first
                    | (with_reducible refine wpList_loadW rfl _ _ rfl _ rfl hq agg4 size4 ?_)
                    | (with_reducible refine wpList_loadW rfl _ _ rfl _ rfl hp agg4 size4 ?_)
                    | (with_reducible refine wpList_storePN rfl _ _ _ rfl _ _ rfl rfl h1 size4 (by omega) hbel (by omega) ?_; intro w1 g3 ho g4; replace h2 := (ho _ (by omega)).trans h2; (try replace hp := (ho _ (by omega)).trans hp); (try replace hq := (ho _ (by omega)).trans hq); clear h1 hbel; have h1 := g3; have hbel := g4; clear g3 g4 ho)
                  go_roundw
                  case rel => exact ⟨k + 1, _, by omega, by go_num, HS.out.1, HS.out.2, h1, h2, hbel⟩
                  case measure => simp [intOf] <;> omega
            · go_wp2_with first
                | (with_reducible refine wpList_allocN rfl 22 rfl 4 zero4 ?_; intro q w1 hq0 hq hb1; have hql := Nat.lt_of_lt_of_le (Array.getElem?_eq_some_iff.1 h2).1 hq0; (try have hpq := Nat.lt_of_lt_of_le (Array.getElem?_eq_some_iff.1 hp).1 hq0); replace hbel := hbel.trans (hb1.mono hbel.size); replace h1 := row_keep hb1 h1; replace h2 := row_keep hb1 h2; (try replace hp := row_keep hb1 hp); clear hb1 hq0)
              refine QN.intro ?_
              refine wpAny_fork2 8 9 (by kernel_rfl) rfl rfl ?_ ?_
              · go_wp2_with first
                  | (with_reducible refine wpList_loadA rfl _ _ rfl _ _ rfl h1 4 agg4 size4 (by omega) ?_)
                refine QN.intro ?_
                refine wpAny_fork1 9 (by kernel_rfl) rfl ?_
                go_wp2_with first
                  | (with_reducible refine wpList_allocN rfl 22 rfl 4 zero4 ?_; intro p w1 hp0 hp hb1; have hpl := Nat.lt_of_lt_of_le (Array.getElem?_eq_some_iff.1 h2).1 hp0; (try have hpq := Nat.lt_of_lt_of_le (Array.getElem?_eq_some_iff.1 hq).1 hp0); replace hbel := hbel.trans (hb1.mono hbel.size); replace h1 := row_keep hb1 h1; replace h2 := row_keep hb1 h2; (try replace hq := row_keep hb1 hq); clear hb1 hp0)
                refine QN.intro ?_
                refine wpAny_fork1 11 (by kernel_rfl) rfl ?_
                go_wp2_with first
                  | (with_reducible refine wpList_storeWN rfl _ _ _ rfl _ rfl rfl hp size4 hbel (by omega) ?_; intro w1 g3 ho g4; replace h1 := (ho _ (by omega)).trans h1; replace h2 := (ho _ (by omega)).trans h2; replace hq := (ho _ (by omega)).trans hq; clear hp hbel; have hp := g3; have hbel := g4; clear g3 g4 ho)
                refine QN.intro ?_
                refine wpAny_fork1 12 (by kernel_rfl) rfl ?_
                go_wp2_with first
                  | (with_reducible refine wpList_storeWN rfl _ _ _ rfl _ rfl rfl hq size4 hbel (by omega) ?_; intro w1 g3 ho g4; replace h1 := (ho _ (by omega)).trans h1; replace h2 := (ho _ (by omega)).trans h2; replace hp := (ho _ (by omega)).trans hp; clear hq hbel; have hq := g3; have hbel := g4; clear g3 g4 ho)
                refine QN.intro ?_
                refine wpAny_end (by kernel_rfl) ?_
                go_wp2_with first
                  | (with_reducible refine wpList_loadW rfl _ _ rfl _ rfl hq agg4 size4 ?_)
                  | (with_reducible refine wpList_loadW rfl _ _ rfl _ rfl hp agg4 size4 ?_)
                  | (with_reducible refine wpList_storePN rfl _ _ _ rfl _ _ rfl rfl h1 size4 (by omega) hbel (by omega) ?_; intro w1 g3 ho g4; replace h2 := (ho _ (by omega)).trans h2; (try replace hp := (ho _ (by omega)).trans hp); (try replace hq := (ho _ (by omega)).trans hq); clear h1 hbel; have h1 := g3; have hbel := g4; clear g3 g4 ho)
                go_roundw
                case rel => exact ⟨k + 1, _, by omega, by go_num, HS.out.1, HS.out.2, h1, h2, hbel⟩
                case measure => simp [intOf] <;> omega
              · go_wp2_with first
                  | (with_reducible refine wpList_allocN rfl 22 rfl 4 zero4 ?_; intro p w1 hp0 hp hb1; have hpl := Nat.lt_of_lt_of_le (Array.getElem?_eq_some_iff.1 h2).1 hp0; (try have hpq := Nat.lt_of_lt_of_le (Array.getElem?_eq_some_iff.1 hq).1 hp0); replace hbel := hbel.trans (hb1.mono hbel.size); replace h1 := row_keep hb1 h1; replace h2 := row_keep hb1 h2; (try replace hq := row_keep hb1 hq); clear hb1 hp0)
                refine QN.intro ?_
                refine wpAny_fork2 8 11 (by kernel_rfl) rfl rfl ?_ ?_
                · go_wp2_with first
                    | (with_reducible refine wpList_loadA rfl _ _ rfl _ _ rfl h1 4 agg4 size4 (by omega) ?_)
                  refine QN.intro ?_
                  refine wpAny_fork1 11 (by kernel_rfl) rfl ?_
                  go_wp2_with first
                    | (with_reducible refine wpList_storeWN rfl _ _ _ rfl _ rfl rfl hp size4 hbel (by omega) ?_; intro w1 g3 ho g4; replace h1 := (ho _ (by omega)).trans h1; replace h2 := (ho _ (by omega)).trans h2; replace hq := (ho _ (by omega)).trans hq; clear hp hbel; have hp := g3; have hbel := g4; clear g3 g4 ho)
                  refine QN.intro ?_
                  refine wpAny_fork1 12 (by kernel_rfl) rfl ?_
                  go_wp2_with first
                    | (with_reducible refine wpList_storeWN rfl _ _ _ rfl _ rfl rfl hq size4 hbel (by omega) ?_; intro w1 g3 ho g4; replace h1 := (ho _ (by omega)).trans h1; replace h2 := (ho _ (by omega)).trans h2; replace hp := (ho _ (by omega)).trans hp; clear hq hbel; have hq := g3; have hbel := g4; clear g3 g4 ho)
                  refine QN.intro ?_
                  refine wpAny_end (by kernel_rfl) ?_
                  go_wp2_with first
                    | (with_reducible refine wpList_loadW rfl _ _ rfl _ rfl hq agg4 size4 ?_)
                    | (with_reducible refine wpList_loadW rfl _ _ rfl _ rfl hp agg4 size4 ?_)
                    | (with_reducible refine wpList_storePN rfl _ _ _ rfl _ _ rfl rfl h1 size4 (by omega) hbel (by omega) ?_; intro w1 g3 ho g4; replace h2 := (ho _ (by omega)).trans h2; (try replace hp := (ho _ (by omega)).trans hp); (try replace hq := (ho _ (by omega)).trans hq); clear h1 hbel; have h1 := g3; have hbel := g4; clear g3 g4 ho)
                  go_roundw
                  case rel => exact ⟨k + 1, _, by omega, by go_num, HS.out.1, HS.out.2, h1, h2, hbel⟩
                  case measure => simp [intOf] <;> omega
                · go_wp2_with first
                    | (with_reducible refine wpList_storeWN rfl _ _ _ rfl _ rfl rfl hp size4 hbel (by omega) ?_; intro w1 g3 ho g4; replace h1 := (ho _ (by omega)).trans h1; replace h2 := (ho _ (by omega)).trans h2; replace hq := (ho _ (by omega)).trans hq; clear hp hbel; have hp := g3; have hbel := g4; clear g3 g4 ho)
                  refine QN.intro ?_
                  refine wpAny_fork1 8 (by kernel_rfl) rfl ?_
                  go_wp2_with first
                    | (with_reducible refine wpList_loadA rfl _ _ rfl _ _ rfl h1 4 agg4 size4 (by omega) ?_)
                  refine QN.intro ?_
                  refine wpAny_fork1 12 (by kernel_rfl) rfl ?_
                  go_wp2_with first
                    | (with_reducible refine wpList_storeWN rfl _ _ _ rfl _ rfl rfl hq size4 hbel (by omega) ?_; intro w1 g3 ho g4; replace h1 := (ho _ (by omega)).trans h1; replace h2 := (ho _ (by omega)).trans h2; replace hp := (ho _ (by omega)).trans hp; clear hq hbel; have hq := g3; have hbel := g4; clear g3 g4 ho)
                  refine QN.intro ?_
                  refine wpAny_end (by kernel_rfl) ?_
                  go_wp2_with first
                    | (with_reducible refine wpList_loadW rfl _ _ rfl _ rfl hq agg4 size4 ?_)
                    | (with_reducible refine wpList_loadW rfl _ _ rfl _ rfl hp agg4 size4 ?_)
                    | (with_reducible refine wpList_storePN rfl _ _ _ rfl _ _ rfl rfl h1 size4 (by omega) hbel (by omega) ?_; intro w1 g3 ho g4; replace h2 := (ho _ (by omega)).trans h2; (try replace hp := (ho _ (by omega)).trans hp); (try replace hq := (ho _ (by omega)).trans hq); clear h1 hbel; have h1 := g3; have hbel := g4; clear g3 g4 ho)
                  go_roundw
                  case rel => exact ⟨k + 1, _, by omega, by go_num, HS.out.1, HS.out.2, h1, h2, hbel⟩
                  case measure => simp [intOf] <;> omega
        · obtain rfl : k = 5 := by omega
          have HS : Hid (Rr f F ∧ bI F (n + 1) 0) := ⟨hR, bI_next hlt hI⟩
          clear hR hI
          go_wp2_with fail
          go_roundw
          case rel => exact ⟨n + 1, F, by omega, by go_num, HS.out.1, HS.out.2, h1, h2, hbel⟩
          case measure => simp [intOf]; omega
    · obtain rfl : n = 6 := by omega
      have hF : IsForm f F := ⟨hR, bI_done hI⟩
      have HF : Hid _ := form_arr hF
      clear hR hI hF
      go_wp2_with first
        | (with_reducible refine wpList_loadW rfl _ _ rfl _ rfl h1 agg24r size24r ?_)
        | (with_reducible refine wpList_storeW rfl _ _ _ rfl _ rfl rfl h2 size24r ?_)
      refine bodyPost_ret_by (results_cellA rfl _ _ _ _ _ _ _ rfl (setRow_heap _ _ _ _ _ _ h2) agg24r size24r) rfl ⟨?_, below_setRow2 hbel (by omega) _⟩
      rw [HF.out]
end Go.Proofs.Ytlbgmkengkgnfaa
