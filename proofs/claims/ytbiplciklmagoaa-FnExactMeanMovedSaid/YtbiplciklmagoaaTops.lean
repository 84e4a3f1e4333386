/- In how many ways the top of a hidden tube can be: the program's. -/
import Derived.Test.YtbiplciklmagoaaCut
import Derived.Test.YtbiplciklmagoaaViewAt
import Derived.Test.YtbiplciklmagoaaCntHid
import Derived.Test.YtbiplciklmagoaaFork
import Derived.Test.YtbiplciklmagoaaViewOf
import Derived.Test.YtbiplciklmagoaaBelow
import Derived.Deep.DeepCutAuto
namespace Go.Proofs.Ytbiplciklmagoaa
set_option linter.unusedSimpArgs false
set_option linter.unusedVariables false
set_option maxRecDepth 20000
open Go.RowKit
section
variable {P : Program}
/-- A closure of two captured values is called. -/
theorem wpQuiet_callV {ops : Array Oper} {C : World → Prop} {Q : Act → Prop} {a : Act} {o : Oper} {rest : List Oper} (hw : Region.wanted o (yielded ops a.tmps) = true) (x y : Operand) (ats : Array TypeId)
    (ho : o.op = .call { callee := .value x, args := #[y], argTypes := ats }) (f : FuncId) {c1 c2 u : Value} (hx : a.eval x = .func (.func f) #[] #[c1, c2]) (hy : a.eval y = u) (v : Value) (hE : Enters P f)
    (hc : ∀ w, C w → Calls P f #[u, c1, c2] w fun e w' => e = .returned v ∧ C w') (hk : wpQuiet P ops C Q rest (a.put o.dst v)) : wpQuiet P ops C Q (o :: rest) a := by
  refine wpQuiet_enter v f #[u, c1, c2] hw (fun w _ => ?_) hc hk
  unfold execOp
  have h1 : (invoke (.fn (.func f) #[c1, c2]) #[u]).run P w = .ok (.enter f #[u, c1, c2]) w := by
    unfold invoke
    simpa using hE #[u, c1, c2] w
  simpa [ho, resolve, Deferred.ofValue, hx, hy] using h1
end
theorem wrapI {x : Int} (h1 : -4611686018427387904 < x) (h2 : x < 4611686018427387904) : IntKind.i64.wrap x = x := IntWalk.i64_in _ (by omega)
theorem upd1 (x y : Int) : arr 1 (upd (fun _ => x) 0 y) = arr 1 (fun _ => y) := arr_congr fun j hj => by
  obtain rfl : j = 0 := by omega
  rfl
theorem zeroI : ((Try.prog.info? 3).bind (·.zero)).map (·.cells) = some (arr 1 fun _ => 0) := by kernel_rfl
theorem zero5 : ((Try.prog.info? 87).bind (·.zero)).map (·.cells) = some (arr 5 fun _ => 0) := by kernel_rfl
theorem size5 : (Try.prog.info? 87).map (·.size) = some 5 := by kernel_rfl
theorem agg5 : aggB Try.prog 87 = true := by kernel_rfl
theorem chs_le {all b : Nat} (h : all ≤ 18) : ∀ t, chs all b t ≤ 18 ^ t
  | 0 => by simp [chs]
  | t + 1 => by
    have := chs_le (b := b) h t
    unfold chs
    rw [Nat.pow_succ]
    exact Nat.mul_le_mul this (by omega)
theorem chs_bd {all b t : Nat} (h : all ≤ 18) (ht : t ≤ 4) : chs all b t ≤ 104976 := Nat.le_trans (chs_le h t) (Nat.le_trans (Nat.pow_le_pow_right (by omega) ht) (by decide))
theorem wys_le {same : Nat} (h : same ≤ 18) : ∀ t, wys same t ≤ 18 ^ t
  | 0 => by simp [wys]
  | t + 1 => by
    have := wys_le h t
    unfold wys
    rw [Nat.pow_succ]
    exact Nat.mul_le_mul this (by omega)
theorem wys_bd {same t : Nat} (h : same ≤ 18) (ht : t ≤ 4) : wys same t ≤ 104976 := Nat.le_trans (wys_le h t) (Nat.le_trans (Nat.pow_le_pow_right (by omega) ht) (by decide))
/-- In how many ways the rest is chosen. -/
theorem tops1_any {A m b Bm Ba : Nat} (hA : A ≤ 18) (hm : 1 ≤ m ∧ m ≤ 4) (hmA : m ≤ A + 1) (hb : b + 1 ≤ m) (w : World) (h9 : w.heap[Bm]? = some (.cells (arr 1 fun _ => (m : Int)) 3 (0, 0))) (h7 : w.heap[Ba]? = some (.cells (arr 1 fun _ => (A : Int)) 3 (0, 0))) :
    Calls Try.prog 97 #[.int .i64 b, .pointer (some ⟨Bm, 0, none⟩), .pointer (some ⟨Ba, 0, none⟩)] w fun e w' => e = .returned (.int .i64 (chs A b (m - 1 - b) : Nat)) ∧ w = w' := by
  have hc9 := rowcell h9 (i := 0) (by omega)
  have hc7 := rowcell h7 (i := 0) (by omega)
  obtain ⟨hm1, hm4⟩ := hm
  obtain ⟨M, rfl⟩ : ∃ M, m = M + 1 := ⟨m - 1, by omega⟩
  rw [Nat.add_sub_cancel]
  go_enter Try.func97, Try.ntmps97
  go_wp2_with fail
  go_loop [5, 6] (fun x k => ∃ t : Nat, b + t ≤ M ∧ k = .int .i64 (b + t : Nat) ∧ x = .int .i64 (chs A b t : Nat)) (fun _ k => M - (intOf k).toNat)
  case atStart => exact ⟨0, by omega, rfl, rfl⟩
  case round =>
    obtain ⟨t, ht, rfl, rfl⟩ := hrel
    have hbd := chs_bd (b := b) hA (show t ≤ 4 by omega)
    by_cases hlt : b + t < M
    · have hlt' : (b : Int) + (t : Int) < (M : Int) := by omega
      have HS : Hid (chs A b (t + 1) = chs A b t * (A - (b + t))) := rfl
      have hAi : ((A - (b + t) : Nat) : Int) = (A : Int) - ((b : Int) + (t : Int)) := by omega
      have hml : chs A b t * (A - (b + t)) ≤ 104976 * 18 := Nat.mul_le_mul hbd (by omega)
      have hw : wrap64 (((chs A b t : Nat) : Int) * ((A : Int) - ((b : Int) + (t : Int)))) = ((chs A b t * (A - (b + t)) : Nat) : Int) := by
        rw [← hAi, show ((chs A b t : Nat) : Int) * ((A - (b + t) : Nat) : Int) = ((chs A b t * (A - (b + t)) : Nat) : Int) by push_cast; rfl]
        unfold wrap64
        omega
      have HW : Hid _ := hw
      clear hw hml hAi
      go_wp2_with fail
      go_round
      case rel => exact ⟨t + 1, by omega, by go_num, by rw [HS.out]; first | rw [HW.out] | rfl⟩
      case measure => simp [intOf]; omega
    · have e : M - b = t := by omega
      have hnl : ¬ ((b : Int) + (t : Int) < (M : Int)) := by omega
      go_wp2_with fail
      go_ret
      exact ⟨rfl, rfl⟩
theorem tops1_at {A m b : Nat} {x : Int} {Bm Ba : Nat} (e : x = (b : Nat)) (hA : A ≤ 18) (hm : 1 ≤ m ∧ m ≤ 4) (hmA : m ≤ A + 1) (hb : b + 1 ≤ m) (w : World) (h9 : w.heap[Bm]? = some (.cells (arr 1 fun _ => (m : Int)) 3 (0, 0))) (h7 : w.heap[Ba]? = some (.cells (arr 1 fun _ => (A : Int)) 3 (0, 0))) :
    Calls Try.prog 97 #[.int .i64 x, .pointer (some ⟨Bm, 0, none⟩), .pointer (some ⟨Ba, 0, none⟩)] w fun e w' => e = .returned (.int .i64 (chs A b (m - 1 - b) : Nat)) ∧ w = w' := by
  subst e
  exact tops1_any hA hm hmA hb w h9 h7
theorem lft_le_hsum {v : Nat → Int} (hx : ∀ j, I64 (v j)) (hf : viewB v = true) {c : Nat} (hc : c < 6) : lft v 6 c ≤ hsum v 6 := by
  obtain ⟨h1, h2⟩ := hid_sum hx hf
  have a0 := h1 0 (by omega); have a1 := h1 1 (by omega); have a2 := h1 2 (by omega); have a3 := h1 3 (by omega); have a4 := h1 4 (by omega); have a5 := h1 5 (by omega)
  simp only [isum, Nat.zero_add] at h2 a0 a1 a2 a3 a4 a5
  match c, hc with
  | 0, _ => omega
  | 1, _ => omega
  | 2, _ => omega
  | 3, _ => omega
  | 4, _ => omega
  | 5, _ => omega
/-- Up to run. -/
def oT (A S m run : Nat) : Nat → Int := fun j => if j < run then ((ownT A S m j : Nat) : Int) else 0
theorem oT_step {A S m run : Nat} {x : Int} (h : x = (ownT A S m run : Nat)) : arr 5 (upd (oT A S m run) run x) = arr 5 (oT A S m (run + 1)) := by
  refine arr_congr fun j _ => ?_
  unfold upd oT
  by_cases e : j = run
  · subst e; rw [if_pos rfl, if_pos (by omega), h]
  · rw [if_neg e]
    by_cases e2 : j < run
    · rw [if_pos e2, if_pos (by omega)]
    · rw [if_neg e2, if_neg (by omega)]
theorem wys_stp {S q : Nat} (hS : S ≤ 18) (hq : q ≤ 4) : wrap64 (((wys S q : Nat) : Int) * if (S : Int) - q < 0 then 0 else (S : Int) - q) = ((wys S (q + 1) : Nat) : Int) := by
  have h0 := wys_bd (t := q) hS hq
  have h1 : wys S q * (S - q) ≤ 104976 * 18 := Nat.mul_le_mul h0 (by omega)
  have e : (if (S : Int) - q < 0 then 0 else (S : Int) - q) = ((S - q : Nat) : Int) := by split <;> omega
  rw [e, ← Int.natCast_mul, show wys S (q + 1) = wys S q * (S - q) from rfl]
  unfold wrap64
  omega
theorem oT_start (A S m : Nat) : arr 5 (fun _ => (0 : Int)) = arr 5 (oT A S m 1) := by
  refine arr_congr fun j _ => ?_
  unfold oT
  by_cases e : j = 0
  · subst e; rfl
  · rw [if_neg (by omega)]
theorem oT_done {A S m : Nat} (hm : 1 ≤ m) : arr 5 (oT A S m (m + 1)) = arr 5 (fun j => ((ownT A S m j : Nat) : Int)) := by
  refine arr_congr fun j _ => ?_
  unfold oT
  by_cases e : j < m + 1
  · rw [if_pos e]
  · rw [if_neg e]
    unfold ownT
    rw [if_neg (by omega), if_neg (by omega), if_neg (by omega)]; rfl
set_option maxHeartbeats 4000000 in
theorem tops_any (v : Nat → Int) (hx : ∀ j, I64 (v j)) (hf : viewB v = true) (n A S m : Nat) (hn : n < 6) (hA : hsum v 6 = A) (hS : lft v 6 (v n).toNat = S) (hm : v (6 + n) = m) (hm1 : 1 ≤ m) (w : World) : Calls Try.prog 70 #[.agg (arr 18 v), .int .i64 n] w fun e w' => e = .returned (.tuple #[.agg (arr 5 fun j => ((ownT A S m j : Nat) : Int)), .int .i64 (allT A m : Nat)]) ∧ Below w.heap.size w w' := by
  have h1 : ((w.alloc (.cells (arr 18 v) 48)).alloc (.cells (arr 5 fun _ => 0) 87)).heap[w.heap.size]? = some (.cells (arr 18 v) 48 (0, 0)) := by rw [heap_old (by simp), heap_new rfl]
  have h2 : ((w.alloc (.cells (arr 18 v) 48)).alloc (.cells (arr 5 fun _ => 0) 87)).heap[w.heap.size + 1]? = some (.cells (arr 5 fun _ => 0) 87 (0, 0)) := heap_new (by simp)
  have hbel : Below w.heap.size w ((w.alloc (.cells (arr 18 v) 48)).alloc (.cells (arr 5 fun _ => 0) 87)) := ((Below.refl _ _).alloc (by simp) _).alloc (by simp) _
  have hV := (viewB_iff.1 hf).1
  have HV : Hid (∀ i, i < 6 → vok v i) := hV
  obtain ⟨⟨va, vb⟩, ⟨vc, vd⟩, ve⟩ := hV n hn
  obtain ⟨c, hc⟩ : ∃ c : Nat, v n = c := ⟨(v n).toNat, by omega⟩
  have hc6 : c < 6 := by omega
  have hc6' : (c : Int) < 6 := by omega
  have hn6 : (n : Int) < 6 := by omega
  have HC : Hid _ := hc
  have HSM : Hid (lft v 6 c = S) := by rw [hc] at hS; exact hS
  have HSUM : Hid _ := hid_sum hx hf
  have HA : Hid _ := hA
  have HM : Hid _ := hm
  have hA18 : A ≤ 18 := by have := hsum_nat hV; omega
  have hmA : m ≤ A + 1 := by have := hsum_ge hV hn (by omega); omega
  have hSA : S ≤ A := by have := lft_le_hsum hx hf hc6; have e := HSM.out; omega
  have hm4 : m ≤ 4 := by omega
  have tok_h6 : True := trivial
  have tok_r : True := trivial
  clear hc hS hA hm va vb vc vd ve hV
  go_enter Try.func70, Try.ntmps70
  go_upto_region 2 with first
    | (have _t := tok_r; (with_reducible refine wpList_allocA rfl 87 rfl 5 zero5 ?_; (try simp only [size_al])); clear _t tok_r)
    | (with_reducible refine wpList_loadW rfl _ _ rfl _ rfl h1 agg18r size18r ?_)
    | (go_at_call 77; (with_reducible refine (hidden_any v HV.out _).mono ?_); rintro e w1 ⟨rfl, hb1⟩; replace hbel := hbel.trans (hb1.mono hbel.size); replace h1 := row_keep hb1 h1; replace h2 := row_keep hb1 h2; clear hb1)
    | (have _t := tok_h6; with_reducible refine wpList_allocN rfl 43 rfl 6 v6z ?_; intro Bh6 w1 hBh6 h6 hb1; have hWh6 := Nat.le_trans hbel.size hBh6; have hLh1h6 := Nat.lt_of_lt_of_le (row_lt h1) hBh6; have hLh2h6 := Nat.lt_of_lt_of_le (row_lt h2) hBh6; replace hbel := hbel.trans (hb1.mono hbel.size); replace h1 := row_keep hb1 h1; replace h2 := row_keep hb1 h2; clear hb1 _t tok_h6)
    | (with_reducible refine wpList_storeWN rfl _ _ _ rfl _ rfl rfl h6 v6s hbel hWh6 ?_; intro w1 g3 ho g4; replace h1 := (ho _ (by omega)).trans h1; replace h2 := (ho _ (by omega)).trans h2; clear h6 hbel; have h6 := g3; have hbel := g4; clear g3 g4 ho)
  go_simp
  go_cut [7, 8] (fun s7 s8 wx => ∃ B7 : Nat, w.heap.size + 1 < B7 ∧ s7 = .pointer (some ⟨B7, 0, none⟩) ∧ s8 = .int .i64 (S : Nat) ∧ wx.heap[w.heap.size]? = some (.cells (arr 18 v) 48 (0, 0)) ∧ wx.heap[w.heap.size + 1]? = some (.cells (arr 5 fun _ => 0) 87 (0, 0)) ∧ wx.heap[B7]? = some (.cells (arr 1 fun _ => (A : Int)) 3 (0, 0)) ∧ Below w.heap.size w wx)
  case first =>
    have tok_h7 : True := trivial
    refine wp_region_fork [0, 2, 3, 4] [] [] 7 (fun l => l.take 1 ++ (l.drop 2).take 3) (fun l => []) (Cls w _) (by kernel_rfl) (by kernel_rfl) (by kernel_rfl) (by kernel_rfl) trivial (Cls.three h1 h2 h6 hbel) ?_; try simp only [List.take_succ_cons, List.take_zero, List.drop_succ_cons, List.drop_zero, List.singleton_append, List.cons_append, List.nil_append]
    repeat (first
      | ((with_reducible refine wpCalm_step (fun K hK => ?_)); go_simp; (first | (refine ⟨_, fun _ _ => rfl, hK _ ?_⟩) | (refine hK _ ?_)); clear hK K))
    refine wpCalm_nil ?_
    refine wpCalm_nil ?_
    have hCt := Cls.three h1 h2 h6 hbel
    obtain ⟨wt, hwt⟩ : ∃ wt : World, wt = { w1 with drawn := w1.drawn + 1 } := ⟨_, rfl⟩
    rw [← hwt] at hCt ⊢
    clear hwt
    replace h1 := hCt.r1
    replace h2 := hCt.r2
    replace h6 := hCt.r3
    replace hbel := hCt.2
    clear hCt
    refine wpAny_fork3 1 5 8 (by kernel_rfl) rfl rfl rfl ?_ ?_ ?_
    · go_wp2_with first
        | (go_at_call 96; (with_reducible refine (sum_eq _ h6 (by omega) (by omega) HSUM.out.1 (HSUM.out.2.trans HA.out)).mono ?_); rintro e w1 ⟨rfl, hb1⟩; replace hbel := hbel.trans (hb1.mono hbel.size); replace h1 := row_keep hb1 h1; replace h2 := row_keep hb1 h2; replace h6 := row_keep hb1 h6; (try replace h7 := row_keep hb1 h7); clear hb1)
      refine QN.intro ?_
      refine wpAny_fork2 5 8 (by kernel_rfl) rfl rfl ?_ ?_
      · go_wp2_with first
          | ((with_reducible refine wpList_loadI rfl _ _ rfl _ _ rfl h1 aggI undI (by omega) ?_); rw [HC.out])
        refine QN.intro ?_
        refine wpAny_fork2 6 8 (by kernel_rfl) rfl rfl ?_ ?_
        · go_wp2_with fail
          refine QN.intro ?_
          refine wpAny_fork2 7 8 (by kernel_rfl) rfl rfl ?_ ?_
          · go_wp2_with first
              | ((with_reducible refine wpList_loadI rfl _ _ rfl _ _ rfl h6 aggI undI (by omega) ?_); rw [HSM.out])
            refine QN.intro ?_
            refine wpAny_fork1 8 (by kernel_rfl) rfl ?_
            go_wp2_with first
              | (have _t := tok_h7; with_reducible refine wpList_allocN rfl 3 rfl 1 zeroI ?_; intro Bh7 w1 hBh7 h7 hb1; have hWh7 := Nat.le_trans hbel.size hBh7; have hLh1h7 := Nat.lt_of_lt_of_le (row_lt h1) hBh7; have hLh2h7 := Nat.lt_of_lt_of_le (row_lt h2) hBh7; have hLh6h7 := Nat.lt_of_lt_of_le (row_lt h6) hBh7; replace hbel := hbel.trans (hb1.mono hbel.size); replace h1 := row_keep hb1 h1; replace h2 := row_keep hb1 h2; replace h6 := row_keep hb1 h6; clear hb1 _t tok_h7)
            refine QN.intro ?_
            refine wpAny_fork1 9 (by kernel_rfl) rfl ?_
            go_wp2_with first
              | (with_reducible refine wpList_storePI rfl 3 _ _ rfl _ _ rfl rfl h7 size1 (by omega) hbel hWh7 ?_; intro w1 g3 ho g4; replace h1 := (ho _ (by omega)).trans h1; replace h2 := (ho _ (by omega)).trans h2; replace h6 := (ho _ (by omega)).trans h6; clear h7 hbel; have h7 := g3; rw [upd1] at h7; have hbel := g4; clear g3 g4 ho)
            refine QN.intro ?_
            refine wpAny_fork1 10 (by kernel_rfl) rfl ?_
            go_wp2_with fail
            refine QN.intro ?_
            refine wpAny_end (by kernel_rfl) ?_
            go_wp2_with fail
            go_meet
            exact ⟨_, by omega, rfl, rfl, h1, h2, h7, hbel⟩
          · go_wp2_with first
              | (have _t := tok_h7; with_reducible refine wpList_allocN rfl 3 rfl 1 zeroI ?_; intro Bh7 w1 hBh7 h7 hb1; have hWh7 := Nat.le_trans hbel.size hBh7; have hLh1h7 := Nat.lt_of_lt_of_le (row_lt h1) hBh7; have hLh2h7 := Nat.lt_of_lt_of_le (row_lt h2) hBh7; have hLh6h7 := Nat.lt_of_lt_of_le (row_lt h6) hBh7; replace hbel := hbel.trans (hb1.mono hbel.size); replace h1 := row_keep hb1 h1; replace h2 := row_keep hb1 h2; replace h6 := row_keep hb1 h6; clear hb1 _t tok_h7)
            refine QN.intro ?_
            refine wpAny_fork2 7 9 (by kernel_rfl) rfl rfl ?_ ?_
            · go_wp2_with first
                | ((with_reducible refine wpList_loadI rfl _ _ rfl _ _ rfl h6 aggI undI (by omega) ?_); rw [HSM.out])
              refine QN.intro ?_
              refine wpAny_fork1 9 (by kernel_rfl) rfl ?_
              go_wp2_with first
                | (with_reducible refine wpList_storePI rfl 3 _ _ rfl _ _ rfl rfl h7 size1 (by omega) hbel hWh7 ?_; intro w1 g3 ho g4; replace h1 := (ho _ (by omega)).trans h1; replace h2 := (ho _ (by omega)).trans h2; replace h6 := (ho _ (by omega)).trans h6; clear h7 hbel; have h7 := g3; rw [upd1] at h7; have hbel := g4; clear g3 g4 ho)
              refine QN.intro ?_
              refine wpAny_fork1 10 (by kernel_rfl) rfl ?_
              go_wp2_with fail
              refine QN.intro ?_
              refine wpAny_end (by kernel_rfl) ?_
              go_wp2_with fail
              go_meet
              exact ⟨_, by omega, rfl, rfl, h1, h2, h7, hbel⟩
            · go_wp2_with first
                | (with_reducible refine wpList_storePI rfl 3 _ _ rfl _ _ rfl rfl h7 size1 (by omega) hbel hWh7 ?_; intro w1 g3 ho g4; replace h1 := (ho _ (by omega)).trans h1; replace h2 := (ho _ (by omega)).trans h2; replace h6 := (ho _ (by omega)).trans h6; clear h7 hbel; have h7 := g3; rw [upd1] at h7; have hbel := g4; clear g3 g4 ho)
              refine QN.intro ?_
              refine wpAny_fork1 7 (by kernel_rfl) rfl ?_
              go_wp2_with first
                | ((with_reducible refine wpList_loadI rfl _ _ rfl _ _ rfl h6 aggI undI (by omega) ?_); rw [HSM.out])
              refine QN.intro ?_
              refine wpAny_fork1 10 (by kernel_rfl) rfl ?_
              go_wp2_with fail
              refine QN.intro ?_
              refine wpAny_end (by kernel_rfl) ?_
              go_wp2_with fail
              go_meet
              exact ⟨_, by omega, rfl, rfl, h1, h2, h7, hbel⟩
        · go_wp2_with first
            | (have _t := tok_h7; with_reducible refine wpList_allocN rfl 3 rfl 1 zeroI ?_; intro Bh7 w1 hBh7 h7 hb1; have hWh7 := Nat.le_trans hbel.size hBh7; have hLh1h7 := Nat.lt_of_lt_of_le (row_lt h1) hBh7; have hLh2h7 := Nat.lt_of_lt_of_le (row_lt h2) hBh7; have hLh6h7 := Nat.lt_of_lt_of_le (row_lt h6) hBh7; replace hbel := hbel.trans (hb1.mono hbel.size); replace h1 := row_keep hb1 h1; replace h2 := row_keep hb1 h2; replace h6 := row_keep hb1 h6; clear hb1 _t tok_h7)
          refine QN.intro ?_
          refine wpAny_fork2 6 9 (by kernel_rfl) rfl rfl ?_ ?_
          · go_wp2_with fail
            refine QN.intro ?_
            refine wpAny_fork2 7 9 (by kernel_rfl) rfl rfl ?_ ?_
            · go_wp2_with first
                | ((with_reducible refine wpList_loadI rfl _ _ rfl _ _ rfl h6 aggI undI (by omega) ?_); rw [HSM.out])
              refine QN.intro ?_
              refine wpAny_fork1 9 (by kernel_rfl) rfl ?_
              go_wp2_with first
                | (with_reducible refine wpList_storePI rfl 3 _ _ rfl _ _ rfl rfl h7 size1 (by omega) hbel hWh7 ?_; intro w1 g3 ho g4; replace h1 := (ho _ (by omega)).trans h1; replace h2 := (ho _ (by omega)).trans h2; replace h6 := (ho _ (by omega)).trans h6; clear h7 hbel; have h7 := g3; rw [upd1] at h7; have hbel := g4; clear g3 g4 ho)
              refine QN.intro ?_
              refine wpAny_fork1 10 (by kernel_rfl) rfl ?_
              go_wp2_with fail
              refine QN.intro ?_
              refine wpAny_end (by kernel_rfl) ?_
              go_wp2_with fail
              go_meet
              exact ⟨_, by omega, rfl, rfl, h1, h2, h7, hbel⟩
            · go_wp2_with first
                | (with_reducible refine wpList_storePI rfl 3 _ _ rfl _ _ rfl rfl h7 size1 (by omega) hbel hWh7 ?_; intro w1 g3 ho g4; replace h1 := (ho _ (by omega)).trans h1; replace h2 := (ho _ (by omega)).trans h2; replace h6 := (ho _ (by omega)).trans h6; clear h7 hbel; have h7 := g3; rw [upd1] at h7; have hbel := g4; clear g3 g4 ho)
              refine QN.intro ?_
              refine wpAny_fork1 7 (by kernel_rfl) rfl ?_
              go_wp2_with first
                | ((with_reducible refine wpList_loadI rfl _ _ rfl _ _ rfl h6 aggI undI (by omega) ?_); rw [HSM.out])
              refine QN.intro ?_
              refine wpAny_fork1 10 (by kernel_rfl) rfl ?_
              go_wp2_with fail
              refine QN.intro ?_
              refine wpAny_end (by kernel_rfl) ?_
              go_wp2_with fail
              go_meet
              exact ⟨_, by omega, rfl, rfl, h1, h2, h7, hbel⟩
          · go_wp2_with first
              | (with_reducible refine wpList_storePI rfl 3 _ _ rfl _ _ rfl rfl h7 size1 (by omega) hbel hWh7 ?_; intro w1 g3 ho g4; replace h1 := (ho _ (by omega)).trans h1; replace h2 := (ho _ (by omega)).trans h2; replace h6 := (ho _ (by omega)).trans h6; clear h7 hbel; have h7 := g3; rw [upd1] at h7; have hbel := g4; clear g3 g4 ho)
            refine QN.intro ?_
            refine wpAny_fork1 6 (by kernel_rfl) rfl ?_
            go_wp2_with fail
            refine QN.intro ?_
            refine wpAny_fork1 7 (by kernel_rfl) rfl ?_
            go_wp2_with first
              | ((with_reducible refine wpList_loadI rfl _ _ rfl _ _ rfl h6 aggI undI (by omega) ?_); rw [HSM.out])
            refine QN.intro ?_
            refine wpAny_fork1 10 (by kernel_rfl) rfl ?_
            go_wp2_with fail
            refine QN.intro ?_
            refine wpAny_end (by kernel_rfl) ?_
            go_wp2_with fail
            go_meet
            exact ⟨_, by omega, rfl, rfl, h1, h2, h7, hbel⟩
      · go_wp2_with first
          | (have _t := tok_h7; with_reducible refine wpList_allocN rfl 3 rfl 1 zeroI ?_; intro Bh7 w1 hBh7 h7 hb1; have hWh7 := Nat.le_trans hbel.size hBh7; have hLh1h7 := Nat.lt_of_lt_of_le (row_lt h1) hBh7; have hLh2h7 := Nat.lt_of_lt_of_le (row_lt h2) hBh7; have hLh6h7 := Nat.lt_of_lt_of_le (row_lt h6) hBh7; replace hbel := hbel.trans (hb1.mono hbel.size); replace h1 := row_keep hb1 h1; replace h2 := row_keep hb1 h2; replace h6 := row_keep hb1 h6; clear hb1 _t tok_h7)
        refine QN.intro ?_
        refine wpAny_fork2 5 9 (by kernel_rfl) rfl rfl ?_ ?_
        · go_wp2_with first
            | ((with_reducible refine wpList_loadI rfl _ _ rfl _ _ rfl h1 aggI undI (by omega) ?_); rw [HC.out])
          refine QN.intro ?_
          refine wpAny_fork2 6 9 (by kernel_rfl) rfl rfl ?_ ?_
          · go_wp2_with fail
            refine QN.intro ?_
            refine wpAny_fork2 7 9 (by kernel_rfl) rfl rfl ?_ ?_
            · go_wp2_with first
                | ((with_reducible refine wpList_loadI rfl _ _ rfl _ _ rfl h6 aggI undI (by omega) ?_); rw [HSM.out])
              refine QN.intro ?_
              refine wpAny_fork1 9 (by kernel_rfl) rfl ?_
              go_wp2_with first
                | (with_reducible refine wpList_storePI rfl 3 _ _ rfl _ _ rfl rfl h7 size1 (by omega) hbel hWh7 ?_; intro w1 g3 ho g4; replace h1 := (ho _ (by omega)).trans h1; replace h2 := (ho _ (by omega)).trans h2; replace h6 := (ho _ (by omega)).trans h6; clear h7 hbel; have h7 := g3; rw [upd1] at h7; have hbel := g4; clear g3 g4 ho)
              refine QN.intro ?_
              refine wpAny_fork1 10 (by kernel_rfl) rfl ?_
              go_wp2_with fail
              refine QN.intro ?_
              refine wpAny_end (by kernel_rfl) ?_
              go_wp2_with fail
              go_meet
              exact ⟨_, by omega, rfl, rfl, h1, h2, h7, hbel⟩
            · go_wp2_with first
                | (with_reducible refine wpList_storePI rfl 3 _ _ rfl _ _ rfl rfl h7 size1 (by omega) hbel hWh7 ?_; intro w1 g3 ho g4; replace h1 := (ho _ (by omega)).trans h1; replace h2 := (ho _ (by omega)).trans h2; replace h6 := (ho _ (by omega)).trans h6; clear h7 hbel; have h7 := g3; rw [upd1] at h7; have hbel := g4; clear g3 g4 ho)
              refine QN.intro ?_
              refine wpAny_fork1 7 (by kernel_rfl) rfl ?_
              go_wp2_with first
                | ((with_reducible refine wpList_loadI rfl _ _ rfl _ _ rfl h6 aggI undI (by omega) ?_); rw [HSM.out])
              refine QN.intro ?_
              refine wpAny_fork1 10 (by kernel_rfl) rfl ?_
              go_wp2_with fail
              refine QN.intro ?_
              refine wpAny_end (by kernel_rfl) ?_
              go_wp2_with fail
              go_meet
              exact ⟨_, by omega, rfl, rfl, h1, h2, h7, hbel⟩
          · go_wp2_with first
              | (with_reducible refine wpList_storePI rfl 3 _ _ rfl _ _ rfl rfl h7 size1 (by omega) hbel hWh7 ?_; intro w1 g3 ho g4; replace h1 := (ho _ (by omega)).trans h1; replace h2 := (ho _ (by omega)).trans h2; replace h6 := (ho _ (by omega)).trans h6; clear h7 hbel; have h7 := g3; rw [upd1] at h7; have hbel := g4; clear g3 g4 ho)
            refine QN.intro ?_
            refine wpAny_fork1 6 (by kernel_rfl) rfl ?_
            go_wp2_with fail
            refine QN.intro ?_
            refine wpAny_fork1 7 (by kernel_rfl) rfl ?_
            go_wp2_with first
              | ((with_reducible refine wpList_loadI rfl _ _ rfl _ _ rfl h6 aggI undI (by omega) ?_); rw [HSM.out])
            refine QN.intro ?_
            refine wpAny_fork1 10 (by kernel_rfl) rfl ?_
            go_wp2_with fail
            refine QN.intro ?_
            refine wpAny_end (by kernel_rfl) ?_
            go_wp2_with fail
            go_meet
            exact ⟨_, by omega, rfl, rfl, h1, h2, h7, hbel⟩
        · go_wp2_with first
            | (with_reducible refine wpList_storePI rfl 3 _ _ rfl _ _ rfl rfl h7 size1 (by omega) hbel hWh7 ?_; intro w1 g3 ho g4; replace h1 := (ho _ (by omega)).trans h1; replace h2 := (ho _ (by omega)).trans h2; replace h6 := (ho _ (by omega)).trans h6; clear h7 hbel; have h7 := g3; rw [upd1] at h7; have hbel := g4; clear g3 g4 ho)
          refine QN.intro ?_
          refine wpAny_fork1 5 (by kernel_rfl) rfl ?_
          go_wp2_with first
            | ((with_reducible refine wpList_loadI rfl _ _ rfl _ _ rfl h1 aggI undI (by omega) ?_); rw [HC.out])
          refine QN.intro ?_
          refine wpAny_fork1 6 (by kernel_rfl) rfl ?_
          go_wp2_with fail
          refine QN.intro ?_
          refine wpAny_fork1 7 (by kernel_rfl) rfl ?_
          go_wp2_with first
            | ((with_reducible refine wpList_loadI rfl _ _ rfl _ _ rfl h6 aggI undI (by omega) ?_); rw [HSM.out])
          refine QN.intro ?_
          refine wpAny_fork1 10 (by kernel_rfl) rfl ?_
          go_wp2_with fail
          refine QN.intro ?_
          refine wpAny_end (by kernel_rfl) ?_
          go_wp2_with fail
          go_meet
          exact ⟨_, by omega, rfl, rfl, h1, h2, h7, hbel⟩
    · go_wp2_with first
        | ((with_reducible refine wpList_loadI rfl _ _ rfl _ _ rfl h1 aggI undI (by omega) ?_); rw [HC.out])
      refine QN.intro ?_
      refine wpAny_fork3 1 6 8 (by kernel_rfl) rfl rfl rfl ?_ ?_ ?_
      · go_wp2_with first
          | (go_at_call 96; (with_reducible refine (sum_eq _ h6 (by omega) (by omega) HSUM.out.1 (HSUM.out.2.trans HA.out)).mono ?_); rintro e w1 ⟨rfl, hb1⟩; replace hbel := hbel.trans (hb1.mono hbel.size); replace h1 := row_keep hb1 h1; replace h2 := row_keep hb1 h2; replace h6 := row_keep hb1 h6; (try replace h7 := row_keep hb1 h7); clear hb1)
        refine QN.intro ?_
        refine wpAny_fork2 6 8 (by kernel_rfl) rfl rfl ?_ ?_
        · go_wp2_with fail
          refine QN.intro ?_
          refine wpAny_fork2 7 8 (by kernel_rfl) rfl rfl ?_ ?_
          · go_wp2_with first
              | ((with_reducible refine wpList_loadI rfl _ _ rfl _ _ rfl h6 aggI undI (by omega) ?_); rw [HSM.out])
            refine QN.intro ?_
            refine wpAny_fork1 8 (by kernel_rfl) rfl ?_
            go_wp2_with first
              | (have _t := tok_h7; with_reducible refine wpList_allocN rfl 3 rfl 1 zeroI ?_; intro Bh7 w1 hBh7 h7 hb1; have hWh7 := Nat.le_trans hbel.size hBh7; have hLh1h7 := Nat.lt_of_lt_of_le (row_lt h1) hBh7; have hLh2h7 := Nat.lt_of_lt_of_le (row_lt h2) hBh7; have hLh6h7 := Nat.lt_of_lt_of_le (row_lt h6) hBh7; replace hbel := hbel.trans (hb1.mono hbel.size); replace h1 := row_keep hb1 h1; replace h2 := row_keep hb1 h2; replace h6 := row_keep hb1 h6; clear hb1 _t tok_h7)
            refine QN.intro ?_
            refine wpAny_fork1 9 (by kernel_rfl) rfl ?_
            go_wp2_with first
              | (with_reducible refine wpList_storePI rfl 3 _ _ rfl _ _ rfl rfl h7 size1 (by omega) hbel hWh7 ?_; intro w1 g3 ho g4; replace h1 := (ho _ (by omega)).trans h1; replace h2 := (ho _ (by omega)).trans h2; replace h6 := (ho _ (by omega)).trans h6; clear h7 hbel; have h7 := g3; rw [upd1] at h7; have hbel := g4; clear g3 g4 ho)
            refine QN.intro ?_
            refine wpAny_fork1 10 (by kernel_rfl) rfl ?_
            go_wp2_with fail
            refine QN.intro ?_
            refine wpAny_end (by kernel_rfl) ?_
            go_wp2_with fail
            go_meet
            exact ⟨_, by omega, rfl, rfl, h1, h2, h7, hbel⟩
          · go_wp2_with first
              | (have _t := tok_h7; with_reducible refine wpList_allocN rfl 3 rfl 1 zeroI ?_; intro Bh7 w1 hBh7 h7 hb1; have hWh7 := Nat.le_trans hbel.size hBh7; have hLh1h7 := Nat.lt_of_lt_of_le (row_lt h1) hBh7; have hLh2h7 := Nat.lt_of_lt_of_le (row_lt h2) hBh7; have hLh6h7 := Nat.lt_of_lt_of_le (row_lt h6) hBh7; replace hbel := hbel.trans (hb1.mono hbel.size); replace h1 := row_keep hb1 h1; replace h2 := row_keep hb1 h2; replace h6 := row_keep hb1 h6; clear hb1 _t tok_h7)
            refine QN.intro ?_
            refine wpAny_fork2 7 9 (by kernel_rfl) rfl rfl ?_ ?_
            · go_wp2_with first
                | ((with_reducible refine wpList_loadI rfl _ _ rfl _ _ rfl h6 aggI undI (by omega) ?_); rw [HSM.out])
              refine QN.intro ?_
              refine wpAny_fork1 9 (by kernel_rfl) rfl ?_
              go_wp2_with first
                | (with_reducible refine wpList_storePI rfl 3 _ _ rfl _ _ rfl rfl h7 size1 (by omega) hbel hWh7 ?_; intro w1 g3 ho g4; replace h1 := (ho _ (by omega)).trans h1; replace h2 := (ho _ (by omega)).trans h2; replace h6 := (ho _ (by omega)).trans h6; clear h7 hbel; have h7 := g3; rw [upd1] at h7; have hbel := g4; clear g3 g4 ho)
              refine QN.intro ?_
              refine wpAny_fork1 10 (by kernel_rfl) rfl ?_
              go_wp2_with fail
              refine QN.intro ?_
              refine wpAny_end (by kernel_rfl) ?_
              go_wp2_with fail
              go_meet
              exact ⟨_, by omega, rfl, rfl, h1, h2, h7, hbel⟩
            · go_wp2_with first
                | (with_reducible refine wpList_storePI rfl 3 _ _ rfl _ _ rfl rfl h7 size1 (by omega) hbel hWh7 ?_; intro w1 g3 ho g4; replace h1 := (ho _ (by omega)).trans h1; replace h2 := (ho _ (by omega)).trans h2; replace h6 := (ho _ (by omega)).trans h6; clear h7 hbel; have h7 := g3; rw [upd1] at h7; have hbel := g4; clear g3 g4 ho)
              refine QN.intro ?_
              refine wpAny_fork1 7 (by kernel_rfl) rfl ?_
              go_wp2_with first
                | ((with_reducible refine wpList_loadI rfl _ _ rfl _ _ rfl h6 aggI undI (by omega) ?_); rw [HSM.out])
              refine QN.intro ?_
              refine wpAny_fork1 10 (by kernel_rfl) rfl ?_
              go_wp2_with fail
              refine QN.intro ?_
              refine wpAny_end (by kernel_rfl) ?_
              go_wp2_with fail
              go_meet
              exact ⟨_, by omega, rfl, rfl, h1, h2, h7, hbel⟩
        · go_wp2_with first
            | (have _t := tok_h7; with_reducible refine wpList_allocN rfl 3 rfl 1 zeroI ?_; intro Bh7 w1 hBh7 h7 hb1; have hWh7 := Nat.le_trans hbel.size hBh7; have hLh1h7 := Nat.lt_of_lt_of_le (row_lt h1) hBh7; have hLh2h7 := Nat.lt_of_lt_of_le (row_lt h2) hBh7; have hLh6h7 := Nat.lt_of_lt_of_le (row_lt h6) hBh7; replace hbel := hbel.trans (hb1.mono hbel.size); replace h1 := row_keep hb1 h1; replace h2 := row_keep hb1 h2; replace h6 := row_keep hb1 h6; clear hb1 _t tok_h7)
          refine QN.intro ?_
          refine wpAny_fork2 6 9 (by kernel_rfl) rfl rfl ?_ ?_
          · go_wp2_with fail
            refine QN.intro ?_
            refine wpAny_fork2 7 9 (by kernel_rfl) rfl rfl ?_ ?_
            · go_wp2_with first
                | ((with_reducible refine wpList_loadI rfl _ _ rfl _ _ rfl h6 aggI undI (by omega) ?_); rw [HSM.out])
              refine QN.intro ?_
              refine wpAny_fork1 9 (by kernel_rfl) rfl ?_
              go_wp2_with first
                | (with_reducible refine wpList_storePI rfl 3 _ _ rfl _ _ rfl rfl h7 size1 (by omega) hbel hWh7 ?_; intro w1 g3 ho g4; replace h1 := (ho _ (by omega)).trans h1; replace h2 := (ho _ (by omega)).trans h2; replace h6 := (ho _ (by omega)).trans h6; clear h7 hbel; have h7 := g3; rw [upd1] at h7; have hbel := g4; clear g3 g4 ho)
              refine QN.intro ?_
              refine wpAny_fork1 10 (by kernel_rfl) rfl ?_
              go_wp2_with fail
              refine QN.intro ?_
              refine wpAny_end (by kernel_rfl) ?_
              go_wp2_with fail
              go_meet
              exact ⟨_, by omega, rfl, rfl, h1, h2, h7, hbel⟩
            · go_wp2_with first
                | (with_reducible refine wpList_storePI rfl 3 _ _ rfl _ _ rfl rfl h7 size1 (by omega) hbel hWh7 ?_; intro w1 g3 ho g4; replace h1 := (ho _ (by omega)).trans h1; replace h2 := (ho _ (by omega)).trans h2; replace h6 := (ho _ (by omega)).trans h6; clear h7 hbel; have h7 := g3; rw [upd1] at h7; have hbel := g4; clear g3 g4 ho)
              refine QN.intro ?_
              refine wpAny_fork1 7 (by kernel_rfl) rfl ?_
              go_wp2_with first
                | ((with_reducible refine wpList_loadI rfl _ _ rfl _ _ rfl h6 aggI undI (by omega) ?_); rw [HSM.out])
              refine QN.intro ?_
              refine wpAny_fork1 10 (by kernel_rfl) rfl ?_
              go_wp2_with fail
              refine QN.intro ?_
              refine wpAny_end (by kernel_rfl) ?_
              go_wp2_with fail
              go_meet
              exact ⟨_, by omega, rfl, rfl, h1, h2, h7, hbel⟩
          · go_wp2_with first
              | (with_reducible refine wpList_storePI rfl 3 _ _ rfl _ _ rfl rfl h7 size1 (by omega) hbel hWh7 ?_; intro w1 g3 ho g4; replace h1 := (ho _ (by omega)).trans h1; replace h2 := (ho _ (by omega)).trans h2; replace h6 := (ho _ (by omega)).trans h6; clear h7 hbel; have h7 := g3; rw [upd1] at h7; have hbel := g4; clear g3 g4 ho)
            refine QN.intro ?_
            refine wpAny_fork1 6 (by kernel_rfl) rfl ?_
            go_wp2_with fail
            refine QN.intro ?_
            refine wpAny_fork1 7 (by kernel_rfl) rfl ?_
            go_wp2_with first
              | ((with_reducible refine wpList_loadI rfl _ _ rfl _ _ rfl h6 aggI undI (by omega) ?_); rw [HSM.out])
            refine QN.intro ?_
            refine wpAny_fork1 10 (by kernel_rfl) rfl ?_
            go_wp2_with fail
            refine QN.intro ?_
            refine wpAny_end (by kernel_rfl) ?_
            go_wp2_with fail
            go_meet
            exact ⟨_, by omega, rfl, rfl, h1, h2, h7, hbel⟩
      · go_wp2_with fail
        refine QN.intro ?_
        refine wpAny_fork3 1 7 8 (by kernel_rfl) rfl rfl rfl ?_ ?_ ?_
        · go_wp2_with first
            | (go_at_call 96; (with_reducible refine (sum_eq _ h6 (by omega) (by omega) HSUM.out.1 (HSUM.out.2.trans HA.out)).mono ?_); rintro e w1 ⟨rfl, hb1⟩; replace hbel := hbel.trans (hb1.mono hbel.size); replace h1 := row_keep hb1 h1; replace h2 := row_keep hb1 h2; replace h6 := row_keep hb1 h6; (try replace h7 := row_keep hb1 h7); clear hb1)
          refine QN.intro ?_
          refine wpAny_fork2 7 8 (by kernel_rfl) rfl rfl ?_ ?_
          · go_wp2_with first
              | ((with_reducible refine wpList_loadI rfl _ _ rfl _ _ rfl h6 aggI undI (by omega) ?_); rw [HSM.out])
            refine QN.intro ?_
            refine wpAny_fork1 8 (by kernel_rfl) rfl ?_
            go_wp2_with first
              | (have _t := tok_h7; with_reducible refine wpList_allocN rfl 3 rfl 1 zeroI ?_; intro Bh7 w1 hBh7 h7 hb1; have hWh7 := Nat.le_trans hbel.size hBh7; have hLh1h7 := Nat.lt_of_lt_of_le (row_lt h1) hBh7; have hLh2h7 := Nat.lt_of_lt_of_le (row_lt h2) hBh7; have hLh6h7 := Nat.lt_of_lt_of_le (row_lt h6) hBh7; replace hbel := hbel.trans (hb1.mono hbel.size); replace h1 := row_keep hb1 h1; replace h2 := row_keep hb1 h2; replace h6 := row_keep hb1 h6; clear hb1 _t tok_h7)
            refine QN.intro ?_
            refine wpAny_fork1 9 (by kernel_rfl) rfl ?_
            go_wp2_with first
              | (with_reducible refine wpList_storePI rfl 3 _ _ rfl _ _ rfl rfl h7 size1 (by omega) hbel hWh7 ?_; intro w1 g3 ho g4; replace h1 := (ho _ (by omega)).trans h1; replace h2 := (ho _ (by omega)).trans h2; replace h6 := (ho _ (by omega)).trans h6; clear h7 hbel; have h7 := g3; rw [upd1] at h7; have hbel := g4; clear g3 g4 ho)
            refine QN.intro ?_
            refine wpAny_fork1 10 (by kernel_rfl) rfl ?_
            go_wp2_with fail
            refine QN.intro ?_
            refine wpAny_end (by kernel_rfl) ?_
            go_wp2_with fail
            go_meet
            exact ⟨_, by omega, rfl, rfl, h1, h2, h7, hbel⟩
          · go_wp2_with first
              | (have _t := tok_h7; with_reducible refine wpList_allocN rfl 3 rfl 1 zeroI ?_; intro Bh7 w1 hBh7 h7 hb1; have hWh7 := Nat.le_trans hbel.size hBh7; have hLh1h7 := Nat.lt_of_lt_of_le (row_lt h1) hBh7; have hLh2h7 := Nat.lt_of_lt_of_le (row_lt h2) hBh7; have hLh6h7 := Nat.lt_of_lt_of_le (row_lt h6) hBh7; replace hbel := hbel.trans (hb1.mono hbel.size); replace h1 := row_keep hb1 h1; replace h2 := row_keep hb1 h2; replace h6 := row_keep hb1 h6; clear hb1 _t tok_h7)
            refine QN.intro ?_
            refine wpAny_fork2 7 9 (by kernel_rfl) rfl rfl ?_ ?_
            · go_wp2_with first
                | ((with_reducible refine wpList_loadI rfl _ _ rfl _ _ rfl h6 aggI undI (by omega) ?_); rw [HSM.out])
              refine QN.intro ?_
              refine wpAny_fork1 9 (by kernel_rfl) rfl ?_
              go_wp2_with first
                | (with_reducible refine wpList_storePI rfl 3 _ _ rfl _ _ rfl rfl h7 size1 (by omega) hbel hWh7 ?_; intro w1 g3 ho g4; replace h1 := (ho _ (by omega)).trans h1; replace h2 := (ho _ (by omega)).trans h2; replace h6 := (ho _ (by omega)).trans h6; clear h7 hbel; have h7 := g3; rw [upd1] at h7; have hbel := g4; clear g3 g4 ho)
              refine QN.intro ?_
              refine wpAny_fork1 10 (by kernel_rfl) rfl ?_
              go_wp2_with fail
              refine QN.intro ?_
              refine wpAny_end (by kernel_rfl) ?_
              go_wp2_with fail
              go_meet
              exact ⟨_, by omega, rfl, rfl, h1, h2, h7, hbel⟩
            · go_wp2_with first
                | (with_reducible refine wpList_storePI rfl 3 _ _ rfl _ _ rfl rfl h7 size1 (by omega) hbel hWh7 ?_; intro w1 g3 ho g4; replace h1 := (ho _ (by omega)).trans h1; replace h2 := (ho _ (by omega)).trans h2; replace h6 := (ho _ (by omega)).trans h6; clear h7 hbel; have h7 := g3; rw [upd1] at h7; have hbel := g4; clear g3 g4 ho)
              refine QN.intro ?_
              refine wpAny_fork1 7 (by kernel_rfl) rfl ?_
              go_wp2_with first
                | ((with_reducible refine wpList_loadI rfl _ _ rfl _ _ rfl h6 aggI undI (by omega) ?_); rw [HSM.out])
              refine QN.intro ?_
              refine wpAny_fork1 10 (by kernel_rfl) rfl ?_
              go_wp2_with fail
              refine QN.intro ?_
              refine wpAny_end (by kernel_rfl) ?_
              go_wp2_with fail
              go_meet
              exact ⟨_, by omega, rfl, rfl, h1, h2, h7, hbel⟩
        · go_wp2_with first
            | ((with_reducible refine wpList_loadI rfl _ _ rfl _ _ rfl h6 aggI undI (by omega) ?_); rw [HSM.out])
          refine QN.intro ?_
          refine wpAny_fork2 1 8 (by kernel_rfl) rfl rfl ?_ ?_
          · go_wp2_with first
              | (go_at_call 96; (with_reducible refine (sum_eq _ h6 (by omega) (by omega) HSUM.out.1 (HSUM.out.2.trans HA.out)).mono ?_); rintro e w1 ⟨rfl, hb1⟩; replace hbel := hbel.trans (hb1.mono hbel.size); replace h1 := row_keep hb1 h1; replace h2 := row_keep hb1 h2; replace h6 := row_keep hb1 h6; (try replace h7 := row_keep hb1 h7); clear hb1)
            refine QN.intro ?_
            refine wpAny_fork1 8 (by kernel_rfl) rfl ?_
            go_wp2_with first
              | (have _t := tok_h7; with_reducible refine wpList_allocN rfl 3 rfl 1 zeroI ?_; intro Bh7 w1 hBh7 h7 hb1; have hWh7 := Nat.le_trans hbel.size hBh7; have hLh1h7 := Nat.lt_of_lt_of_le (row_lt h1) hBh7; have hLh2h7 := Nat.lt_of_lt_of_le (row_lt h2) hBh7; have hLh6h7 := Nat.lt_of_lt_of_le (row_lt h6) hBh7; replace hbel := hbel.trans (hb1.mono hbel.size); replace h1 := row_keep hb1 h1; replace h2 := row_keep hb1 h2; replace h6 := row_keep hb1 h6; clear hb1 _t tok_h7)
            refine QN.intro ?_
            refine wpAny_fork1 9 (by kernel_rfl) rfl ?_
            go_wp2_with first
              | (with_reducible refine wpList_storePI rfl 3 _ _ rfl _ _ rfl rfl h7 size1 (by omega) hbel hWh7 ?_; intro w1 g3 ho g4; replace h1 := (ho _ (by omega)).trans h1; replace h2 := (ho _ (by omega)).trans h2; replace h6 := (ho _ (by omega)).trans h6; clear h7 hbel; have h7 := g3; rw [upd1] at h7; have hbel := g4; clear g3 g4 ho)
            refine QN.intro ?_
            refine wpAny_fork1 10 (by kernel_rfl) rfl ?_
            go_wp2_with fail
            refine QN.intro ?_
            refine wpAny_end (by kernel_rfl) ?_
            go_wp2_with fail
            go_meet
            exact ⟨_, by omega, rfl, rfl, h1, h2, h7, hbel⟩
          · go_wp2_with first
              | (have _t := tok_h7; with_reducible refine wpList_allocN rfl 3 rfl 1 zeroI ?_; intro Bh7 w1 hBh7 h7 hb1; have hWh7 := Nat.le_trans hbel.size hBh7; have hLh1h7 := Nat.lt_of_lt_of_le (row_lt h1) hBh7; have hLh2h7 := Nat.lt_of_lt_of_le (row_lt h2) hBh7; have hLh6h7 := Nat.lt_of_lt_of_le (row_lt h6) hBh7; replace hbel := hbel.trans (hb1.mono hbel.size); replace h1 := row_keep hb1 h1; replace h2 := row_keep hb1 h2; replace h6 := row_keep hb1 h6; clear hb1 _t tok_h7)
            refine QN.intro ?_
            refine wpAny_fork1 1 (by kernel_rfl) rfl ?_
            go_wp2_with first
              | (go_at_call 96; (with_reducible refine (sum_eq _ h6 (by omega) (by omega) HSUM.out.1 (HSUM.out.2.trans HA.out)).mono ?_); rintro e w1 ⟨rfl, hb1⟩; replace hbel := hbel.trans (hb1.mono hbel.size); replace h1 := row_keep hb1 h1; replace h2 := row_keep hb1 h2; replace h6 := row_keep hb1 h6; (try replace h7 := row_keep hb1 h7); clear hb1)
            refine QN.intro ?_
            refine wpAny_fork1 9 (by kernel_rfl) rfl ?_
            go_wp2_with first
              | (with_reducible refine wpList_storePI rfl 3 _ _ rfl _ _ rfl rfl h7 size1 (by omega) hbel hWh7 ?_; intro w1 g3 ho g4; replace h1 := (ho _ (by omega)).trans h1; replace h2 := (ho _ (by omega)).trans h2; replace h6 := (ho _ (by omega)).trans h6; clear h7 hbel; have h7 := g3; rw [upd1] at h7; have hbel := g4; clear g3 g4 ho)
            refine QN.intro ?_
            refine wpAny_fork1 10 (by kernel_rfl) rfl ?_
            go_wp2_with fail
            refine QN.intro ?_
            refine wpAny_end (by kernel_rfl) ?_
            go_wp2_with fail
            go_meet
            exact ⟨_, by omega, rfl, rfl, h1, h2, h7, hbel⟩
        · go_wp2_with first
            | (have _t := tok_h7; with_reducible refine wpList_allocN rfl 3 rfl 1 zeroI ?_; intro Bh7 w1 hBh7 h7 hb1; have hWh7 := Nat.le_trans hbel.size hBh7; have hLh1h7 := Nat.lt_of_lt_of_le (row_lt h1) hBh7; have hLh2h7 := Nat.lt_of_lt_of_le (row_lt h2) hBh7; have hLh6h7 := Nat.lt_of_lt_of_le (row_lt h6) hBh7; replace hbel := hbel.trans (hb1.mono hbel.size); replace h1 := row_keep hb1 h1; replace h2 := row_keep hb1 h2; replace h6 := row_keep hb1 h6; clear hb1 _t tok_h7)
          refine QN.intro ?_
          refine wpAny_fork2 1 7 (by kernel_rfl) rfl rfl ?_ ?_
          · go_wp2_with first
              | (go_at_call 96; (with_reducible refine (sum_eq _ h6 (by omega) (by omega) HSUM.out.1 (HSUM.out.2.trans HA.out)).mono ?_); rintro e w1 ⟨rfl, hb1⟩; replace hbel := hbel.trans (hb1.mono hbel.size); replace h1 := row_keep hb1 h1; replace h2 := row_keep hb1 h2; replace h6 := row_keep hb1 h6; (try replace h7 := row_keep hb1 h7); clear hb1)
            refine QN.intro ?_
            refine wpAny_fork2 7 9 (by kernel_rfl) rfl rfl ?_ ?_
            · go_wp2_with first
                | ((with_reducible refine wpList_loadI rfl _ _ rfl _ _ rfl h6 aggI undI (by omega) ?_); rw [HSM.out])
              refine QN.intro ?_
              refine wpAny_fork1 9 (by kernel_rfl) rfl ?_
              go_wp2_with first
                | (with_reducible refine wpList_storePI rfl 3 _ _ rfl _ _ rfl rfl h7 size1 (by omega) hbel hWh7 ?_; intro w1 g3 ho g4; replace h1 := (ho _ (by omega)).trans h1; replace h2 := (ho _ (by omega)).trans h2; replace h6 := (ho _ (by omega)).trans h6; clear h7 hbel; have h7 := g3; rw [upd1] at h7; have hbel := g4; clear g3 g4 ho)
              refine QN.intro ?_
              refine wpAny_fork1 10 (by kernel_rfl) rfl ?_
              go_wp2_with fail
              refine QN.intro ?_
              refine wpAny_end (by kernel_rfl) ?_
              go_wp2_with fail
              go_meet
              exact ⟨_, by omega, rfl, rfl, h1, h2, h7, hbel⟩
            · go_wp2_with first
                | (with_reducible refine wpList_storePI rfl 3 _ _ rfl _ _ rfl rfl h7 size1 (by omega) hbel hWh7 ?_; intro w1 g3 ho g4; replace h1 := (ho _ (by omega)).trans h1; replace h2 := (ho _ (by omega)).trans h2; replace h6 := (ho _ (by omega)).trans h6; clear h7 hbel; have h7 := g3; rw [upd1] at h7; have hbel := g4; clear g3 g4 ho)
              refine QN.intro ?_
              refine wpAny_fork1 7 (by kernel_rfl) rfl ?_
              go_wp2_with first
                | ((with_reducible refine wpList_loadI rfl _ _ rfl _ _ rfl h6 aggI undI (by omega) ?_); rw [HSM.out])
              refine QN.intro ?_
              refine wpAny_fork1 10 (by kernel_rfl) rfl ?_
              go_wp2_with fail
              refine QN.intro ?_
              refine wpAny_end (by kernel_rfl) ?_
              go_wp2_with fail
              go_meet
              exact ⟨_, by omega, rfl, rfl, h1, h2, h7, hbel⟩
          · go_wp2_with first
              | ((with_reducible refine wpList_loadI rfl _ _ rfl _ _ rfl h6 aggI undI (by omega) ?_); rw [HSM.out])
            refine QN.intro ?_
            refine wpAny_fork1 1 (by kernel_rfl) rfl ?_
            go_wp2_with first
              | (go_at_call 96; (with_reducible refine (sum_eq _ h6 (by omega) (by omega) HSUM.out.1 (HSUM.out.2.trans HA.out)).mono ?_); rintro e w1 ⟨rfl, hb1⟩; replace hbel := hbel.trans (hb1.mono hbel.size); replace h1 := row_keep hb1 h1; replace h2 := row_keep hb1 h2; replace h6 := row_keep hb1 h6; (try replace h7 := row_keep hb1 h7); clear hb1)
            refine QN.intro ?_
            refine wpAny_fork1 9 (by kernel_rfl) rfl ?_
            go_wp2_with first
              | (with_reducible refine wpList_storePI rfl 3 _ _ rfl _ _ rfl rfl h7 size1 (by omega) hbel hWh7 ?_; intro w1 g3 ho g4; replace h1 := (ho _ (by omega)).trans h1; replace h2 := (ho _ (by omega)).trans h2; replace h6 := (ho _ (by omega)).trans h6; clear h7 hbel; have h7 := g3; rw [upd1] at h7; have hbel := g4; clear g3 g4 ho)
            refine QN.intro ?_
            refine wpAny_fork1 10 (by kernel_rfl) rfl ?_
            go_wp2_with fail
            refine QN.intro ?_
            refine wpAny_end (by kernel_rfl) ?_
            go_wp2_with fail
            go_meet
            exact ⟨_, by omega, rfl, rfl, h1, h2, h7, hbel⟩
      · go_wp2_with first
          | (have _t := tok_h7; with_reducible refine wpList_allocN rfl 3 rfl 1 zeroI ?_; intro Bh7 w1 hBh7 h7 hb1; have hWh7 := Nat.le_trans hbel.size hBh7; have hLh1h7 := Nat.lt_of_lt_of_le (row_lt h1) hBh7; have hLh2h7 := Nat.lt_of_lt_of_le (row_lt h2) hBh7; have hLh6h7 := Nat.lt_of_lt_of_le (row_lt h6) hBh7; replace hbel := hbel.trans (hb1.mono hbel.size); replace h1 := row_keep hb1 h1; replace h2 := row_keep hb1 h2; replace h6 := row_keep hb1 h6; clear hb1 _t tok_h7)
        refine QN.intro ?_
        refine wpAny_fork2 1 6 (by kernel_rfl) rfl rfl ?_ ?_
        · go_wp2_with first
            | (go_at_call 96; (with_reducible refine (sum_eq _ h6 (by omega) (by omega) HSUM.out.1 (HSUM.out.2.trans HA.out)).mono ?_); rintro e w1 ⟨rfl, hb1⟩; replace hbel := hbel.trans (hb1.mono hbel.size); replace h1 := row_keep hb1 h1; replace h2 := row_keep hb1 h2; replace h6 := row_keep hb1 h6; (try replace h7 := row_keep hb1 h7); clear hb1)
          refine QN.intro ?_
          refine wpAny_fork2 6 9 (by kernel_rfl) rfl rfl ?_ ?_
          · go_wp2_with fail
            refine QN.intro ?_
            refine wpAny_fork2 7 9 (by kernel_rfl) rfl rfl ?_ ?_
            · go_wp2_with first
                | ((with_reducible refine wpList_loadI rfl _ _ rfl _ _ rfl h6 aggI undI (by omega) ?_); rw [HSM.out])
              refine QN.intro ?_
              refine wpAny_fork1 9 (by kernel_rfl) rfl ?_
              go_wp2_with first
                | (with_reducible refine wpList_storePI rfl 3 _ _ rfl _ _ rfl rfl h7 size1 (by omega) hbel hWh7 ?_; intro w1 g3 ho g4; replace h1 := (ho _ (by omega)).trans h1; replace h2 := (ho _ (by omega)).trans h2; replace h6 := (ho _ (by omega)).trans h6; clear h7 hbel; have h7 := g3; rw [upd1] at h7; have hbel := g4; clear g3 g4 ho)
              refine QN.intro ?_
              refine wpAny_fork1 10 (by kernel_rfl) rfl ?_
              go_wp2_with fail
              refine QN.intro ?_
              refine wpAny_end (by kernel_rfl) ?_
              go_wp2_with fail
              go_meet
              exact ⟨_, by omega, rfl, rfl, h1, h2, h7, hbel⟩
            · go_wp2_with first
                | (with_reducible refine wpList_storePI rfl 3 _ _ rfl _ _ rfl rfl h7 size1 (by omega) hbel hWh7 ?_; intro w1 g3 ho g4; replace h1 := (ho _ (by omega)).trans h1; replace h2 := (ho _ (by omega)).trans h2; replace h6 := (ho _ (by omega)).trans h6; clear h7 hbel; have h7 := g3; rw [upd1] at h7; have hbel := g4; clear g3 g4 ho)
              refine QN.intro ?_
              refine wpAny_fork1 7 (by kernel_rfl) rfl ?_
              go_wp2_with first
                | ((with_reducible refine wpList_loadI rfl _ _ rfl _ _ rfl h6 aggI undI (by omega) ?_); rw [HSM.out])
              refine QN.intro ?_
              refine wpAny_fork1 10 (by kernel_rfl) rfl ?_
              go_wp2_with fail
              refine QN.intro ?_
              refine wpAny_end (by kernel_rfl) ?_
              go_wp2_with fail
              go_meet
              exact ⟨_, by omega, rfl, rfl, h1, h2, h7, hbel⟩
          · go_wp2_with first
              | (with_reducible refine wpList_storePI rfl 3 _ _ rfl _ _ rfl rfl h7 size1 (by omega) hbel hWh7 ?_; intro w1 g3 ho g4; replace h1 := (ho _ (by omega)).trans h1; replace h2 := (ho _ (by omega)).trans h2; replace h6 := (ho _ (by omega)).trans h6; clear h7 hbel; have h7 := g3; rw [upd1] at h7; have hbel := g4; clear g3 g4 ho)
            refine QN.intro ?_
            refine wpAny_fork1 6 (by kernel_rfl) rfl ?_
            go_wp2_with fail
            refine QN.intro ?_
            refine wpAny_fork1 7 (by kernel_rfl) rfl ?_
            go_wp2_with first
              | ((with_reducible refine wpList_loadI rfl _ _ rfl _ _ rfl h6 aggI undI (by omega) ?_); rw [HSM.out])
            refine QN.intro ?_
            refine wpAny_fork1 10 (by kernel_rfl) rfl ?_
            go_wp2_with fail
            refine QN.intro ?_
            refine wpAny_end (by kernel_rfl) ?_
            go_wp2_with fail
            go_meet
            exact ⟨_, by omega, rfl, rfl, h1, h2, h7, hbel⟩
        · go_wp2_with fail
          refine QN.intro ?_
          refine wpAny_fork2 1 7 (by kernel_rfl) rfl rfl ?_ ?_
          · go_wp2_with first
              | (go_at_call 96; (with_reducible refine (sum_eq _ h6 (by omega) (by omega) HSUM.out.1 (HSUM.out.2.trans HA.out)).mono ?_); rintro e w1 ⟨rfl, hb1⟩; replace hbel := hbel.trans (hb1.mono hbel.size); replace h1 := row_keep hb1 h1; replace h2 := row_keep hb1 h2; replace h6 := row_keep hb1 h6; (try replace h7 := row_keep hb1 h7); clear hb1)
            refine QN.intro ?_
            refine wpAny_fork2 7 9 (by kernel_rfl) rfl rfl ?_ ?_
            · go_wp2_with first
                | ((with_reducible refine wpList_loadI rfl _ _ rfl _ _ rfl h6 aggI undI (by omega) ?_); rw [HSM.out])
              refine QN.intro ?_
              refine wpAny_fork1 9 (by kernel_rfl) rfl ?_
              go_wp2_with first
                | (with_reducible refine wpList_storePI rfl 3 _ _ rfl _ _ rfl rfl h7 size1 (by omega) hbel hWh7 ?_; intro w1 g3 ho g4; replace h1 := (ho _ (by omega)).trans h1; replace h2 := (ho _ (by omega)).trans h2; replace h6 := (ho _ (by omega)).trans h6; clear h7 hbel; have h7 := g3; rw [upd1] at h7; have hbel := g4; clear g3 g4 ho)
              refine QN.intro ?_
              refine wpAny_fork1 10 (by kernel_rfl) rfl ?_
              go_wp2_with fail
              refine QN.intro ?_
              refine wpAny_end (by kernel_rfl) ?_
              go_wp2_with fail
              go_meet
              exact ⟨_, by omega, rfl, rfl, h1, h2, h7, hbel⟩
            · go_wp2_with first
                | (with_reducible refine wpList_storePI rfl 3 _ _ rfl _ _ rfl rfl h7 size1 (by omega) hbel hWh7 ?_; intro w1 g3 ho g4; replace h1 := (ho _ (by omega)).trans h1; replace h2 := (ho _ (by omega)).trans h2; replace h6 := (ho _ (by omega)).trans h6; clear h7 hbel; have h7 := g3; rw [upd1] at h7; have hbel := g4; clear g3 g4 ho)
              refine QN.intro ?_
              refine wpAny_fork1 7 (by kernel_rfl) rfl ?_
              go_wp2_with first
                | ((with_reducible refine wpList_loadI rfl _ _ rfl _ _ rfl h6 aggI undI (by omega) ?_); rw [HSM.out])
              refine QN.intro ?_
              refine wpAny_fork1 10 (by kernel_rfl) rfl ?_
              go_wp2_with fail
              refine QN.intro ?_
              refine wpAny_end (by kernel_rfl) ?_
              go_wp2_with fail
              go_meet
              exact ⟨_, by omega, rfl, rfl, h1, h2, h7, hbel⟩
          · go_wp2_with first
              | ((with_reducible refine wpList_loadI rfl _ _ rfl _ _ rfl h6 aggI undI (by omega) ?_); rw [HSM.out])
            refine QN.intro ?_
            refine wpAny_fork1 1 (by kernel_rfl) rfl ?_
            go_wp2_with first
              | (go_at_call 96; (with_reducible refine (sum_eq _ h6 (by omega) (by omega) HSUM.out.1 (HSUM.out.2.trans HA.out)).mono ?_); rintro e w1 ⟨rfl, hb1⟩; replace hbel := hbel.trans (hb1.mono hbel.size); replace h1 := row_keep hb1 h1; replace h2 := row_keep hb1 h2; replace h6 := row_keep hb1 h6; (try replace h7 := row_keep hb1 h7); clear hb1)
            refine QN.intro ?_
            refine wpAny_fork1 9 (by kernel_rfl) rfl ?_
            go_wp2_with first
              | (with_reducible refine wpList_storePI rfl 3 _ _ rfl _ _ rfl rfl h7 size1 (by omega) hbel hWh7 ?_; intro w1 g3 ho g4; replace h1 := (ho _ (by omega)).trans h1; replace h2 := (ho _ (by omega)).trans h2; replace h6 := (ho _ (by omega)).trans h6; clear h7 hbel; have h7 := g3; rw [upd1] at h7; have hbel := g4; clear g3 g4 ho)
            refine QN.intro ?_
            refine wpAny_fork1 10 (by kernel_rfl) rfl ?_
            go_wp2_with fail
            refine QN.intro ?_
            refine wpAny_end (by kernel_rfl) ?_
            go_wp2_with fail
            go_meet
            exact ⟨_, by omega, rfl, rfl, h1, h2, h7, hbel⟩
    · go_wp2_with first
        | (have _t := tok_h7; with_reducible refine wpList_allocN rfl 3 rfl 1 zeroI ?_; intro Bh7 w1 hBh7 h7 hb1; have hWh7 := Nat.le_trans hbel.size hBh7; have hLh1h7 := Nat.lt_of_lt_of_le (row_lt h1) hBh7; have hLh2h7 := Nat.lt_of_lt_of_le (row_lt h2) hBh7; have hLh6h7 := Nat.lt_of_lt_of_le (row_lt h6) hBh7; replace hbel := hbel.trans (hb1.mono hbel.size); replace h1 := row_keep hb1 h1; replace h2 := row_keep hb1 h2; replace h6 := row_keep hb1 h6; clear hb1 _t tok_h7)
      refine QN.intro ?_
      refine wpAny_fork2 1 5 (by kernel_rfl) rfl rfl ?_ ?_
      · go_wp2_with first
          | (go_at_call 96; (with_reducible refine (sum_eq _ h6 (by omega) (by omega) HSUM.out.1 (HSUM.out.2.trans HA.out)).mono ?_); rintro e w1 ⟨rfl, hb1⟩; replace hbel := hbel.trans (hb1.mono hbel.size); replace h1 := row_keep hb1 h1; replace h2 := row_keep hb1 h2; replace h6 := row_keep hb1 h6; (try replace h7 := row_keep hb1 h7); clear hb1)
        refine QN.intro ?_
        refine wpAny_fork2 5 9 (by kernel_rfl) rfl rfl ?_ ?_
        · go_wp2_with first
            | ((with_reducible refine wpList_loadI rfl _ _ rfl _ _ rfl h1 aggI undI (by omega) ?_); rw [HC.out])
          refine QN.intro ?_
          refine wpAny_fork2 6 9 (by kernel_rfl) rfl rfl ?_ ?_
          · go_wp2_with fail
            refine QN.intro ?_
            refine wpAny_fork2 7 9 (by kernel_rfl) rfl rfl ?_ ?_
            · go_wp2_with first
                | ((with_reducible refine wpList_loadI rfl _ _ rfl _ _ rfl h6 aggI undI (by omega) ?_); rw [HSM.out])
              refine QN.intro ?_
              refine wpAny_fork1 9 (by kernel_rfl) rfl ?_
              go_wp2_with first
                | (with_reducible refine wpList_storePI rfl 3 _ _ rfl _ _ rfl rfl h7 size1 (by omega) hbel hWh7 ?_; intro w1 g3 ho g4; replace h1 := (ho _ (by omega)).trans h1; replace h2 := (ho _ (by omega)).trans h2; replace h6 := (ho _ (by omega)).trans h6; clear h7 hbel; have h7 := g3; rw [upd1] at h7; have hbel := g4; clear g3 g4 ho)
              refine QN.intro ?_
              refine wpAny_fork1 10 (by kernel_rfl) rfl ?_
              go_wp2_with fail
              refine QN.intro ?_
              refine wpAny_end (by kernel_rfl) ?_
              go_wp2_with fail
              go_meet
              exact ⟨_, by omega, rfl, rfl, h1, h2, h7, hbel⟩
            · go_wp2_with first
                | (with_reducible refine wpList_storePI rfl 3 _ _ rfl _ _ rfl rfl h7 size1 (by omega) hbel hWh7 ?_; intro w1 g3 ho g4; replace h1 := (ho _ (by omega)).trans h1; replace h2 := (ho _ (by omega)).trans h2; replace h6 := (ho _ (by omega)).trans h6; clear h7 hbel; have h7 := g3; rw [upd1] at h7; have hbel := g4; clear g3 g4 ho)
              refine QN.intro ?_
              refine wpAny_fork1 7 (by kernel_rfl) rfl ?_
              go_wp2_with first
                | ((with_reducible refine wpList_loadI rfl _ _ rfl _ _ rfl h6 aggI undI (by omega) ?_); rw [HSM.out])
              refine QN.intro ?_
              refine wpAny_fork1 10 (by kernel_rfl) rfl ?_
              go_wp2_with fail
              refine QN.intro ?_
              refine wpAny_end (by kernel_rfl) ?_
              go_wp2_with fail
              go_meet
              exact ⟨_, by omega, rfl, rfl, h1, h2, h7, hbel⟩
          · go_wp2_with first
              | (with_reducible refine wpList_storePI rfl 3 _ _ rfl _ _ rfl rfl h7 size1 (by omega) hbel hWh7 ?_; intro w1 g3 ho g4; replace h1 := (ho _ (by omega)).trans h1; replace h2 := (ho _ (by omega)).trans h2; replace h6 := (ho _ (by omega)).trans h6; clear h7 hbel; have h7 := g3; rw [upd1] at h7; have hbel := g4; clear g3 g4 ho)
            refine QN.intro ?_
            refine wpAny_fork1 6 (by kernel_rfl) rfl ?_
            go_wp2_with fail
            refine QN.intro ?_
            refine wpAny_fork1 7 (by kernel_rfl) rfl ?_
            go_wp2_with first
              | ((with_reducible refine wpList_loadI rfl _ _ rfl _ _ rfl h6 aggI undI (by omega) ?_); rw [HSM.out])
            refine QN.intro ?_
            refine wpAny_fork1 10 (by kernel_rfl) rfl ?_
            go_wp2_with fail
            refine QN.intro ?_
            refine wpAny_end (by kernel_rfl) ?_
            go_wp2_with fail
            go_meet
            exact ⟨_, by omega, rfl, rfl, h1, h2, h7, hbel⟩
        · go_wp2_with first
            | (with_reducible refine wpList_storePI rfl 3 _ _ rfl _ _ rfl rfl h7 size1 (by omega) hbel hWh7 ?_; intro w1 g3 ho g4; replace h1 := (ho _ (by omega)).trans h1; replace h2 := (ho _ (by omega)).trans h2; replace h6 := (ho _ (by omega)).trans h6; clear h7 hbel; have h7 := g3; rw [upd1] at h7; have hbel := g4; clear g3 g4 ho)
          refine QN.intro ?_
          refine wpAny_fork1 5 (by kernel_rfl) rfl ?_
          go_wp2_with first
            | ((with_reducible refine wpList_loadI rfl _ _ rfl _ _ rfl h1 aggI undI (by omega) ?_); rw [HC.out])
          refine QN.intro ?_
          refine wpAny_fork1 6 (by kernel_rfl) rfl ?_
          go_wp2_with fail
          refine QN.intro ?_
          refine wpAny_fork1 7 (by kernel_rfl) rfl ?_
          go_wp2_with first
            | ((with_reducible refine wpList_loadI rfl _ _ rfl _ _ rfl h6 aggI undI (by omega) ?_); rw [HSM.out])
          refine QN.intro ?_
          refine wpAny_fork1 10 (by kernel_rfl) rfl ?_
          go_wp2_with fail
          refine QN.intro ?_
          refine wpAny_end (by kernel_rfl) ?_
          go_wp2_with fail
          go_meet
          exact ⟨_, by omega, rfl, rfl, h1, h2, h7, hbel⟩
      · go_wp2_with first
          | ((with_reducible refine wpList_loadI rfl _ _ rfl _ _ rfl h1 aggI undI (by omega) ?_); rw [HC.out])
        refine QN.intro ?_
        refine wpAny_fork2 1 6 (by kernel_rfl) rfl rfl ?_ ?_
        · go_wp2_with first
            | (go_at_call 96; (with_reducible refine (sum_eq _ h6 (by omega) (by omega) HSUM.out.1 (HSUM.out.2.trans HA.out)).mono ?_); rintro e w1 ⟨rfl, hb1⟩; replace hbel := hbel.trans (hb1.mono hbel.size); replace h1 := row_keep hb1 h1; replace h2 := row_keep hb1 h2; replace h6 := row_keep hb1 h6; (try replace h7 := row_keep hb1 h7); clear hb1)
          refine QN.intro ?_
          refine wpAny_fork2 6 9 (by kernel_rfl) rfl rfl ?_ ?_
          · go_wp2_with fail
            refine QN.intro ?_
            refine wpAny_fork2 7 9 (by kernel_rfl) rfl rfl ?_ ?_
            · go_wp2_with first
                | ((with_reducible refine wpList_loadI rfl _ _ rfl _ _ rfl h6 aggI undI (by omega) ?_); rw [HSM.out])
              refine QN.intro ?_
              refine wpAny_fork1 9 (by kernel_rfl) rfl ?_
              go_wp2_with first
                | (with_reducible refine wpList_storePI rfl 3 _ _ rfl _ _ rfl rfl h7 size1 (by omega) hbel hWh7 ?_; intro w1 g3 ho g4; replace h1 := (ho _ (by omega)).trans h1; replace h2 := (ho _ (by omega)).trans h2; replace h6 := (ho _ (by omega)).trans h6; clear h7 hbel; have h7 := g3; rw [upd1] at h7; have hbel := g4; clear g3 g4 ho)
              refine QN.intro ?_
              refine wpAny_fork1 10 (by kernel_rfl) rfl ?_
              go_wp2_with fail
              refine QN.intro ?_
              refine wpAny_end (by kernel_rfl) ?_
              go_wp2_with fail
              go_meet
              exact ⟨_, by omega, rfl, rfl, h1, h2, h7, hbel⟩
            · go_wp2_with first
                | (with_reducible refine wpList_storePI rfl 3 _ _ rfl _ _ rfl rfl h7 size1 (by omega) hbel hWh7 ?_; intro w1 g3 ho g4; replace h1 := (ho _ (by omega)).trans h1; replace h2 := (ho _ (by omega)).trans h2; replace h6 := (ho _ (by omega)).trans h6; clear h7 hbel; have h7 := g3; rw [upd1] at h7; have hbel := g4; clear g3 g4 ho)
              refine QN.intro ?_
              refine wpAny_fork1 7 (by kernel_rfl) rfl ?_
              go_wp2_with first
                | ((with_reducible refine wpList_loadI rfl _ _ rfl _ _ rfl h6 aggI undI (by omega) ?_); rw [HSM.out])
              refine QN.intro ?_
              refine wpAny_fork1 10 (by kernel_rfl) rfl ?_
              go_wp2_with fail
              refine QN.intro ?_
              refine wpAny_end (by kernel_rfl) ?_
              go_wp2_with fail
              go_meet
              exact ⟨_, by omega, rfl, rfl, h1, h2, h7, hbel⟩
          · go_wp2_with first
              | (with_reducible refine wpList_storePI rfl 3 _ _ rfl _ _ rfl rfl h7 size1 (by omega) hbel hWh7 ?_; intro w1 g3 ho g4; replace h1 := (ho _ (by omega)).trans h1; replace h2 := (ho _ (by omega)).trans h2; replace h6 := (ho _ (by omega)).trans h6; clear h7 hbel; have h7 := g3; rw [upd1] at h7; have hbel := g4; clear g3 g4 ho)
            refine QN.intro ?_
            refine wpAny_fork1 6 (by kernel_rfl) rfl ?_
            go_wp2_with fail
            refine QN.intro ?_
            refine wpAny_fork1 7 (by kernel_rfl) rfl ?_
            go_wp2_with first
              | ((with_reducible refine wpList_loadI rfl _ _ rfl _ _ rfl h6 aggI undI (by omega) ?_); rw [HSM.out])
            refine QN.intro ?_
            refine wpAny_fork1 10 (by kernel_rfl) rfl ?_
            go_wp2_with fail
            refine QN.intro ?_
            refine wpAny_end (by kernel_rfl) ?_
            go_wp2_with fail
            go_meet
            exact ⟨_, by omega, rfl, rfl, h1, h2, h7, hbel⟩
        · go_wp2_with fail
          refine QN.intro ?_
          refine wpAny_fork2 1 7 (by kernel_rfl) rfl rfl ?_ ?_
          · go_wp2_with first
              | (go_at_call 96; (with_reducible refine (sum_eq _ h6 (by omega) (by omega) HSUM.out.1 (HSUM.out.2.trans HA.out)).mono ?_); rintro e w1 ⟨rfl, hb1⟩; replace hbel := hbel.trans (hb1.mono hbel.size); replace h1 := row_keep hb1 h1; replace h2 := row_keep hb1 h2; replace h6 := row_keep hb1 h6; (try replace h7 := row_keep hb1 h7); clear hb1)
            refine QN.intro ?_
            refine wpAny_fork2 7 9 (by kernel_rfl) rfl rfl ?_ ?_
            · go_wp2_with first
                | ((with_reducible refine wpList_loadI rfl _ _ rfl _ _ rfl h6 aggI undI (by omega) ?_); rw [HSM.out])
              refine QN.intro ?_
              refine wpAny_fork1 9 (by kernel_rfl) rfl ?_
              go_wp2_with first
                | (with_reducible refine wpList_storePI rfl 3 _ _ rfl _ _ rfl rfl h7 size1 (by omega) hbel hWh7 ?_; intro w1 g3 ho g4; replace h1 := (ho _ (by omega)).trans h1; replace h2 := (ho _ (by omega)).trans h2; replace h6 := (ho _ (by omega)).trans h6; clear h7 hbel; have h7 := g3; rw [upd1] at h7; have hbel := g4; clear g3 g4 ho)
              refine QN.intro ?_
              refine wpAny_fork1 10 (by kernel_rfl) rfl ?_
              go_wp2_with fail
              refine QN.intro ?_
              refine wpAny_end (by kernel_rfl) ?_
              go_wp2_with fail
              go_meet
              exact ⟨_, by omega, rfl, rfl, h1, h2, h7, hbel⟩
            · go_wp2_with first
                | (with_reducible refine wpList_storePI rfl 3 _ _ rfl _ _ rfl rfl h7 size1 (by omega) hbel hWh7 ?_; intro w1 g3 ho g4; replace h1 := (ho _ (by omega)).trans h1; replace h2 := (ho _ (by omega)).trans h2; replace h6 := (ho _ (by omega)).trans h6; clear h7 hbel; have h7 := g3; rw [upd1] at h7; have hbel := g4; clear g3 g4 ho)
              refine QN.intro ?_
              refine wpAny_fork1 7 (by kernel_rfl) rfl ?_
              go_wp2_with first
                | ((with_reducible refine wpList_loadI rfl _ _ rfl _ _ rfl h6 aggI undI (by omega) ?_); rw [HSM.out])
              refine QN.intro ?_
              refine wpAny_fork1 10 (by kernel_rfl) rfl ?_
              go_wp2_with fail
              refine QN.intro ?_
              refine wpAny_end (by kernel_rfl) ?_
              go_wp2_with fail
              go_meet
              exact ⟨_, by omega, rfl, rfl, h1, h2, h7, hbel⟩
          · go_wp2_with first
              | ((with_reducible refine wpList_loadI rfl _ _ rfl _ _ rfl h6 aggI undI (by omega) ?_); rw [HSM.out])
            refine QN.intro ?_
            refine wpAny_fork1 1 (by kernel_rfl) rfl ?_
            go_wp2_with first
              | (go_at_call 96; (with_reducible refine (sum_eq _ h6 (by omega) (by omega) HSUM.out.1 (HSUM.out.2.trans HA.out)).mono ?_); rintro e w1 ⟨rfl, hb1⟩; replace hbel := hbel.trans (hb1.mono hbel.size); replace h1 := row_keep hb1 h1; replace h2 := row_keep hb1 h2; replace h6 := row_keep hb1 h6; (try replace h7 := row_keep hb1 h7); clear hb1)
            refine QN.intro ?_
            refine wpAny_fork1 9 (by kernel_rfl) rfl ?_
            go_wp2_with first
              | (with_reducible refine wpList_storePI rfl 3 _ _ rfl _ _ rfl rfl h7 size1 (by omega) hbel hWh7 ?_; intro w1 g3 ho g4; replace h1 := (ho _ (by omega)).trans h1; replace h2 := (ho _ (by omega)).trans h2; replace h6 := (ho _ (by omega)).trans h6; clear h7 hbel; have h7 := g3; rw [upd1] at h7; have hbel := g4; clear g3 g4 ho)
            refine QN.intro ?_
            refine wpAny_fork1 10 (by kernel_rfl) rfl ?_
            go_wp2_with fail
            refine QN.intro ?_
            refine wpAny_end (by kernel_rfl) ?_
            go_wp2_with fail
            go_meet
            exact ⟨_, by omega, rfl, rfl, h1, h2, h7, hbel⟩
  case rest =>
    obtain ⟨B7, hB7, rfl, rfl, h1, h2, h7, hbel⟩ := hcut
    have tok_h9 : True := trivial
    have tok_h11 : True := trivial
    go_wp2_with first
      | ((with_reducible refine wpList_loadI rfl _ _ rfl _ _ rfl h1 aggI undI (by omega) ?_); rw [HM.out])
      | (have _t := tok_h9; with_reducible refine wpList_allocN rfl 3 rfl 1 zeroI ?_; intro Bh9 w1 hBh9 h9 hb1; have hWh9 := Nat.le_trans hbel.size hBh9; have hLh1h9 := Nat.lt_of_lt_of_le (row_lt h1) hBh9; have hLh2h9 := Nat.lt_of_lt_of_le (row_lt h2) hBh9; have hLh7h9 := Nat.lt_of_lt_of_le (row_lt h7) hBh9; replace hbel := hbel.trans (hb1.mono hbel.size); replace h1 := row_keep hb1 h1; replace h2 := row_keep hb1 h2; replace h7 := row_keep hb1 h7; clear hb1 _t tok_h9)
      | (have _t := tok_h11; with_reducible refine wpList_allocN rfl 87 rfl 5 zero5 ?_; intro Bh11 w1 hBh11 h11 hb1; have hWh11 := Nat.le_trans hbel.size hBh11; have hLh2h11 := Nat.lt_of_lt_of_le (row_lt h2) hBh11; have hLh7h11 := Nat.lt_of_lt_of_le (row_lt h7) hBh11; have hLh9h11 := Nat.lt_of_lt_of_le (row_lt h9) hBh11; replace hbel := hbel.trans (hb1.mono hbel.size); replace h2 := row_keep hb1 h2; replace h7 := row_keep hb1 h7; replace h9 := row_keep hb1 h9; clear hb1 _t tok_h11)
      | (with_reducible refine wpList_storePI rfl 3 _ _ rfl _ _ rfl rfl h9 size1 (by omega) hbel hWh9 ?_; intro w1 g3 ho g4; replace h2 := (ho _ (by omega)).trans h2; replace h7 := (ho _ (by omega)).trans h7; clear h9 hbel; have h9 := g3; rw [upd1] at h9; have hbel := g4; clear g3 g4 ho)
    rw [oT_start A S m] at h11
    clear h1
    go_loopw [12, 13] (fun x k wr => ∃ q : Nat, q ≤ m ∧ x = .int .i64 (wys S q : Nat) ∧ k = .int .i64 (q + 1 : Nat) ∧ wr.heap[w.heap.size + 1]? = some (.cells (arr 5 fun _ => 0) 87 (0, 0)) ∧ wr.heap[B7]? = some (.cells (arr 1 fun _ => (A : Int)) 3 (0, 0)) ∧ wr.heap[Bh9]? = some (.cells (arr 1 fun _ => (m : Int)) 3 (0, 0)) ∧ wr.heap[Bh11]? = some (.cells (arr 5 (oT A S m (q + 1))) 87 (0, 0)) ∧ Below w.heap.size w wr) (fun _ k _ => m + 1 - (intOf k).toNat)
    case atStart => exact ⟨0, by omega, rfl, rfl, h2, h7, h9, h11, hbel⟩
    case round =>
      clear h2 h7 h9 h11 hbel
      obtain ⟨q, hq, rfl, rfl, h2, h7, h9, h11, hbel⟩ := hrel
      by_cases hle : q + 1 ≤ m
      · have hle' : (q : Int) + 1 ≤ (m : Int) := by omega
        by_cases hlt : q + 1 < m
        · have hlt' : (q : Int) + 1 < (m : Int) := by omega
          go_wp2_with first
            | (with_reducible refine wpList_loadI rfl _ _ rfl _ _ rfl h9 aggI undI (by omega) ?_)
          have e1 : IntKind.i64.wrap (q : Int) = q := wrapN rfl (by omega)
          have e2 : IntKind.i64.wrap ((A : Int) - q) = A - q := wrapI (by omega) (by omega)
          have e3 : IntKind.i64.wrap ((S : Int) - q) = S - q := wrapI (by omega) (by omega)
          have e4 : IntKind.i64.wrap ((A : Int) - q - ((S : Int) - q)) = (A - S : Nat) := by
            rw [show (A : Int) - q - ((S : Int) - q) = (A - S : Nat) by omega]
            exact wrapN rfl (by omega)
          have hw0 := wys_bd (t := q) (show S ≤ 18 by omega) (by omega)
          have hw1 : wys S q * (A - S) ≤ 104976 * 18 := Nat.mul_le_mul hw0 (by omega)
          have e5 : IntKind.i64.wrap (((wys S q : Nat) : Int) * ((A - S : Nat) : Int)) = ((wys S q * (A - S) : Nat) : Int) := by
            rw [← Int.natCast_mul]
            exact wrapN rfl (by omega)
          have hw2 : wys S q * (A - S) * chs A (q + 1) (m - 1 - (q + 1)) ≤ 104976 * 18 * 104976 := Nat.mul_le_mul hw1 (chs_bd hA18 (by omega))
          have e6 : IntKind.i64.wrap (((wys S q * (A - S) : Nat) : Int) * ((chs A (q + 1) (m - 1 - (q + 1)) : Nat) : Int)) = ((wys S q * (A - S) * chs A (q + 1) (m - 1 - (q + 1)) : Nat) : Int) := by
            rw [← Int.natCast_mul]
            exact wrapN rfl (by omega)
          clear hw0 hw1 hw2
          have ee : Hid ((q : Int) + 1 = ((q + 1 : Nat) : Int)) := by show (q : Int) + 1 = ((q + 1 : Nat) : Int); omega
          have g5 : (q : Int) + 1 < 5 := by omega
          have g0 : 0 ≤ (q : Int) + 1 := by omega
          refine wp_region_held 17 (Cls wr []) (by kernel_rfl) (by kernel_rfl) (Cls.zero (Below.refl _ _)) ?_; simp only [List.take_succ_cons, List.take_zero, List.drop_succ_cons, List.drop_zero]
          repeat (first
            | (with_reducible refine wpQuiet_loadI rfl _ _ rfl _ _ rfl (fun _ h => h.kp h7) aggI undI (by omega) ?_)
            | (with_reducible refine wpQuiet_callV (u := .int .i64 ((q : Int) + 1)) (c1 := .pointer (some ⟨Bh9, 0, none⟩)) (c2 := .pointer (some ⟨B7, 0, none⟩)) rfl _ _ _ rfl 97 rfl rfl (.int .i64 (chs A (q + 1) (m - 1 - (q + 1)) : Nat)) ?_ ?_ ?_; (exact enters_of Try.func97 (by kernel_rfl) rfl); (intro w' h'; exact (tops1_at ee.out hA18 ⟨hm1, hm4⟩ hmA (by omega) _ (h'.kp h9) (h'.kp h7)).mono fun _ _ ⟨he, hb⟩ => ⟨he, hb ▸ h'⟩))
            | ((with_reducible refine wpQuiet_step (fun K hK => ?_)); go_simp; (first | (refine ⟨_, fun _ _ => rfl, hK _ ?_⟩) | (refine ⟨_, fun _ _ => ⟨rfl, rfl⟩, hK _ ?_⟩) | (refine hK _ ?_)); clear hK K))
          refine wpQuiet_nil ?_
          intro wt hCt
          replace hCt := hCt.2
          replace hbel := hbel.trans (hCt.mono hbel.size)
          replace h2 := row_keep hCt h2
          replace h7 := row_keep hCt h7
          replace h9 := row_keep hCt h9
          replace h11 := row_keep hCt h11
          have HO : Hid (IntKind.i64.wrap (((wys S q : Nat) : Int) * ((A - S : Nat) : Int) * ((chs A (q + 1) (m - 1 - (q + 1)) : Nat) : Int)) = ((ownT A S m (q + 1) : Nat) : Int)) := by
            show IntKind.i64.wrap _ = _
            rw [← Int.natCast_mul (wys S q), e6]
            unfold ownT
            rw [if_neg (by omega), if_pos hlt, Nat.add_sub_cancel]
          clear hCt e1 e2 e3 e4 e5 e6 ee
          go_wp2_with first
            | (with_reducible refine wpList_storePI rfl 3 _ _ rfl _ _ rfl rfl h11 size1 (by omega) hbel hWh11 ?_; intro w1 g3 ho g4; replace h2 := (ho _ (by omega)).trans h2; replace h7 := (ho _ (by omega)).trans h7; replace h9 := (ho _ (by omega)).trans h9; clear h11 hbel; have h11 := g3; have hbel := g4; clear g3 g4 ho)
          go_roundw
          case rel => exact ⟨q + 1, by omega, by rw [wys_stp (by omega) (by omega)], by go_num, h2, h7, h9, by rw [← oT_step HO.out]; exact h11, hbel⟩
          case measure => simp [intOf]; omega
        · have hnl : ¬ ((q : Int) + 1 < (m : Int)) := by omega
          have HO : Hid (ownT A S m (q + 1) = wys S q) := by
            show ownT A S m (q + 1) = _
            unfold ownT
            rw [if_neg (by omega), if_neg hlt, if_pos (by omega), Nat.add_sub_cancel]
          have g5 : (q : Int) + 1 < 5 := by omega
          have g0 : 0 ≤ (q : Int) + 1 := by omega
          go_wp2_with first
            | (with_reducible refine wpList_loadI rfl _ _ rfl _ _ rfl h9 aggI undI (by omega) ?_)
            | (with_reducible refine wpList_storePI rfl 3 _ _ rfl _ _ rfl rfl h11 size1 (by omega) hbel hWh11 ?_; intro w1 g3 ho g4; replace h2 := (ho _ (by omega)).trans h2; replace h7 := (ho _ (by omega)).trans h7; replace h9 := (ho _ (by omega)).trans h9; clear h11 hbel; have h11 := g3; have hbel := g4; clear g3 g4 ho)
          go_roundw
          case rel => exact ⟨q + 1, by omega, by rw [wys_stp (by omega) (by omega)], by go_num, h2, h7, h9, by rw [← oT_step (congrArg Nat.cast HO.out).symm]; exact h11, hbel⟩
          case measure => simp [intOf]; omega
      · have hnl : ¬ ((q : Int) + 1 ≤ (m : Int)) := by omega
        obtain rfl : q = m := by omega
        go_wp2_with first
          | (with_reducible refine wpList_loadI rfl _ _ rfl _ _ rfl h9 aggI undI (by omega) ?_)
        refine wp_region_held 3 (Cls wr []) (by kernel_rfl) (by kernel_rfl) (Cls.zero (Below.refl _ _)) ?_; simp only [List.take_succ_cons, List.take_zero, List.drop_succ_cons, List.drop_zero]
        repeat (first
          | (with_reducible refine wpQuiet_loadW rfl _ _ rfl _ rfl (fun _ h => h.kp h11) agg5 size5 ?_)
          | (with_reducible refine wpQuiet_callV (u := .int .i64 0) (c1 := .pointer (some ⟨Bh9, 0, none⟩)) (c2 := .pointer (some ⟨B7, 0, none⟩)) rfl _ _ _ rfl 97 rfl rfl (.int .i64 (chs A 0 (q - 1 - 0) : Nat)) ?_ ?_ ?_; (exact enters_of Try.func97 (by kernel_rfl) rfl); (intro w' h'; exact (tops1_at (x := 0) (b := 0) rfl hA18 ⟨hm1, hm4⟩ hmA (by omega) _ (h'.kp h9) (h'.kp h7)).mono fun _ _ ⟨he, hb⟩ => ⟨he, hb ▸ h'⟩))
          | ((with_reducible refine wpQuiet_step (fun K hK => ?_)); go_simp; (first | (refine ⟨_, fun _ _ => rfl, hK _ ?_⟩) | (refine ⟨_, fun _ _ => ⟨rfl, rfl⟩, hK _ ?_⟩) | (refine hK _ ?_)); clear hK K))
        refine wpQuiet_nil ?_
        intro wt hCt
        replace hCt := hCt.2
        replace hbel := hbel.trans (hCt.mono hbel.size)
        replace h2 := row_keep hCt h2
        clear hCt
        go_wp2_with first
          | (with_reducible refine wpList_storeW rfl _ _ _ rfl _ rfl rfl h2 size5 ?_)
        refine bodyPost_ret_by (results_ct _ _ _ _ _ _ _ rfl rfl (setRow_heap _ _ _ _ _ _ h2) agg5 size5) rfl ⟨?_, below_setRow2 hbel (by omega) _⟩
        rw [oT_done hm1]
        rfl
end Go.Proofs.Ytbiplciklmagoaa
