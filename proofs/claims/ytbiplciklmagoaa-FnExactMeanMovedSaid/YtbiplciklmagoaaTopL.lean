/- The chance of a top: the reference's, and the law. -/
import Derived.Test.YtbiplciklmagoaaTops
import Derived.Test.YtbiplciklmagoaaChance
import Derived.Test.YtbiplciklmagoaaBnd
namespace Go.Proofs.Ytbiplciklmagoaa
set_option linter.unusedSimpArgs false
set_option linter.unusedVariables false
set_option maxRecDepth 20000
open Go.RowKit
theorem wpList_build2 {P : Program} {ops : Array Oper} {rest : List Oper} {o : Oper} {a : Act} {w : World} {Q : Exit → Act → World → Prop} (hgd : o.guard = none) (ty : TypeId) (i1 i2 : Nat) (y1 y2 : Operand) (ho : o.op = .build ty #[(i1, y1), (i2, y2)]) {x1 x2 : Int} (h1 : a.eval y1 = .int .i64 x1) (h2 : a.eval y2 = .int .i64 x2) {cs : Array Value}
    (hc : P.built ty [(i1, .int .i64 x1), (i2, .int .i64 x2)] = some cs) (h : wpList P ops Q rest (a.put o.dst (.agg cs)) w) : wpList P ops Q (o :: rest) a w :=
  wpList_build hgd ty #[(i1, y1), (i2, y2)] ho (by simp [h1, h2, hc]) (by simpa [h1, h2, hc] using h)
theorem rw2_0 (p : Nat × Nat) : rw2 p 0 = (p.1 : Int) := rfl
theorem rw2_1 (p : Nat × Nat) : rw2 p 1 = (p.2 : Int) := rfl
theorem l1Most_nat {x : Int} {k : Nat} (h : max x 0 = k) (w : World) : Calls Try.prog 95 #[.int .i64 x, .int .i64 0] w fun e w' => e = .returned (.int .i64 k) ∧ Below w.heap.size w w' := by
  rw [← h]
  exact (l1Most_any x 0 w).mono fun _ _ ⟨he, hw⟩ => ⟨he, hw ▸ Below.refl _ _⟩
theorem l7Cut_at {x y : Int} {a b : Nat} (ex : x = a) (ey : y = b) (hb0 : 0 < b) (ha : a < 1000000000000000000) (hb : b < 1000000000000000000) (w : World) : Calls Try.prog 66 #[.int .i64 x, .int .i64 y] w fun e w' => e = .returned (.agg (arr 2 (rw2 (fr a b)))) ∧ Below w.heap.size w w' := by
  subst ex ey
  exact l7Cut_any a b hb0 ha hb w
theorem spN_bd {A S : Nat} (hA : A ≤ 18) (hS : S ≤ A) : ∀ t, t ≤ A → (spN A S t).1 ≤ 18 ^ t ∧ (spN A S t).2 ≤ 18 ^ t ∧ 0 < (spN A S t).2
  | 0, _ => by simp [spN]
  | t + 1, h => by
    obtain ⟨h1, h2, h3⟩ := spN_bd hA hS t (by omega)
    obtain ⟨a, ha⟩ : ∃ a, (spN A S t).1 * (S - t) = a := ⟨_, rfl⟩
    obtain ⟨b, hb⟩ : ∃ b, (spN A S t).2 * (A - t) = b := ⟨_, rfl⟩
    have ha1 : a ≤ 18 ^ t * 18 := by rw [← ha]; exact Nat.mul_le_mul h1 (by omega)
    have hb1 : b ≤ 18 ^ t * 18 := by rw [← hb]; exact Nat.mul_le_mul h2 (by omega)
    have hb0 : 0 < b := by rw [← hb]; exact Nat.mul_pos h3 (by omega)
    unfold spN fr
    rw [ha, hb, Nat.pow_succ]
    have hg := Nat.gcd_pos_of_pos_right a hb0
    exact ⟨Nat.le_trans (Nat.div_le_self _ _) ha1, Nat.le_trans (Nat.div_le_self _ _) hb1, Nat.div_pos (Nat.le_of_dvd hb0 (Nat.gcd_dvd_right a b)) hg⟩
theorem spN_lt {A S t : Nat} (hA : A ≤ 18) (hS : S ≤ A) (ht : t ≤ A) (h4 : t ≤ 4) : (spN A S t).1 ≤ 104976 ∧ (spN A S t).2 ≤ 104976 ∧ 0 < (spN A S t).2 := by
  obtain ⟨h1, h2, h3⟩ := spN_bd hA hS t ht
  have h5 : 18 ^ t ≤ 104976 := Nat.le_trans (Nat.pow_le_pow_right (by omega) h4) (by decide)
  exact ⟨Nat.le_trans h1 h5, Nat.le_trans h2 h5, h3⟩
set_option maxHeartbeats 4000000 in
theorem l7Top_any (v : Nat → Int) (hx : ∀ j, I64 (v j)) (hf : viewB v = true) (n A S m run : Nat) (hn : n < 6) (hA : hsum v 6 = A) (hS : lft v 6 (v n).toNat = S) (hm : v (6 + n) = m) (hm1 : 1 ≤ m) (hr1 : 1 ≤ run) (hr4 : run ≤ 4) (w : World) : Calls Try.prog 64 #[.agg (arr 18 v), .int .i64 n, .int .i64 run] w fun e w' => e = .returned (.agg (arr 2 (rw2 (spT A S m run)))) ∧ Below w.heap.size w w' := by
  have h1 : ((w.alloc (.cells (arr 18 v) 48)).alloc (.cells (arr 2 fun _ => 0) 51)).heap[w.heap.size]? = some (.cells (arr 18 v) 48 (0, 0)) := by rw [heap_old (by simp), heap_new rfl]
  have h2 : ((w.alloc (.cells (arr 18 v) 48)).alloc (.cells (arr 2 fun _ => 0) 51)).heap[w.heap.size + 1]? = some (.cells (arr 2 fun _ => 0) 51 (0, 0)) := heap_new (by simp)
  have hbel : Below w.heap.size w ((w.alloc (.cells (arr 18 v) 48)).alloc (.cells (arr 2 fun _ => 0) 51)) := ((Below.refl _ _).alloc (by simp) _).alloc (by simp) _
  have hV := (viewB_iff.1 hf).1
  have HV : Hid (∀ i, i < 6 → vok v i) := hV
  obtain ⟨⟨va, vb⟩, ⟨vc, vd⟩, ve⟩ := hV n hn
  obtain ⟨c, hc⟩ : ∃ c : Nat, v n = c := ⟨(v n).toNat, by omega⟩
  have hc6 : c < 6 := by omega
  have hc6' : (c : Int) < 6 := by omega
  have hn6 : (n : Int) < 6 := by omega
  have HC : Hid _ := hc
  have HSM : Hid (lft v 6 c = S) := by rw [hc] at hS; exact hS
  have HA : Hid _ := hA
  have HM : Hid _ := hm
  have hA18 : A ≤ 18 := by have := hsum_nat hV; omega
  have hmA : m ≤ A + 1 := by have := hsum_ge hV hn (by omega); omega
  have hSA : S ≤ A := by have := lft_le_hsum hx hf hc6; have e := HSM.out; omega
  have hm4 : m ≤ 4 := by omega
  have tok_r : True := trivial
  have tok_h8 : True := trivial
  have tok_h10 : True := trivial
  clear hc hS hA hm va vb vc vd ve hV
  by_cases hmr : m < run
  · have hmr' : (m : Int) < (run : Int) := by omega
    go_enter Try.func64, Try.ntmps64
    go_wp2_with first
      | (have _t := tok_r; (with_reducible refine wpList_allocA rfl 51 rfl 2 c2z ?_; (try simp only [size_al])); clear _t tok_r)
      | (with_reducible refine wpList_loadW rfl _ _ rfl _ rfl h1 agg18r size18r ?_)
      | (go_at_call 93; (with_reducible refine (l7Hidden_any v HV.out _).mono ?_); rw [HA.out]; rintro e w1 ⟨rfl, hb1⟩; replace hbel := hbel.trans (hb1.mono hbel.size); replace h1 := row_keep hb1 h1; replace h2 := row_keep hb1 h2; clear hb1)
      | (have _t := tok_h8; with_reducible refine wpList_allocN rfl 43 rfl 6 v6z ?_; intro Bh8 w1 hBh8 h8 hb1; have hWh8 := Nat.le_trans hbel.size hBh8; have hLh1h8 := Nat.lt_of_lt_of_le (row_lt h1) hBh8; have hLh2h8 := Nat.lt_of_lt_of_le (row_lt h2) hBh8; replace hbel := hbel.trans (hb1.mono hbel.size); replace h1 := row_keep hb1 h1; replace h2 := row_keep hb1 h2; clear hb1 _t tok_h8)
      | (with_reducible refine wpList_storeWN rfl _ _ _ rfl _ rfl rfl h8 v6s hbel hWh8 ?_; intro w1 g3 ho g4; replace h1 := (ho _ (by omega)).trans h1; replace h2 := (ho _ (by omega)).trans h2; clear h8 hbel; have h8 := g3; have hbel := g4; clear g3 g4 ho)
      | ((with_reducible refine wpList_loadI rfl _ _ rfl _ _ rfl h1 aggI undI (by omega) ?_); rw [HM.out])
      | (with_reducible refine wpList_build2 rfl _ _ _ _ _ rfl rfl rfl (c2b _ _) ?_)
      | (with_reducible refine wpList_storeW rfl _ _ _ rfl _ rfl rfl h2 c2s ?_)
    refine bodyPost_ret_by (results_cellA rfl _ _ _ _ _ _ _ rfl (setRow_heap _ _ _ _ _ _ h2) c2a c2s) rfl ⟨?_, below_setRow2 hbel (by omega) _⟩
    rw [show spT A S m run = (0, 1) from if_pos hmr]
    rfl
  · have hmr' : ¬ (m : Int) < (run : Int) := by omega
    go_enter Try.func64, Try.ntmps64
    go_wp2_with first
      | (have _t := tok_r; (with_reducible refine wpList_allocA rfl 51 rfl 2 c2z ?_; (try simp only [size_al])); clear _t tok_r)
      | (with_reducible refine wpList_loadW rfl _ _ rfl _ rfl h1 agg18r size18r ?_)
      | (go_at_call 93; (with_reducible refine (l7Hidden_any v HV.out _).mono ?_); rw [HA.out]; rintro e w1 ⟨rfl, hb1⟩; replace hbel := hbel.trans (hb1.mono hbel.size); replace h1 := row_keep hb1 h1; replace h2 := row_keep hb1 h2; clear hb1)
      | (have _t := tok_h8; with_reducible refine wpList_allocN rfl 43 rfl 6 v6z ?_; intro Bh8 w1 hBh8 h8 hb1; have hWh8 := Nat.le_trans hbel.size hBh8; have hLh1h8 := Nat.lt_of_lt_of_le (row_lt h1) hBh8; have hLh2h8 := Nat.lt_of_lt_of_le (row_lt h2) hBh8; replace hbel := hbel.trans (hb1.mono hbel.size); replace h1 := row_keep hb1 h1; replace h2 := row_keep hb1 h2; clear hb1 _t tok_h8)
      | (with_reducible refine wpList_storeWN rfl _ _ _ rfl _ rfl rfl h8 v6s hbel hWh8 ?_; intro w1 g3 ho g4; replace h1 := (ho _ (by omega)).trans h1; replace h2 := (ho _ (by omega)).trans h2; clear h8 hbel; have h8 := g3; have hbel := g4; clear g3 g4 ho)
      | ((with_reducible refine wpList_loadI rfl _ _ rfl _ _ rfl h1 aggI undI (by omega) ?_); (first | rw [HM.out] | rw [HC.out]))
      | ((with_reducible refine wpList_loadI rfl _ _ rfl _ _ rfl h8 aggI undI (by omega) ?_); rw [HSM.out])
      | (with_reducible refine wpList_build2 rfl _ _ _ _ _ rfl rfl rfl (c2b _ _) ?_)
      | (have _t := tok_h10; with_reducible refine wpList_allocN rfl 51 rfl 2 c2z ?_; intro Bh10 w1 hBh10 h10 hb1; have hWh10 := Nat.le_trans hbel.size hBh10; have hLh1h10 := Nat.lt_of_lt_of_le (row_lt h1) hBh10; have hLh2h10 := Nat.lt_of_lt_of_le (row_lt h2) hBh10; replace hbel := hbel.trans (hb1.mono hbel.size); replace h1 := row_keep hb1 h1; replace h2 := row_keep hb1 h2; clear hb1 _t tok_h10)
      | (with_reducible refine wpList_storeWN rfl _ _ _ rfl _ rfl rfl h10 c2s hbel hWh10 ?_; intro w1 g3 ho g4; replace h1 := (ho _ (by omega)).trans h1; replace h2 := (ho _ (by omega)).trans h2; clear h10 hbel; have h10 := g3; have hbel := g4; clear g3 g4 ho)
    rw [show (fun j : Nat => (1 : Int)) = rw2 (spN A S 0) from by funext j; unfold rw2 spN; simp] at h10
    clear h8
    go_loopw [7, 9, 11] (fun a o t wr => ∃ q : Nat, q + 1 ≤ run ∧ a = .int .i64 (A - q : Nat) ∧ o = .int .i64 ((S : Int) - q) ∧ t = .int .i64 (q + 1 : Nat) ∧ wr.heap[w.heap.size]? = some (.cells (arr 18 v) 48 (0, 0)) ∧ wr.heap[w.heap.size + 1]? = some (.cells (arr 2 fun _ => 0) 51 (0, 0)) ∧ wr.heap[Bh10]? = some (.cells (arr 2 (rw2 (spN A S q))) 51 (0, 0)) ∧ Below w.heap.size w wr) (fun _ _ t _ => run + 1 - (intOf t).toNat)
    case atStart => exact ⟨0, by omega, rfl, by go_num, rfl, h1, h2, h10, hbel⟩
    case round =>
      clear h1 h2 h10 hbel
      obtain ⟨q, hq, rfl, rfl, rfl, h1, h2, h10, hbel⟩ := hrel
      obtain ⟨hp1, hp2, hp3⟩ := spN_lt (t := q) hA18 hSA (by omega) (by omega)
      obtain ⟨⟨a, b⟩, hab⟩ : ∃ p : Nat × Nat, spN A S q = p := ⟨_, rfl⟩
      rw [hab] at hp1 hp2 hp3 h10
      simp only at hp1 hp2 hp3
      have HMX : Hid (max ((S : Int) - q) 0 = (S - q : Nat)) := by show max ((S : Int) - q) 0 = (S - q : Nat); omega
      have m1 : a * (S - q) ≤ 104976 * 18 := Nat.mul_le_mul hp1 (by omega)
      have m2 : b * (A - q) ≤ 104976 * 18 := Nat.mul_le_mul hp2 (by omega)
      have e1 : IntKind.i64.wrap ((a : Int) * ((S - q : Nat) : Int)) = (a : Int) * ((S - q : Nat) : Int) := by
        rw [← Int.natCast_mul]
        exact wrapN rfl (by omega)
      have e2 : IntKind.i64.wrap ((b : Int) * ((A - q : Nat) : Int)) = (b : Int) * ((A - q : Nat) : Int) := by
        rw [← Int.natCast_mul]
        exact wrapN rfl (by omega)
      by_cases hlt : q + 1 < run
      · have hlt' : (q : Int) + 1 < (run : Int) := by omega
        have HS : Hid (spN A S (q + 1) = fr (a * (S - q)) (b * (A - q))) := by
          show spN A S (q + 1) = _
          rw [spN, hab]
        have m3 : 0 < b * (A - q) := Nat.mul_pos hp3 (by omega)
        have HB1 : Hid (0 < b * (A - q) ∧ a * (S - q) < 1000000000000000000 ∧ b * (A - q) < 1000000000000000000) := ⟨m3, by omega, by omega⟩
        clear m1 m2 m3 hp1 hp2 hp3 hab
        go_wp2_with fail
        refine wp_region_held 10 (Cls wr []) (by kernel_rfl) (by kernel_rfl) (Cls.zero (Below.refl _ _)) ?_; simp only [List.take_succ_cons, List.take_zero, List.drop_succ_cons, List.drop_zero]
        repeat (first
          | ((with_reducible refine wpQuiet_loadI rfl _ _ rfl _ _ rfl (fun _ h => h.kp h10) aggI undI (by omega) ?_); (first | rw [rw2_0] | rw [rw2_1]))
          | ((with_reducible refine wpQuiet_call rfl 95 _ _ rfl (.int .i64 (S - q : Nat)) ?_ ?_ ?_); (exact enters_of Try.func95 (by kernel_rfl) rfl); (intro w' h'; exact (l1Most_nat HMX.out w').mono fun _ _ ⟨he, hb⟩ => ⟨he, h'.keep hb⟩))
          | ((with_reducible refine wpQuiet_call rfl 66 _ _ rfl (.agg (arr 2 (rw2 (fr (a * (S - q)) (b * (A - q)))))) ?_ ?_ ?_); (exact enters_of Try.func66 (by kernel_rfl) rfl); (intro w' h'; exact (l7Cut_at (Int.natCast_mul _ _).symm (Int.natCast_mul _ _).symm HB1.out.1 HB1.out.2.1 HB1.out.2.2 w').mono fun _ _ ⟨he, hb⟩ => ⟨he, h'.keep hb⟩))
          | ((with_reducible refine wpQuiet_step (fun K hK => ?_)); go_simp; (first | (refine ⟨_, fun _ _ => rfl, hK _ ?_⟩) | (refine ⟨_, fun _ _ => ⟨rfl, rfl⟩, hK _ ?_⟩) | (refine hK _ ?_)); clear hK K))
        go_simp
        refine wpQuiet_nil ?_; intro wt hCt; replace hCt := hCt.2; replace hbel := hbel.trans (hCt.mono hbel.size); replace h1 := row_keep hCt h1; replace h2 := row_keep hCt h2; replace h10 := row_keep hCt h10; clear hCt
        clear e1 e2
        go_wp2_with first
          | (with_reducible refine wpList_storeWN rfl _ _ _ rfl _ rfl rfl h10 c2s hbel hWh10 ?_; intro w1 g3 ho g4; replace h1 := (ho _ (by omega)).trans h1; replace h2 := (ho _ (by omega)).trans h2; clear h10 hbel; have h10 := g3; have hbel := g4; clear g3 g4 ho)
        go_roundw
        case rel => exact ⟨q + 1, by omega, by go_num, by go_num, by go_num, h1, h2, by rw [HS.out]; exact h10, hbel⟩
        case measure => simp [intOf]; omega
      · obtain rfl : run = q + 1 := by omega
        have hnl : ¬ ((q : Int) + 1 < ((q : Int) + 1)) := by omega
        by_cases hlm : q + 1 < m
        · have hlm' : (q : Int) + 1 < (m : Int) := by omega
          have HS : Hid (spT A S m (q + 1) = fr (a * ((A - q) - (S - q))) (b * (A - q))) := by
            show spT A S m (q + 1) = _
            unfold spT
            rw [if_neg hmr, if_pos hlm, Nat.add_sub_cancel, hab]
          have m3 : 0 < b * (A - q) := Nat.mul_pos hp3 (by omega)
          have m4 : a * ((A - q) - (S - q)) ≤ 104976 * 18 := Nat.mul_le_mul hp1 (by omega)
          have HB1 : Hid (0 < b * (A - q) ∧ a * ((A - q) - (S - q)) < 1000000000000000000 ∧ b * (A - q) < 1000000000000000000) := ⟨m3, by omega, by omega⟩
          have e0 : IntKind.i64.wrap (((A - q : Nat) : Int) - ((S - q : Nat) : Int)) = (((A - q) - (S - q) : Nat) : Int) := wrapN (by omega) (by omega)
          have e3 : IntKind.i64.wrap ((a : Int) * (((A - q) - (S - q) : Nat) : Int)) = (a : Int) * (((A - q) - (S - q) : Nat) : Int) := by
            rw [← Int.natCast_mul]
            exact wrapN rfl (by omega)
          clear m1 m2 m3 m4 hp1 hp2 hp3 hab e1
          go_wp2_with first
            | ((with_reducible refine wpList_loadI rfl _ _ rfl _ _ rfl h1 aggI undI (by omega) ?_); rw [HM.out])
          refine wp_region_held 12 (Cls wr []) (by kernel_rfl) (by kernel_rfl) (Cls.zero (Below.refl _ _)) ?_; simp only [List.take_succ_cons, List.take_zero, List.drop_succ_cons, List.drop_zero]
          repeat (first
            | ((with_reducible refine wpQuiet_loadI rfl _ _ rfl _ _ rfl (fun _ h => h.kp h10) aggI undI (by omega) ?_); (first | rw [rw2_0] | rw [rw2_1]))
            | ((with_reducible refine wpQuiet_call rfl 95 _ _ rfl (.int .i64 (S - q : Nat)) ?_ ?_ ?_); (exact enters_of Try.func95 (by kernel_rfl) rfl); (intro w' h'; exact (l1Most_nat HMX.out w').mono fun _ _ ⟨he, hb⟩ => ⟨he, h'.keep hb⟩))
            | ((with_reducible refine wpQuiet_call rfl 66 _ _ rfl (.agg (arr 2 (rw2 (fr (a * ((A - q) - (S - q))) (b * (A - q)))))) ?_ ?_ ?_); (exact enters_of Try.func66 (by kernel_rfl) rfl); (intro w' h'; exact (l7Cut_at (Int.natCast_mul _ _).symm (Int.natCast_mul _ _).symm HB1.out.1 HB1.out.2.1 HB1.out.2.2 w').mono fun _ _ ⟨he, hb⟩ => ⟨he, h'.keep hb⟩))
            | ((with_reducible refine wpQuiet_step (fun K hK => ?_)); go_simp; (first | (refine ⟨_, fun _ _ => rfl, hK _ ?_⟩) | (refine ⟨_, fun _ _ => ⟨rfl, rfl⟩, hK _ ?_⟩) | (refine hK _ ?_)); clear hK K))
          go_simp
          refine wpQuiet_nil ?_; intro wt hCt; replace hCt := hCt.2; replace hbel := hbel.trans (hCt.mono hbel.size); replace h1 := row_keep hCt h1; replace h2 := row_keep hCt h2; replace h10 := row_keep hCt h10; clear hCt
          clear e0 e2 e3
          go_wp2_with first
            | (with_reducible refine wpList_storeWN rfl _ _ _ rfl _ rfl rfl h10 c2s hbel hWh10 ?_; intro w1 g3 ho g4; replace h1 := (ho _ (by omega)).trans h1; replace h2 := (ho _ (by omega)).trans h2; clear h10 hbel; have h10 := g3; have hbel := g4; clear g3 g4 ho)
            | (with_reducible refine wpList_loadW rfl _ _ rfl _ rfl h10 c2a c2s ?_)
            | (with_reducible refine wpList_storeW rfl _ _ _ rfl _ rfl rfl h2 c2s ?_)
          refine bodyPost_ret_by (results_cellA rfl _ _ _ _ _ _ _ rfl (setRow_heap _ _ _ _ _ _ h2) c2a c2s) rfl ⟨?_, below_setRow2 hbel (by omega) _⟩
          rw [HS.out]
        · have hnm : ¬ ((q : Int) + 1 < (m : Int)) := by omega
          have HS : Hid (spT A S m (q + 1) = (a, b)) := by
            show spT A S m (q + 1) = _
            unfold spT
            rw [if_neg hmr, if_neg hlm, Nat.add_sub_cancel, hab]
          clear m1 m2 hp1 hp2 hp3 hab e1 e2
          go_wp2_with first
            | ((with_reducible refine wpList_loadI rfl _ _ rfl _ _ rfl h1 aggI undI (by omega) ?_); rw [HM.out])
            | (with_reducible refine wpList_loadW rfl _ _ rfl _ rfl h10 c2a c2s ?_)
            | (with_reducible refine wpList_storeW rfl _ _ _ rfl _ rfl rfl h2 c2s ?_)
          refine bodyPost_ret_by (results_cellA rfl _ _ _ _ _ _ _ rfl (setRow_heap _ _ _ _ _ _ h2) c2a c2s) rfl ⟨?_, below_setRow2 hbel (by omega) _⟩
          rw [HS.out]
end Go.Proofs.Ytbiplciklmagoaa
