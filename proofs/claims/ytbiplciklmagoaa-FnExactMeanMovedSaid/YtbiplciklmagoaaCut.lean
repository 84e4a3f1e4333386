/- Fractions in lowest terms: the program's and the reference's. -/
import Derived.Test.YtbiplciklmagoaaGcd
import Derived.Test.YtbiplciklmagoaaChance
import Derived.Test.YtbiplciklmagoaaBnd
namespace Go.Proofs.Ytbiplciklmagoaa
set_option linter.unusedSimpArgs false
set_option linter.unusedVariables false
set_option maxRecDepth 20000
open Go.RowKit
theorem c2z : ((Try.prog.info? 51).bind (·.zero)).map (·.cells) = some (arr 2 fun _ => 0) := by kernel_rfl
theorem c2s : (Try.prog.info? 51).map (·.size) = some 2 := by kernel_rfl
theorem c2a : aggB Try.prog 51 = true := by kernel_rfl
theorem c2b (x y : Int) : Try.prog.built 51 [(0, .int .i64 x), (1, .int .i64 y)] = some (arr 2 (fun j => if j = 0 then x else y)) := by rw [← arr_two]; kernel_rfl
variable {P : Program}
theorem wpQuiet_build2 {ops : Array Oper} {C : World → Prop} {rest : List Oper} {o : Oper} {a : Act} {Q : Act → Prop} (hw : Region.wanted o (yielded ops a.tmps) = true) (t : TypeId) (i1 i2 : Nat) (y1 y2 : Operand) (ho : o.op = .build t #[(i1, y1), (i2, y2)]) {x1 x2 : Int} (h1 : a.eval y1 = .int .i64 x1) (h2 : a.eval y2 = .int .i64 x2) {cs : Array Value}
    (hc : P.built t [(i1, .int .i64 x1), (i2, .int .i64 x2)] = some cs) (h : wpQuiet P ops C Q rest (a.put o.dst (.agg cs))) : wpQuiet P ops C Q (o :: rest) a := by
  refine wpQuiet_value _ hw (fun w _ => ?_) h
  unfold execOp
  simp only [ho, Sem.run_bind]
  rw [run_build w t _ cs (by simpa [h1, h2] using hc)]
  simp only [Result.andThen_ok, Sem.run_pure]
/-- A fraction, as the two ints of a row. -/
def rw2 (p : Nat × Nat) : Nat → Int := fun j => if j = 0 then (p.1 : Int) else (p.2 : Int)
theorem quo_nat {c g : Nat} (hc : c < 1000000000000000000) : IntKind.i64.wrap ((c : Int) / (g : Int)) = ((c / g : Nat) : Int) := by
  rw [show (c : Int) / (g : Int) = ((c / g : Nat) : Int) from rfl]
  have h1 := Nat.div_le_self c g
  generalize c / g = d at *
  exact IntWalk.i64_in _ (by omega)
theorem fraction_any (a b : Nat) (hb0 : 0 < b) (ha : a < 1000000000000000000) (hb : b < 1000000000000000000) (w : World) : Calls Try.prog 71 #[.int .i64 a, .int .i64 b] w fun e w' => e = .returned (.agg (arr 2 (rw2 (fr a b)))) ∧ Below w.heap.size w w' := by
  have h2 : (w.alloc (.cells (arr 2 fun _ => 0) 51)).heap[w.heap.size]? = some (.cells (arr 2 fun _ => 0) 51 (0, 0)) := heap_new rfl
  have hbel : Below w.heap.size w (w.alloc (.cells (arr 2 fun _ => 0) 51)) := (Below.refl _ _).alloc (by simp) _
  obtain ⟨g, hg⟩ : ∃ g, Nat.gcd a b = g := ⟨_, rfl⟩
  have hg0 : 0 < g := by rw [← hg]; exact Nat.gcd_pos_of_pos_right _ hb0
  have HG : Hid (Nat.gcd a b = g) := hg
  have hg1 : ¬ (g : Int) = 0 := by omega
  have hg3 : ¬ g = 0 := by omega
  have HF : Hid (rw2 (fr a b) = fun j => if j = 0 then ((a / g : Nat) : Int) else ((b / g : Nat) : Int)) := by
    show _ = _
    unfold fr rw2
    rw [hg]
  have q1 := quo_nat (g := g) ha
  have q2 := quo_nat (g := g) hb
  clear hg
  go_enter Try.func71, Try.ntmps71
  go_wp2_with first
    | (with_reducible refine wpList_allocA rfl 51 rfl 2 c2z ?_; (try simp only [size_al]))
    | (go_at_call 98; (with_reducible refine (divisor_any a b _).mono ?_); rw [HG.out]; rintro e w1 ⟨rfl, hb1⟩; replace hbel := hbel.trans (hb1.mono hbel.size); replace h2 := row_keep hb1 h2; clear hb1)
  refine wp_region_held 7 (Cls w1 []) (by kernel_rfl) (by kernel_rfl) (Cls.zero (Below.refl _ _)) ?_; simp only [List.take_succ_cons, List.take_zero, List.drop_succ_cons, List.drop_zero]
  repeat (first
    | (with_reducible refine wpQuiet_build2 rfl _ _ _ _ _ rfl rfl rfl (c2b _ _) ?_; go_simp)
    | ((with_reducible refine wpQuiet_step (fun K hK => ?_)); go_simp; (first | (refine ⟨_, fun _ _ => rfl, hK _ ?_⟩) | (refine ⟨_, fun _ _ => ⟨rfl, rfl⟩, hK _ ?_⟩) | (refine hK _ ?_)); clear hK K))
  refine wpQuiet_nil ?_; intro wt hCt; replace hCt := hCt.2; replace hbel := hbel.trans (hCt.mono hbel.size); replace h2 := row_keep hCt h2; clear hCt
  go_wp2_with first
    | (with_reducible refine wpList_storeW rfl _ _ _ rfl _ rfl rfl h2 c2s ?_)
  refine bodyPost_ret_by (results_cellA rfl _ _ _ _ _ _ _ rfl (setRow_heap _ _ _ _ _ _ h2) c2a c2s) rfl ⟨?_, below_setRow2 hbel (by omega) _⟩
  rw [HF.out]
  rfl
theorem l1Most_one {g : Nat} (hg : 0 < g) (w : World) : Calls Try.prog 95 #[.int .i64 g, .int .i64 1] w fun e w' => e = .returned (.int .i64 g) ∧ Below w.heap.size w w' :=
  (l1Most_any g 1 w).mono fun e w' ⟨he, hw⟩ => ⟨he.trans (ret_int (by omega)), by rw [← hw]; exact Below.refl _ _⟩
theorem l7Cut_any (a b : Nat) (hb0 : 0 < b) (ha : a < 1000000000000000000) (hb : b < 1000000000000000000) (w : World) : Calls Try.prog 66 #[.int .i64 a, .int .i64 b] w fun e w' => e = .returned (.agg (arr 2 (rw2 (fr a b)))) ∧ Below w.heap.size w w' := by
  have h2 : (w.alloc (.cells (arr 2 fun _ => 0) 51)).heap[w.heap.size]? = some (.cells (arr 2 fun _ => 0) 51 (0, 0)) := heap_new rfl
  have hbel : Below w.heap.size w (w.alloc (.cells (arr 2 fun _ => 0) 51)) := (Below.refl _ _).alloc (by simp) _
  go_enter Try.func66, Try.ntmps66
  go_wp2_with first
    | (with_reducible refine wpList_allocA rfl 51 rfl 2 c2z ?_; (try simp only [size_al]))
  go_loopw [5, 6] (fun x y wr => ∃ p q : Nat, x = .int .i64 p ∧ y = .int .i64 q ∧ Nat.gcd p q = Nat.gcd a b ∧ wr.heap[w.heap.size]? = some (.cells (arr 2 fun _ => 0) 51 (0, 0)) ∧ Below w.heap.size w wr) (fun _ y _ => (intOf y).toNat)
  case atStart => exact ⟨a, b, rfl, rfl, rfl, h2, hbel⟩
  case round =>
    clear h2 hbel
    obtain ⟨p, q, rfl, rfl, hg, h2, hbel⟩ := hrel
    have HG : Hid _ := hg
    clear hg
    by_cases hq : q = 0
    · subst hq
      obtain ⟨g, hg⟩ : ∃ g, Nat.gcd a b = g := ⟨_, rfl⟩
      have hg0 : 0 < g := by rw [← hg]; exact Nat.gcd_pos_of_pos_right _ hb0
      have hpg : p = g := by rw [← hg, ← HG.out, Nat.gcd_zero_right]
      subst hpg
      have HF : Hid (rw2 (fr a b) = fun j => if j = 0 then ((a / p : Nat) : Int) else ((b / p : Nat) : Int)) := by
        show _ = _
        unfold fr rw2
        rw [hg]
      have q1 := quo_nat (g := p) ha
      have q2 := quo_nat (g := p) hb
      have hg1 : ¬ (p : Int) = 0 := by omega
      have hg3 : ¬ p = 0 := by omega
      clear hg HG
      go_wp2_with fail
      refine wp_region_held 9 (Cls wr []) (by kernel_rfl) (by kernel_rfl) (Cls.zero (Below.refl _ _)) ?_; simp only [List.take_succ_cons, List.take_zero, List.drop_succ_cons, List.drop_zero]
      repeat (first
        | ((with_reducible refine wpQuiet_call rfl 95 _ _ rfl (.int .i64 (p : Nat)) ?_ ?_ ?_); (exact enters_of Try.func95 (by kernel_rfl) rfl); (intro w' h'; exact (l1Most_one hg0 w').mono fun _ _ ⟨he, hb⟩ => ⟨he, h'.keep hb⟩))
        | (with_reducible refine wpQuiet_build2 rfl _ _ _ _ _ rfl rfl rfl (c2b _ _) ?_; go_simp)
        | ((with_reducible refine wpQuiet_step (fun K hK => ?_)); go_simp; (first | (refine ⟨_, fun _ _ => rfl, hK _ ?_⟩) | (refine ⟨_, fun _ _ => ⟨rfl, rfl⟩, hK _ ?_⟩) | (refine hK _ ?_)); clear hK K))
      refine wpQuiet_nil ?_; intro wt hCt; replace hCt := hCt.2; replace hbel := hbel.trans (hCt.mono hbel.size); replace h2 := row_keep hCt h2; clear hCt
      go_wp2_with first
        | (with_reducible refine wpList_storeW rfl _ _ _ rfl _ rfl rfl h2 c2s ?_)
      refine bodyPost_ret_by (results_cellA rfl _ _ _ _ _ _ _ rfl (setRow_heap _ _ _ _ _ _ h2) c2a c2s) rfl ⟨?_, below_setRow2 hbel (by omega) _⟩
      rw [HF.out]
      rfl
    · have hq1 : ¬ (q : Int) = 0 := by omega
      have hq2 : ((q : Int) != 0) = true := by simpa using hq
      have hq3 : decide (0 < (q : Int)) = true := decide_eq_true (by omega)
      have HQ : Hid (Nat.gcd q (p % q) = Nat.gcd a b) := by
        have h := HG.out
        rw [Nat.gcd_comm p q, Nat.gcd_rec, Nat.gcd_comm] at h
        exact h
      go_wp2_with fail
      refine wp_region_held 6 (Cls wr []) (by kernel_rfl) (by kernel_rfl) (Cls.zero (Below.refl _ _)) ?_; simp only [List.take_succ_cons, List.take_zero, List.drop_succ_cons, List.drop_zero]
      repeat (first
        | ((with_reducible refine wpQuiet_step (fun K hK => ?_)); go_simp; (first | (refine ⟨_, fun _ _ => rfl, hK _ ?_⟩) | (refine ⟨_, fun _ _ => ⟨rfl, rfl⟩, hK _ ?_⟩) | (refine hK _ ?_)); clear hK K))
      refine wpQuiet_nil ?_; intro wt hCt; replace hCt := hCt.2; replace hbel := hbel.trans (hCt.mono hbel.size); replace h2 := row_keep hCt h2; clear hCt
      go_wp2_with fail
      go_roundw
      case rel => exact ⟨q, p % q, rfl, by go_num, HQ.out, h2, hbel⟩
      case measure => simp [intOf]; exact Nat.mod_lt _ (by omega)
end Go.Proofs.Ytbiplciklmagoaa
