/- The laws' own comparing and marking of slices of strings. -/
import Derived.Test.YthljicikedlkbaaDoorSt
import Derived.Test.YthljicikedlkbaaDoorHeld
namespace Go.Proofs.YthljicikedlkbaaDoor
set_option linter.unusedSimpArgs false
set_option linter.unusedVariables false
set_option maxRecDepth 20000
open Go.RowKit
theorem St.shape {w : World} {base : Nat} {v : Value} {l : List ByteArray} (h : St w base v l) :
    ∃ a c, v = .slice a l.length c ∧ (0 < l.length → ∃ g, a = some ⟨g, 0, none⟩ ∧ base ≤ g ∧ g < w.heap.size ∧ l.length ≤ c ∧ (∀ j, w.frozen? ⟨g, j, none⟩ = false) ∧ ∀ j x, l[j]? = some x → w.cell? ⟨g, j, none⟩ = some (.string x)) := by
  rcases h with ⟨rfl, rfl⟩ | ⟨g, cap, rfl, h2, h3, h4, h6, h5⟩
  · exact ⟨none, 0, rfl, fun h => absurd h (by simp)⟩
  · exact ⟨_, _, rfl, fun _ => ⟨g, rfl, h2, h3, h4, h6, h5⟩⟩
theorem eqSt_same {l : List ByteArray} {b1 b2 : Nat} {v1 v2 : Value} (hn : l.length ≤ 10000000) (w : World) (hS1 : St w b1 v1 l) (hS2 : St w b2 v2 l) : Calls Tryd.prog 14 #[v1, v2] w fun e w' => e = .returned (.bool true) ∧ Below w.heap.size w w' := by
  have hbel := Below.refl w.heap.size w
  obtain ⟨a1, c1, rfl, H1⟩ := hS1.shape
  obtain ⟨a2, c2, rfl, H2⟩ := hS2.shape
  clear hS1 hS2
  by_cases h0 : l.length = 0
  · rw [h0]
    go_enter Tryd.func14, Tryd.ntmps14
    go_wp2
    go_loopw [5] (fun i wr => i = .int .i64 0 ∧ Below w.heap.size w wr) (fun i _ => 0)
    case atStart => exact ⟨rfl, hbel⟩
    case round =>
      clear hbel
      obtain ⟨rfl, hbel⟩ := hrel
      go_wp2
      go_ret
      exact ⟨rfl, hbel⟩
  · obtain ⟨g1, rfl, _, q1, d1, _, K1⟩ := H1 (by omega)
    obtain ⟨g2, rfl, _, q2, d2, _, K2⟩ := H2 (by omega)
    have K1 : Hid _ := K1
    have K2 : Hid _ := K2
    go_enter Tryd.func14, Tryd.ntmps14
    go_wp2
    go_loopw [5] (fun i wr => ∃ k : Nat, k ≤ l.length ∧ i = .int .i64 k ∧ Below w.heap.size w wr) (fun i _ => l.length - (intOf i).toNat)
    case atStart => exact ⟨0, by omega, rfl, hbel⟩
    case round =>
      clear hbel
      obtain ⟨k, hk, rfl, hbel⟩ := hrel
      by_cases hlt : k < l.length
      · have hlt' : (k : Int) < (l.length : Int) := by omega
        have hx : l[k]? = some l[k] := List.getElem?_eq_getElem hlt
        have hc1 := (hbel.cell (p := ⟨g1, k, none⟩) q1).trans (K1.out k _ hx)
        have hc2 := (hbel.cell (p := ⟨g2, k, none⟩) q2).trans (K2.out k _ hx)
        generalize l[k] = x at *
        clear hx
        go_wp2_with fail
        go_quiet (fail)
        go_wp2
        go_roundw
        case rel => exact ⟨k + 1, by omega, by go_num, hbel.trans ⟨rfl, rfl, rfl, Nat.le_refl _, fun _ _ => rfl⟩⟩
        case measure => simp [intOf]; omega
      · obtain rfl : k = l.length := by omega
        go_wp2
        go_ret
        exact ⟨rfl, hbel⟩
/-- The n marks from the k-th on. -/
def marks (k n : Nat) : List ByteArray := (List.range n).map fun j => mkT (k + j)
theorem marks_len (k n : Nat) : (marks k n).length = n := by simp [marks]
theorem marks_get (k n j : Nat) (h : j < n) : (marks k n)[j]? = some (mkT (k + j)) := by simp [marks, h]
theorem markSt_any {l : List ByteArray} {b : Nat} {v : Value} (hn : l.length ≤ 10000000) (w : World) (hS : St w b v l) (hb : b ≤ w.heap.size) :
    Calls Tryd.prog 15 #[v, .int .i64 1] w fun e w' => e = .returned (.int .i64 (1 + l.length : Nat)) ∧ St w' b v (marks 1 l.length) ∧ Below b w w' := by
  obtain ⟨a1, c1, rfl, H1⟩ := hS.shape
  have hbel := Below.refl b w
  by_cases h0 : l.length = 0
  · rw [h0]
    go_enter Tryd.func15, Tryd.ntmps15
    go_wp2
    go_loopw [1, 5] (fun x i wr => x = .int .i64 1 ∧ i = .int .i64 0 ∧ wr = w) (fun _ i _ => 0)
    case atStart => exact ⟨rfl, rfl, rfl⟩
    case round =>
      obtain ⟨rfl, rfl, rfl⟩ := hrel
      go_wp2
      go_ret
      refine ⟨rfl, ?_, hbel⟩
      have : l = [] := List.eq_nil_of_length_eq_zero h0
      subst this
      exact hS
  · obtain ⟨g1, rfl, hbg, q1, d1, fz, K1⟩ := H1 (by omega)
    clear hS H1
    go_enter Tryd.func15, Tryd.ntmps15
    go_wp2
    go_loopw [1, 5] (fun x i wr => ∃ k : Nat, k ≤ l.length ∧ i = .int .i64 k ∧ x = .int .i64 (1 + (k : Int)) ∧ (∀ j, j < k → wr.cell? ⟨g1, j, none⟩ = some (.string (mkT (1 + j)))) ∧ (∀ j x, k ≤ j → l[j]? = some x → wr.cell? ⟨g1, j, none⟩ = some (.string x)) ∧ (∀ j, wr.frozen? ⟨g1, j, none⟩ = false) ∧ w.heap.size ≤ wr.heap.size ∧ Below b w wr) (fun _ i _ => l.length - (intOf i).toNat)
    case atStart => exact ⟨0, by omega, rfl, rfl, fun j hj => by omega, fun j x _ hx => K1 j x hx, fz, Nat.le_refl _, hbel⟩
    case round =>
      clear hbel K1 fz
      obtain ⟨k, hk, rfl, rfl, hA, hB, fz, hz, hbel⟩ := hrel
      have HA : Hid _ := hA
      have HB : Hid _ := hB
      have HF : Hid _ := fz
      clear hA hB fz
      by_cases hlt : k < l.length
      · have hlt' : (k : Int) < (l.length : Int) := by omega
        have hx : l[k]? = some l[k] := List.getElem?_eq_getElem hlt
        have hc1 := HB.out k _ (Nat.le_refl _) hx
        generalize l[k] = x at *
        have HM : Hid (∀ w, Calls Tryd.prog 41 #[.int .i64 (1 + (k : Int))] w fun e w' => e = .returned (.string (mkT (1 + k))) ∧ Below w.heap.size w w') := markText_any (1 + k) (by omega) (by omega)
        go_wp2_with first
          | (go_at_call 41; (with_reducible refine (HM.out _).mono ?_); rintro e w1 ⟨rfl, hb1⟩; have hc2 := (hb1.cell (p := ⟨g1, k, none⟩) (by show g1 < _; omega)).trans hc1; have hf2 := (hb1.frozen (p := ⟨g1, k, none⟩) (by show g1 < _; omega)).trans (HF.out k))
        go_roundw
        case rel => exact ⟨k + 1, by omega, by go_num, by go_num, fun j hj => by
            by_cases e : k = j
            · subst e; exact World.cell?_setCell_same _ _ _ hc2
            · rw [World.cell?_setCell_other _ _ _ _ (fun h => e (by injection h)), hb1.cell (p := ⟨g1, j, none⟩) (by show g1 < _; omega)]
              exact HA.out j (by omega), fun j x hj hx => by
            rw [World.cell?_setCell_other _ _ _ _ (fun h => by injection h; omega), hb1.cell (p := ⟨g1, j, none⟩) (by show g1 < _; omega)]
            exact HB.out j x (by omega) hx, fun j => by
            rw [World.frozen?_setCell, hb1.frozen (p := ⟨g1, j, none⟩) (by show g1 < _; omega)]
            exact HF.out j, by simp only [World.setCell, Array.size_modify]; have := hb1.size; omega, (hbel.trans (hb1.mono (by omega))).setCell (by exact hbg) _⟩
        case measure => simp [intOf]; omega
      · obtain rfl : k = l.length := by omega
        go_wp2
        go_ret
        refine ⟨rfl, .inr ⟨g1, c1, by rw [marks_len], hbg, by omega, by rw [marks_len]; exact d1, HF.out, fun j x hj => ?_⟩, hbel⟩
        have hj2 := (List.getElem?_eq_some_iff.1 hj).1
        rw [marks_len] at hj2
        rw [marks_get _ _ _ hj2] at hj
        simp only [Option.some.injEq] at hj
        rw [← hj]
        exact HA.out j hj2
theorem wpQuiet_loadC {P : Program} {ops : Array Oper} {C : World → Prop} {rest : List Oper} {o : Oper} {a : Act} {Q : Act → Prop} (hw : Region.wanted o (yielded ops a.tmps) = true) (ty : TypeId) (x : Operand) (ho : o.op = .load ty x)
    (p : Addr) (v : Value) (hx : a.eval x = .pointer (some p)) (hg : ∀ w, C w → w.cell? p = some v) (hd : aggB P ty = false) (hu : (P.underlying ty).isSome = true)
    (h : wpQuiet P ops C Q rest (a.put o.dst v)) : wpQuiet P ops C Q (o :: rest) a := by
  refine wpQuiet_value _ hw (fun w hw => ?_) h
  have hagg : (isAgg ty).run P w = .ok false w := by
    unfold aggB at hd
    unfold isAgg
    cases hq : P.underlying ty with
    | none => simp [hq] at hu
    | some d =>
      rw [Sem.run_bind, run_underlying hq w]
      cases d <;> simp_all
  unfold execOp
  simp only [ho, hx, Instr.loadAt, Instr.sureAddr, loadVar, Sem.run_bind, Sem.run_pure, Result.andThen_ok, hagg]
  simp [hg w hw]
theorem heldSt_any {n : Nat} {b : Nat} {v : Value} (hn : n ≤ 10000000) (w : World) (hS : St w b v (marks 1 n)) : Calls Tryd.prog 16 #[v, .int .i64 1] w fun e w' => e = .returned (.int .i64 (1 + n : Nat)) ∧ Below w.heap.size w w' := by
  obtain ⟨a1, c1, rfl, H1⟩ := hS.shape
  rw [marks_len] at H1 ⊢
  have hbel := Below.refl w.heap.size w
  clear hS
  by_cases h0 : n = 0
  · subst h0
    go_enter Tryd.func16, Tryd.ntmps16
    go_wp2
    go_loopw [1, 5] (fun x i wr => x = .int .i64 1 ∧ i = .int .i64 0 ∧ wr = w) (fun _ i _ => 0)
    case atStart => exact ⟨rfl, rfl, rfl⟩
    case round =>
      obtain ⟨rfl, rfl, rfl⟩ := hrel
      go_wp2
      go_ret
      exact ⟨rfl, hbel⟩
  · obtain ⟨g1, rfl, hbg, q1, d1, fz, K1⟩ := H1 (by omega)
    have K1 : Hid _ := K1
    clear fz
    go_enter Tryd.func16, Tryd.ntmps16
    go_wp2
    go_loopw [1, 5] (fun x i wr => ∃ k : Nat, k ≤ n ∧ i = .int .i64 k ∧ x = .int .i64 (1 + (k : Int)) ∧ Below w.heap.size w wr) (fun _ i _ => n - (intOf i).toNat)
    case atStart => exact ⟨0, by omega, rfl, rfl, hbel⟩
    case round =>
      clear hbel
      obtain ⟨k, hk, rfl, rfl, hbel⟩ := hrel
      by_cases hlt : k < n
      · have hlt' : (k : Int) < (n : Int) := by omega
        have hc1 := (hbel.cell (p := ⟨g1, k, none⟩) q1).trans (K1.out k _ (marks_get 1 n k hlt))
        have HC : Hid (wr.cell? ⟨g1, k, none⟩ = some (.string (mkT (1 + k)))) := hc1
        have hz : g1 < wr.heap.size := by have := hbel.size; omega
        have HL : Hid (∀ w, Cls wr [] w → w.cell? ⟨g1, k, none⟩ = some (.string (mkT (1 + k)))) := fun w h => (h.2.cell (p := ⟨g1, k, none⟩) hz).trans HC.out
        have HM : Hid (∀ w, Calls Tryd.prog 41 #[.int .i64 (1 + (k : Int))] w fun e w' => e = .returned (.string (mkT (1 + k))) ∧ Below w.heap.size w w') := markText_any (1 + k) (by omega) (by omega)
        clear hc1
        go_wp2_with fail
        refine wp_region_held 7 (Cls wr []) (by kernel_rfl) (by kernel_rfl) (Cls.zero (Below.refl _ _)) ?_; simp only [List.take_succ_cons, List.take_zero, List.drop_succ_cons, List.drop_zero]
        repeat (first
          | ((with_reducible refine wpQuiet_callE rfl 41 _ _ rfl (.string (mkT (1 + k))) (#[.int .i64 (1 + (k : Int))]) rfl ?_ ?_ ?_); (exact enters_of Tryd.func41 (by kernel_rfl) rfl); (intro w' h'; with_reducible exact (HM.out w').mono fun _ _ ⟨he, hb⟩ => ⟨he, h'.keep hb⟩))
          | (with_reducible refine wpQuiet_loadC rfl _ _ rfl ⟨g1, k, none⟩ (.string (mkT (1 + k))) rfl HL.out (by kernel_rfl) (by kernel_rfl) ?_)
          | ((with_reducible refine wpQuiet_step (fun K hK => ?_)); go_simp; (first | (refine ⟨_, fun _ _ => rfl, hK _ ?_⟩) | (refine ⟨_, fun _ _ => ⟨rfl, rfl⟩, hK _ ?_⟩) | (refine hK _ ?_)); clear hK K))
        refine wpQuiet_nil ?_; intro wt hCt; replace hCt := hCt.2; replace hbel := hbel.trans (hCt.mono hbel.size); clear hCt
        go_wp2
        go_roundw
        case rel => exact ⟨k + 1, by omega, by go_num, by go_num, hbel⟩
        case measure => simp [intOf]; omega
      · obtain rfl : k = n := by omega
        go_wp2
        go_ret
        exact ⟨rfl, hbel⟩
end Go.Proofs.YthljicikedlkbaaDoor
