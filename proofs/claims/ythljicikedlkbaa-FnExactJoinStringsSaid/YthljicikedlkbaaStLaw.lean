/- The laws' own comparing and marking of slices of strings. -/
import Derived.Test.YthljicikedlkbaaSt
import Derived.Test.YthljicikedlkbaaHeld
namespace Go.Proofs.Ythljicikedlkbaa
set_option linter.unusedSimpArgs false
set_option linter.unusedVariables false
set_option maxRecDepth 20000
open Go.RowKit
theorem St.shape {w : World} {base : Nat} {v : Value} {l : List ByteArray} (h : St w base v l) :
    ∃ a c, v = .slice a l.length c ∧ (0 < l.length → ∃ g, a = some ⟨g, 0, none⟩ ∧ base ≤ g ∧ g < w.heap.size ∧ l.length ≤ c ∧ (∀ j, w.frozen? ⟨g, j, none⟩ = false) ∧ ∀ j x, l[j]? = some x → w.cell? ⟨g, j, none⟩ = some (.string x)) := by
  rcases h with ⟨rfl, rfl⟩ | ⟨g, cap, rfl, h2, h3, h4, h6, h5⟩
  · exact ⟨none, 0, rfl, fun h => absurd h (by simp)⟩
  · exact ⟨_, _, rfl, fun _ => ⟨g, rfl, h2, h3, h4, h6, h5⟩⟩
theorem eqSt_same {l : List ByteArray} {b1 b2 : Nat} {v1 v2 : Value} (hn : l.length ≤ 10000000) (w : World) (hS1 : St w b1 v1 l) (hS2 : St w b2 v2 l) : Calls Try.prog 8 #[v1, v2] w fun e w' => e = .returned (.bool true) ∧ Below w.heap.size w w' := by
  have hbel := Below.refl w.heap.size w
  obtain ⟨a1, c1, rfl, H1⟩ := hS1.shape
  obtain ⟨a2, c2, rfl, H2⟩ := hS2.shape
  clear hS1 hS2
  by_cases h0 : l.length = 0
  · rw [h0]
    go_enter Try.func8, Try.ntmps8
    go_wp2
    go_loopw [5] (fun i wr => i = .int .i64 0 ∧ Below w.heap.size w wr) (fun i _ => 0)
    case atStart => exact ⟨rfl, hbel⟩
    case round =>
      clear hbel
      obtain ⟨rfl, hbel⟩ := hrel
      go_wp2
      go_ret
      exact ⟨rfl, hbel⟩
  · obtain ⟨g1, rfl, _, q1, d1, _, K1⟩ := H1 (by omega)
    obtain ⟨g2, rfl, _, q2, d2, _, K2⟩ := H2 (by omega)
    have K1 : Hid _ := K1
    have K2 : Hid _ := K2
    go_enter Try.func8, Try.ntmps8
    go_wp2
    go_loopw [5] (fun i wr => ∃ k : Nat, k ≤ l.length ∧ i = .int .i64 k ∧ Below w.heap.size w wr) (fun i _ => l.length - (intOf i).toNat)
    case atStart => exact ⟨0, by omega, rfl, hbel⟩
    case round =>
      clear hbel
      obtain ⟨k, hk, rfl, hbel⟩ := hrel
      by_cases hlt : k < l.length
      · have hlt' : (k : Int) < (l.length : Int) := by omega
        have hx : l[k]? = some l[k] := List.getElem?_eq_getElem hlt
        have hc1 := (hbel.cell (p := ⟨g1, k, none⟩) q1).trans (K1.out k _ hx)
        have hc2 := (hbel.cell (p := ⟨g2, k, none⟩) q2).trans (K2.out k _ hx)
        generalize l[k] = x at *
        clear hx
        go_wp2_with fail
        go_quiet (fail)
        go_wp2
        go_roundw
        case rel => exact ⟨k + 1, by omega, by go_num, hbel.trans ⟨rfl, rfl, rfl, Nat.le_refl _, fun _ _ => rfl⟩⟩
        case measure => simp [intOf]; omega
      · obtain rfl : k = l.length := by omega
        go_wp2
        go_ret
        exact ⟨rfl, hbel⟩
/-- The n marks from the k-th on. -/
def marks (k n : Nat) : List ByteArray := (List.range n).map fun j => mkT (k + j)
theorem marks_len (k n : Nat) : (marks k n).length = n := by simp [marks]
theorem marks_get (k n j : Nat) (h : j < n) : (marks k n)[j]? = some (mkT (k + j)) := by simp [marks, h]
theorem wpQuiet_loadC {P : Program} {ops : Array Oper} {C : World → Prop} {rest : List Oper} {o : Oper} {a : Act} {Q : Act → Prop} (hw : Region.wanted o (yielded ops a.tmps) = true) (ty : TypeId) (x : Operand) (ho : o.op = .load ty x)
    (p : Addr) (v : Value) (hx : a.eval x = .pointer (some p)) (hg : ∀ w, C w → w.cell? p = some v) (hd : aggB P ty = false) (hu : (P.underlying ty).isSome = true)
    (h : wpQuiet P ops C Q rest (a.put o.dst v)) : wpQuiet P ops C Q (o :: rest) a := by
  refine wpQuiet_value _ hw (fun w hw => ?_) h
  have hagg : (isAgg ty).run P w = .ok false w := by
    unfold aggB at hd
    unfold isAgg
    cases hq : P.underlying ty with
    | none => simp [hq] at hu
    | some d =>
      rw [Sem.run_bind, run_underlying hq w]
      cases d <;> simp_all
  unfold execOp
  simp only [ho, hx, Instr.loadAt, Instr.sureAddr, loadVar, Sem.run_bind, Sem.run_pure, Result.andThen_ok, hagg]
  simp [hg w hw]
end Go.Proofs.Ythljicikedlkbaa
