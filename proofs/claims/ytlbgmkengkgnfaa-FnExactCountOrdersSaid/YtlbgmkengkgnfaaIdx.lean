/- Reading an element of an array value; counting. -/
import Derived.Test.YtlbgmkengkgnfaaMem2
import Derived.Test.YtlbgmkengkgnfaaPure
namespace Go.Proofs.Ytlbgmkengkgnfaa
set_option linter.unusedSimpArgs false
set_option linter.unusedVariables false
set_option maxRecDepth 20000
open Go.RowKit
variable {P : Program}
theorem extract_arr (N a m : Nat) (g : Nat → Int) (h : a + m ≤ N) : (arr N g).extract a (a + m) = arr m fun j => g (a + j) := by
  refine Array.ext_getElem? fun i => ?_
  rw [arr_get]
  by_cases hi : i < m
  · rw [if_pos hi, Array.getElem?_extract_of_lt (by rw [arr_size]; omega)]
    have := arr_get N g (a + i)
    rw [if_pos (by omega)] at this
    rw [← this, Array.getElem?_eq_getElem (by rw [arr_size]; omega)]
  · rw [if_neg hi, Array.getElem?_eq_none (by simp [arr_size]; omega)]
/-- An element of an array, itself an array. -/
theorem wpList_indexA {ops : Array Oper} {rest : List Oper} {o : Oper} {a : Act} {w : World} {Q : Exit → Act → World → Prop} (hw : Region.wanted o (yielded ops a.tmps) = true) (ty : TypeId) (x y : Operand) (ho : o.op = .index ty x y)
    {N : Nat} {g : Nat → Int} (hx : a.eval x = .agg (arr N g)) {k : Nat} (hy : a.eval y = .int .i64 k) (n : Nat) (e : TypeId) (hu : P.underlying ty = some (.array n e)) (m : Nat) (hd : aggB P e = true)
    (hi : (P.info? e).map (·.size) = some m) (hk : k < n) (hN : n * m = N) (h : wpList P ops Q rest (a.put o.dst (.agg (arr m fun j => g (k * m + j)))) w) : wpList P ops Q (o :: rest) a w :=
  wpList_step fun K hK => by
    rw [if_pos hw]
    have hle : k * m + m ≤ N := by
      have : (k + 1) * m ≤ n * m := Nat.mul_le_mul_right m hk
      rw [Nat.add_mul] at this
      omega
    have hr : (Instr.index ty (.agg (arr N g)) (.int .i64 k)).run P w = .ok (.agg (arr m fun j => g (k * m + j))) w := by
      cases hq : P.info? e with
      | none => simp [hq] at hi
      | some i =>
        have hs : i.size = m := by simpa [hq] using hi
        have hk2 : (k : Int) < (n : Int) := by omega
        simp [Instr.index, asIntOf, Sem.run_bind, run_underlying hu, part, run_isAgg hd, sizeOf, typeInfo, hq, hs, hk, extract_arr N (k * m) m g hle]
    unfold Oper.wp execOp
    simp only [ho, hx, hy, Sem.run_bind, hr, Result.andThen_ok, Sem.run_pure]
    exact hK _ _ h
theorem wpList_indexI {ops : Array Oper} {rest : List Oper} {o : Oper} {a : Act} {w : World} {Q : Exit → Act → World → Prop} (hw : Region.wanted o (yielded ops a.tmps) = true) (ty : TypeId) (x y : Operand) (ho : o.op = .index ty x y)
    {N : Nat} {g : Nat → Int} (hx : a.eval x = .agg (arr N g)) {k : Nat} (hy : a.eval y = .int .i64 k) (e : TypeId) (hu : P.underlying ty = some (.array N e)) (hd : aggB P e = false) (hue : (P.underlying e).isSome = true)
    (hi : (P.info? e).map (·.size) = some 1) (hk : k < N) (h : wpList P ops Q rest (a.put o.dst (.int .i64 (g k))) w) : wpList P ops Q (o :: rest) a w :=
  wpList_step fun K hK => by
    rw [if_pos hw]
    have hagg : (isAgg e).run P w = .ok false w := by
      unfold aggB at hd
      unfold isAgg
      cases hq : P.underlying e with
      | none => simp [hq] at hue
      | some d =>
        rw [Sem.run_bind, run_underlying hq w]
        cases d <;> simp_all
    have hg := arr_get N g k
    rw [if_pos hk] at hg
    have hr : (Instr.index ty (.agg (arr N g)) (.int .i64 k)).run P w = .ok (.int .i64 (g k)) w := by
      cases hq : P.info? e with
      | none => simp [hq] at hi
      | some i =>
        have hs : i.size = 1 := by simpa [hq] using hi
        simp [Instr.index, asIntOf, Sem.run_bind, run_underlying hu, part, hagg, sizeOf, typeInfo, hq, hs, hk, hg]
    unfold Oper.wp execOp
    simp only [ho, hx, hy, Sem.run_bind, hr, Result.andThen_ok, Sem.run_pure]
    exact hK _ _ h

/-- How often each number has come among the first k. -/
def tally (q : Nat → Int) : Nat → (Nat → Int)
  | 0 => fun _ => 0
  | k + 1 => upd (tally q k) (q k).toNat (tally q k (q k).toNat + 1)
theorem tally_succ (q : Nat → Int) (k : Nat) : tally q (k + 1) = upd (tally q k) (q k).toNat (tally q k (q k).toNat + 1) := rfl
theorem tally_bd (q : Nat → Int) (k : Nat) : ∀ j, 0 ≤ tally q k j ∧ tally q k j ≤ k := by
  induction k with
  | zero => intro j; simp [tally]
  | succ k ih =>
    intro j
    unfold tally upd
    have h1 := ih (q k).toNat
    have h2 := ih j
    split <;> (push_cast; omega)
end Go.Proofs.Ytlbgmkengkgnfaa
