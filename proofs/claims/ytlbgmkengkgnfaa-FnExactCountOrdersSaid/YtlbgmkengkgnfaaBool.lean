/- Rows of bools. -/
import Derived.Test.YtlbgmkengkgnfaaMem2
namespace Go.Proofs.Ytlbgmkengkgnfaa
set_option linter.unusedSimpArgs false
set_option linter.unusedVariables false
set_option maxRecDepth 20000
open Go.RowKit
variable {P : Program}
/-- A row of n bools. -/
def brr (n : Nat) (s : Nat → Bool) : Array Value := Array.ofFn (n := n) fun j => .bool (s j)
theorem brr_size (n : Nat) (s : Nat → Bool) : (brr n s).size = n := by simp [brr]
theorem brr_get (n : Nat) (s : Nat → Bool) (i : Nat) : (brr n s)[i]? = if i < n then some (.bool (s i)) else none := by
  simp [brr, Array.getElem?_ofFn]
theorem brr_congr {n : Nat} {s t : Nat → Bool} (h : ∀ j, j < n → s j = t j) : brr n s = brr n t := by
  refine Array.ext_getElem? fun i => ?_
  rw [brr_get, brr_get]
  by_cases hi : i < n
  · rw [if_pos hi, if_pos hi, h i hi]
  · rw [if_neg hi, if_neg hi]
def bup (s : Nat → Bool) (i : Nat) (b : Bool) : Nat → Bool := fun j => if j = i then b else s j
theorem brr_set (n : Nat) (s : Nat → Bool) (i : Nat) (b : Bool) : (brr n s).setIfInBounds i (.bool b) = brr n (bup s i b) := by
  refine Array.ext_getElem? fun j => ?_
  rw [Array.getElem?_setIfInBounds, brr_get, brr_get, brr_size]
  unfold bup
  by_cases hj : i = j
  · subst hj; simp
  · have hj2 : ¬ j = i := fun h => hj h.symm
    simp only [hj, hj2, if_false]
attribute [irreducible] brr
theorem browcell {w : World} {B n : Nat} {s : Nat → Bool} {T : TypeId} {fr : Nat × Nat} (hg : w.heap[B]? = some (.cells (brr n s) T fr)) {i : Nat} (h : i < n) :
    w.cell? ⟨B, i, none⟩ = some (.bool (s i)) := by
  rw [cell_of_row w B i _ T fr hg, brr_get, if_pos h]
theorem wpList_loadB {ops : Array Oper} {rest : List Oper} {o : Oper} {a : Act} {w : World} {Q : Exit → Act → World → Prop} (hw : Region.wanted o (yielded ops a.tmps) = true) (ty : TypeId) (x : Operand) (ho : o.op = .load ty x)
    (B off : Nat) (hx : a.eval x = .pointer (some ⟨B, off, none⟩)) {T : TypeId} {fr : Nat × Nat} {n : Nat} {s : Nat → Bool} (hg : w.heap[B]? = some (.cells (brr n s) T fr)) (hd : aggB P ty = false) (hu : (P.underlying ty).isSome = true)
    (hle : off < n) (h : wpList P ops Q rest (a.put o.dst (.bool (s off))) w) : wpList P ops Q (o :: rest) a w :=
  wpList_step fun K hK => by
    rw [if_pos hw]
    have hagg : (isAgg ty).run P w = .ok false w := by
      unfold aggB at hd
      unfold isAgg
      cases hq : P.underlying ty with
      | none => simp [hq] at hu
      | some d =>
        rw [Sem.run_bind, run_underlying hq w]
        cases d <;> simp_all
    have hr : (loadVar ty ⟨B, off, none⟩).run P w = .ok (.bool (s off)) w := by
      simp only [loadVar, Sem.run_bind, Result.andThen_ok, hagg]
      simp [browcell hg hle]
    unfold Oper.wp execOp
    simp only [ho, hx, Instr.loadAt, Instr.sureAddr, Sem.run_bind, Sem.run_pure, Result.andThen_ok, hr]
    exact hK _ _ h
theorem wpList_storeB {ops : Array Oper} {rest : List Oper} {o : Oper} {a : Act} {w : World} {Q : Exit → Act → World → Prop} (hgd : o.guard = none) (ty : TypeId) (x y : Operand) (ho : o.op = .store ty x y)
    (B off : Nat) (hx : a.eval x = .pointer (some ⟨B, off, none⟩)) {b : Bool} (hy : a.eval y = .bool b) {T : TypeId} {n : Nat} {s : Nat → Bool} (hg : w.heap[B]? = some (.cells (brr n s) T (0, 0)))
    (hi : (P.info? ty).map (·.size) = some 1) (hle : off < n) (h : wpList P ops Q rest (a.put o.dst undef) (w.setRow B (brr n (bup s off b)))) : wpList P ops Q (o :: rest) a w :=
  wpList_plain hgd fun _ hK => by
    have hcell : w.cell? ⟨B, off, none⟩ = some (.bool (s off)) := browcell hg hle
    have hfro : w.frozen? ⟨B, off, none⟩ = false := by simp [World.frozen?, hg]
    have hst : (store ((⟨B, off, none⟩ : Addr).add 0) (.bool b)).run P w = .ok () (w.setRow B (brr n (bup s off b))) := by
      rw [add_off, Nat.add_zero, run_store P w _ _ _ rfl, hcell]
      simp [hfro, setCell_eq_setRow w B off _ T (0, 0) _ hg, brr_set]
    have hs : (storeVar ty ⟨B, off, none⟩ (.bool b)).run P w = .ok () (w.setRow B (brr n (bup s off b))) := by
      cases hq : P.info? ty with
      | none => simp [hq] at hi
      | some i =>
        have hs : i.size = 1 := by simpa [hq] using hi
        simp [storeVar, sizeOf, typeInfo, hq, Value.cells, hs, storeCells, hst]
    unfold Oper.wp execOp
    simp only [ho, hx, hy, Instr.storeAt, Instr.sureAddr, Sem.run_bind, Sem.run_pure, Result.andThen_ok, hs]
    exact hK _ _ h
/-- A new row of bools, by name. -/
theorem wpList_allocB {ops : Array Oper} {rest : List Oper} {o : Oper} {a : Act} {w : World} {Q : Exit → Act → World → Prop} (hgd : o.guard = none) (ty : TypeId) (ho : o.op = .alloc ty) (n : Nat)
    (hz : ((P.info? ty).bind (·.zero)).map (·.cells) = some (brr n fun _ => false))
    (h : ∀ B w', w.heap.size ≤ B → w'.heap[B]? = some (.cells (brr n fun _ => false) ty (0, 0)) → Below w.heap.size w w' → wpList P ops Q rest (a.put o.dst (.pointer (some ⟨B, 0, none⟩))) w') : wpList P ops Q (o :: rest) a w :=
  wpList_plain hgd fun _ hK => by
    have hr : (Instr.alloc ty true (.tuple #[])).run P w = .ok (.pointer (some ⟨w.heap.size, 0, none⟩)) (w.alloc (.cells (brr n fun _ => false) ty)) := by
      cases hq : P.info? ty with
      | none => simp [hq] at hz
      | some i =>
        cases hz2 : i.zero with
        | none => simp [hq, hz2] at hz
        | some z =>
          simp only [hq, hz2, Option.bind_some, Option.map_some, Option.some.injEq] at hz
          simp [Instr.alloc, zeroValue, typeInfo, hq, hz2, newVar, newRow, hz]
    unfold Oper.wp execOp
    simp only [ho, Sem.run_bind, hr, Result.andThen_ok, Sem.run_pure]
    exact hK _ _ (h _ _ (Nat.le_refl _) (heap_new rfl) ((Below.refl _ _).alloc (Nat.le_refl _) _))
end Go.Proofs.Ytlbgmkengkgnfaa
