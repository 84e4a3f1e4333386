/- Comparing rows, and loading bools, where a region draws its order; rows of bools laid anew. -/
import Derived.Test.YtlbgmkengkgnfaaEqv
import Derived.Test.YtlbgmkengkgnfaaBool
namespace Go.Proofs.Ytlbgmkengkgnfaa
set_option linter.unusedSimpArgs false
set_option linter.unusedVariables false
set_option maxRecDepth 20000
open Go.RowKit
variable {P : Program}
section
variable {ops : Array Oper} {C : World → Prop} {Q : Act → Prop} {a : Act} {o : Oper} {rest : List Oper}
theorem wpQuiet_eqlA {t : TypeId} {n k : Nat} (h : EqA P t n k) (hk : k ≤ 10000) (hm : P.eqGuardType P.depth t = false) (hw : Region.wanted o (yielded ops a.tmps) = true) (x y : Operand) (t2 : TypeId) (ho : o.op = .binOp .eql t x y t2)
    {f g : Nat → Int} (hx : a.eval x = .agg (arr n f)) (hy : a.eval y = .agg (arr n g)) (hc : wpQuiet P ops C Q rest (a.put o.dst (.bool (eqv n f g)))) : wpQuiet P ops C Q (o :: rest) a := by
  refine wpQuiet_value _ hw (fun w _ => ?_) hc
  have hr := run_eqlA h hk f g w
  have hg := run_eqGuard_agg (P := P) w .eql t x y (arr n f) (arr n g) hm
  unfold execOp
  simp only [ho, hx, hy, Sem.run_bind, hg, hr, Result.andThen_ok, Sem.run_pure]
theorem wpQuiet_neqA {t : TypeId} {n k : Nat} (h : EqA P t n k) (hk : k ≤ 10000) (hm : P.eqGuardType P.depth t = false) (hw : Region.wanted o (yielded ops a.tmps) = true) (x y : Operand) (t2 : TypeId) (ho : o.op = .binOp .neq t x y t2)
    {f g : Nat → Int} (hx : a.eval x = .agg (arr n f)) (hy : a.eval y = .agg (arr n g)) (hc : wpQuiet P ops C Q rest (a.put o.dst (.bool (!eqv n f g)))) : wpQuiet P ops C Q (o :: rest) a := by
  refine wpQuiet_value _ hw (fun w _ => ?_) hc
  have hr := run_neqA h hk f g w
  have hg := run_eqGuard_agg (P := P) w .neq t x y (arr n f) (arr n g) hm
  unfold execOp
  simp only [ho, hx, hy, Sem.run_bind, hg, hr, Result.andThen_ok, Sem.run_pure]
theorem wpQuiet_loadB (hw : Region.wanted o (yielded ops a.tmps) = true) (ty : TypeId) (x : Operand) (ho : o.op = .load ty x)
    (B off : Nat) (hx : a.eval x = .pointer (some ⟨B, off, none⟩)) {T : TypeId} {fr : Nat × Nat} {n : Nat} {s : Nat → Bool} (hg : ∀ w, C w → w.heap[B]? = some (.cells (brr n s) T fr)) (hd : aggB P ty = false) (hu : (P.underlying ty).isSome = true)
    (hle : off < n) (h : wpQuiet P ops C Q rest (a.put o.dst (.bool (s off)))) : wpQuiet P ops C Q (o :: rest) a := by
  refine wpQuiet_value _ hw (fun w hw => ?_) h
  have hagg : (isAgg ty).run P w = .ok false w := by
    unfold aggB at hd
    unfold isAgg
    cases hq : P.underlying ty with
    | none => simp [hq] at hu
    | some d =>
      rw [Sem.run_bind, run_underlying hq w]
      cases d <;> simp_all
  unfold execOp
  simp only [ho, hx, Instr.loadAt, Instr.sureAddr, loadVar, Sem.run_bind, Sem.run_pure, Result.andThen_ok, hagg]
  simp [browcell (hg w hw) hle]
end
section
variable {ops : Array Oper} {rest : List Oper} {o : Oper} {a : Act} {w : World} {Q : Exit → Act → World → Prop}
theorem wpList_neqA {t : TypeId} {n k : Nat} (h : EqA P t n k) (hk : k ≤ 10000) (hm : P.eqGuardType P.depth t = false) (hw : Region.wanted o (yielded ops a.tmps) = true) (x y : Operand) (t2 : TypeId) (ho : o.op = .binOp .neq t x y t2)
    {f g : Nat → Int} (hx : a.eval x = .agg (arr n f)) (hy : a.eval y = .agg (arr n g)) (hc : wpList P ops Q rest (a.put o.dst (.bool (!eqv n f g))) w) : wpList P ops Q (o :: rest) a w :=
  wpList_step fun K hK => by
    rw [if_pos hw]
    have hr := run_neqA h hk f g w
    have hg := run_eqGuard_agg (P := P) w .neq t x y (arr n f) (arr n g) hm
    unfold Oper.wp execOp
    simp only [ho, hx, hy, Sem.run_bind, hg, hr, Result.andThen_ok, Sem.run_pure]
    exact hK _ _ hc
theorem wpList_storeBN (hgd : o.guard = none) (ty : TypeId) (x y : Operand) (ho : o.op = .store ty x y)
    (B off : Nat) (hx : a.eval x = .pointer (some ⟨B, off, none⟩)) {b : Bool} (hy : a.eval y = .bool b) {T : TypeId} {n : Nat} {s : Nat → Bool} (hg : w.heap[B]? = some (.cells (brr n s) T (0, 0)))
    (hi : (P.info? ty).map (·.size) = some 1) (hle : off < n) {k : Nat} {w0 : World} (hb : Below k w0 w) (hk : k ≤ B)
    (h : ∀ w', w'.heap[B]? = some (.cells (brr n (bup s off b)) T (0, 0)) → (∀ B', B' ≠ B → w'.heap[B']? = w.heap[B']?) → Below k w0 w' → wpList P ops Q rest (a.put o.dst undef) w') : wpList P ops Q (o :: rest) a w :=
  wpList_storeB hgd ty x y ho B off hx hy hg hi hle (h _ (setRow_heap _ _ _ _ _ _ hg) (fun B' hB => setRow_other _ _ _ _ hB) (below_setRow2 hb hk _))
theorem brr_toList (n : Nat) (s : Nat → Bool) (j : Nat) : (brr n s).toList[j]? = if j < n then some (.bool (s j)) else none := by rw [Array.getElem?_toList, brr_get]
theorem run_storeCells_same {B n : Nat} {s : Nat → Bool} {T : TypeId} (hg : w.heap[B]? = some (.cells (brr n s) T (0, 0))) : ∀ (vs : List Value) (i : Nat), (∀ j, j < vs.length → vs[j]? = some (.bool (s (i + j)))) → i + vs.length ≤ n →
    (storeCells ⟨B, 0, none⟩ vs i).run P w = .ok () w
  | [], i, _, _ => rfl
  | v :: vs, i, h, hl => by
    simp only [List.length_cons] at hl
    have hv : v = .bool (s i) := by simpa using h 0 (by simp)
    subst hv
    have hcell : w.cell? ⟨B, i, none⟩ = some (.bool (s i)) := browcell hg (by omega)
    have hfro : w.frozen? ⟨B, i, none⟩ = false := by simp [World.frozen?, hg]
    have hbup : bup s i (s i) = s := funext fun j => by unfold bup; split <;> simp_all
    have hst : (store ((⟨B, 0, none⟩ : Addr).add i) (.bool (s i))).run P w = .ok () w := by
      rw [add_off, Nat.zero_add, run_store P w _ _ _ rfl, hcell]
      simp [hfro, setCell_eq_setRow w B i _ T (0, 0) _ hg, brr_set, hbup, setRow_self w B _ T (0, 0) hg]
    have ih := run_storeCells_same hg vs (i + 1) (fun j hj => by have := h (j + 1) (by simp; omega); simpa [Nat.add_assoc, Nat.add_comm 1 j] using this) (by omega)
    simp only [storeCells, Sem.run_bind, hst, Result.andThen_ok, ih]
/-- A row of bools is overwritten by what it holds. -/
theorem wpList_storeSB (hgd : o.guard = none) (ty : TypeId) (x y : Operand) (ho : o.op = .store ty x y)
    (B : Nat) (hx : a.eval x = .pointer (some ⟨B, 0, none⟩)) {n : Nat} {s : Nat → Bool} (hy : a.eval y = .agg (brr n s)) {T : TypeId} (hg : w.heap[B]? = some (.cells (brr n s) T (0, 0)))
    (hi : (P.info? ty).map (·.size) = some n) (h : wpList P ops Q rest (a.put o.dst undef) w) : wpList P ops Q (o :: rest) a w :=
  wpList_plain hgd fun _ hK => by
    have hs : (storeVar ty ⟨B, 0, none⟩ (.agg (brr n s))).run P w = .ok () w := by
      cases hq : P.info? ty with
      | none => simp [hq] at hi
      | some i =>
        have hs : i.size = n := by simpa [hq] using hi
        have hr := run_storeCells_same (P := P) hg (brr n s).toList 0 (fun j hj => by
          rw [brr_toList, if_pos (by simpa [brr_size] using hj), Nat.zero_add]) (by simp [brr_size])
        simp [storeVar, sizeOf, typeInfo, hq, Value.cells, hs, brr_size, hr]
    unfold Oper.wp execOp
    simp only [ho, hx, hy, Instr.storeAt, Instr.sureAddr, Sem.run_bind, Sem.run_pure, Result.andThen_ok, hs]
    exact hK _ _ h
theorem wpList_build0B (hgd : o.guard = none) (ty : TypeId) (ho : o.op = .build ty #[]) (n : Nat)
    (hz : P.built ty [] = some (brr n fun _ => false))
    (h : wpList P ops Q rest (a.put o.dst (.agg (brr n fun _ => false))) w) : wpList P ops Q (o :: rest) a w :=
  wpList_build hgd ty #[] ho (by simp [hz]) (by simpa [hz] using h)
end
end Go.Proofs.Ytlbgmkengkgnfaa
