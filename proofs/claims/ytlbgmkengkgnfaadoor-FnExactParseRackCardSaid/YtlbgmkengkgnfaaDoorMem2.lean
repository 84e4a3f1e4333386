/- Results that lie partly in memory; comparing rows. -/
import Derived.Test.YtlbgmkengkgnfaaDoorMem
import Derived.Test.YtlbgmkengkgnfaaDoorConv
namespace Go.Proofs.YtlbgmkengkgnfaaDoor
set_option linter.unusedSimpArgs false
set_option linter.unusedVariables false
set_option maxRecDepth 20000
open Go.RowKit
variable {P : Program}
section
variable {fn : Func} {p t t2 : Tmp} {ty : TypeId} (tmps : Array Value) (w : World) (B : Nat) (T : TypeId) (n : Nat) (f : Nat → Int) (fr : Nat × Nat)
theorem results_ct (h : fn.results = #[.cell p ty, .tmp t])
    (hp : tmps.getD p undef = .pointer (some ⟨B, 0, none⟩)) (hg : w.heap[B]? = some (.cells (arr n f) T fr)) (hd : aggB P ty = true) (hi : (P.info? ty).map (·.size) = some n) :
    (results fn tmps).run P w = .ok (.tuple #[.agg (arr n f), tmps.getD t undef]) w := by
  have hp' : tmps[p]?.getD undef = .pointer (some ⟨B, 0, none⟩) := by simpa using hp
  have hl := run_loadVar_arr (P := P) w B 0 T ty fr n n f hg hd hi (by omega)
  simp only [Nat.zero_add] at hl
  simp [results, h, hp', asAddr, hl]
theorem results_ctt (h : fn.results = #[.cell p ty, .tmp t, .tmp t2])
    (hp : tmps.getD p undef = .pointer (some ⟨B, 0, none⟩)) (hg : w.heap[B]? = some (.cells (arr n f) T fr)) (hd : aggB P ty = true) (hi : (P.info? ty).map (·.size) = some n) :
    (results fn tmps).run P w = .ok (.tuple #[.agg (arr n f), tmps.getD t undef, tmps.getD t2 undef]) w := by
  have hp' : tmps[p]?.getD undef = .pointer (some ⟨B, 0, none⟩) := by simpa using hp
  have hl := run_loadVar_arr (P := P) w B 0 T ty fr n n f hg hd hi (by omega)
  simp only [Nat.zero_add] at hl
  simp [results, h, hp', asAddr, hl]
theorem results_tc (h : fn.results = #[.tmp t, .cell p ty])
    (hp : tmps.getD p undef = .pointer (some ⟨B, 0, none⟩)) (hg : w.heap[B]? = some (.cells (arr n f) T fr)) (hd : aggB P ty = true) (hi : (P.info? ty).map (·.size) = some n) :
    (results fn tmps).run P w = .ok (.tuple #[tmps.getD t undef, .agg (arr n f)]) w := by
  have hp' : tmps[p]?.getD undef = .pointer (some ⟨B, 0, none⟩) := by simpa using hp
  have hl := run_loadVar_arr (P := P) w B 0 T ty fr n n f hg hd hi (by omega)
  simp only [Nat.zero_add] at hl
  simp [results, h, hp', asAddr, hl]
theorem results_tct (h : fn.results = #[.tmp t, .cell p ty, .tmp t2])
    (hp : tmps.getD p undef = .pointer (some ⟨B, 0, none⟩)) (hg : w.heap[B]? = some (.cells (arr n f) T fr)) (hd : aggB P ty = true) (hi : (P.info? ty).map (·.size) = some n) :
    (results fn tmps).run P w = .ok (.tuple #[tmps.getD t undef, .agg (arr n f), tmps.getD t2 undef]) w := by
  have hp' : tmps[p]?.getD undef = .pointer (some ⟨B, 0, none⟩) := by simpa using hp
  have hl := run_loadVar_arr (P := P) w B 0 T ty fr n n f hg hd hi (by omega)
  simp only [Nat.zero_add] at hl
  simp [results, h, hp', asAddr, hl]
end

theorem size_al (w : World) (o : Obj) : (w.alloc o).heap.size = w.heap.size + 1 := by simp
theorem wpList_loadAG {ops : Array Oper} {rest : List Oper} {o : Oper} {a : Act} {w : World} {Q : Exit → Act → World → Prop} (hw : Region.wanted o (yielded ops a.tmps) = true) (ty : TypeId) (x : Operand) (ho : o.op = .load ty x)
    (B off : Nat) (hx : a.eval x = .pointer (some ⟨B, off, none⟩)) {T : TypeId} {fr : Nat × Nat} {n : Nat} {f : Nat → Int} (hg : w.heap[B]? = some (.cells (arr n f) T fr)) (m : Nat) (hd : aggB P ty = true)
    (hi : (P.info? ty).map (·.size) = some m) (hle : off + m ≤ n) (h : wpList P ops Q rest (a.put o.dst (.agg (arr m fun j => f (off + j)))) w) : wpList P ops Q (o :: rest) a w :=
  wpList_step fun K hK => by
    rw [if_pos hw]
    exact wp_loadA ty x ho B off hx hg m hd hi hle (hK _ _ h)
theorem aggI : aggB Tryd.prog 3 = false := by kernel_rfl
theorem undI : (Tryd.prog.underlying 3).isSome = true := by kernel_rfl
theorem wpList_loadI {ops : Array Oper} {rest : List Oper} {o : Oper} {a : Act} {w : World} {Q : Exit → Act → World → Prop} (hw : Region.wanted o (yielded ops a.tmps) = true) (ty : TypeId) (x : Operand) (ho : o.op = .load ty x)
    (B off : Nat) (hx : a.eval x = .pointer (some ⟨B, off, none⟩)) {T : TypeId} {fr : Nat × Nat} {n : Nat} {f : Nat → Int} (hg : w.heap[B]? = some (.cells (arr n f) T fr)) (hd : aggB P ty = false) (hu : (P.underlying ty).isSome = true)
    (hle : off < n) (h : wpList P ops Q rest (a.put o.dst (.int .i64 (f off))) w) : wpList P ops Q (o :: rest) a w :=
  wpList_step fun K hK => by
    rw [if_pos hw]
    have hagg : (isAgg ty).run P w = .ok false w := by
      unfold aggB at hd
      unfold isAgg
      cases hq : P.underlying ty with
      | none => simp [hq] at hu
      | some d =>
        rw [Sem.run_bind, run_underlying hq w]
        cases d <;> simp_all
    have hr : (loadVar ty ⟨B, off, none⟩).run P w = .ok (.int .i64 (f off)) w := by
      simp only [loadVar, Sem.run_bind, Result.andThen_ok, hagg]
      simp [rowcell hg hle]
    unfold Oper.wp execOp
    simp only [ho, hx, Instr.loadAt, Instr.sureAddr, Sem.run_bind, Sem.run_pure, Result.andThen_ok, hr]
    exact hK _ _ h
theorem wpList_loadWG {ops : Array Oper} {rest : List Oper} {o : Oper} {a : Act} {w : World} {Q : Exit → Act → World → Prop} (hw : Region.wanted o (yielded ops a.tmps) = true) (ty : TypeId) (x : Operand) (ho : o.op = .load ty x)
    (B : Nat) (hx : a.eval x = .pointer (some ⟨B, 0, none⟩)) {T : TypeId} {fr : Nat × Nat} {n : Nat} {f : Nat → Int} (hg : w.heap[B]? = some (.cells (arr n f) T fr)) (hd : aggB P ty = true)
    (hi : (P.info? ty).map (·.size) = some n) (h : wpList P ops Q rest (a.put o.dst (.agg (arr n f))) w) : wpList P ops Q (o :: rest) a w :=
  wpList_loadAG hw ty x ho B 0 hx hg n hd hi (by omega) (by simpa using h)
/-- The first store into a block that was laid just before: behind it the world is a name. -/
theorem wpList_storeN {ops : Array Oper} {rest : List Oper} {o : Oper} {a : Act} {w : World} {Q : Exit → Act → World → Prop} {n : Nat} {f g : Nat → Int} {T : TypeId} (hgd : o.guard = none) (ty : TypeId) (x y : Operand) (ho : o.op = .store ty x y)
    (hx : a.eval x = .pointer (some ⟨w.heap.size, 0, none⟩)) (hy : a.eval y = .agg (arr n g))
    (hi : (P.info? ty).map (·.size) = some n) (h : ∀ w', w'.heap[w.heap.size]? = some (.cells (arr n g) T (0, 0)) → Below w.heap.size w w' → wpList P ops Q rest (a.put o.dst undef) w') :
    wpList P ops Q (o :: rest) a (w.alloc (.cells (arr n f) T)) :=
  wpList_storeW hgd ty x y ho w.heap.size hx hy (heap_new rfl) hi
    (h _ (setRow_heap _ _ _ _ _ _ (heap_new rfl)) (below_setRow2 ((Below.refl _ _).alloc (Nat.le_refl _) _) (Nat.le_refl _) _))
theorem upd_arr (n : Nat) (f : Nat → Int) (i : Nat) (x : Int) (g : Nat → Int) (h : ∀ j, j < n → g j = if j = i then x else f j) : arr n (upd f i x) = arr n g :=
  arr_congr fun j hj => by rw [h j hj]; rfl
end Go.Proofs.YtlbgmkengkgnfaaDoor
