/- A part (number 2) of the proof of the law FnRackNames: what each of its sections proves stands in the section's own first remark. No conditions beside those that each theorem states. -/
import Derived.Test.YtlbgmkengkgnfaaGreatMg1
import Derived.Lib.Hide
import Derived.Deep.QuietTactic
import Derived.BigQuiet
import Derived.StillTailTactics
import Derived.Shelf.Abstract
import Derived.Deep.Quiet
section
/- Laws of the walk on rows of int64 cells: load, store, allocate, build, results. -/
namespace Go.Proofs.YtlbgmkengkgnfaaGreat
set_option linter.unusedSimpArgs false
set_option linter.unusedVariables false
set_option maxRecDepth 20000
open Go.RowKit
variable {P : Program}

theorem add_off (B o j : Nat) : (⟨B, o, none⟩ : Addr).add j = ⟨B, o + j, none⟩ := by
  unfold Addr.add
  split
  · rename_i h; subst h; rfl
  · rfl

theorem rowcell {w : World} {B n : Nat} {f : Nat → Int} {T : TypeId} {fr : Nat × Nat} (hg : w.heap[B]? = some (.cells (arr n f) T fr)) {i : Nat} (h : i < n) :
    w.cell? ⟨B, i, none⟩ = some (.int .i64 (f i)) := by
  rw [cell_of_row w B i _ T fr hg, arr_get, if_pos h]

theorem row_lt {w : World} {B : Nat} {o : Obj} (h : w.heap[B]? = some o) : B < w.heap.size := (Array.getElem?_eq_some_iff.1 h).1

/-- A row stays where nothing below a bound has turned. -/
theorem row_kept {w w' : World} {K B : Nat} {o : Obj} (hb : Below K w w') (h : w.heap[B]? = some o) (hB : B < K) : w'.heap[B]? = some o := (hb.block B hB).trans h
theorem row_keep {w w' : World} {B : Nat} {o : Obj} (hb : Below w.heap.size w w') (h : w.heap[B]? = some o) : w'.heap[B]? = some o := (hb.block B (row_lt h)).trans h
theorem row_alloc {w : World} {B : Nat} {o x : Obj} (h : w.heap[B]? = some o) : (w.alloc x).heap[B]? = some o := (Below.heap_alloc w x B (row_lt h)).trans h

/-- Is it a struct or an array? -/
def aggB (P : Program) (t : TypeId) : Bool := match P.underlying t with | some (.struct _) | some (.array _ _) => true | _ => false

theorem run_isAgg {t : TypeId} (h : aggB P t = true) (w : World) : (isAgg t).run P w = .ok true w := by
  unfold aggB at h
  unfold isAgg
  cases hu : P.underlying t with
  | none => simp [hu] at h
  | some d =>
    rw [Sem.run_bind, run_underlying hu w]
    cases d <;> simp_all

theorem range_arr (n : Nat) (f : Nat → Int) : ((List.range n).map fun j => Value.int .i64 (f j)).toArray = arr n f := by
  refine Array.ext_getElem? fun i => ?_
  rw [arr_get]
  by_cases h : i < n
  · simp [h]
  · simp [h]

theorem run_loadVar_arr (w : World) (B off : Nat) (T ty : TypeId) (fr : Nat × Nat) (n m : Nat) (f : Nat → Int) (hg : w.heap[B]? = some (.cells (arr n f) T fr)) (hd : aggB P ty = true)
    (hi : (P.info? ty).map (·.size) = some m) (hle : off + m ≤ n) : (loadVar ty ⟨B, off, none⟩).run P w = .ok (.agg (arr m fun j => f (off + j))) w := by
  have hl : (loadCells ⟨B, off, none⟩ m).run P w = .ok (arr m fun j => f (off + j)) w := by
    rw [run_loadCells (P := P) w ⟨B, off, none⟩ m (fun j => .int .i64 (f (off + j))) (fun j hj => by rw [add_off]; exact rowcell hg (by omega))]
    rw [range_arr]
  cases hq : P.info? ty with
  | none => simp [hq] at hi
  | some i =>
    have hs : i.size = m := by simpa [hq] using hi
    simp [loadVar, Sem.run_bind, run_isAgg hd, sizeOf, typeInfo, hq, hs, hl]

theorem wp_loadA {o : Oper} {a : Act} {w : World} {K : Act → World → Prop} {Q : Exit → Act → World → Prop} (ty : TypeId) (x : Operand) (ho : o.op = .load ty x)
    (B off : Nat) (hx : a.eval x = .pointer (some ⟨B, off, none⟩)) {T : TypeId} {fr : Nat × Nat} {n : Nat} {f : Nat → Int} (hg : w.heap[B]? = some (.cells (arr n f) T fr)) (m : Nat) (hd : aggB P ty = true)
    (hi : (P.info? ty).map (·.size) = some m) (hle : off + m ≤ n) (h : K (a.put o.dst (.agg (arr m fun j => f (off + j)))) w) : o.wp P a w K Q := by
  unfold Oper.wp execOp
  simp only [ho, hx, Instr.loadAt, Instr.sureAddr, Sem.run_bind, Sem.run_pure, Result.andThen_ok, run_loadVar_arr w B off T ty fr n m f hg hd hi hle]
  exact h

theorem wpList_loadA {ops : Array Oper} {rest : List Oper} {o : Oper} {a : Act} {w : World} {Q : Exit → Act → World → Prop} (hgd : o.guard = none) (ty : TypeId) (x : Operand) (ho : o.op = .load ty x)
    (B off : Nat) (hx : a.eval x = .pointer (some ⟨B, off, none⟩)) {T : TypeId} {fr : Nat × Nat} {n : Nat} {f : Nat → Int} (hg : w.heap[B]? = some (.cells (arr n f) T fr)) (m : Nat) (hd : aggB P ty = true)
    (hi : (P.info? ty).map (·.size) = some m) (hle : off + m ≤ n) (h : wpList P ops Q rest (a.put o.dst (.agg (arr m fun j => f (off + j)))) w) : wpList P ops Q (o :: rest) a w :=
  wpList_plain hgd fun _ hK => wp_loadA ty x ho B off hx hg m hd hi hle (hK _ _ h)

/-- The whole of a row. -/
theorem wpList_loadW {ops : Array Oper} {rest : List Oper} {o : Oper} {a : Act} {w : World} {Q : Exit → Act → World → Prop} (hgd : o.guard = none) (ty : TypeId) (x : Operand) (ho : o.op = .load ty x)
    (B : Nat) (hx : a.eval x = .pointer (some ⟨B, 0, none⟩)) {T : TypeId} {fr : Nat × Nat} {n : Nat} {f : Nat → Int} (hg : w.heap[B]? = some (.cells (arr n f) T fr)) (hd : aggB P ty = true)
    (hi : (P.info? ty).map (·.size) = some n) (h : wpList P ops Q rest (a.put o.dst (.agg (arr n f))) w) : wpList P ops Q (o :: rest) a w :=
  wpList_plain hgd fun _ hK => wp_loadA ty x ho B 0 hx hg n hd hi (by omega) (hK _ _ (by simpa using h))

/-! ### stores -/
theorem oneCell_arr (n : Nat) (f : Nat → Int) : ∀ v ∈ (arr n f).toList, v.oneCell' = true := by
  intro v hv
  obtain ⟨i, hi, he⟩ := List.getElem_of_mem hv
  have h1 : (arr n f)[i]? = some v := by
    rw [← Array.getElem?_toList, List.getElem?_eq_getElem hi, he]
  rw [arr_get] at h1
  split at h1
  · simp at h1; subst h1; rfl
  · simp at h1

theorem run_storeCells_arr (B : Nat) (T : TypeId) (n : Nat) : ∀ (vs : List Int) (off : Nat) (f : Nat → Int) (w : World) (i : Nat), w.heap[B]? = some (.cells (arr n f) T (0, 0)) → off + i + vs.length ≤ n →
    (storeCells ⟨B, off, none⟩ (vs.map (Value.int .i64)) i).run P w = .ok () (w.setRow B (arr n fun j => if off + i ≤ j ∧ j < off + i + vs.length then vs.getD (j - off - i) 0 else f j))
  | [], off, f, w, i, hg, hl => by
    have e : arr n (fun j => if off + i ≤ j ∧ j < off + i + ([] : List Int).length then ([] : List Int).getD (j - off - i) 0 else f j) = arr n f := by
      refine arr_congr fun j hj => ?_
      rw [if_neg (by simp)]
    rw [e]
    show Result.ok () w = _
    rw [setRow_self w B _ T (0, 0) hg]
  | v :: vs, off, f, w, i, hg, hl => by
    simp only [List.length_cons] at hl
    have hcell : w.cell? ⟨B, off + i, none⟩ = some (.int .i64 (f (off + i))) := rowcell hg (by omega)
    have hfro : w.frozen? ⟨B, off + i, none⟩ = false := by simp [World.frozen?, hg]
    have hst : (store ((⟨B, off, none⟩ : Addr).add i) (.int .i64 v)).run P w = .ok () (w.setRow B (arr n (upd f (off + i) v))) := by
      rw [add_off, run_store P w _ _ _ rfl, hcell]
      simp [hfro, setCell_eq_setRow w B (off + i) _ T (0, 0) _ hg, arr_set]
    have ih := run_storeCells_arr B T n vs off (upd f (off + i) v) (w.setRow B (arr n (upd f (off + i) v))) (i + 1) (setRow_heap w B _ _ T _ hg) (by omega)
    simp only [List.map_cons, storeCells, Sem.run_bind, hst, Result.andThen_ok, ih, setRow_setRow]
    congr 2
    refine arr_congr fun j hj => ?_
    simp only [List.length_cons]
    by_cases h1 : off + i ≤ j ∧ j < off + i + (vs.length + 1)
    · rw [if_pos h1]
      by_cases h2 : j = off + i
      · subst h2
        rw [if_neg (by omega), upd_same]
        simp
      · rw [if_pos (by omega)]
        have : j - off - i = (j - off - (i + 1)) + 1 := by omega
        rw [this]
        rfl
    · rw [if_neg h1, if_neg (by omega), upd_other _ _ _ _ (by omega)]

theorem arr_toList (m : Nat) (g : Nat → Int) : (arr m g).toList = ((List.range m).map g).map (Value.int .i64) := by
  have := range_arr m g
  rw [← this]
  simp [Function.comp_def]

theorem run_storeVar_arr (w : World) (B off : Nat) (T ty : TypeId) (n m : Nat) (f g : Nat → Int) (hg : w.heap[B]? = some (.cells (arr n f) T (0, 0))) (hi : (P.info? ty).map (·.size) = some m) (hle : off + m ≤ n) :
    (storeVar ty ⟨B, off, none⟩ (.agg (arr m g))).run P w = .ok () (w.setRow B (arr n (updN f off m g))) := by
  have h := run_storeCells_arr (P := P) B T n ((List.range m).map g) off f w 0 hg (by simpa using hle)
  rw [← arr_toList] at h
  have e : (arr n fun j => if off + 0 ≤ j ∧ j < off + 0 + ((List.range m).map g).length then ((List.range m).map g).getD (j - off - 0) 0 else f j) = arr n (updN f off m g) := by
    refine arr_congr fun j hj => ?_
    unfold updN
    simp only [Nat.add_zero, List.length_map, List.length_range, Nat.sub_zero]
    by_cases h1 : off ≤ j ∧ j < off + m
    · rw [if_pos h1, if_pos h1]
      have : j - off < m := by omega
      simp [List.getD, this]
    · rw [if_neg h1, if_neg h1]
  rw [e] at h
  cases hq : P.info? ty with
  | none => simp [hq] at hi
  | some i =>
    have hs : i.size = m := by simpa [hq] using hi
    simp [storeVar, sizeOf, typeInfo, hq, Value.cells, hs, arr_size, h]

theorem wpList_storeA {ops : Array Oper} {rest : List Oper} {o : Oper} {a : Act} {w : World} {Q : Exit → Act → World → Prop} (hgd : o.guard = none) (ty : TypeId) (x y : Operand) (ho : o.op = .store ty x y)
    (B off : Nat) (hx : a.eval x = .pointer (some ⟨B, off, none⟩)) {m : Nat} {g : Nat → Int} (hy : a.eval y = .agg (arr m g)) {T : TypeId} {n : Nat} {f : Nat → Int} (hg : w.heap[B]? = some (.cells (arr n f) T (0, 0)))
    (hi : (P.info? ty).map (·.size) = some m) (hle : off + m ≤ n) (h : wpList P ops Q rest (a.put o.dst undef) (w.setRow B (arr n (updN f off m g)))) : wpList P ops Q (o :: rest) a w :=
  wpList_plain hgd fun _ hK => by
    unfold Oper.wp execOp
    simp only [ho, hx, hy, Instr.storeAt, Instr.sureAddr, Sem.run_bind, Sem.run_pure, Result.andThen_ok, run_storeVar_arr w B off T ty n m f g hg hi hle]
    exact hK _ _ h

theorem updN_all (f g : Nat → Int) (n : Nat) : arr n (updN f 0 n g) = arr n g := by
  refine arr_congr fun j hj => ?_
  unfold updN
  rw [if_pos (by omega)]
  rfl

/-- The whole of a row. -/
theorem wpList_storeW {ops : Array Oper} {rest : List Oper} {o : Oper} {a : Act} {w : World} {Q : Exit → Act → World → Prop} (hgd : o.guard = none) (ty : TypeId) (x y : Operand) (ho : o.op = .store ty x y)
    (B : Nat) (hx : a.eval x = .pointer (some ⟨B, 0, none⟩)) {n : Nat} {g : Nat → Int} (hy : a.eval y = .agg (arr n g)) {T : TypeId} {f : Nat → Int} (hg : w.heap[B]? = some (.cells (arr n f) T (0, 0)))
    (hi : (P.info? ty).map (·.size) = some n) (h : wpList P ops Q rest (a.put o.dst undef) (w.setRow B (arr n g))) : wpList P ops Q (o :: rest) a w :=
  wpList_storeA hgd ty x y ho B 0 hx hy hg hi (by omega) (by rw [updN_all]; exact h)

/-- One int. -/
theorem wpList_storeI {ops : Array Oper} {rest : List Oper} {o : Oper} {a : Act} {w : World} {Q : Exit → Act → World → Prop} (hgd : o.guard = none) (ty : TypeId) (x y : Operand) (ho : o.op = .store ty x y)
    (B off : Nat) (hx : a.eval x = .pointer (some ⟨B, off, none⟩)) {v : Int} (hy : a.eval y = .int .i64 v) {T : TypeId} {n : Nat} {f : Nat → Int} (hg : w.heap[B]? = some (.cells (arr n f) T (0, 0)))
    (hi : (P.info? ty).map (·.size) = some 1) (hle : off < n) (h : wpList P ops Q rest (a.put o.dst undef) (w.setRow B (arr n (upd f off v)))) : wpList P ops Q (o :: rest) a w :=
  wpList_plain hgd fun _ hK => by
    have h1 := run_storeCells_arr (P := P) B T n [v] off f w 0 hg (by simp; omega)
    have e : (arr n fun j => if off + 0 ≤ j ∧ j < off + 0 + [v].length then [v].getD (j - off - 0) 0 else f j) = arr n (upd f off v) := by
      refine arr_congr fun j hj => ?_
      unfold upd
      by_cases hj : j = off
      · subst hj; simp
      · rw [if_neg hj, if_neg (by simp; omega)]
    rw [e] at h1
    have hs : (storeVar ty ⟨B, off, none⟩ (.int .i64 v)).run P w = .ok () (w.setRow B (arr n (upd f off v))) := by
      cases hq : P.info? ty with
      | none => simp [hq] at hi
      | some i =>
        have hs : i.size = 1 := by simpa [hq] using hi
        simp only [List.map_cons, List.map_nil] at h1
        simp [storeVar, sizeOf, typeInfo, hq, Value.cells, hs, h1]
    unfold Oper.wp execOp
    simp only [ho, hx, hy, Instr.storeAt, Instr.sureAddr, Sem.run_bind, Sem.run_pure, Result.andThen_ok, hs]
    exact hK _ _ h

/-! ### new rows -/
theorem wpList_allocA {ops : Array Oper} {rest : List Oper} {o : Oper} {a : Act} {w : World} {Q : Exit → Act → World → Prop} (hgd : o.guard = none) (ty : TypeId) (ho : o.op = .alloc ty) (n : Nat)
    (hz : ((P.info? ty).bind (·.zero)).map (·.cells) = some (arr n fun _ => 0))
    (h : wpList P ops Q rest (a.put o.dst (.pointer (some ⟨w.heap.size, 0, none⟩))) (w.alloc (.cells (arr n fun _ => 0) ty))) : wpList P ops Q (o :: rest) a w :=
  wpList_plain hgd fun _ hK => by
    have hr : (Instr.alloc ty true (.tuple #[])).run P w = .ok (.pointer (some ⟨w.heap.size, 0, none⟩)) (w.alloc (.cells (arr n fun _ => 0) ty)) := by
      cases hq : P.info? ty with
      | none => simp [hq] at hz
      | some i =>
        cases hz2 : i.zero with
        | none => simp [hq, hz2] at hz
        | some z =>
          simp only [hq, hz2, Option.bind_some, Option.map_some, Option.some.injEq] at hz
          simp [Instr.alloc, zeroValue, typeInfo, hq, hz2, newVar, newRow, hz]
    unfold Oper.wp execOp
    simp only [ho, Sem.run_bind, hr, Result.andThen_ok, Sem.run_pure]
    exact hK _ _ h

theorem wpList_build0 {ops : Array Oper} {rest : List Oper} {o : Oper} {a : Act} {w : World} {Q : Exit → Act → World → Prop} (hgd : o.guard = none) (ty : TypeId) (ho : o.op = .build ty #[]) (n : Nat)
    (hz : P.built ty [] = some (arr n fun _ => 0))
    (h : wpList P ops Q rest (a.put o.dst (.agg (arr n fun _ => 0))) w) : wpList P ops Q (o :: rest) a w :=
  wpList_build hgd ty #[] ho (by simp [hz]) (by simpa [hz] using h)

/-! ### results that lie in memory -/
theorem results_cellA {fn : Func} {p : Tmp} {ty : TypeId} (h : fn.results = #[.cell p ty]) (tmps : Array Value) (w : World) (B : Nat) (T : TypeId) (n : Nat) (f : Nat → Int) (fr : Nat × Nat)
    (hp : tmps.getD p undef = .pointer (some ⟨B, 0, none⟩)) (hg : w.heap[B]? = some (.cells (arr n f) T fr)) (hd : aggB P ty = true) (hi : (P.info? ty).map (·.size) = some n) :
    (results fn tmps).run P w = .ok (.agg (arr n f)) w := by
  have hp' : tmps[p]?.getD undef = .pointer (some ⟨B, 0, none⟩) := by simpa using hp
  have hl := run_loadVar_arr (P := P) w B 0 T ty fr n n f hg hd hi (by omega)
  simp only [Nat.zero_add] at hl
  simp [results, h, hp', asAddr, hl]

theorem wpStill_loadA {ops : Array Oper} {rest : List Oper} {o : Oper} {a : Act} {w : World} {Q : Act → Prop} (hgd : o.guard = none) (ty : TypeId) (x : Operand) (ho : o.op = .load ty x)
    (B off : Nat) (hx : a.eval x = .pointer (some ⟨B, off, none⟩)) {T : TypeId} {fr : Nat × Nat} {n : Nat} {f : Nat → Int} (hg : w.heap[B]? = some (.cells (arr n f) T fr)) (m : Nat) (hd : aggB P ty = true)
    (hi : (P.info? ty).map (·.size) = some m) (hle : off + m ≤ n) (h : wpStill P ops w Q rest (a.put o.dst (.agg (arr m fun j => f (off + j))))) : wpStill P ops w Q (o :: rest) a := by
  refine wpStill_step fun K hK => ?_
  have hw : Region.wanted o (yielded ops a.tmps) = true := by simp [Region.wanted, hgd]
  rw [if_pos hw]
  unfold Oper.still execOp
  simp only [ho, hx, Instr.loadAt, Instr.sureAddr, Sem.run_bind, Sem.run_pure, Result.andThen_ok, run_loadVar_arr w B off T ty fr n m f hg hd hi hle]
  exact ⟨rfl, hK _ h⟩

theorem copy_step (n m k : Nat) (g : Nat → Int) : arr n (updN (fun j => if j < m * k then g j else 0) (k * m) m fun j => g (k * m + j)) = arr n fun j => if j < m * (k + 1) then g j else 0 := by
  refine arr_congr fun j _ => ?_
  unfold updN
  have e0 : m * (k + 1) = k * m + m := by rw [Nat.mul_add, Nat.mul_comm]; omega
  have e1 : m * k = k * m := Nat.mul_comm _ _
  dsimp only
  rw [e0, e1]
  by_cases e : k * m ≤ j ∧ j < k * m + m
  · rw [if_pos e, if_pos e.2]
    congr 1
    omega
  · rw [if_neg e]
    by_cases e2 : j < k * m
    · rw [if_pos e2, if_pos (by omega)]
    · rw [if_neg e2, if_neg (by omega)]
theorem copy_done (n N : Nat) (g : Nat → Int) (h : n ≤ N) : (arr n fun j => if j < N then g j else 0) = arr n g := arr_congr fun j hj => by rw [if_pos (by omega)]

theorem arr_one (x : Int) : #[Value.int .i64 x] = arr 1 (fun _ => x) := by
  refine Array.ext_getElem? fun i => ?_
  rw [arr_get]
  cases i with
  | zero => rfl
  | succ i => rw [if_neg (by omega)]; rfl
theorem arr_two (x y : Int) : #[Value.int .i64 x, Value.int .i64 y] = arr 2 (fun j => if j = 0 then x else y) := by
  refine Array.ext_getElem? fun i => ?_
  rw [arr_get]
  match i with
  | 0 => rfl
  | 1 => rfl
  | i + 2 => rw [if_neg (by omega)]; rfl
theorem below_of_alloc {w w1 : World} {o : Obj} (hb : Below (w.alloc o).heap.size (w.alloc o) w1) : Below w.heap.size w w1 := ((Below.refl _ _).alloc (Nat.le_refl _) o).trans (hb.mono (by simp))
theorem below_of_drew {w w1 : World} (hb : Below w.drew.heap.size w.drew w1) : Below w.heap.size w w1 := (Below.refl _ _).drew.trans hb
theorem below_setRow2 {K g : Nat} {w0 w : World} (hb : Below K w0 w) (hBg : K ≤ g) (cs : Array Value) : Below K w0 (w.setRow g cs) :=
  hb.trans ⟨rfl, rfl, rfl, by simp, fun k hk => setRow_other w g k cs (by omega)⟩
end Go.Proofs.YtlbgmkengkgnfaaGreat
end

section
/- A region that draws its order, whose first n operations are quiet in a class of worlds and whose others come behind them in one order: one walk in the text's order serves. -/
namespace Go.Proofs.YtlbgmkengkgnfaaGreat
set_option linter.unusedSimpArgs false
set_option linter.unusedVariables false
set_option maxRecDepth 20000
open Go.RowKit
section
variable {P : Program} {ops : Array Oper} {md : Region.Mode} {Q : Exit → Act → World → Prop}

/-- Q, but K where the region goes on. -/
def QThen (K : Act → World → Prop) (Q : Exit → Act → World → Prop) : Exit → Act → World → Prop
  | .normal, a, w => K a w
  | e, a, w => Q e a w

theorem wp_QThen {o : Oper} {a : Act} {w : World} {K K1 : Act → World → Prop} (h : o.wp P a w K (QThen K1 Q)) : o.wp P a w K Q := by
  unfold Oper.wp at *
  generalize (execOp a.eval o).run P w = r at *
  cases r with
  | ok n w' =>
    cases n <;> simp only [Oper.upon] at h ⊢
    case enter f args =>
      refine h.mono fun e w'' he => ?_
      cases e with
      | returned v => exact he
      | panicked c => exact he
      | outgrown => exact he
    all_goals exact h
  | halt x w' =>
    cases x <;> simp only [Oper.upon] at h ⊢
    exact h

theorem letsOut_QThen {K1 : Act → World → Prop} (h : LetsOut (QThen K1 Q)) : LetsOut Q := h

theorem wpAny_fuel : ∀ (fuel : Nat) (listed : Array Bool) (a : Act) (w : World), wpAny P md ops Q fuel listed a w → wpAny P md ops Q (fuel + 1) listed a w
  | 0, _, _, _, h => ⟨fun _ => h.2, fun i hi => by rw [h.1] at hi; cases hi⟩
  | fuel + 1, _, _, _, h => ⟨h.1, fun i hi => wpOp_mono (fun a' w' h' => wpAny_fuel fuel _ a' w' h') (h.2 i hi)⟩
theorem wpAny_fuels (k : Nat) (fuel : Nat) (listed : Array Bool) (a : Act) (w : World) (h : wpAny P md ops Q fuel listed a w) : wpAny P md ops Q (k + fuel) listed a w := by
  induction k with
  | zero => simpa using h
  | succ k ih => have := wpAny_fuel _ _ _ _ ih; rwa [show k + fuel + 1 = k + 1 + fuel by omega] at this

/-- Each of the first n operations waits for earlier ones alone, and is guarded by one of the first n. -/
def lowB (md : Region.Mode) (ops : Array Oper) (n : Nat) : Bool := (List.range n).all fun i => match ops[i]? with | some o => o.after.all (fun e => !Region.binds md e || decide (e.on < i)) && (match o.guard with | some (j, _) => decide (j < n) | none => true) | none => false
def fullL (n N : Nat) : Array Bool := ((List.range N).map fun i => decide (i < n)).toArray
theorem fullL_get (n N i : Nat) : (fullL n N)[i]? = if i < N then some (decide (i < n)) else none := by
  unfold fullL
  by_cases h : i < N <;> simp [h]
def heldB (md : Region.Mode) (ops : Array Oper) (n : Nat) : Bool :=
  decide (n ≤ ops.size) && lowB md ops n && Region.seqB md ops (ops.size - n) n (fullL n ops.size) && Region.lexB md (ops.extract 0 n) && (decide (n = ops.size) || (Region.sinkB md ops n && Region.chainB md ops n))

theorem min_ready {n : Nat} (hl : lowB md ops n = true) (hn : n ≤ ops.size) {listed : Array Bool} (hsz : listed.size = ops.size) :
    ∀ i, i < n → listed.getD i true = false → ∃ k, k < n ∧ k ∈ Region.ready md ops listed ∧ k ∈ Region.ready md (ops.extract 0 n) (listed.extract 0 n) := by
  intro i
  induction i using Nat.strongRecOn with
  | _ i ih =>
    intro hi hun
    have hio : i < ops.size := by omega
    have ho : ops[i]? = some ops[i] := Array.getElem?_eq_getElem hio
    have hlow := List.all_eq_true.1 hl i (List.mem_range.2 hi)
    simp only [ho, Bool.and_eq_true] at hlow
    by_cases hall : ∃ e ∈ (ops[i]).after, Region.binds md e = true ∧ listed.getD e.on true = false
    · obtain ⟨e, he, hbd, hf⟩ := hall
      have hei := Array.all_eq_true_iff_forall_mem.1 hlow.1 e he
      simp only [hbd, Bool.not_true, Bool.false_or, decide_eq_true_eq] at hei
      exact ih e.on hei (by omega) hf
    · have hall2 : ∀ e ∈ (ops[i]).after, Region.binds md e = true → e.on < i ∧ listed.getD e.on false = true := by
        intro e he hbd
        have hei := Array.all_eq_true_iff_forall_mem.1 hlow.1 e he
        simp only [hbd, Bool.not_true, Bool.false_or, decide_eq_true_eq] at hei
        cases h : listed.getD e.on true with
        | false => exact absurd ⟨e, he, hbd, h⟩ hall
        | true =>
          have : e.on < listed.size := by omega
          exact ⟨hei, by simpa [this] using h⟩
      refine ⟨i, hi, mem_ready.2 ⟨hun, _, ho, fun e he hb => (hall2 e he hb).2⟩, mem_ready.2 ⟨?_, ops[i], ?_, fun e he hb => ?_⟩⟩
      · have h1 : i < listed.size := by omega
        simp [h1] at hun
        have h2 : i < (listed.extract 0 n).size := by simp; omega
        simp only [Array.getD, h2, dite_true]
        simpa using hun
      · rw [Array.getElem?_extract_of_lt (by omega)]; simp
      · obtain ⟨hei, h3⟩ := hall2 e he hb
        have h1 : e.on < listed.size := by omega
        simp [h1] at h3
        have h2 : e.on < (listed.extract 0 n).size := by simp; omega
        simp only [Array.getD, h2, dite_true]
        simpa using h3

theorem yielded_head {n j : Nat} (hj : j < n) (hn : n ≤ ops.size) (t : Array Value) : yielded (ops.extract 0 n) t j = yielded ops t j := by
  have hjs : j < ops.size := by omega
  unfold yielded
  rw [Array.getElem?_extract_of_lt (by omega), Array.getElem?_eq_getElem hjs]
  simp
theorem wanted_head {n i : Nat} (hl : lowB md ops n = true) (hi : i < n) (hn : n ≤ ops.size) {o : Oper} (ho : ops[i]? = some o) (t : Array Value) :
    Region.wanted o (yielded (ops.extract 0 n) t) = Region.wanted o (yielded ops t) := by
  have hlow := List.all_eq_true.1 hl i (List.mem_range.2 hi)
  simp only [ho, Bool.and_eq_true] at hlow
  unfold Region.wanted
  cases hg : o.guard with
  | none => rfl
  | some jb =>
    obtain ⟨j, b⟩ := jb
    simp only [hg, decide_eq_true_eq] at hlow
    simp only [yielded_head hlow.2 hn]

theorem wpAny_held {n : Nat} {K1 : Act → World → Prop} (hl : lowB md ops n = true) (hn : n ≤ ops.size) (hseq : Region.seqB md ops (ops.size - n) n (fullL n ops.size) = true)
    (hsink : n < ops.size → Region.sinkB md ops n = true ∧ Region.chainB md ops n = true)
    (hK : ∀ a w, K1 a w → wpList P ops Q (ops.toList.drop n) a w) :
    ∀ (fuel : Nat) (listed : Array Bool) (a : Act) (w : World), HeadInv md ops n listed → wpAny P md (ops.extract 0 n) (QThen K1 Q) fuel (listed.extract 0 n) a w →
      wpAny P md ops Q (fuel + (ops.size - n)) listed a w := by
  intro fuel
  induction fuel with
  | zero =>
    intro listed a w inv h
    by_cases hall : ∃ i, i < n ∧ listed.getD i true = false
    · obtain ⟨i, hi, hun⟩ := hall
      obtain ⟨k, _, _, hk⟩ := min_ready (md := md) hl hn inv.size i hi hun
      rw [h.1] at hk
      cases hk
    · have e : listed = fullL n ops.size := by
        refine Array.ext_getElem? fun i => ?_
        rw [fullL_get]
        by_cases hi : i < ops.size
        · rw [if_pos hi]
          have h1 : i < listed.size := by rw [inv.size]; exact hi
          rw [Array.getElem?_eq_getElem h1]
          congr 1
          by_cases hin : i < n
          · have h2 : listed.getD i true = true := by
              cases hg : listed.getD i true with
              | true => rfl
              | false => exact absurd ⟨i, hin, hg⟩ hall
            simp [h1] at h2
            simp [h2, hin]
          · have h2 := inv.tail i (by omega) hi
            simp [h1] at h2
            simp [h2, hin]
        · rw [if_neg hi]
          have : listed.size = ops.size := inv.size
          simp
          omega
      have hw := hK a w h.2
      have := wpAny_of_seq (md := md) (Q' := Q) (ops.toList.drop n) n listed a w (fun j => by simp [List.getElem?_drop]) (by simpa [e] using hseq) hw
      simpa using this
  | succ fuel ih =>
    intro listed a w inv h
    by_cases hall : ∃ i, i < n ∧ listed.getD i true = false
    · obtain ⟨i, hi, hun⟩ := hall
      obtain ⟨k, _, hk, _⟩ := min_ready (md := md) hl hn inv.size i hi hun
      have hs2 : ∀ j, n ≤ j → j < ops.size → j ∉ Region.ready md ops listed := fun j h1 h2 => tail_waits (hsink (by omega)).1 (hsink (by omega)).2 (by omega) inv (n - i) i rfl hi hun j h1
      rw [show fuel + 1 + (ops.size - n) = (fuel + (ops.size - n)) + 1 by omega]
      refine ⟨fun h0 => (by rw [h0] at hk; cases hk), fun j hj => ?_⟩
      obtain ⟨hjun, oj, hoj, hjall⟩ := mem_ready.1 hj
      have hjN : j < ops.size := (Array.getElem?_eq_some_iff.1 hoj).1
      have hjn : j < n := by
        rcases Nat.lt_or_ge j n with h1 | h1
        · exact h1
        · exact absurd hj (hs2 j h1 hjN)
      have hls : j < listed.size := by rw [inv.size]; exact hjN
      have hlsz : listed.size = ops.size := inv.size
      have hojH : (ops.extract 0 n)[j]? = some oj := by
        rw [Array.getElem?_extract_of_lt (by omega), ← hoj, Array.getElem?_eq_getElem hjN]
        simp
      have hhs : j < (listed.extract 0 n).size := by simp; omega
      have hjH : j ∈ Region.ready md (ops.extract 0 n) (listed.extract 0 n) := by
        refine mem_ready.2 ⟨?_, oj, ?_, fun e he hb => ?_⟩
        · simp [hls] at hjun
          simp only [Array.getD, hhs, dite_true]
          simpa using hjun
        · exact hojH
        · have hlow := List.all_eq_true.1 hl j (List.mem_range.2 hjn)
          simp only [hoj, Bool.and_eq_true] at hlow
          have hei := Array.all_eq_true_iff_forall_mem.1 hlow.1 e he
          simp only [hb, Bool.not_true, Bool.false_or, decide_eq_true_eq] at hei
          have h3 := hjall e he hb
          have h1 : e.on < listed.size := by omega
          simp [h1] at h3
          have h2 : e.on < (listed.extract 0 n).size := by simp; omega
          simp only [Array.getD, h2, dite_true]
          simpa using h3
      have hop := h.2 j hjH
      have hset : (listed.extract 0 n).setIfInBounds j true = (listed.setIfInBounds j true).extract 0 n := by
        refine Array.ext_getElem? fun x => ?_
        rw [Array.getElem?_setIfInBounds]
        by_cases hx : x < n
        · have hxs : x < listed.size := by omega
          rw [Array.getElem?_extract_of_lt (by omega), Array.getElem?_extract_of_lt (by simp only [Array.size_setIfInBounds]; omega)]
          simp only [Nat.zero_add, hhs, if_true]
          by_cases hjx : j = x
          · subst hjx; simp
          · rw [if_neg hjx]
            congr 1
            exact (Array.getElem_setIfInBounds_ne (by simpa using hxs) hjx).symm
        · have e1 : ¬ j = x := by omega
          rw [if_neg e1]
          rw [Array.getElem?_eq_none (by simp; omega), Array.getElem?_eq_none (by simp; omega)]
      unfold wpOp at hop ⊢
      rw [hojH] at hop
      simp only [hoj] at hop ⊢
      rw [wanted_head hl hjn hn hoj] at hop
      have step : ∀ a' w', wpAny P md (ops.extract 0 n) (QThen K1 Q) fuel ((listed.extract 0 n).setIfInBounds j true) a' w' → wpAny P md ops Q (fuel + (ops.size - n)) (listed.setIfInBounds j true) a' w' := fun a' w' h' => by
        rw [hset] at h'
        exact ih _ a' w' (inv.set hj hjn) h'
      by_cases hw : Region.wanted oj (yielded ops a.tmps) = true
      · simp only [hw, if_true] at hop ⊢
        rcases hop with h1 | h1
        · exact .inl (Oper.wp_mono step (wp_QThen h1))
        · exact .inr ⟨h1.1, letsOut_QThen h1.2⟩
      · simp only [hw] at hop ⊢
        exact step _ _ hop
    · have h0 : wpAny P md (ops.extract 0 n) (QThen K1 Q) 0 (listed.extract 0 n) a w := by
        have hr : Region.ready md (ops.extract 0 n) (listed.extract 0 n) = [] := by
          rw [List.eq_nil_iff_forall_not_mem]
          intro j hj
          obtain ⟨h1, o, ho, _⟩ := mem_ready.1 hj
          have hjs : j < (ops.extract 0 n).size := (Array.getElem?_eq_some_iff.1 ho).1
          have hjn : j < n := by simp at hjs; omega
          refine hall ⟨j, hjn, ?_⟩
          have h2 : j < listed.size := by rw [inv.size]; omega
          have h3 : j < (listed.extract 0 n).size := by simp; omega
          simp only [Array.getD, h3, dite_true] at h1
          simp only [Array.getD, h2, dite_true]
          simpa using h1
        exact ⟨hr, h.1 hr⟩
      have := ih listed a w inv (wpAny_fuels fuel 0 _ _ _ h0)
      have h4 := wpAny_fuel _ _ _ _ this
      rwa [show fuel + (ops.size - n) + 1 = fuel + 1 + (ops.size - n) by omega] at h4
end
section
variable {P : Program}
/-- The region's law: its first n operations are walked in the text's order, each quiet in the class C; then the others, in every world of the class. -/
theorem wp_region_held {id : Nat} {Q : Exit → Act → World → Prop} {a : Act} {w : World} {l : List Oper} (n : Nat) (C : World → Prop) (hm : P.follows .mixedOrders = true) (hB : heldB .any l.toArray n = true) (hC : C { w with drawn := w.drawn + 1 })
    (h : wpQuiet P (l.take n).toArray C (fun a' => ∀ w', C w' → wpList P l.toArray Q (l.drop n) a' w') (l.take n) a) : (Code.region id l.toArray true).wp P Q a w := by
  simp only [heldB, Bool.and_eq_true, decide_eq_true_eq, Bool.or_eq_true] at hB
  obtain ⟨⟨⟨⟨hn, hl⟩, hseq⟩, hlex⟩, hs⟩ := hB
  refine wp_region_any hm ?_
  have he : l.toArray.extract 0 n = (l.take n).toArray := by simp
  have inv0 : HeadInv .any l.toArray n (Array.replicate l.toArray.size false) :=
    ⟨by simp, fun j oj _ hl => (by rw [getD_replicate_false] at hl; cases hl), fun t _ ht => getD_in (by simpa using ht) (getD_replicate_false _ _)⟩
  have hq : wpAny P .any (l.take n).toArray (QThen (fun a' w' => wpList P l.toArray Q (l.drop n) a' w') Q) (l.take n).length (Array.replicate (l.take n).toArray.size false) a { w with drawn := w.drawn + 1 } := by
    rw [he] at hlex
    simp only [Region.lexB, Bool.and_eq_true] at hlex
    refine wpAny_of_quiet (Q := fun a' => ∀ w', C w' → wpList P l.toArray Q (l.drop n) a' w') (fun a' w' hw' h => h w' hw') _ _ _ _ hC ?_
    have := wpAnyQ_lex (C := C) (md := .any) hlex.1 (l.take n) 0 (Array.replicate (l.take n).toArray.size false) a (by simp) (by simpa using hlex.2) h
    simpa using this
  have hrep : (Array.replicate l.toArray.size false).extract 0 n = Array.replicate (l.take n).toArray.size false := by
    refine Array.ext_getElem? fun i => ?_
    have hsz : (l.take n).toArray.size = n := by simp at hn; simp; omega
    rw [hsz]
    by_cases hi : i < n
    · rw [Array.getElem?_extract_of_lt (by simp at hn ⊢; omega)]
      simp [hi]
    · rw [Array.getElem?_eq_none (by simp; omega), Array.getElem?_eq_none (by simp; omega)]
  have hsink : n < l.toArray.size → Region.sinkB .any l.toArray n = true ∧ Region.chainB .any l.toArray n = true := fun hlt => hs.resolve_left (by omega)
  have := wpAny_held (md := .any) (Q := Q) (K1 := fun a' w' => wpList P l.toArray Q (l.drop n) a' w') hl hn hseq hsink
    (fun a' w' h' => by simpa using h') (l.take n).length _ a _ inv0 (by rw [he, hrep]; exact hq)
  have hlen : (l.take n).length + (l.toArray.size - n) = l.toArray.size := by simp at hn; simp; omega
  rwa [hlen] at this

/-- Steps of the walk. -/
theorem wpQuiet_value {ops : Array Oper} {C : World → Prop} {Q : Act → Prop} {a : Act} {o : Oper} {rest : List Oper} (v : Value) (hw : Region.wanted o (yielded ops a.tmps) = true)
    (h : ∀ w, C w → (execOp a.eval o).run P w = .ok (.value v) w) (hk : wpQuiet P ops C Q rest (a.put o.dst v)) : wpQuiet P ops C Q (o :: rest) a :=
  wpQuiet_step fun K hK => by
    rw [if_pos hw]
    refine ⟨v, fun w hw' => ?_, hK _ hk⟩
    unfold Oper.quietAt
    rw [h w hw']
    exact ⟨rfl, rfl⟩
theorem wpQuiet_enter {ops : Array Oper} {C : World → Prop} {Q : Act → Prop} {a : Act} {o : Oper} {rest : List Oper} (v : Value) (f : FuncId) (args : Array Value) (hw : Region.wanted o (yielded ops a.tmps) = true)
    (h : ∀ w, C w → (execOp a.eval o).run P w = .ok (.enter f args) w) (hc : ∀ w, C w → Calls P f args w fun e w' => e = .returned v ∧ C w') (hk : wpQuiet P ops C Q rest (a.put o.dst v)) : wpQuiet P ops C Q (o :: rest) a :=
  wpQuiet_step fun K hK => by
    rw [if_pos hw]
    refine ⟨v, fun w hw' => ?_, hK _ hk⟩
    unfold Oper.quietAt
    rw [h w hw']
    exact ⟨rfl, hc w hw'⟩
theorem wpQuiet_loadA {ops : Array Oper} {C : World → Prop} {rest : List Oper} {o : Oper} {a : Act} {Q : Act → Prop} (hw : Region.wanted o (yielded ops a.tmps) = true) (ty : TypeId) (x : Operand) (ho : o.op = .load ty x)
    (B off : Nat) (hx : a.eval x = .pointer (some ⟨B, off, none⟩)) {T : TypeId} {fr : Nat × Nat} {n : Nat} {f : Nat → Int} (hg : ∀ w, C w → w.heap[B]? = some (.cells (arr n f) T fr)) (m : Nat) (hd : aggB P ty = true)
    (hi : (P.info? ty).map (·.size) = some m) (hle : off + m ≤ n) (h : wpQuiet P ops C Q rest (a.put o.dst (.agg (arr m fun j => f (off + j))))) : wpQuiet P ops C Q (o :: rest) a := by
  refine wpQuiet_value _ hw (fun w hw => ?_) h
  unfold execOp
  simp only [ho, hx, Instr.loadAt, Instr.sureAddr, Sem.run_bind, Sem.run_pure, Result.andThen_ok, run_loadVar_arr w B off T ty fr n m f (hg w hw) hd hi hle]
theorem wpQuiet_loadW {ops : Array Oper} {C : World → Prop} {rest : List Oper} {o : Oper} {a : Act} {Q : Act → Prop} (hw : Region.wanted o (yielded ops a.tmps) = true) (ty : TypeId) (x : Operand) (ho : o.op = .load ty x)
    (B : Nat) (hx : a.eval x = .pointer (some ⟨B, 0, none⟩)) {T : TypeId} {fr : Nat × Nat} {n : Nat} {f : Nat → Int} (hg : ∀ w, C w → w.heap[B]? = some (.cells (arr n f) T fr)) (hd : aggB P ty = true)
    (hi : (P.info? ty).map (·.size) = some n) (h : wpQuiet P ops C Q rest (a.put o.dst (.agg (arr n f)))) : wpQuiet P ops C Q (o :: rest) a :=
  wpQuiet_loadA hw ty x ho B 0 hx hg n hd hi (by omega) (by simpa using h)
theorem wpQuiet_loadI {ops : Array Oper} {C : World → Prop} {rest : List Oper} {o : Oper} {a : Act} {Q : Act → Prop} (hw : Region.wanted o (yielded ops a.tmps) = true) (ty : TypeId) (x : Operand) (ho : o.op = .load ty x)
    (B off : Nat) (hx : a.eval x = .pointer (some ⟨B, off, none⟩)) {T : TypeId} {fr : Nat × Nat} {n : Nat} {f : Nat → Int} (hg : ∀ w, C w → w.heap[B]? = some (.cells (arr n f) T fr)) (hd : aggB P ty = false) (hu : (P.underlying ty).isSome = true)
    (hle : off < n) (h : wpQuiet P ops C Q rest (a.put o.dst (.int .i64 (f off)))) : wpQuiet P ops C Q (o :: rest) a := by
  refine wpQuiet_value _ hw (fun w hw => ?_) h
  have hagg : (isAgg ty).run P w = .ok false w := by
    unfold aggB at hd
    unfold isAgg
    cases hq : P.underlying ty with
    | none => simp [hq] at hu
    | some d =>
      rw [Sem.run_bind, run_underlying hq w]
      cases d <;> simp_all
  unfold execOp
  simp only [ho, hx, Instr.loadAt, Instr.sureAddr, loadVar, Sem.run_bind, Sem.run_pure, Result.andThen_ok, hagg]
  simp [rowcell (hg w hw) hle]
theorem wpQuiet_call {ops : Array Oper} {C : World → Prop} {Q : Act → Prop} {a : Act} {o : Oper} {rest : List Oper} (hw : Region.wanted o (yielded ops a.tmps) = true) (f : FuncId) (xs : Array Operand) (ats : Array TypeId)
    (ho : o.op = .call { callee := .value (.func f), args := xs, argTypes := ats }) (v : Value) (hE : ∀ (args : Array Value) (w : World), (callFunc f args).run P w = .ok (.enter f args) w)
    (hc : ∀ w, C w → Calls P f (xs.toList.map a.eval).toArray w fun e w' => e = .returned v ∧ C w') (hk : wpQuiet P ops C Q rest (a.put o.dst v)) : wpQuiet P ops C Q (o :: rest) a := by
  refine wpQuiet_enter v f (xs.toList.map a.eval).toArray hw (fun w _ => ?_) hc hk
  have e : xs.map a.eval = (xs.toList.map a.eval).toArray := by
    cases xs; simp
  unfold execOp
  have h1 : (invoke (.fn (.func f) #[]) (xs.map a.eval)).run P w = .ok (.enter f (xs.toList.map a.eval).toArray) w := by
    unfold invoke
    rw [e]
    simpa using hE (xs.toList.map a.eval).toArray w
  simpa [ho, resolve, Act.eval, Deferred.ofValue] using h1
theorem wpQuiet_callE {ops : Array Oper} {C : World → Prop} {Q : Act → Prop} {a : Act} {o : Oper} {rest : List Oper} (hw : Region.wanted o (yielded ops a.tmps) = true) (f : FuncId) (xs : Array Operand) (ats : Array TypeId)
    (ho : o.op = .call { callee := .value (.func f), args := xs, argTypes := ats }) (v : Value) (args : Array Value) (hargs : (xs.toList.map a.eval).toArray = args) (hE : ∀ (args : Array Value) (w : World), (callFunc f args).run P w = .ok (.enter f args) w)
    (hc : ∀ w, C w → Calls P f args w fun e w' => e = .returned v ∧ C w') (hk : wpQuiet P ops C Q rest (a.put o.dst v)) : wpQuiet P ops C Q (o :: rest) a :=
  wpQuiet_call hw f xs ats ho v hE (by rw [hargs]; exact hc) hk
theorem wpQuiet_skip {ops : Array Oper} {C : World → Prop} {rest : List Oper} {o : Oper} {a : Act} {Q : Act → Prop} (hw : Region.wanted o (yielded ops a.tmps) = false) (h : wpQuiet P ops C Q rest (a.put o.dst undef)) : wpQuiet P ops C Q (o :: rest) a :=
  wpQuiet_step fun K hK => by
    rw [if_neg (by rw [hw]; simp)]
    exact hK _ h
end

/-- A class of worlds: these blocks are as they are, and below w0's end nothing has turned. -/
def Cls (w0 : World) (rows : List (Nat × Obj)) (W : World) : Prop := (∀ p, p ∈ rows → W.heap[p.1]? = some p.2) ∧ Below w0.heap.size w0 W
theorem Cls.one {w0 W : World} {B : Nat} {o : Obj} (h : W.heap[B]? = some o) (hb : Below w0.heap.size w0 W) : Cls w0 [(B, o)] { W with drawn := W.drawn + 1 } :=
  ⟨fun p hp => by simp only [List.mem_singleton] at hp; subst hp; exact h, hb.drew⟩
theorem Cls.two {w0 W : World} {B B2 : Nat} {o o2 : Obj} (h : W.heap[B]? = some o) (h2 : W.heap[B2]? = some o2) (hb : Below w0.heap.size w0 W) : Cls w0 [(B, o), (B2, o2)] { W with drawn := W.drawn + 1 } :=
  ⟨fun p hp => by
    simp only [List.mem_cons, List.not_mem_nil, or_false] at hp
    rcases hp with hp | hp <;> subst hp
    · exact h
    · exact h2, hb.drew⟩
theorem Cls.three {w0 W : World} {B B2 B3 : Nat} {o o2 o3 : Obj} (h : W.heap[B]? = some o) (h2 : W.heap[B2]? = some o2) (h3 : W.heap[B3]? = some o3) (hb : Below w0.heap.size w0 W) : Cls w0 [(B, o), (B2, o2), (B3, o3)] { W with drawn := W.drawn + 1 } :=
  ⟨fun p hp => by
    simp only [List.mem_cons, List.not_mem_nil, or_false] at hp
    rcases hp with hp | hp | hp <;> subst hp
    · exact h
    · exact h2
    · exact h3, hb.drew⟩
theorem Cls.keep {w0 W W' : World} {rows : List (Nat × Obj)} (h : Cls w0 rows W) (hb : Below W.heap.size W W') : Cls w0 rows W' :=
  ⟨fun p hp => row_keep hb (h.1 p hp), h.2.trans (hb.mono h.2.size)⟩
theorem Cls.r1 {w0 W : World} {B : Nat} {o : Obj} {l : List (Nat × Obj)} (h : Cls w0 ((B, o) :: l) W) : W.heap[B]? = some o := h.1 _ (.head _)
theorem Cls.r2 {w0 W : World} {B : Nat} {o : Obj} {x : Nat × Obj} {l : List (Nat × Obj)} (h : Cls w0 (x :: (B, o) :: l) W) : W.heap[B]? = some o := h.1 _ (.tail _ (.head _))
theorem Cls.r3 {w0 W : World} {B : Nat} {o : Obj} {x y : Nat × Obj} {l : List (Nat × Obj)} (h : Cls w0 (x :: y :: (B, o) :: l) W) : W.heap[B]? = some o := h.1 _ (.tail _ (.tail _ (.head _)))
end Go.Proofs.YtlbgmkengkgnfaaGreat
end

section
/- A region that draws its order, where some operations that only read may come up between others that write: the readers are walked first. -/
namespace Go.Proofs.YtlbgmkengkgnfaaGreat
set_option linter.unusedSimpArgs false
set_option linter.unusedVariables false
set_option maxRecDepth 20000
open Go.RowKit
section
variable {P : Program} {ops : Array Oper} {md : Region.Mode}
/-- K where the region goes on; nothing else. -/
def QN (K : Act → World → Prop) : Exit → Act → World → Prop
  | .normal, a, w => K a w
  | _, _, _ => False
theorem QN.imp {Q : Exit → Act → World → Prop} : ∀ (e : Exit) (a : Act) (w : World), QN (Q .normal) e a w → Q e a w := fun e a w h => by
  cases e <;> first | exact h | exact (h : False).elim
theorem QN.intro {K : Act → World → Prop} {a : Act} {w : World} (h : K a w) : QN K .normal a w := h
/-- In state a, in every world of the class, o yields v and leaves the world alone. -/
def CalmIn (P : Program) (ops : Array Oper) (C : World → Prop) (o : Oper) (v : Value) (a : Act) : Prop :=
  (Region.wanted o (yielded ops a.tmps) = true ∧ ∀ w, C w → (execOp a.eval o).run P w = .ok (.value v) w) ∨ (Region.wanted o (yielded ops a.tmps) = false ∧ v = undef)
theorem CalmIn.of_same {C : World → Prop} {o : Oper} {v : Value} {a a' : Act} (hy : CalmIn P ops C o v a) (he : execOp a'.eval o = execOp a.eval o)
    (hw : Region.wanted o (yielded ops a'.tmps) = Region.wanted o (yielded ops a.tmps)) : CalmIn P ops C o v a' := by
  unfold CalmIn at *
  rw [he, hw]
  exact hy
theorem CalmIn.wpOp {C : World → Prop} {i : Nat} {o : Oper} {v : Value} {a : Act} {w : World} {Q : Exit → Act → World → Prop} {K : Act → World → Prop} (hi : ops[i]? = some o) (hw : C w) (hy : CalmIn P ops C o v a)
    (h : K (a.put o.dst v) w) : Go.wpOp P ops Q i K a w := by
  unfold Go.wpOp
  simp only [hi]
  rcases hy with ⟨h1, h2⟩ | ⟨h1, rfl⟩
  · rw [if_pos h1]
    refine .inl ?_
    unfold Oper.wp
    rw [h2 w hw]
    exact h
  · rw [if_neg (by rw [h1]; simp)]
    exact h
/-- o leaves a world of the class where it found one. -/
def Pres (P : Program) (C : World → Prop) (o : Oper) : Prop :=
  ∀ (a : Act) (w : World) (K K1 : Act → World → Prop), C w → o.wp P a w K (QN K1) → o.wp P a w (fun a' w' => C w' ∧ K a' w') (QN K1)
theorem Pres.top (o : Oper) : Pres P (fun _ => True) o := fun _ _ _ _ _ h => Oper.wp_mono (fun _ _ h => ⟨trivial, h⟩) h
theorem Pres.of_run {C : World → Prop} {o : Oper} (h : ∀ (a : Act) (w : World), C w → ∃ v w', (execOp a.eval o).run P w = .ok (.value v) w' ∧ C w') : Pres P C o := fun a w K K1 hw hk => by
  obtain ⟨v, w', hr, hc⟩ := h a w hw
  unfold Oper.wp at *
  rw [hr] at hk ⊢
  exact ⟨hc, hk⟩

theorem wpOp_putN {C : World → Prop} {j : Nat} {oi oj : Oper} {v : Value} (hj : ops[j]? = some oj) (hap : oi.apart ops oj = true)
    (hsi : ∀ cs b, oi.op ≠ .select cs b) (hsj : ∀ cs b, oj.op ≠ .select cs b) {K K1 : Act → World → Prop} {a : Act} {w : World}
    (hy : CalmIn P ops C oi v a) (h : wpOp P ops (QN K1) j K (a.put oi.dst v) w) :
    wpOp P ops (QN K1) j (fun a' w' => CalmIn P ops C oi v a' ∧ K (a'.put oi.dst v) w') a w := by
  obtain ⟨h1, h2, h3⟩ := Oper.apart_spec hap
  have keep : ∀ (a : Act), CalmIn P ops C oi v a → ∀ u, CalmIn P ops C oi v (a.put oj.dst u) := fun a hy u =>
    hy.of_same (execOp_put oi hsi a oj.dst u h3) (wanted_put oi a oj.dst u h3)
  unfold wpOp at *
  simp only [hj] at *
  rw [wanted_put oj a oi.dst v h1] at h
  have hx := execOp_put oj hsj a oi.dst v h1
  split
  · rename_i hw
    simp only [hw, if_true] at h
    rcases h with h | ⟨h, hl⟩
    · refine .inl ?_
      unfold Oper.wp at *
      rw [hx] at h
      generalize (execOp a.eval oj).run P w = r at *
      cases r with
      | ok n w' =>
        cases n <;> simp only [Oper.upon] at h ⊢
        case value u => exact ⟨keep a hy u, by rw [← Act.put_comm a v u h2]; exact h⟩
        case skip => exact ⟨keep a hy undef, by rw [← Act.put_comm a v undef h2]; exact h⟩
        case defer d =>
          have hy2 : CalmIn P ops C oi v { a with defers := d :: a.defers } := hy.of_same rfl rfl
          refine ⟨keep _ hy2 undef, ?_⟩
          rw [← Act.put_comm _ v undef h2]
          have e : ∀ (x : Option Tmp), { (a.put x v) with defers := d :: (a.put x v).defers } = ({ a with defers := d :: a.defers } : Act).put x v := fun x => by cases x <;> rfl
          rw [e] at h
          exact h
        case enter f args =>
          refine Calls.mono h fun e w'' he => ?_
          cases e with
          | returned u => exact ⟨keep a hy u, by rw [← Act.put_comm a v u h2]; exact he⟩
          | panicked c => exact he
          | outgrown => exact he
        case row r args => exact Rows.mono h fun u w'' he => ⟨keep a hy u, by rw [← Act.put_comm a v u h2]; exact he⟩
      | halt x w' => cases x <;> simp only [Oper.upon] at h ⊢ <;> exact h
    · refine .inr ⟨?_, hl⟩
      unfold Oper.asks at *
      rwa [hx] at h
  · rename_i hw
    simp only [hw] at h
    exact ⟨keep a hy _, by rw [← Act.put_comm a v undef h2]; exact h⟩

/-- wpAny, where each of the operations hd leaves a world of the class. -/
def wpAnyI (P : Program) (md : Region.Mode) (ops : Array Oper) (hd : Nat → Bool) (C : World → Prop) (Q : Exit → Act → World → Prop) : Nat → Array Bool → Act → World → Prop
  | 0, listed, a, w => Region.ready md ops listed = [] ∧ Q .normal a w
  | fuel + 1, listed, a, w => (Region.ready md ops listed = [] → Q .normal a w) ∧
    ∀ i ∈ Region.ready md ops listed, wpOp P ops Q i (fun a' w' => (hd i = true → C w') ∧ wpAnyI P md ops hd C Q fuel (listed.setIfInBounds i true) a' w') a w
theorem wpAny_of_I {hd : Nat → Bool} {C : World → Prop} {Q : Exit → Act → World → Prop} : ∀ (fuel : Nat) (listed : Array Bool) (a : Act) (w : World), wpAnyI P md ops hd C Q fuel listed a w → wpAny P md ops Q fuel listed a w
  | 0, _, _, _, h => h
  | fuel + 1, _, _, _, h => ⟨h.1, fun i hi => wpOp_mono (fun a' w' h' => wpAny_of_I fuel _ a' w' h'.2) (h.2 i hi)⟩
theorem wpAnyI_of_any {hd : Nat → Bool} {C : World → Prop} {Q : Exit → Act → World → Prop} : ∀ (fuel : Nat) (listed : Array Bool) (a : Act) (w : World), (∀ i, hd i = true → i < ops.size → listed.getD i true = true) →
    wpAny P md ops Q fuel listed a w → wpAnyI P md ops hd C Q fuel listed a w
  | 0, _, _, _, _, h => h
  | fuel + 1, listed, _, _, hl, h => ⟨h.1, fun i hi => wpOp_mono (fun a' w' h' => ⟨fun hh => (by
      obtain ⟨h0, o, ho, _⟩ := mem_ready.1 hi
      have := hl i hh (Array.getElem?_eq_some_iff.1 ho).1
      rw [h0] at this
      cases this), wpAnyI_of_any fuel _ a' w' (fun k hk hs => (by
        by_cases e : i = k
        · subst e
          simp [Array.getElem?_setIfInBounds]
          split <;> simp
        · rw [getD_set_ne true e]
          exact hl k hk hs)) h'⟩) (h.2 i hi)⟩

theorem wpAnyI_first {hd : Nat → Bool} {C : World → Prop} {K1 : Act → World → Prop} {i : Nat} {oi : Oper} {v : Value} (hi : ops[i]? = some oi) (hsel : ∀ (j : Nat) (o : Oper) cs b, ops[j]? = some o → o.op ≠ .select cs b) :
    ∀ (fuel : Nat) (listed : Array Bool) (a : Act) (w : World),
      (∀ j oj, ops[j]? = some oj → j ≠ i → listed.getD j true = false → (∀ e ∈ oj.after, Region.binds md e = true → e.on ≠ i) → oi.apart ops oj = true ∧ (hd j = true ∨ Pres P C oj)) →
      i ∈ Region.ready md ops listed → CalmIn P ops C oi v a → C w →
      wpAnyI P md ops hd C (QN K1) fuel (listed.setIfInBounds i true) (a.put oi.dst v) w → wpAnyI P md ops hd C (QN K1) (fuel + 1) listed a w := by
  intro fuel
  induction fuel with
  | zero =>
    intro listed a w _ hr hy hC H
    refine ⟨fun h => (by rw [h] at hr; cases hr), fun j hj => ?_⟩
    by_cases hji : j = i
    · subst hji; exact hy.wpOp hi hC ⟨fun _ => hC, H⟩
    · have := ready_mono hj hji
      rw [H.1] at this
      cases this
  | succ fuel ih =>
    intro listed a w hfree hr hy hC H
    refine ⟨fun h => (by rw [h] at hr; cases hr), fun j hj => ?_⟩
    by_cases hji : j = i
    · subst hji; exact hy.wpOp hi hC ⟨fun _ => hC, H⟩
    · have h1 := H.2 j (ready_mono hj hji)
      obtain ⟨hjun, oj, hoj, hall⟩ := mem_ready.1 hj
      have hnot : ∀ e ∈ oj.after, Region.binds md e = true → e.on ≠ i := fun e he hb heq => by
        have h1 := hall e he hb
        have h0 := (mem_ready.1 hr).1
        rw [heq] at h1
        rcases Nat.lt_or_ge i listed.size with h' | h'
        · simp [h'] at h0 h1; rw [h0] at h1; cases h1
        · simp [Array.getElem?_eq_none h'] at h1
      obtain ⟨hap, hpr⟩ := hfree j oj hoj hji hjun hnot
      have h2 := wpOp_putN hoj hap (fun cs b => hsel i oi cs b hi) (fun cs b => hsel j oj cs b hoj) hy h1
      have hfree' : ∀ k ok, ops[k]? = some ok → k ≠ i → (listed.setIfInBounds j true).getD k true = false →
          (∀ e ∈ ok.after, Region.binds md e = true → e.on ≠ i) → oi.apart ops ok = true ∧ (hd k = true ∨ Pres P C ok) := fun k ok hk hki hun hno => by
        refine hfree k ok hk hki ?_ hno
        by_cases hjk : j = k
        · subst hjk; exact hjun
        · rw [getD_set_ne true hjk] at hun; exact hun
      have step : ∀ a' w', C w' → CalmIn P ops C oi v a' → wpAnyI P md ops hd C (QN K1) fuel ((listed.setIfInBounds i true).setIfInBounds j true) (a'.put oi.dst v) w' →
          (hd j = true → C w') ∧ wpAnyI P md ops hd C (QN K1) (fuel + 1) (listed.setIfInBounds j true) a' w' := fun a' w' hc hy' h' =>
        ⟨fun _ => hc, ih (listed.setIfInBounds j true) a' w' hfree' (ready_mono hr (Ne.symm hji)) hy' hc (by rw [Array.setIfInBounds_comm _ _ hji]; exact h')⟩
      rcases hpr with hh | hp
      · exact wpOp_mono (fun a' w' h3 => step a' w' (h3.2.1 hh) h3.1 h3.2.2) h2
      · unfold wpOp at h2 ⊢
        simp only [hoj] at h2 ⊢
        split
        · rename_i hw
          simp only [hw, if_true] at h2
          rcases h2 with h2 | h2
          · exact .inl (Oper.wp_mono (fun a' w' h3 => step a' w' h3.1 h3.2.1 h3.2.2.2) (hp _ _ _ _ hC h2))
          · exact .inr h2
        · rename_i hw
          simp only [hw] at h2
          exact step _ _ hC h2.1 h2.2.2

/-- The readers, walked in order, each calm in the class. -/
def wpCalm (P : Program) (ops : Array Oper) (C : World → Prop) (Q : Act → Prop) : List Oper → Act → Prop
  | [], a => Q a
  | o :: rest, a => if Region.wanted o (yielded ops a.tmps) = true then ∃ v, (∀ w, C w → (execOp a.eval o).run P w = .ok (.value v) w) ∧ wpCalm P ops C Q rest (a.put o.dst v) else wpCalm P ops C Q rest (a.put o.dst undef)
theorem wpCalm_nil {C : World → Prop} {Q : Act → Prop} {a : Act} (h : Q a) : wpCalm P ops C Q [] a := h
theorem wpCalm_step {C : World → Prop} {Q : Act → Prop} {a : Act} {o : Oper} {rest : List Oper} (h : ∀ K : Act → Prop, (∀ a, wpCalm P ops C Q rest a → K a) →
    if Region.wanted o (yielded ops a.tmps) = true then ∃ v, (∀ w, C w → (execOp a.eval o).run P w = .ok (.value v) w) ∧ K (a.put o.dst v) else K (a.put o.dst undef)) : wpCalm P ops C Q (o :: rest) a :=
  h _ (fun _ h => h)
theorem wpCalm_value {C : World → Prop} {Q : Act → Prop} {a : Act} {o : Oper} {rest : List Oper} (v : Value) (hw : Region.wanted o (yielded ops a.tmps) = true)
    (h : ∀ w, C w → (execOp a.eval o).run P w = .ok (.value v) w) (hk : wpCalm P ops C Q rest (a.put o.dst v)) : wpCalm P ops C Q (o :: rest) a := by
  unfold wpCalm
  rw [if_pos hw]
  exact ⟨v, h, hk⟩
def freeB (md : Region.Mode) (ops : Array Oper) (ok : Nat → Bool) (listed : Array Bool) (i : Nat) : Bool :=
  (List.range ops.size).all fun j => j == i || listed.getD j true || Region.waitsFor md ops j i || (match ops[i]?, ops[j]? with | some oi, some oj => oi.apart ops oj && ok j | _, _ => false)
def setFrom (listed : Array Bool) : Nat → Nat → Array Bool
  | _, 0 => listed
  | k, m + 1 => setFrom (listed.setIfInBounds k true) (k + 1) m
def segB (md : Region.Mode) (ops : Array Oper) (ok : Nat → Bool) : Nat → Nat → Array Bool → Bool
  | _, 0, _ => true
  | k, m + 1, listed => (Region.ready md ops listed).contains k && freeB md ops ok listed k && segB md ops ok (k + 1) m (listed.setIfInBounds k true)
theorem wpAnyI_seg {hd st : Nat → Bool} {C : World → Prop} {K1 : Act → World → Prop} (hs : Region.noSelect ops = true) (hst : ∀ j, st j = true → ∀ oj, ops[j]? = some oj → Pres P C oj) (fuel : Nat) {w : World} (hw : C w) :
    ∀ (l : List Oper) (k : Nat) (listed : Array Bool) (a : Act), (∀ j, j < l.length → l[j]? = ops[k + j]?) → segB md ops (fun j => hd j || st j) k l.length listed = true →
      wpCalm P ops C (fun a' => wpAnyI P md ops hd C (QN K1) fuel (setFrom listed k l.length) a' w) l a → wpAnyI P md ops hd C (QN K1) (fuel + l.length) listed a w
  | [], _, _, _, _, _, h => h
  | o :: l, k, listed, a, hl, hB, h => by
    have h0 : ops[k]? = some o := by simpa using (hl 0 (by simp)).symm
    simp only [List.length_cons, segB, Bool.and_eq_true] at hB
    obtain ⟨⟨hr, hf⟩, hB'⟩ := hB
    obtain ⟨v, hy, hK⟩ : ∃ v, CalmIn P ops C o v a ∧ wpCalm P ops C (fun a' => wpAnyI P md ops hd C (QN K1) fuel (setFrom listed k (o :: l).length) a' w) l (a.put o.dst v) := by
      unfold wpCalm at h
      by_cases hw : Region.wanted o (yielded ops a.tmps) = true
      · rw [if_pos hw] at h
        obtain ⟨v, h1, h2⟩ := h
        exact ⟨v, .inl ⟨hw, h1⟩, h2⟩
      · rw [if_neg hw] at h
        exact ⟨undef, .inr ⟨by simpa using hw, rfl⟩, h⟩
    refine wpAnyI_first h0 (Region.noSelect_spec hs) (fuel + l.length) listed a w (fun j oj hoj hne hun hno => ?_) (by simpa using hr) hy hw
      (wpAnyI_seg hs hst fuel hw l (k + 1) _ _ (fun j hj => by have := hl (j + 1) (by simp; omega); simpa [Nat.add_assoc, Nat.add_comm 1 j] using this) hB' hK)
    have h1 := List.all_eq_true.1 hf j (List.mem_range.2 (Array.getElem?_eq_some_iff.1 hoj).1)
    simp only [h0, hoj, Bool.or_eq_true, beq_iff_eq, hne, false_or, hun, Bool.false_eq_true, Bool.and_eq_true] at h1
    rcases h1 with h1 | ⟨h1, h2⟩
    · obtain ⟨oj', ho', e, he, hb, heq⟩ := Region.waitsFor_spec h1
      rw [hoj] at ho'; cases ho'
      exact absurd heq (hno e he hb)
    · exact ⟨h1, h2.imp id fun h => hst j h oj hoj⟩

theorem wpCalm_mono {C : World → Prop} {Q Q' : Act → Prop} (h : ∀ a, Q a → Q' a) : ∀ (l : List Oper) (a : Act), wpCalm P ops C Q l a → wpCalm P ops C Q' l a
  | [], a, hh => h a hh
  | o :: l, a, hh => by
    unfold wpCalm at *
    split
    · rename_i hw
      rw [if_pos hw] at hh
      obtain ⟨v, h1, h2⟩ := hh
      exact ⟨v, h1, wpCalm_mono h l _ h2⟩
    · rename_i hw
      rw [if_neg hw] at hh
      exact wpCalm_mono h l _ hh

/-- A tail in one order. -/
def seqLB (md : Region.Mode) (ops : Array Oper) : List Nat → Array Bool → Bool
  | [], listed => (Region.ready md ops listed).isEmpty
  | k :: ks, listed => decide (Region.ready md ops listed = [k]) && seqLB md ops ks (listed.setIfInBounds k true)
theorem wpAny_seqL {Q : Exit → Act → World → Prop} : ∀ (ks : List Nat) (l : List Oper) (listed : Array Bool) (a : Act) (w : World), ks.map (ops[·]?) = l.map some → seqLB md ops ks listed = true →
    wpList P ops Q l a w → wpAny P md ops Q ks.length listed a w
  | [], [], _, _, _, _, hB, h => ⟨by simpa [seqLB] using hB, h⟩
  | [], _ :: _, _, _, _, hl, _, _ => by simp at hl
  | _ :: _, [], _, _, _, hl, _, _ => by simp at hl
  | k :: ks, o :: l, listed, a, w, hl, hB, h => by
    simp only [List.map_cons, List.cons.injEq] at hl
    simp only [seqLB, Bool.and_eq_true, decide_eq_true_eq] at hB
    refine ⟨fun h0 => (by rw [h0] at hB; simp at hB), fun i hi => ?_⟩
    rw [hB.1] at hi
    simp only [List.mem_singleton] at hi
    subst hi
    unfold wpOp
    simp only [hl.1]
    have h2 : if Region.wanted o (yielded ops a.tmps) then (o.wp P a w (wpAny P md ops Q ks.length (listed.setIfInBounds i true)) Q ∨ (o.asks P a w ∧ LetsOut Q)) else wpAny P md ops Q ks.length (listed.setIfInBounds i true) (a.put o.dst undef) w := by
      unfold wpList at h
      split
      · rename_i hw
        simp only [hw, if_true] at h
        first
          | exact h.imp (Oper.wp_mono fun a' w' h' => wpAny_seqL ks l _ a' w' hl.2 hB.2 h') id
          | exact .inl (Oper.wp_mono (fun a' w' h' => wpAny_seqL ks l _ a' w' hl.2 hB.2 h') h)
      · rename_i hw
        simp only [hw] at h
        exact wpAny_seqL ks l _ _ _ hl.2 hB.2 h
    exact h2
end
section
variable {P : Program}
def allF (n : Nat) : Array Bool := Array.replicate n false
def PresAll (P : Program) (C : World → Prop) (ops : Array Oper) : List Nat → Prop
  | [] => True
  | j :: js => (match ops[j]? with | some o => Pres P C o | none => True) ∧ PresAll P C ops js
theorem PresAll.at {C : World → Prop} {ops : Array Oper} : ∀ {js : List Nat}, PresAll P C ops js → ∀ j, js.contains j = true → ∀ oj, ops[j]? = some oj → Pres P C oj
  | [], _, _, hj, _, _ => by simp at hj
  | k :: js, h, j, hj, oj, ho => by
    by_cases e : j = k
    · subst e
      have := h.1
      rw [ho] at this
      exact this
    · exact h.2.at j (by simpa [e] using hj) oj ho
/-- The region's law: first the readers s .. s + k - 1, which read nothing of the world; then the first n, calm in the class C, which the writers st keep; then the others ks in one order. -/
theorem wp_region_float {id : Nat} {Q : Exit → Act → World → Prop} {a : Act} {w : World} {l : List Oper} (s k n : Nat) (st : List Nat) (ks : List Nat) (tlf : List Oper → List Oper) (C : World → Prop) (hm : P.follows .mixedOrders = true)
    (hB : (Region.noSelect l.toArray && decide (s + k ≤ l.length) && decide (n ≤ l.length) && segB .any l.toArray (fun _ => true) s k (allF l.length) && segB .any l.toArray (fun j => decide (j < n) || st.contains j) 0 n (setFrom (allF l.length) s k)
      && (List.range l.length).all (fun i => !decide (i < n) || (setFrom (setFrom (allF l.length) s k) 0 n).getD i true) && seqLB .any l.toArray ks (setFrom (setFrom (allF l.length) s k) 0 n) && decide (ks.length + n + k = l.length)) = true)
    (htl : ks.map (l.toArray[·]?) = (tlf l).map some)
    (hst0 : PresAll P C l.toArray st) (hC : C { w with drawn := w.drawn + 1 })
    (h : wpCalm P l.toArray (fun _ => True) (fun a1 => wpCalm P l.toArray C (fun a' => wpList P l.toArray (QN (Q .normal)) (tlf l) a' { w with drawn := w.drawn + 1 }) (l.take n) a1) ((l.drop s).take k) a) : (Code.region id l.toArray true).wp P Q a w := by
  have hst := hst0.at
  simp only [Bool.and_eq_true, decide_eq_true_eq] at hB
  obtain ⟨⟨⟨⟨⟨⟨⟨hs, hsk⟩, hn⟩, h1⟩, h2⟩, h3⟩, h4⟩, h5⟩ := hB
  refine Code.wp_mono QN.imp ?_
  refine wp_region_any hm ?_
  have e1 : ((l.drop s).take k).length = k := by simp; omega
  have e2 : (l.take n).length = n := by simp; omega
  have hseg2 : ∀ a1, wpCalm P l.toArray C (fun a' => wpList P l.toArray (QN (Q .normal)) (tlf l) a' { w with drawn := w.drawn + 1 }) (l.take n) a1 →
      wpAny P .any l.toArray (QN (Q .normal)) (ks.length + n) (setFrom (allF l.length) s k) a1 { w with drawn := w.drawn + 1 } := fun a1 ha => by
    have := wpAnyI_seg (P := P) (md := .any) (hd := fun j => decide (j < n)) (st := fun j => st.contains j) (C := C) (K1 := Q .normal) hs hst ks.length hC (l.take n) 0 (setFrom (allF l.length) s k) a1
      (fun j hj => by rw [e2] at hj; simp [hj]) (by rw [e2]; exact h2) ?_
    · rw [e2] at this
      exact wpAny_of_I _ _ _ _ this
    · rw [e2]
      refine wpCalm_mono ?_ _ _ ha
      intro a' ha'
      refine wpAnyI_of_any _ _ _ _ (fun i hi hs' => ?_) (wpAny_seqL ks (tlf l) _ _ _ htl h4 ha')
      have := List.all_eq_true.1 h3 i (List.mem_range.2 (by simpa using hs'))
      simpa [show i < n by simpa using hi] using this
  have := wpAnyI_seg (P := P) (md := .any) (hd := fun _ => false) (st := fun _ => true) (C := fun _ => True) (K1 := Q .normal) hs (fun j _ oj _ => Pres.top oj) (ks.length + n) (w := { w with drawn := w.drawn + 1 }) trivial ((l.drop s).take k) s (allF l.length) a
    (fun j hj => by rw [e1] at hj; simp [hj]) (by rw [e1]; simpa using h1) ?_
  · rw [e1, h5] at this
    have := wpAny_of_I _ _ _ _ this
    unfold allF at this
    simpa using this
  · rw [e1]
    refine wpCalm_mono ?_ _ _ h
    intro a1 ha1
    exact wpAnyI_of_any _ _ _ _ (fun i hi => by simp at hi) (hseg2 a1 ha1)

/-- The walk's steps. -/
theorem wpCalm_loadA {ops : Array Oper} {C : World → Prop} {rest : List Oper} {o : Oper} {a : Act} {Q : Act → Prop} (hw : Region.wanted o (yielded ops a.tmps) = true) (ty : TypeId) (x : Operand) (ho : o.op = .load ty x)
    (B off : Nat) (hx : a.eval x = .pointer (some ⟨B, off, none⟩)) {T : TypeId} {fr : Nat × Nat} {n : Nat} {f : Nat → Int} (hg : ∀ w, C w → w.heap[B]? = some (.cells (arr n f) T fr)) (m : Nat) (hd : aggB P ty = true)
    (hi : (P.info? ty).map (·.size) = some m) (hle : off + m ≤ n) (h : wpCalm P ops C Q rest (a.put o.dst (.agg (arr m fun j => f (off + j))))) : wpCalm P ops C Q (o :: rest) a := by
  refine wpCalm_value _ hw (fun w hw => ?_) h
  unfold execOp
  simp only [ho, hx, Instr.loadAt, Instr.sureAddr, Sem.run_bind, Sem.run_pure, Result.andThen_ok, run_loadVar_arr w B off T ty fr n m f (hg w hw) hd hi hle]
theorem wpCalm_loadI {ops : Array Oper} {C : World → Prop} {rest : List Oper} {o : Oper} {a : Act} {Q : Act → Prop} (hw : Region.wanted o (yielded ops a.tmps) = true) (ty : TypeId) (x : Operand) (ho : o.op = .load ty x)
    (B off : Nat) (hx : a.eval x = .pointer (some ⟨B, off, none⟩)) {T : TypeId} {fr : Nat × Nat} {n : Nat} {f : Nat → Int} (hg : ∀ w, C w → w.heap[B]? = some (.cells (arr n f) T fr)) (hd : aggB P ty = false) (hu : (P.underlying ty).isSome = true)
    (hle : off < n) (h : wpCalm P ops C Q rest (a.put o.dst (.int .i64 (f off)))) : wpCalm P ops C Q (o :: rest) a := by
  refine wpCalm_value _ hw (fun w hw => ?_) h
  have hagg : (isAgg ty).run P w = .ok false w := by
    unfold aggB at hd
    unfold isAgg
    cases hq : P.underlying ty with
    | none => simp [hq] at hu
    | some d =>
      rw [Sem.run_bind, run_underlying hq w]
      cases d <;> simp_all
  unfold execOp
  simp only [ho, hx, Instr.loadAt, Instr.sureAddr, loadVar, Sem.run_bind, Sem.run_pure, Result.andThen_ok, hagg]
  simp [rowcell (hg w hw) hle]
theorem run_allocA {o : Oper} {a : Act} {w : World} (ty : TypeId) (ho : o.op = .alloc ty) (n : Nat) (hz : ((P.info? ty).bind (·.zero)).map (·.cells) = some (arr n fun _ => 0)) :
    (execOp a.eval o).run P w = .ok (.value (.pointer (some ⟨w.heap.size, 0, none⟩))) (w.alloc (.cells (arr n fun _ => 0) ty)) := by
  have hr : (Instr.alloc ty true (.tuple #[])).run P w = .ok (.pointer (some ⟨w.heap.size, 0, none⟩)) (w.alloc (.cells (arr n fun _ => 0) ty)) := by
    cases hq : P.info? ty with
    | none => simp [hq] at hz
    | some i =>
      cases hz2 : i.zero with
      | none => simp [hq, hz2] at hz
      | some z =>
        simp only [hq, hz2, Option.bind_some, Option.map_some, Option.some.injEq] at hz
        simp [Instr.alloc, zeroValue, typeInfo, hq, hz2, newVar, newRow, hz]
  unfold execOp
  simp only [ho, Sem.run_bind, hr, Result.andThen_ok, Sem.run_pure]
theorem Pres.alloc {o : Oper} {w0 : World} {rows : List (Nat × Obj)} (ty : TypeId) (ho : o.op = .alloc ty) (n : Nat) (hz : ((P.info? ty).bind (·.zero)).map (·.cells) = some (arr n fun _ => 0)) : Pres P (Cls w0 rows) o :=
  Pres.of_run fun a w hw => ⟨_, _, run_allocA ty ho n hz, hw.keep ((Below.refl _ _).alloc (Nat.le_refl _) _)⟩
theorem Pres.assign {o : Oper} {C : World → Prop} (x : Operand) (ho : o.op = .assign x) : Pres P C o :=
  Pres.of_run fun a w hw => ⟨a.eval x, w, by unfold execOp; simp [ho], hw⟩
theorem Cls.zero {w0 W : World} (hb : Below w0.heap.size w0 W) : Cls w0 [] { W with drawn := W.drawn + 1 } := ⟨fun p hp => (by cases hp), hb.drew⟩
end
end Go.Proofs.YtlbgmkengkgnfaaGreat
end

section
/- The laws' own copying and comparing of rows of ints. -/
namespace Go.Proofs.YtlbgmkengkgnfaaGreat
set_option linter.unusedSimpArgs false
set_option linter.unusedVariables false
set_option maxRecDepth 20000
open Go.RowKit
theorem zero4 : ((Tryz.prog.info? 24).bind (·.zero)).map (·.cells) = some (arr 4 fun _ => 0) := by kernel_rfl
theorem size1 : (Tryz.prog.info? 3).map (·.size) = some 1 := by kernel_rfl
theorem size4 : (Tryz.prog.info? 24).map (·.size) = some 4 := by kernel_rfl
theorem size24 : (Tryz.prog.info? 25).map (·.size) = some 24 := by kernel_rfl
theorem agg4 : aggB Tryz.prog 24 = true := by kernel_rfl
theorem agg24 : aggB Tryz.prog 25 = true := by kernel_rfl
theorem heap_new {w : World} {o : Obj} {n : Nat} (h : n = w.heap.size) : (w.alloc o).heap[n]? = some o := by subst h; exact heap_alloc_new w o
theorem heap_old {w : World} {o : Obj} {n : Nat} (h : n < w.heap.size) : (w.alloc o).heap[n]? = w.heap[n]? := Below.heap_alloc w o n h

theorem size24r : (Tryz.prog.info? 27).map (·.size) = some 24 := by kernel_rfl
theorem agg24r : aggB Tryz.prog 27 = true := by kernel_rfl
theorem zero24 : ((Tryz.prog.info? 25).bind (·.zero)).map (·.cells) = some (arr 24 fun _ => 0) := by kernel_rfl
theorem zero24r : ((Tryz.prog.info? 27).bind (·.zero)).map (·.cells) = some (arr 24 fun _ => 0) := by kernel_rfl

end Go.Proofs.YtlbgmkengkgnfaaGreat
end

section
/- Results that lie partly in memory; comparing rows. -/
namespace Go.Proofs.YtlbgmkengkgnfaaGreat
set_option linter.unusedSimpArgs false
set_option linter.unusedVariables false
set_option maxRecDepth 20000
open Go.RowKit
variable {P : Program}
section
variable {fn : Func} {p t t2 : Tmp} {ty : TypeId} (tmps : Array Value) (w : World) (B : Nat) (T : TypeId) (n : Nat) (f : Nat → Int) (fr : Nat × Nat)
theorem results_ct (h : fn.results = #[.cell p ty, .tmp t])
    (hp : tmps.getD p undef = .pointer (some ⟨B, 0, none⟩)) (hg : w.heap[B]? = some (.cells (arr n f) T fr)) (hd : aggB P ty = true) (hi : (P.info? ty).map (·.size) = some n) :
    (results fn tmps).run P w = .ok (.tuple #[.agg (arr n f), tmps.getD t undef]) w := by
  have hp' : tmps[p]?.getD undef = .pointer (some ⟨B, 0, none⟩) := by simpa using hp
  have hl := run_loadVar_arr (P := P) w B 0 T ty fr n n f hg hd hi (by omega)
  simp only [Nat.zero_add] at hl
  simp [results, h, hp', asAddr, hl]
theorem results_ctt (h : fn.results = #[.cell p ty, .tmp t, .tmp t2])
    (hp : tmps.getD p undef = .pointer (some ⟨B, 0, none⟩)) (hg : w.heap[B]? = some (.cells (arr n f) T fr)) (hd : aggB P ty = true) (hi : (P.info? ty).map (·.size) = some n) :
    (results fn tmps).run P w = .ok (.tuple #[.agg (arr n f), tmps.getD t undef, tmps.getD t2 undef]) w := by
  have hp' : tmps[p]?.getD undef = .pointer (some ⟨B, 0, none⟩) := by simpa using hp
  have hl := run_loadVar_arr (P := P) w B 0 T ty fr n n f hg hd hi (by omega)
  simp only [Nat.zero_add] at hl
  simp [results, h, hp', asAddr, hl]
theorem results_tc (h : fn.results = #[.tmp t, .cell p ty])
    (hp : tmps.getD p undef = .pointer (some ⟨B, 0, none⟩)) (hg : w.heap[B]? = some (.cells (arr n f) T fr)) (hd : aggB P ty = true) (hi : (P.info? ty).map (·.size) = some n) :
    (results fn tmps).run P w = .ok (.tuple #[tmps.getD t undef, .agg (arr n f)]) w := by
  have hp' : tmps[p]?.getD undef = .pointer (some ⟨B, 0, none⟩) := by simpa using hp
  have hl := run_loadVar_arr (P := P) w B 0 T ty fr n n f hg hd hi (by omega)
  simp only [Nat.zero_add] at hl
  simp [results, h, hp', asAddr, hl]
theorem results_tct (h : fn.results = #[.tmp t, .cell p ty, .tmp t2])
    (hp : tmps.getD p undef = .pointer (some ⟨B, 0, none⟩)) (hg : w.heap[B]? = some (.cells (arr n f) T fr)) (hd : aggB P ty = true) (hi : (P.info? ty).map (·.size) = some n) :
    (results fn tmps).run P w = .ok (.tuple #[tmps.getD t undef, .agg (arr n f), tmps.getD t2 undef]) w := by
  have hp' : tmps[p]?.getD undef = .pointer (some ⟨B, 0, none⟩) := by simpa using hp
  have hl := run_loadVar_arr (P := P) w B 0 T ty fr n n f hg hd hi (by omega)
  simp only [Nat.zero_add] at hl
  simp [results, h, hp', asAddr, hl]
end

theorem size_al (w : World) (o : Obj) : (w.alloc o).heap.size = w.heap.size + 1 := by simp
theorem wpList_loadAG {ops : Array Oper} {rest : List Oper} {o : Oper} {a : Act} {w : World} {Q : Exit → Act → World → Prop} (hw : Region.wanted o (yielded ops a.tmps) = true) (ty : TypeId) (x : Operand) (ho : o.op = .load ty x)
    (B off : Nat) (hx : a.eval x = .pointer (some ⟨B, off, none⟩)) {T : TypeId} {fr : Nat × Nat} {n : Nat} {f : Nat → Int} (hg : w.heap[B]? = some (.cells (arr n f) T fr)) (m : Nat) (hd : aggB P ty = true)
    (hi : (P.info? ty).map (·.size) = some m) (hle : off + m ≤ n) (h : wpList P ops Q rest (a.put o.dst (.agg (arr m fun j => f (off + j)))) w) : wpList P ops Q (o :: rest) a w :=
  wpList_step fun K hK => by
    rw [if_pos hw]
    exact wp_loadA ty x ho B off hx hg m hd hi hle (hK _ _ h)
theorem aggI : aggB Tryz.prog 3 = false := by kernel_rfl
theorem undI : (Tryz.prog.underlying 3).isSome = true := by kernel_rfl
theorem wpList_loadI {ops : Array Oper} {rest : List Oper} {o : Oper} {a : Act} {w : World} {Q : Exit → Act → World → Prop} (hw : Region.wanted o (yielded ops a.tmps) = true) (ty : TypeId) (x : Operand) (ho : o.op = .load ty x)
    (B off : Nat) (hx : a.eval x = .pointer (some ⟨B, off, none⟩)) {T : TypeId} {fr : Nat × Nat} {n : Nat} {f : Nat → Int} (hg : w.heap[B]? = some (.cells (arr n f) T fr)) (hd : aggB P ty = false) (hu : (P.underlying ty).isSome = true)
    (hle : off < n) (h : wpList P ops Q rest (a.put o.dst (.int .i64 (f off))) w) : wpList P ops Q (o :: rest) a w :=
  wpList_step fun K hK => by
    rw [if_pos hw]
    have hagg : (isAgg ty).run P w = .ok false w := by
      unfold aggB at hd
      unfold isAgg
      cases hq : P.underlying ty with
      | none => simp [hq] at hu
      | some d =>
        rw [Sem.run_bind, run_underlying hq w]
        cases d <;> simp_all
    have hr : (loadVar ty ⟨B, off, none⟩).run P w = .ok (.int .i64 (f off)) w := by
      simp only [loadVar, Sem.run_bind, Result.andThen_ok, hagg]
      simp [rowcell hg hle]
    unfold Oper.wp execOp
    simp only [ho, hx, Instr.loadAt, Instr.sureAddr, Sem.run_bind, Sem.run_pure, Result.andThen_ok, hr]
    exact hK _ _ h
theorem wpList_loadWG {ops : Array Oper} {rest : List Oper} {o : Oper} {a : Act} {w : World} {Q : Exit → Act → World → Prop} (hw : Region.wanted o (yielded ops a.tmps) = true) (ty : TypeId) (x : Operand) (ho : o.op = .load ty x)
    (B : Nat) (hx : a.eval x = .pointer (some ⟨B, 0, none⟩)) {T : TypeId} {fr : Nat × Nat} {n : Nat} {f : Nat → Int} (hg : w.heap[B]? = some (.cells (arr n f) T fr)) (hd : aggB P ty = true)
    (hi : (P.info? ty).map (·.size) = some n) (h : wpList P ops Q rest (a.put o.dst (.agg (arr n f))) w) : wpList P ops Q (o :: rest) a w :=
  wpList_loadAG hw ty x ho B 0 hx hg n hd hi (by omega) (by simpa using h)
/-- The first store into a block that was laid just before: behind it the world is a name. -/
theorem wpList_storeN {ops : Array Oper} {rest : List Oper} {o : Oper} {a : Act} {w : World} {Q : Exit → Act → World → Prop} {n : Nat} {f g : Nat → Int} {T : TypeId} (hgd : o.guard = none) (ty : TypeId) (x y : Operand) (ho : o.op = .store ty x y)
    (hx : a.eval x = .pointer (some ⟨w.heap.size, 0, none⟩)) (hy : a.eval y = .agg (arr n g))
    (hi : (P.info? ty).map (·.size) = some n) (h : ∀ w', w'.heap[w.heap.size]? = some (.cells (arr n g) T (0, 0)) → Below w.heap.size w w' → wpList P ops Q rest (a.put o.dst undef) w') :
    wpList P ops Q (o :: rest) a (w.alloc (.cells (arr n f) T)) :=
  wpList_storeW hgd ty x y ho w.heap.size hx hy (heap_new rfl) hi
    (h _ (setRow_heap _ _ _ _ _ _ (heap_new rfl)) (below_setRow2 ((Below.refl _ _).alloc (Nat.le_refl _) _) (Nat.le_refl _) _))
theorem upd_arr (n : Nat) (f : Nat → Int) (i : Nat) (x : Int) (g : Nat → Int) (h : ∀ j, j < n → g j = if j = i then x else f j) : arr n (upd f i x) = arr n g :=
  arr_congr fun j hj => by rw [h j hj]; rfl
end Go.Proofs.YtlbgmkengkgnfaaGreat
end

section
/- The contracts of the reference's test on racks. -/
namespace Go.Proofs.YtlbgmkengkgnfaaGreat
set_option linter.unusedSimpArgs false
set_option linter.unusedVariables false
set_option maxRecDepth 20000
open Go.RowKit
theorem l1In_any (x a b : Int) (w : World) : Calls Tryz.prog 48 #[.int .i64 x, .int .i64 a, .int .i64 b] w fun e w' => e = .returned (.bool (decide (a ≤ x ∧ x ≤ b))) ∧ w = w' := by
  by_cases h1 : a ≤ x <;> by_cases h2 : x ≤ b <;> (go_enter Tryz.func48, Tryz.ntmps48; go_wp2; go_ret; simp [h1, h2])

theorem l2Rack_any (f : Nat → Int) (w : World) : Calls Tryz.prog 29 #[.agg (arr 24 f)] w fun e w' => e = .returned (.bool (rackB f)) ∧ Below w.heap.size w w' := by
  have h1 : (w.alloc (.cells (arr 24 f) 27)).heap[w.heap.size]? = some (.cells (arr 24 f) 27 (0, 0)) := heap_new rfl
  have hbel : Below w.heap.size w (w.alloc (.cells (arr 24 f) 27)) := (Below.refl _ _).alloc (by simp) _
  go_enter Tryz.func29, Tryz.ntmps29
  go_wp2
  go_loop [3] (fun i => ∃ n : Nat, n ≤ 6 ∧ i = .int .i64 n ∧ ∀ n', n' < n → ∀ k, k < 4 → okP f n' k) (fun i => 6 - (intOf i).toNat)
  case atStart => exact ⟨0, by omega, rfl, by intro n' h; omega⟩
  case round =>
    obtain ⟨n, hn, rfl, hok⟩ := hrel
    have HOK : Hid _ := hok
    clear hok
    by_cases hlt : n < 6
    · go_wp2
      go_loop [4] (fun k => ∃ m : Nat, m ≤ 4 ∧ k = .int .i64 m ∧ ∀ k', k' < m → okP f n k') (fun k => 4 - (intOf k).toNat)
      case atStart => exact ⟨0, by omega, rfl, by intro n' h; omega⟩
      case round =>
        obtain ⟨m, hm, rfl, hok2⟩ := hrel
        have HOK2 : Hid _ := hok2
        clear hok2
        by_cases hlt2 : m < 4
        · have hc := rowcell h1 (i := n * 4 + m) (by omega)
          have hc2 := rowcell h1 (i := n * 4 + (m - 1)) (by omega)
          go_wp2_with (go_at_call 48; refine (l1In_any _ _ _ _).mono ?_; rintro e w' ⟨rfl, rfl⟩)
          all_goals first
            | (go_ret
               refine ⟨ret_bool (rackB_false hlt hlt2 ?_).symm, hbel⟩
               intro ⟨ha, hb⟩
               first
                 | exact absurd ha (by assumption)
                 | exact hb (by assumption) (by assumption) (by simpa using ‹(f (n * 4 + (m - 1)) == 0) = true›))
            | (go_roundw
               case rel =>
                 refine ⟨m + 1, by omega, by go_num, fun k' hk' => ?_⟩
                 by_cases e : k' = m
                 · subst e
                   refine ⟨by assumption, fun h0 h3 => ?_⟩
                   first
                     | exact absurd h0 (by assumption)
                     | exact absurd h3 (by assumption)
                     | (have e2 : (f (n * 4 + (k' - 1)) == 0) = false := by assumption
                        simpa using e2)
                 · exact HOK2.out k' (by omega)
               case measure => simp [intOf]; omega)
        · go_wp2
          go_roundw
          case rel => exact ⟨n + 1, by omega, by go_num, fun n' h k hk => by
            by_cases e : n' = n
            · subst e; exact HOK2.out k (by omega)
            · exact HOK.out n' (by omega) k hk⟩
          case measure => simp [intOf]; omega
    · go_wp2
      go_ret
      exact ⟨ret_bool (rackB_true fun i hi k hk => HOK.out i (by omega) k hk).symm, hbel⟩
end Go.Proofs.YtlbgmkengkgnfaaGreat
end

section
/- The contracts of the program's test on racks. -/
namespace Go.Proofs.YtlbgmkengkgnfaaGreat
set_option linter.unusedSimpArgs false
set_option linter.unusedVariables false
set_option maxRecDepth 20000
open Go.RowKit
theorem within_any (x a b : Int) (w : World) : Calls Tryz.prog 77 #[.int .i64 x, .int .i64 a, .int .i64 b] w fun e w' => e = .returned (.bool (decide (a ≤ x ∧ x ≤ b))) ∧ w = w' := by
  by_cases h1 : a ≤ x <;> by_cases h2 : x ≤ b <;> (go_enter Tryz.func77, Tryz.ntmps77; go_wp2; go_ret; simp [h1, h2])

theorem Index_int {B off len cap n : Nat} {f : Nat → Int} {T : TypeId} {fr : Nat × Nat} (v : Int) (w : World) (hg : w.heap[B]? = some (.cells (arr n f) T fr)) (hle : off + len ≤ n) (hm : len ≤ 1000000) :
    Calls Tryz.prog 74 #[.slice (some ⟨B, off, none⟩) len cap, .int .i64 v] w fun e w' => e = .returned (.int .i64 (idx (fun k => f (off + k) == v) len)) ∧ w = w' := by
  go_enter Tryz.func74, Tryz.ntmps74
  go_wp2
  go_loop [8] (fun i => ∃ k : Nat, k ≤ len ∧ i = .int .i64 k ∧ ∀ j, j < k → (f (off + j) == v) = false) (fun i => len - (intOf i).toNat)
  case atStart => exact ⟨0, by omega, rfl, by intro n' h; omega⟩
  case round =>
    obtain ⟨k, hk, rfl, hok⟩ := hrel
    have HOK : Hid _ := hok
    clear hok
    by_cases hlt : k < len
    · have hc := rowcell hg (i := off + k) (by omega)
      by_cases he : f (off + k) = v
      · subst he
        go_wp2
        go_ret
        exact ⟨ret_int (idx_found hlt (by simp) HOK.out).symm, rfl⟩
      · have he1 : (v == f (off + k)) = false := by simpa using fun h => he h.symm
        go_wp2
        go_round
        case rel => exact ⟨k + 1, by omega, by go_num, fun j hj => by
          by_cases e : j = k
          · subst e; simpa using he
          · exact HOK.out j (by omega)⟩
        case measure => simp [intOf]; omega
    · go_wp2
      go_ret
      exact ⟨ret_int (idx_none fun j hj => HOK.out j (by omega)).symm, rfl⟩

theorem layers_any (g : Nat → Int) (w : World) : Calls Tryz.prog 52 #[.agg (arr 4 g)] w fun e w' => e = .returned (.int .i64 (nlay g)) ∧ Below w.heap.size w w' := by
  have h1 : (w.alloc (.cells (arr 4 g) 24)).heap[w.heap.size]? = some (.cells (arr 4 g) 24 (0, 0)) := heap_new rfl
  have hI := nlay_idx g
  have hbel : Below w.heap.size w (w.alloc (.cells (arr 4 g) 24)) := (Below.refl _ _).alloc (by simp) _
  have h4 := nlay_le g
  by_cases hlt : nlay g < 4
  · rw [if_pos hlt] at hI
    have HI : Hid _ := hI
    clear hI
    go_enter Tryz.func52, Tryz.ntmps52
    go_wp2_with (go_at_call 74; refine (Index_int 0 _ h1 (by omega) (by omega)).mono ?_; simp only [Nat.zero_add]; rw [HI.out]; rintro e w1 ⟨rfl, rfl⟩)
    go_ret
    exact ⟨rfl, hbel⟩
  · rw [if_neg hlt] at hI
    have e4 : nlay g = 4 := by omega
    have HI : Hid _ := hI
    clear hI
    rw [e4]
    clear hlt h4 e4
    go_enter Tryz.func52, Tryz.ntmps52
    go_wp2_with (go_at_call 74; refine (Index_int 0 _ h1 (by omega) (by omega)).mono ?_; simp only [Nat.zero_add]; rw [HI.out]; rintro e w1 ⟨rfl, rfl⟩)
    go_ret
    exact ⟨rfl, hbel⟩

theorem layers_four (g : Nat → Int) (h : nlay g = 4) (w : World) : Calls Tryz.prog 52 #[.agg (arr 4 g)] w fun e w' => e = .returned (.int .i64 4) ∧ Below w.heap.size w w' :=
  (layers_any g w).mono fun _ _ ⟨he, hb⟩ => ⟨by rw [he, h]; rfl, hb⟩
/-- A predicate on ints that captures nothing. -/
def PredI (g : FuncId) (p : Int → Bool) : Prop := (∀ (args : Array Value) (w : World), (callFunc g args).run Tryz.prog w = .ok (.enter g args) w) ∧ ∀ (x : Int) (W : World), Calls Tryz.prog g #[.int .i64 x] W fun e W' => e = .returned (.bool (p x)) ∧ Below W.heap.size W W'

theorem areAllI_lit (g : FuncId) (p : Int → Bool) (hp0 : PredI g p) (c : Nat) (x : Int) (W : World) (hc : W.heap[c]? = some (.cells #[.func (.func g) #[] #[]] 64 (0, 0))) :
    Calls Tryz.prog 76 #[.int .i64 x, .pointer (some ⟨c, 0, none⟩)] W fun e W' => e = .returned (.bool (!p x)) ∧ Below W.heap.size W W' := by
  obtain ⟨hE, hp⟩ := hp0
  have hcell : W.cell? ⟨c, 0, none⟩ = some (.func (.func g) #[] #[]) := by rw [cell_of_row W c 0 _ _ _ hc]; rfl
  go_enter Tryz.func76, Tryz.ntmps76
  go_wp2_with (refine (hp _ _).mono ?_; rintro e w1 ⟨rfl, hb1⟩)
  go_ret
  exact ⟨rfl, hb1⟩

theorem IndexFunc_int {B off len cap n : Nat} {f : Nat → Int} {T : TypeId} {fr : Nat × Nat} (q : Int → Bool) (g : FuncId) (cp : Value) (w : World) (hE : ∀ (args : Array Value) (w : World), (callFunc g args).run Tryz.prog w = .ok (.enter g args) w)
    (hq : ∀ (x : Int) (W : World), Below w.heap.size w W → Calls Tryz.prog g #[.int .i64 x, cp] W fun e W' => e = .returned (.bool (q x)) ∧ Below W.heap.size W W')
    (hg : w.heap[B]? = some (.cells (arr n f) T fr)) (hle : off + len ≤ n) (hm : len ≤ 1000000) :
    Calls Tryz.prog 90 #[.slice (some ⟨B, off, none⟩) len cap, .func (.func g) #[] #[cp]] w fun e w' => e = .returned (.int .i64 (idx (fun k => q (f (off + k))) len)) ∧ Below w.heap.size w w' := by
  go_enter Tryz.func90, Tryz.ntmps90
  go_wp2
  go_loopw [8] (fun i wr => ∃ k : Nat, k ≤ len ∧ i = .int .i64 k ∧ Below w.heap.size w wr ∧ ∀ j, j < k → q (f (off + j)) = false) (fun i _ => len - (intOf i).toNat)
  case atStart => exact ⟨0, by omega, rfl, Below.refl _ _, by intro n' h; omega⟩
  case round =>
    obtain ⟨k, hk, rfl, hb, hok⟩ := hrel
    have HOK : Hid _ := hok
    clear hok
    by_cases hlt : k < len
    · have hc := rowcell (row_keep hb hg) (i := off + k) (by omega)
      have HQ := hq (f (off + k)) wr hb
      cases hqv : q (f (off + k)) with
      | true =>
        rw [hqv] at HQ
        have HV : Hid _ := hqv
        clear hqv
        go_wp2_with (refine HQ.mono ?_; rintro e w1 ⟨rfl, hb1⟩)
        go_ret
        exact ⟨ret_int (idx_found hlt HV.out HOK.out).symm, hb.trans (hb1.mono hb.size)⟩
      | false =>
        rw [hqv] at HQ
        have HV : Hid _ := hqv
        clear hqv
        go_wp2_with (refine HQ.mono ?_; rintro e w1 ⟨rfl, hb1⟩)
        go_roundw
        case rel => exact ⟨k + 1, by omega, by go_num, hb.trans (hb1.mono hb.size), fun j hj => by
          by_cases e : j = k
          · subst e; exact HV.out
          · exact HOK.out j (by omega)⟩
        case measure => simp [intOf]; omega
    · go_wp2
      go_ret
      exact ⟨ret_int (idx_none fun j hj => HOK.out j (by omega)).symm, hb⟩

theorem ContainsFunc_int {B off len cap n : Nat} {f : Nat → Int} {T : TypeId} {fr : Nat × Nat} (q : Int → Bool) (g : FuncId) (cp : Value) (w : World) (hE : ∀ (args : Array Value) (w : World), (callFunc g args).run Tryz.prog w = .ok (.enter g args) w)
    (hq : ∀ (x : Int) (W : World), Below w.heap.size w W → Calls Tryz.prog g #[.int .i64 x, cp] W fun e W' => e = .returned (.bool (q x)) ∧ Below W.heap.size W W')
    (hg : w.heap[B]? = some (.cells (arr n f) T fr)) (hle : off + len ≤ n) (hm : len ≤ 1000000) :
    Calls Tryz.prog 75 #[.slice (some ⟨B, off, none⟩) len cap, .func (.func g) #[] #[cp]] w fun e w' => e = .returned (.bool ((List.range len).any fun k => q (f (off + k)))) ∧ Below w.heap.size w w' := by
  have hI := idx_any (fun k => q (f (off + k))) len
  have HI : Hid _ := hI
  clear hI
  go_enter Tryz.func75, Tryz.ntmps75
  go_wp2_with (go_at_call 90; refine (IndexFunc_int q g cp _ hE hq hg hle hm).mono ?_; rintro e w1 ⟨rfl, hb1⟩)
  go_ret
  exact ⟨ret_bool HI.out, hb1⟩

theorem not_any_not (n : Nat) (p : Nat → Bool) : (!(List.range n).any fun k => !p k) = (List.range n).all p := by
  induction (List.range n) with
  | nil => rfl
  | cons a l ih => simp only [List.any_cons, List.all_cons, ← ih]; cases p a <;> simp

theorem areAll_int {B off len cap n : Nat} {f : Nat → Int} {T : TypeId} {fr : Nat × Nat} (g : FuncId) (p : Int → Bool) (hp : PredI g p) (w : World)
    (hg : w.heap[B]? = some (.cells (arr n f) T fr)) (hle : off + len ≤ n) (hm : len ≤ 1000000) :
    Calls Tryz.prog 53 #[.slice (some ⟨B, off, none⟩) len cap, .func (.func g) #[] #[]] w fun e w' => e = .returned (.bool ((List.range len).all fun k => p (f (off + k)))) ∧ Below w.heap.size w w' := by
  have HI : Hid _ := not_any_not len (fun k => p (f (off + k)))
  have h1 : (w.alloc (.cells #[.func (.func g) #[] #[]] 64)).heap[w.heap.size]? = some (.cells #[.func (.func g) #[] #[]] 64 (0, 0)) := heap_new rfl
  have hbel : Below w.heap.size w (w.alloc (.cells #[.func (.func g) #[] #[]] 64)) := (Below.refl _ _).alloc (by simp) _
  go_enter Tryz.func53, Tryz.ntmps53
  go_wp2_with (go_at_call 75; refine (ContainsFunc_int (fun x => !p x) _ _ _ (enters_of Tryz.func76 (by kernel_rfl) rfl) (fun x W hb => areAllI_lit g p hp _ x W (row_keep hb h1)) (row_keep hbel hg) hle hm).mono ?_; rintro e w1 ⟨rfl, hb1⟩)
  go_ret
  exact ⟨ret_bool HI.out, hbel.trans (hb1.mono hbel.size)⟩
end Go.Proofs.YtlbgmkengkgnfaaGreat
end

section
/- The contracts of the program's test on racks: tubes, racks, places. -/
namespace Go.Proofs.YtlbgmkengkgnfaaGreat
set_option linter.unusedSimpArgs false
set_option linter.unusedVariables false
set_option maxRecDepth 20000
open Go.RowKit
theorem isColor_pred : PredI 54 (fun x => decide (1 ≤ x) && decide (x ≤ 5)) := by
  refine ⟨enters_of Tryz.func54 (by kernel_rfl) rfl, fun x w => ?_⟩
  go_enter Tryz.func54, Tryz.ntmps54
  go_wp2_with (go_at_call 77; refine (within_any _ _ _ _).mono ?_; rintro e w' ⟨rfl, rfl⟩)
  go_ret
  exact ⟨rfl, Below.refl _ _⟩
theorem isTube1_pred : PredI 55 (fun x => x == 0) := by
  refine ⟨enters_of Tryz.func55 (by kernel_rfl) rfl, fun x w => ?_⟩
  go_enter Tryz.func55, Tryz.ntmps55
  go_wp2
  go_ret
  exact ⟨rfl, Below.refl _ _⟩

theorem isTube_any (g : Nat → Int) (w : World) : Calls Tryz.prog 33 #[.agg (arr 4 g)] w fun e w' => e = .returned (.bool (tubeB g)) ∧ Below w.heap.size w w' := by
  have h1 : (w.alloc (.cells (arr 4 g) 24)).heap[w.heap.size]? = some (.cells (arr 4 g) 24 (0, 0)) := heap_new rfl
  have hbel : Below w.heap.size w (w.alloc (.cells (arr 4 g) 24)) := (Below.refl _ _).alloc (by simp) _
  have hn := nlay_le g
  have hn1 : (0 : Int) ≤ (nlay g : Int) := by omega
  have hn2 : (nlay g : Int) ≤ 4 := by omega
  have HT : Hid _ := tubeB_layers g
  cases hA : (List.range (nlay g)).all fun k => decide (1 ≤ g k) && decide (g k ≤ 5) with
  | true =>
    by_cases h4 : nlay g = 4
    · have HL : Hid (∀ W : World, _) := layers_four g h4
      have HE : Hid (nlay g = 4) := h4
      rw [h4] at hA
      have HA : Hid _ := hA
      clear hA hn hn1 hn2 h4
      go_enter Tryz.func33, Tryz.ntmps33
      go_wp2_with first
        | (with_reducible refine wpList_loadW rfl _ _ rfl _ rfl h1 agg4 size4 ?_)
        | (go_at_call 52; refine (HL.out _).mono ?_; rintro e w1 ⟨rfl, hb1⟩; have h2 := row_keep hb1 h1)
        | (go_at_call 53; (with_reducible refine (areAll_int 54 _ isColor_pred _ h2 (by omega) (by omega)).mono ?_); simp only [Nat.zero_add]; rw [HA.out]; rintro e w2 ⟨rfl, hb2⟩; have h3 := row_keep hb2 h2)
        | (go_at_call 53; (with_reducible refine (areAll_int 55 _ isTube1_pred _ h3 (by omega) (by omega)).mono ?_); rintro e w3 ⟨rfl, hb3⟩)
      go_ret
      exact ⟨ret_bool (by rw [← HT.out, HE.out, HA.out]; rfl), hbel.trans ((hb1.trans ((hb2.trans (hb3.mono hb2.size)).mono hb1.size)).mono hbel.size)⟩
    · have hlt : (nlay g : Int) < 4 := by omega
      have HA : Hid _ := hA
      clear hA
      go_enter Tryz.func33, Tryz.ntmps33
      go_wp2_with first
        | (with_reducible refine wpList_loadW rfl _ _ rfl _ rfl h1 agg4 size4 ?_)
        | (go_at_call 52; refine (layers_any _ _).mono ?_; rintro e w1 ⟨rfl, hb1⟩; have h2 := row_keep hb1 h1)
        | (go_at_call 53; (with_reducible refine (areAll_int 54 _ isColor_pred _ h2 (by omega) (by omega)).mono ?_); simp only [Nat.zero_add]; rw [HA.out]; rintro e w2 ⟨rfl, hb2⟩; have h3 := row_keep hb2 h2)
        | (go_at_call 53; (with_reducible refine (areAll_int 55 _ isTube1_pred _ h3 (by omega) (by omega)).mono ?_); rintro e w3 ⟨rfl, hb3⟩)
      go_ret
      exact ⟨ret_bool (by rw [← HT.out, HA.out]; rfl), hbel.trans ((hb1.trans ((hb2.trans (hb3.mono hb2.size)).mono hb1.size)).mono hbel.size)⟩
  | false =>
    have HA : Hid _ := hA
    clear hA
    go_enter Tryz.func33, Tryz.ntmps33
    go_wp2_with first
      | (with_reducible refine wpList_loadW rfl _ _ rfl _ rfl h1 agg4 size4 ?_)
      | (go_at_call 52; refine (layers_any _ _).mono ?_; rintro e w1 ⟨rfl, hb1⟩; have h2 := row_keep hb1 h1)
      | (go_at_call 53; (with_reducible refine (areAll_int 54 _ isColor_pred _ h2 (by omega) (by omega)).mono ?_); simp only [Nat.zero_add]; rw [HA.out]; rintro e w2 ⟨rfl, hb2⟩; have h3 := row_keep hb2 h2)
    go_ret
    exact ⟨ret_bool (by rw [← HT.out, HA.out]; rfl), hbel.trans ((hb1.trans (hb2.mono hb1.size)).mono hbel.size)⟩

/-- A predicate on tubes that captures nothing. -/
def PredT (g : FuncId) (p : (Nat → Int) → Bool) : Prop := (∀ (args : Array Value) (w : World), (callFunc g args).run Tryz.prog w = .ok (.enter g args) w) ∧ ∀ (x : Nat → Int) (W : World), Calls Tryz.prog g #[.agg (arr 4 x)] W fun e W' => e = .returned (.bool (p x)) ∧ Below W.heap.size W W'

theorem isTube_pred : PredT 33 tubeB := ⟨enters_of Tryz.func33 (by kernel_rfl) rfl, isTube_any⟩

theorem areAllT_lit (g : FuncId) (p : (Nat → Int) → Bool) (hp0 : PredT g p) (c : Nat) (x : Nat → Int) (W : World) (hc : W.heap[c]? = some (.cells #[.func (.func g) #[] #[]] 57 (0, 0))) :
    Calls Tryz.prog 51 #[.agg (arr 4 x), .pointer (some ⟨c, 0, none⟩)] W fun e W' => e = .returned (.bool (!p x)) ∧ Below W.heap.size W W' := by
  obtain ⟨hE, hp⟩ := hp0
  have hbel : Below W.heap.size W (W.alloc (.cells (arr 4 x) 24)) := (Below.refl _ _).alloc (by simp) _
  have h1 : (W.alloc (.cells (arr 4 x) 24)).heap[W.heap.size]? = some (.cells (arr 4 x) 24 (0, 0)) := heap_new rfl
  have hcell : (W.alloc (.cells (arr 4 x) 24)).cell? ⟨c, 0, none⟩ = some (.func (.func g) #[] #[]) := by rw [cell_of_row _ c 0 _ _ _ (row_alloc hc)]; rfl
  go_enter Tryz.func51, Tryz.ntmps51
  go_wp2_with first | (with_reducible refine wpList_loadW rfl _ _ rfl _ rfl h1 agg4 size4 ?_) | ((with_reducible refine (hp _ _).mono ?_); rintro e w1 ⟨rfl, hb1⟩)
  go_ret
  exact ⟨rfl, hbel.trans (hb1.mono hbel.size)⟩

theorem IndexFunc_tube {B off len cap n : Nat} {f : Nat → Int} {T : TypeId} {fr : Nat × Nat} (q : (Nat → Int) → Bool) (g : FuncId) (cp : Value) (w : World) (hE : ∀ (args : Array Value) (w : World), (callFunc g args).run Tryz.prog w = .ok (.enter g args) w)
    (hq : ∀ (x : Nat → Int) (W : World), Below w.heap.size w W → Calls Tryz.prog g #[.agg (arr 4 x), cp] W fun e W' => e = .returned (.bool (q x)) ∧ Below W.heap.size W W')
    (hg : w.heap[B]? = some (.cells (arr n f) T fr)) (hle : off + 4 * len ≤ n) (hm : len ≤ 1000000) :
    Calls Tryz.prog 73 #[.slice (some ⟨B, off, none⟩) len cap, .func (.func g) #[] #[cp]] w fun e w' => e = .returned (.int .i64 (idx (fun k => q fun j => f (off + k * 4 + j)) len)) ∧ Below w.heap.size w w' := by
  go_enter Tryz.func73, Tryz.ntmps73
  go_wp2
  go_loopw [8] (fun i wr => ∃ k : Nat, k ≤ len ∧ i = .int .i64 k ∧ Below w.heap.size w wr ∧ ∀ j, j < k → (q fun l => f (off + j * 4 + l)) = false) (fun i _ => len - (intOf i).toNat)
  case atStart => exact ⟨0, by omega, rfl, Below.refl _ _, by intro n' h; omega⟩
  case round =>
    obtain ⟨k, hk, rfl, hb, hok⟩ := hrel
    have HOK : Hid _ := hok
    clear hok
    by_cases hlt : k < len
    · have h1 := row_keep hb hg
      have HQ := hq (fun l => f (off + k * 4 + l)) wr hb
      cases hqv : q (fun l => f (off + k * 4 + l)) with
      | true =>
        rw [hqv] at HQ
        have HV : Hid _ := hqv
        clear hqv
        go_wp2_with first | (with_reducible refine wpList_loadA rfl _ _ rfl _ _ rfl h1 4 agg4 size4 (by omega) ?_) | ((with_reducible refine HQ.mono ?_); rintro e w1 ⟨rfl, hb1⟩)
        go_ret
        exact ⟨ret_int (idx_found hlt HV.out HOK.out).symm, hb.trans (hb1.mono hb.size)⟩
      | false =>
        rw [hqv] at HQ
        have HV : Hid _ := hqv
        clear hqv
        go_wp2_with first | (with_reducible refine wpList_loadA rfl _ _ rfl _ _ rfl h1 4 agg4 size4 (by omega) ?_) | ((with_reducible refine HQ.mono ?_); rintro e w1 ⟨rfl, hb1⟩)
        go_roundw
        case rel => exact ⟨k + 1, by omega, by go_num, hb.trans (hb1.mono hb.size), fun j hj => by
          by_cases e : j = k
          · subst e; exact HV.out
          · exact HOK.out j (by omega)⟩
        case measure => simp [intOf]; omega
    · go_wp2
      go_ret
      exact ⟨ret_int (idx_none fun j hj => HOK.out j (by omega)).symm, hb⟩

theorem ContainsFunc_tube {B off len cap n : Nat} {f : Nat → Int} {T : TypeId} {fr : Nat × Nat} (q : (Nat → Int) → Bool) (g : FuncId) (cp : Value) (w : World) (hE : ∀ (args : Array Value) (w : World), (callFunc g args).run Tryz.prog w = .ok (.enter g args) w)
    (hq : ∀ (x : Nat → Int) (W : World), Below w.heap.size w W → Calls Tryz.prog g #[.agg (arr 4 x), cp] W fun e W' => e = .returned (.bool (q x)) ∧ Below W.heap.size W W')
    (hg : w.heap[B]? = some (.cells (arr n f) T fr)) (hle : off + 4 * len ≤ n) (hm : len ≤ 1000000) :
    Calls Tryz.prog 50 #[.slice (some ⟨B, off, none⟩) len cap, .func (.func g) #[] #[cp]] w fun e w' => e = .returned (.bool ((List.range len).any fun k => q fun j => f (off + k * 4 + j))) ∧ Below w.heap.size w w' := by
  have hI := idx_any (fun k => q fun j => f (off + k * 4 + j)) len
  have HI : Hid _ := hI
  clear hI
  go_enter Tryz.func50, Tryz.ntmps50
  go_wp2_with (go_at_call 73; (with_reducible refine (IndexFunc_tube q g cp _ hE hq hg hle hm).mono ?_); rintro e w1 ⟨rfl, hb1⟩)
  go_ret
  exact ⟨ret_bool HI.out, hb1⟩

theorem areAll_tube {B off len cap n : Nat} {f : Nat → Int} {T : TypeId} {fr : Nat × Nat} (g : FuncId) (p : (Nat → Int) → Bool) (hp : PredT g p) (w : World)
    (hg : w.heap[B]? = some (.cells (arr n f) T fr)) (hle : off + 4 * len ≤ n) (hm : len ≤ 1000000) :
    Calls Tryz.prog 32 #[.slice (some ⟨B, off, none⟩) len cap, .func (.func g) #[] #[]] w fun e w' => e = .returned (.bool ((List.range len).all fun k => p fun j => f (off + k * 4 + j))) ∧ Below w.heap.size w w' := by
  have HI : Hid _ := not_any_not len (fun k => p fun j => f (off + k * 4 + j))
  have h1 : (w.alloc (.cells #[.func (.func g) #[] #[]] 57)).heap[w.heap.size]? = some (.cells #[.func (.func g) #[] #[]] 57 (0, 0)) := heap_new rfl
  have hbel : Below w.heap.size w (w.alloc (.cells #[.func (.func g) #[] #[]] 57)) := (Below.refl _ _).alloc (by simp) _
  have HC := ContainsFunc_tube (cap := cap) (fun x => !p x) 51 (.pointer (some ⟨w.heap.size, 0, none⟩)) (w.alloc (.cells #[.func (.func g) #[] #[]] 57)) (enters_of Tryz.func51 (by kernel_rfl) rfl) (fun x W hb => areAllT_lit g p hp _ x W (row_keep hb h1)) (row_keep hbel hg) hle hm
  go_enter Tryz.func32, Tryz.ntmps32
  go_wp2_with (go_at_call 50; (with_reducible refine HC.mono ?_); rintro e w1 ⟨rfl, hb1⟩)
  go_ret
  exact ⟨ret_bool HI.out, hbel.trans (hb1.mono hbel.size)⟩

theorem IsRack_any (f : Nat → Int) (w : World) : Calls Tryz.prog 8 #[.agg (arr 24 f)] w fun e w' => e = .returned (.bool (rackB f)) ∧ Below w.heap.size w w' := by
  have h1 : (w.alloc (.cells (arr 24 f) 27)).heap[w.heap.size]? = some (.cells (arr 24 f) 27 (0, 0)) := heap_new rfl
  have hbel : Below w.heap.size w (w.alloc (.cells (arr 24 f) 27)) := (Below.refl _ _).alloc (by simp) _
  go_enter Tryz.func8, Tryz.ntmps8
  go_wp2_with (go_at_call 32; (with_reducible refine (areAll_tube 33 _ isTube_pred _ h1 (by omega) (by omega)).mono ?_); simp only [Nat.zero_add, rackB_all]; rintro e w1 ⟨rfl, hb1⟩)
  go_ret
  exact ⟨rfl, hbel.trans (hb1.mono hbel.size)⟩
end Go.Proofs.YtlbgmkengkgnfaaGreat
end

section
/- Racks and places; how many layers a tube has. -/
namespace Go.Proofs.YtlbgmkengkgnfaaGreat
set_option linter.unusedSimpArgs false
set_option linter.unusedVariables false
set_option maxRecDepth 20000
open Go.RowKit
theorem l2Many_any (g : Nat → Int) (w : World) : Calls Tryz.prog 82 #[.agg (arr 4 g)] w fun e w' => e = .returned (.int .i64 (cnt (fun k => decide (0 < g k)) 4)) ∧ Below w.heap.size w w' := by
  have h1 : (w.alloc (.cells (arr 4 g) 24)).heap[w.heap.size]? = some (.cells (arr 4 g) 24 (0, 0)) := heap_new rfl
  have hbel : Below w.heap.size w (w.alloc (.cells (arr 4 g) 24)) := (Below.refl _ _).alloc (by simp) _
  go_enter Tryz.func82, Tryz.ntmps82
  go_wp2
  go_loop [3, 4] (fun n i => ∃ k : Nat, k ≤ 4 ∧ i = .int .i64 k ∧ n = .int .i64 (cnt (fun k => decide (0 < g k)) k)) (fun _ i => 4 - (intOf i).toNat)
  case atStart => exact ⟨0, by omega, rfl, rfl⟩
  case round =>
    obtain ⟨k, hk, rfl, rfl⟩ := hrel
    have hle := cnt_le (fun k => decide (0 < g k)) k
    by_cases hlt : k < 4
    · have hc := rowcell h1 hlt
      by_cases hp : 0 < g k
      · have HS : Hid _ := cnt_yes (p := fun k => decide (0 < g k)) (k := k) (by simpa using hp)
        go_wp2
        go_round
        case rel => exact ⟨k + 1, by omega, by go_num, by rw [HS.out]; go_num⟩
        case measure => simp [intOf]; omega
      · have HS : Hid _ := cnt_no (p := fun k => decide (0 < g k)) (k := k) (by simpa using hp)
        go_wp2
        go_round
        case rel => exact ⟨k + 1, by omega, by go_num, by rw [HS.out]⟩
        case measure => simp [intOf]; omega
    · obtain rfl : k = 4 := by omega
      go_wp2
      go_ret
      exact ⟨rfl, hbel⟩
theorem l2Many_ok (g : Nat → Int) (h : tubeB g = true) (w : World) : Calls Tryz.prog 82 #[.agg (arr 4 g)] w fun e w' => e = .returned (.int .i64 (nlay g)) ∧ Below w.heap.size w w' :=
  (l2Many_any g w).mono fun _ _ ⟨he, hb⟩ => ⟨by rw [he, cnt_layers g h], hb⟩

end Go.Proofs.YtlbgmkengkgnfaaGreat
end

section
/- PutLayer, TakeLayer, SwapTubes: the program's and the reference's, and the laws. -/
namespace Go.Proofs.YtlbgmkengkgnfaaGreat
set_option linter.unusedSimpArgs false
set_option linter.unusedVariables false
set_option maxRecDepth 20000
open Go.RowKit
theorem zbuild24 : Tryz.prog.built 27 [] = some (arr 24 fun _ => 0) := by kernel_rfl
theorem tube_of_rack {f : Nat → Int} (h : rackB f = true) {n : Nat} (hn : n ≤ 5) : tubeB (tub f n) = true := (rackB_iff f).1 h n (by omega)

theorem isColor_any (x : Int) (w : World) : Calls Tryz.prog 54 #[.int .i64 x] w fun e w' => e = .returned (.bool (decide (1 ≤ x) && decide (x ≤ 5))) ∧ Below w.heap.size w w' := isColor_pred.2 x w

def putLayer (f : Nat → Int) (i c : Int) : (Nat → Int) × Bool := if rackB f = true ∧ (0 ≤ i ∧ i ≤ 5) ∧ (1 ≤ c ∧ c ≤ 5) ∧ nlay (tub f i.toNat) < 4 then (upd f (i.toNat * 4 + nlay (tub f i.toNat)) c, true) else (fun _ => 0, false)
theorem putLayer_bad {f : Nat → Int} {i c : Int} (h : ¬ (rackB f = true ∧ (0 ≤ i ∧ i ≤ 5) ∧ (1 ≤ c ∧ c ≤ 5) ∧ nlay (tub f i.toNat) < 4)) : putLayer f i c = (fun _ => 0, false) := if_neg h

end Go.Proofs.YtlbgmkengkgnfaaGreat
end
