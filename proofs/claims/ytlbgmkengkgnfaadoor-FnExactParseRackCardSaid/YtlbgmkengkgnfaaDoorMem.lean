/- Laws of the walk on rows of int64 cells: load, store, allocate, build, results. -/
import Derived.Test.YtlbgmkengkgnfaaDoorArr
import Derived.Lib.Hide
import Derived.Deep.QuietTactic
import Derived.BigQuiet
import Derived.StillTailTactics
import Derived.Shelf.Abstract
namespace Go.Proofs.YtlbgmkengkgnfaaDoor
set_option linter.unusedSimpArgs false
set_option linter.unusedVariables false
set_option maxRecDepth 20000
open Go.RowKit
variable {P : Program}

theorem add_off (B o j : Nat) : (⟨B, o, none⟩ : Addr).add j = ⟨B, o + j, none⟩ := by
  unfold Addr.add
  split
  · rename_i h; subst h; rfl
  · rfl

theorem rowcell {w : World} {B n : Nat} {f : Nat → Int} {T : TypeId} {fr : Nat × Nat} (hg : w.heap[B]? = some (.cells (arr n f) T fr)) {i : Nat} (h : i < n) :
    w.cell? ⟨B, i, none⟩ = some (.int .i64 (f i)) := by
  rw [cell_of_row w B i _ T fr hg, arr_get, if_pos h]

theorem row_lt {w : World} {B : Nat} {o : Obj} (h : w.heap[B]? = some o) : B < w.heap.size := (Array.getElem?_eq_some_iff.1 h).1

/-- A row stays where nothing below a bound has turned. -/
theorem row_kept {w w' : World} {K B : Nat} {o : Obj} (hb : Below K w w') (h : w.heap[B]? = some o) (hB : B < K) : w'.heap[B]? = some o := (hb.block B hB).trans h
theorem row_keep {w w' : World} {B : Nat} {o : Obj} (hb : Below w.heap.size w w') (h : w.heap[B]? = some o) : w'.heap[B]? = some o := (hb.block B (row_lt h)).trans h
theorem row_alloc {w : World} {B : Nat} {o x : Obj} (h : w.heap[B]? = some o) : (w.alloc x).heap[B]? = some o := (Below.heap_alloc w x B (row_lt h)).trans h

/-- Is it a struct or an array? -/
def aggB (P : Program) (t : TypeId) : Bool := match P.underlying t with | some (.struct _) | some (.array _ _) => true | _ => false

theorem run_isAgg {t : TypeId} (h : aggB P t = true) (w : World) : (isAgg t).run P w = .ok true w := by
  unfold aggB at h
  unfold isAgg
  cases hu : P.underlying t with
  | none => simp [hu] at h
  | some d =>
    rw [Sem.run_bind, run_underlying hu w]
    cases d <;> simp_all

theorem range_arr (n : Nat) (f : Nat → Int) : ((List.range n).map fun j => Value.int .i64 (f j)).toArray = arr n f := by
  refine Array.ext_getElem? fun i => ?_
  rw [arr_get]
  by_cases h : i < n
  · simp [h]
  · simp [h]

theorem run_loadVar_arr (w : World) (B off : Nat) (T ty : TypeId) (fr : Nat × Nat) (n m : Nat) (f : Nat → Int) (hg : w.heap[B]? = some (.cells (arr n f) T fr)) (hd : aggB P ty = true)
    (hi : (P.info? ty).map (·.size) = some m) (hle : off + m ≤ n) : (loadVar ty ⟨B, off, none⟩).run P w = .ok (.agg (arr m fun j => f (off + j))) w := by
  have hl : (loadCells ⟨B, off, none⟩ m).run P w = .ok (arr m fun j => f (off + j)) w := by
    rw [run_loadCells (P := P) w ⟨B, off, none⟩ m (fun j => .int .i64 (f (off + j))) (fun j hj => by rw [add_off]; exact rowcell hg (by omega))]
    rw [range_arr]
  cases hq : P.info? ty with
  | none => simp [hq] at hi
  | some i =>
    have hs : i.size = m := by simpa [hq] using hi
    simp [loadVar, Sem.run_bind, run_isAgg hd, sizeOf, typeInfo, hq, hs, hl]

theorem wp_loadA {o : Oper} {a : Act} {w : World} {K : Act → World → Prop} {Q : Exit → Act → World → Prop} (ty : TypeId) (x : Operand) (ho : o.op = .load ty x)
    (B off : Nat) (hx : a.eval x = .pointer (some ⟨B, off, none⟩)) {T : TypeId} {fr : Nat × Nat} {n : Nat} {f : Nat → Int} (hg : w.heap[B]? = some (.cells (arr n f) T fr)) (m : Nat) (hd : aggB P ty = true)
    (hi : (P.info? ty).map (·.size) = some m) (hle : off + m ≤ n) (h : K (a.put o.dst (.agg (arr m fun j => f (off + j)))) w) : o.wp P a w K Q := by
  unfold Oper.wp execOp
  simp only [ho, hx, Instr.loadAt, Instr.sureAddr, Sem.run_bind, Sem.run_pure, Result.andThen_ok, run_loadVar_arr w B off T ty fr n m f hg hd hi hle]
  exact h

theorem wpList_loadA {ops : Array Oper} {rest : List Oper} {o : Oper} {a : Act} {w : World} {Q : Exit → Act → World → Prop} (hgd : o.guard = none) (ty : TypeId) (x : Operand) (ho : o.op = .load ty x)
    (B off : Nat) (hx : a.eval x = .pointer (some ⟨B, off, none⟩)) {T : TypeId} {fr : Nat × Nat} {n : Nat} {f : Nat → Int} (hg : w.heap[B]? = some (.cells (arr n f) T fr)) (m : Nat) (hd : aggB P ty = true)
    (hi : (P.info? ty).map (·.size) = some m) (hle : off + m ≤ n) (h : wpList P ops Q rest (a.put o.dst (.agg (arr m fun j => f (off + j)))) w) : wpList P ops Q (o :: rest) a w :=
  wpList_plain hgd fun _ hK => wp_loadA ty x ho B off hx hg m hd hi hle (hK _ _ h)

/-- The whole of a row. -/
theorem wpList_loadW {ops : Array Oper} {rest : List Oper} {o : Oper} {a : Act} {w : World} {Q : Exit → Act → World → Prop} (hgd : o.guard = none) (ty : TypeId) (x : Operand) (ho : o.op = .load ty x)
    (B : Nat) (hx : a.eval x = .pointer (some ⟨B, 0, none⟩)) {T : TypeId} {fr : Nat × Nat} {n : Nat} {f : Nat → Int} (hg : w.heap[B]? = some (.cells (arr n f) T fr)) (hd : aggB P ty = true)
    (hi : (P.info? ty).map (·.size) = some n) (h : wpList P ops Q rest (a.put o.dst (.agg (arr n f))) w) : wpList P ops Q (o :: rest) a w :=
  wpList_plain hgd fun _ hK => wp_loadA ty x ho B 0 hx hg n hd hi (by omega) (hK _ _ (by simpa using h))

/-! ### stores -/
theorem oneCell_arr (n : Nat) (f : Nat → Int) : ∀ v ∈ (arr n f).toList, v.oneCell' = true := by
  intro v hv
  obtain ⟨i, hi, he⟩ := List.getElem_of_mem hv
  have h1 : (arr n f)[i]? = some v := by
    rw [← Array.getElem?_toList, List.getElem?_eq_getElem hi, he]
  rw [arr_get] at h1
  split at h1
  · simp at h1; subst h1; rfl
  · simp at h1

theorem run_storeCells_arr (B : Nat) (T : TypeId) (n : Nat) : ∀ (vs : List Int) (off : Nat) (f : Nat → Int) (w : World) (i : Nat), w.heap[B]? = some (.cells (arr n f) T (0, 0)) → off + i + vs.length ≤ n →
    (storeCells ⟨B, off, none⟩ (vs.map (Value.int .i64)) i).run P w = .ok () (w.setRow B (arr n fun j => if off + i ≤ j ∧ j < off + i + vs.length then vs.getD (j - off - i) 0 else f j))
  | [], off, f, w, i, hg, hl => by
    have e : arr n (fun j => if off + i ≤ j ∧ j < off + i + ([] : List Int).length then ([] : List Int).getD (j - off - i) 0 else f j) = arr n f := by
      refine arr_congr fun j hj => ?_
      rw [if_neg (by simp)]
    rw [e]
    show Result.ok () w = _
    rw [setRow_self w B _ T (0, 0) hg]
  | v :: vs, off, f, w, i, hg, hl => by
    simp only [List.length_cons] at hl
    have hcell : w.cell? ⟨B, off + i, none⟩ = some (.int .i64 (f (off + i))) := rowcell hg (by omega)
    have hfro : w.frozen? ⟨B, off + i, none⟩ = false := by simp [World.frozen?, hg]
    have hst : (store ((⟨B, off, none⟩ : Addr).add i) (.int .i64 v)).run P w = .ok () (w.setRow B (arr n (upd f (off + i) v))) := by
      rw [add_off, run_store P w _ _ _ rfl, hcell]
      simp [hfro, setCell_eq_setRow w B (off + i) _ T (0, 0) _ hg, arr_set]
    have ih := run_storeCells_arr B T n vs off (upd f (off + i) v) (w.setRow B (arr n (upd f (off + i) v))) (i + 1) (setRow_heap w B _ _ T _ hg) (by omega)
    simp only [List.map_cons, storeCells, Sem.run_bind, hst, Result.andThen_ok, ih, setRow_setRow]
    congr 2
    refine arr_congr fun j hj => ?_
    simp only [List.length_cons]
    by_cases h1 : off + i ≤ j ∧ j < off + i + (vs.length + 1)
    · rw [if_pos h1]
      by_cases h2 : j = off + i
      · subst h2
        rw [if_neg (by omega), upd_same]
        simp
      · rw [if_pos (by omega)]
        have : j - off - i = (j - off - (i + 1)) + 1 := by omega
        rw [this]
        rfl
    · rw [if_neg h1, if_neg (by omega), upd_other _ _ _ _ (by omega)]

theorem arr_toList (m : Nat) (g : Nat → Int) : (arr m g).toList = ((List.range m).map g).map (Value.int .i64) := by
  have := range_arr m g
  rw [← this]
  simp [Function.comp_def]

theorem run_storeVar_arr (w : World) (B off : Nat) (T ty : TypeId) (n m : Nat) (f g : Nat → Int) (hg : w.heap[B]? = some (.cells (arr n f) T (0, 0))) (hi : (P.info? ty).map (·.size) = some m) (hle : off + m ≤ n) :
    (storeVar ty ⟨B, off, none⟩ (.agg (arr m g))).run P w = .ok () (w.setRow B (arr n (updN f off m g))) := by
  have h := run_storeCells_arr (P := P) B T n ((List.range m).map g) off f w 0 hg (by simpa using hle)
  rw [← arr_toList] at h
  have e : (arr n fun j => if off + 0 ≤ j ∧ j < off + 0 + ((List.range m).map g).length then ((List.range m).map g).getD (j - off - 0) 0 else f j) = arr n (updN f off m g) := by
    refine arr_congr fun j hj => ?_
    unfold updN
    simp only [Nat.add_zero, List.length_map, List.length_range, Nat.sub_zero]
    by_cases h1 : off ≤ j ∧ j < off + m
    · rw [if_pos h1, if_pos h1]
      have : j - off < m := by omega
      simp [List.getD, this]
    · rw [if_neg h1, if_neg h1]
  rw [e] at h
  cases hq : P.info? ty with
  | none => simp [hq] at hi
  | some i =>
    have hs : i.size = m := by simpa [hq] using hi
    simp [storeVar, sizeOf, typeInfo, hq, Value.cells, hs, arr_size, h]

theorem wpList_storeA {ops : Array Oper} {rest : List Oper} {o : Oper} {a : Act} {w : World} {Q : Exit → Act → World → Prop} (hgd : o.guard = none) (ty : TypeId) (x y : Operand) (ho : o.op = .store ty x y)
    (B off : Nat) (hx : a.eval x = .pointer (some ⟨B, off, none⟩)) {m : Nat} {g : Nat → Int} (hy : a.eval y = .agg (arr m g)) {T : TypeId} {n : Nat} {f : Nat → Int} (hg : w.heap[B]? = some (.cells (arr n f) T (0, 0)))
    (hi : (P.info? ty).map (·.size) = some m) (hle : off + m ≤ n) (h : wpList P ops Q rest (a.put o.dst undef) (w.setRow B (arr n (updN f off m g)))) : wpList P ops Q (o :: rest) a w :=
  wpList_plain hgd fun _ hK => by
    unfold Oper.wp execOp
    simp only [ho, hx, hy, Instr.storeAt, Instr.sureAddr, Sem.run_bind, Sem.run_pure, Result.andThen_ok, run_storeVar_arr w B off T ty n m f g hg hi hle]
    exact hK _ _ h

theorem updN_all (f g : Nat → Int) (n : Nat) : arr n (updN f 0 n g) = arr n g := by
  refine arr_congr fun j hj => ?_
  unfold updN
  rw [if_pos (by omega)]
  rfl

/-- The whole of a row. -/
theorem wpList_storeW {ops : Array Oper} {rest : List Oper} {o : Oper} {a : Act} {w : World} {Q : Exit → Act → World → Prop} (hgd : o.guard = none) (ty : TypeId) (x y : Operand) (ho : o.op = .store ty x y)
    (B : Nat) (hx : a.eval x = .pointer (some ⟨B, 0, none⟩)) {n : Nat} {g : Nat → Int} (hy : a.eval y = .agg (arr n g)) {T : TypeId} {f : Nat → Int} (hg : w.heap[B]? = some (.cells (arr n f) T (0, 0)))
    (hi : (P.info? ty).map (·.size) = some n) (h : wpList P ops Q rest (a.put o.dst undef) (w.setRow B (arr n g))) : wpList P ops Q (o :: rest) a w :=
  wpList_storeA hgd ty x y ho B 0 hx hy hg hi (by omega) (by rw [updN_all]; exact h)

/-- One int. -/
theorem wpList_storeI {ops : Array Oper} {rest : List Oper} {o : Oper} {a : Act} {w : World} {Q : Exit → Act → World → Prop} (hgd : o.guard = none) (ty : TypeId) (x y : Operand) (ho : o.op = .store ty x y)
    (B off : Nat) (hx : a.eval x = .pointer (some ⟨B, off, none⟩)) {v : Int} (hy : a.eval y = .int .i64 v) {T : TypeId} {n : Nat} {f : Nat → Int} (hg : w.heap[B]? = some (.cells (arr n f) T (0, 0)))
    (hi : (P.info? ty).map (·.size) = some 1) (hle : off < n) (h : wpList P ops Q rest (a.put o.dst undef) (w.setRow B (arr n (upd f off v)))) : wpList P ops Q (o :: rest) a w :=
  wpList_plain hgd fun _ hK => by
    have h1 := run_storeCells_arr (P := P) B T n [v] off f w 0 hg (by simp; omega)
    have e : (arr n fun j => if off + 0 ≤ j ∧ j < off + 0 + [v].length then [v].getD (j - off - 0) 0 else f j) = arr n (upd f off v) := by
      refine arr_congr fun j hj => ?_
      unfold upd
      by_cases hj : j = off
      · subst hj; simp
      · rw [if_neg hj, if_neg (by simp; omega)]
    rw [e] at h1
    have hs : (storeVar ty ⟨B, off, none⟩ (.int .i64 v)).run P w = .ok () (w.setRow B (arr n (upd f off v))) := by
      cases hq : P.info? ty with
      | none => simp [hq] at hi
      | some i =>
        have hs : i.size = 1 := by simpa [hq] using hi
        simp only [List.map_cons, List.map_nil] at h1
        simp [storeVar, sizeOf, typeInfo, hq, Value.cells, hs, h1]
    unfold Oper.wp execOp
    simp only [ho, hx, hy, Instr.storeAt, Instr.sureAddr, Sem.run_bind, Sem.run_pure, Result.andThen_ok, hs]
    exact hK _ _ h

/-! ### new rows -/
theorem wpList_allocA {ops : Array Oper} {rest : List Oper} {o : Oper} {a : Act} {w : World} {Q : Exit → Act → World → Prop} (hgd : o.guard = none) (ty : TypeId) (ho : o.op = .alloc ty) (n : Nat)
    (hz : ((P.info? ty).bind (·.zero)).map (·.cells) = some (arr n fun _ => 0))
    (h : wpList P ops Q rest (a.put o.dst (.pointer (some ⟨w.heap.size, 0, none⟩))) (w.alloc (.cells (arr n fun _ => 0) ty))) : wpList P ops Q (o :: rest) a w :=
  wpList_plain hgd fun _ hK => by
    have hr : (Instr.alloc ty true (.tuple #[])).run P w = .ok (.pointer (some ⟨w.heap.size, 0, none⟩)) (w.alloc (.cells (arr n fun _ => 0) ty)) := by
      cases hq : P.info? ty with
      | none => simp [hq] at hz
      | some i =>
        cases hz2 : i.zero with
        | none => simp [hq, hz2] at hz
        | some z =>
          simp only [hq, hz2, Option.bind_some, Option.map_some, Option.some.injEq] at hz
          simp [Instr.alloc, zeroValue, typeInfo, hq, hz2, newVar, newRow, hz]
    unfold Oper.wp execOp
    simp only [ho, Sem.run_bind, hr, Result.andThen_ok, Sem.run_pure]
    exact hK _ _ h

theorem wpList_build0 {ops : Array Oper} {rest : List Oper} {o : Oper} {a : Act} {w : World} {Q : Exit → Act → World → Prop} (hgd : o.guard = none) (ty : TypeId) (ho : o.op = .build ty #[]) (n : Nat)
    (hz : P.built ty [] = some (arr n fun _ => 0))
    (h : wpList P ops Q rest (a.put o.dst (.agg (arr n fun _ => 0))) w) : wpList P ops Q (o :: rest) a w :=
  wpList_build hgd ty #[] ho (by simp [hz]) (by simpa [hz] using h)

/-! ### results that lie in memory -/
theorem results_cellA {fn : Func} {p : Tmp} {ty : TypeId} (h : fn.results = #[.cell p ty]) (tmps : Array Value) (w : World) (B : Nat) (T : TypeId) (n : Nat) (f : Nat → Int) (fr : Nat × Nat)
    (hp : tmps.getD p undef = .pointer (some ⟨B, 0, none⟩)) (hg : w.heap[B]? = some (.cells (arr n f) T fr)) (hd : aggB P ty = true) (hi : (P.info? ty).map (·.size) = some n) :
    (results fn tmps).run P w = .ok (.agg (arr n f)) w := by
  have hp' : tmps[p]?.getD undef = .pointer (some ⟨B, 0, none⟩) := by simpa using hp
  have hl := run_loadVar_arr (P := P) w B 0 T ty fr n n f hg hd hi (by omega)
  simp only [Nat.zero_add] at hl
  simp [results, h, hp', asAddr, hl]

theorem wpStill_loadA {ops : Array Oper} {rest : List Oper} {o : Oper} {a : Act} {w : World} {Q : Act → Prop} (hgd : o.guard = none) (ty : TypeId) (x : Operand) (ho : o.op = .load ty x)
    (B off : Nat) (hx : a.eval x = .pointer (some ⟨B, off, none⟩)) {T : TypeId} {fr : Nat × Nat} {n : Nat} {f : Nat → Int} (hg : w.heap[B]? = some (.cells (arr n f) T fr)) (m : Nat) (hd : aggB P ty = true)
    (hi : (P.info? ty).map (·.size) = some m) (hle : off + m ≤ n) (h : wpStill P ops w Q rest (a.put o.dst (.agg (arr m fun j => f (off + j))))) : wpStill P ops w Q (o :: rest) a := by
  refine wpStill_step fun K hK => ?_
  have hw : Region.wanted o (yielded ops a.tmps) = true := by simp [Region.wanted, hgd]
  rw [if_pos hw]
  unfold Oper.still execOp
  simp only [ho, hx, Instr.loadAt, Instr.sureAddr, Sem.run_bind, Sem.run_pure, Result.andThen_ok, run_loadVar_arr w B off T ty fr n m f hg hd hi hle]
  exact ⟨rfl, hK _ h⟩

theorem copy_step (n m k : Nat) (g : Nat → Int) : arr n (updN (fun j => if j < m * k then g j else 0) (k * m) m fun j => g (k * m + j)) = arr n fun j => if j < m * (k + 1) then g j else 0 := by
  refine arr_congr fun j _ => ?_
  unfold updN
  have e0 : m * (k + 1) = k * m + m := by rw [Nat.mul_add, Nat.mul_comm]; omega
  have e1 : m * k = k * m := Nat.mul_comm _ _
  dsimp only
  rw [e0, e1]
  by_cases e : k * m ≤ j ∧ j < k * m + m
  · rw [if_pos e, if_pos e.2]
    congr 1
    omega
  · rw [if_neg e]
    by_cases e2 : j < k * m
    · rw [if_pos e2, if_pos (by omega)]
    · rw [if_neg e2, if_neg (by omega)]
theorem copy_done (n N : Nat) (g : Nat → Int) (h : n ≤ N) : (arr n fun j => if j < N then g j else 0) = arr n g := arr_congr fun j hj => by rw [if_pos (by omega)]

theorem arr_one (x : Int) : #[Value.int .i64 x] = arr 1 (fun _ => x) := by
  refine Array.ext_getElem? fun i => ?_
  rw [arr_get]
  cases i with
  | zero => rfl
  | succ i => rw [if_neg (by omega)]; rfl
theorem arr_two (x y : Int) : #[Value.int .i64 x, Value.int .i64 y] = arr 2 (fun j => if j = 0 then x else y) := by
  refine Array.ext_getElem? fun i => ?_
  rw [arr_get]
  match i with
  | 0 => rfl
  | 1 => rfl
  | i + 2 => rw [if_neg (by omega)]; rfl
theorem below_of_alloc {w w1 : World} {o : Obj} (hb : Below (w.alloc o).heap.size (w.alloc o) w1) : Below w.heap.size w w1 := ((Below.refl _ _).alloc (Nat.le_refl _) o).trans (hb.mono (by simp))
theorem below_of_drew {w w1 : World} (hb : Below w.drew.heap.size w.drew w1) : Below w.heap.size w w1 := (Below.refl _ _).drew.trans hb
theorem below_setRow2 {K g : Nat} {w0 w : World} (hb : Below K w0 w) (hBg : K ≤ g) (cs : Array Value) : Below K w0 (w.setRow g cs) :=
  hb.trans ⟨rfl, rfl, rfl, by simp, fun k hk => setRow_other w g k cs (by omega)⟩
end Go.Proofs.YtlbgmkengkgnfaaDoor
