/- Slices of ints, and of rows of ints, that a call has made: append. -/
import Derived.Test.YtlbgmkengkgnfaaMem2
import Derived.Test.YtlbgmkengkgnfaaFloat
import Derived.Laws.Append
import Derived.Laws.AppendOwn
import Derived.IntWalk
namespace Go.Proofs.Ytlbgmkengkgnfaa
set_option linter.unusedSimpArgs false
set_option linter.unusedVariables false
set_option maxRecDepth 20000
open Go.RowKit
variable {P : Program}
/-- v is a slice of n elements of s ints each (the first n * s values of f): nil, or in a block from base on. -/
def Sl (w : World) (base : Nat) (e : TypeId) (s : Nat) (v : Value) (n : Nat) (f : Nat → Int) : Prop :=
  (v = .slice none 0 0 ∧ n = 0) ∨ ∃ g cap F, v = .slice (some ⟨g, 0, none⟩) n cap ∧ base ≤ g ∧ w.heap[g]? = some (.cells (arr (cap * s) F) e (0, 0)) ∧ n ≤ cap ∧ cap ≤ maxLen ∧ ∀ j, j < n * s → F j = f j
/-- g behind the first k values of f. -/
def app (f : Nat → Int) (k : Nat) (g : Nat → Int) : Nat → Int := fun j => if j < k then f j else g (j - k)
theorem arr_append (n m : Nat) (f g : Nat → Int) : arr n f ++ arr m g = arr (n + m) (app f n g) := by
  refine Array.ext_getElem? fun i => ?_
  rw [Array.getElem?_append, arr_size, arr_get, arr_get, arr_get]
  unfold app
  by_cases h : i < n
  · rw [if_pos h, if_pos h, if_pos (by omega), if_pos h]
  · rw [if_neg h, if_neg h]
    by_cases h2 : i < n + m
    · rw [if_pos h2, if_pos (by omega)]
    · rw [if_neg h2, if_neg (by omega)]
theorem zeroCells_arr (s k : Nat) (hs : 0 < s) : Builtin.zeroCells (arr s fun _ => 0) k = arr (k * s) fun _ => 0 := by
  refine Array.ext_getElem? fun i => ?_
  unfold Builtin.zeroCells
  rw [arr_get, arr_size]
  by_cases h : i < k * s
  · have h1 : (arr s fun _ => 0)[i % s]! = Value.int .i64 0 := by
      have hm := Nat.mod_lt i hs
      rw [getElem!_def, arr_get, if_pos hm]
    rw [if_pos h]
    simp [h, h1]
  · rw [if_neg h]
    simp; omega
theorem arr_list_get (n : Nat) (f : Nat → Int) (j : Nat) : (arr n f).toList[j]? = if j < n then some (.int .i64 (f j)) else none := by
  rw [Array.getElem?_toList, arr_get]
theorem news_arr {w : World} {B off N m : Nat} {g : Nat → Int} {T : TypeId} {fr : Nat × Nat} (hB : w.heap[B]? = some (.cells (arr N g) T fr)) (hle : off + m ≤ N) :
    ∀ j u, (arr m fun j => g (off + j)).toList[j]? = some u → w.cell? ((⟨B, off, none⟩ : Addr).add j) = some u := fun j u hu => by
  rw [arr_list_get] at hu
  split at hu
  · rename_i h
    simp only [Option.some.injEq] at hu
    subst hu
    rw [add_off]
    exact rowcell hB (by omega)
  · cases hu
theorem arr_take (n k : Nat) (f : Nat → Int) (h : k ≤ n) : (arr n f).toList.take k = (arr k f).toList := by
  refine List.ext_getElem? fun j => ?_
  rw [List.getElem?_take, arr_list_get, arr_list_get]
  by_cases h1 : j < k
  · rw [if_pos h1, if_pos (by omega), if_pos h1]
  · rw [if_neg h1, if_neg h1]
theorem arr_splice (n k m : Nat) (F g : Nat → Int) (h : k + m ≤ n) : ((arr n F).toList.take k ++ (arr m g).toList ++ (arr n F).toList.drop (k + m)).toArray = arr n (updN F k m g) := by
  refine Array.ext_getElem? fun j => ?_
  rw [arr_take n k F (by omega), List.getElem?_toArray, arr_get]
  unfold updN
  by_cases h1 : j < k
  · rw [List.getElem?_append_left (by simp [arr_size]; omega), List.getElem?_append_left (by simp [arr_size]; omega), arr_list_get, if_pos h1, if_pos (by omega), if_neg (by omega)]
  · by_cases h2 : j < k + m
    · rw [List.getElem?_append_left (by simp [arr_size]; omega), List.getElem?_append_right (by simp [arr_size]; omega), arr_list_get]
      simp only [Array.length_toList, arr_size]
      rw [if_pos (by omega), if_pos (by omega), if_pos (by omega)]
    · rw [List.getElem?_append_right (by simp [arr_size]; omega), List.getElem?_drop, arr_list_get]
      simp only [List.length_append, Array.length_toList, arr_size]
      rw [show k + m + (j - (k + m)) = j by omega]
      by_cases h3 : j < n
      · rw [if_pos h3, if_pos h3, if_neg (by omega)]
      · rw [if_neg h3, if_neg h3]
/-- Slices of type t have elements of type e, of s ints and b bytes. -/
structure SlOK (P : Program) (t e : TypeId) (s b : Nat) : Prop where
  ht : P.underlying t = some (.slice e)
  hi : ((P.info? e).map fun i => (i.size, i.bytes)) = some (s, b)
  hz : ((P.info? e).bind (·.zero)).map (·.cells) = some (arr s fun _ => 0)
theorem run_append_Sl {t ty e : TypeId} {s b : Nat} (hT : SlOK P t e s b) (hs0 : 0 < s) {w : World} {base : Nat} {v : Value} {n : Nat} {f : Nat → Int} (hS : Sl w base e s v n f)
    {B off N m c : Nat} {g : Nat → Int} {T : TypeId} {fr : Nat × Nat} (hB : w.heap[B]? = some (.cells (arr N g) T fr)) (hle : off + m * s ≤ N) (hm : 0 < m) (h63 : n + m ≤ maxLen) (hby : (n + m) * b ≤ 140737488355328) (hbase : base ≤ w.heap.size) :
    ∃ v' w', (Builtin.append_ #[t, t] ty #[v, .slice (some ⟨B, off, none⟩) m c]).run P w = .ok v' w' ∧ Sl w' base e s v' (n + m) (app f (n * s) fun j => g (off + j)) ∧ Below base w w' ∧ (∀ k, k < w.heap.size → some k ≠ v.ownBlock → w'.heap[k]? = w.heap[k]?) := by
  obtain ⟨ht, hi0, hz0⟩ := hT
  cases hi : P.info? e with
  | none => simp [hi] at hi0
  | some i =>
  cases hz : i.zero with
  | none => simp [hi, hz] at hz0
  | some z =>
  simp only [hi, hz, Option.map_some, Option.bind_some, Option.some.injEq, Prod.mk.injEq] at hi0 hz0
  obtain ⟨rfl, rfl⟩ := hi0
  have hnews := news_arr hB hle
  have hl : (arr (m * i.size) fun j => g (off + j)).toList.length = m * i.size := by simp [arr_size]
  have hsm : n + m ≤ 9223372036854775807 := by simp only [maxLen] at h63; omega
  have grown : ∀ (old : Nat) (F : Nat → Int), (∀ j, j < n * i.size → F j = f j) → ∃ cap F', (((arr (n * i.size) F).toList.toArray ++ (arr (m * i.size) fun j => g (off + j)).toList.toArray ++ Builtin.zeroCells z.cells (grownCap w (n + m) old e - (n + m))) = arr (cap * i.size) F') ∧ cap = grownCap w (n + m) old e ∧ n + m ≤ cap ∧ cap ≤ maxLen ∧ ∀ j, j < (n + m) * i.size → F' j = app f (n * i.size) (fun j => g (off + j)) j := by
    intro old F hF
    have hge := grownCap_ge w (n + m) old e
    have hcm := grownCap_le_maxLen w (n + m) old e h63
    refine ⟨_, app (app F (n * i.size) fun j => g (off + j)) (n * i.size + m * i.size) (fun _ => 0), ?_, rfl, hge, hcm, fun j hj => ?_⟩
    · rw [hz0, zeroCells_arr _ _ hs0, Array.toArray_toList, Array.toArray_toList, arr_append, arr_append]
      congr 1
      rw [← Nat.add_mul, ← Nat.add_mul]
      congr 1
      omega
    · rw [Nat.add_mul] at hj
      unfold app
      rw [if_pos hj]
      split
      · rw [hF j (by assumption)]
      · rfl
  rcases hS with ⟨rfl, rfl⟩ | ⟨q, cap, F, rfl, hbg, hg, hnc, hcm, hF⟩
  · obtain ⟨cap, F', hc, hcap, h1, h2, h3⟩ := grown 0 f (fun _ _ => rfl)
    have hr := run_append_nil (P := P) w t ty e i z ht hi hz ⟨B, off, none⟩ m c _ hl hnews hm (by omega) (by have hb := hby; simp only [Nat.zero_add] at hb; omega)
    have e0 : (arr (0 * i.size) f).toList.toArray = #[] := by
      refine Array.ext_getElem? fun k => ?_
      rw [Array.toArray_toList, arr_get, if_neg (by omega)]; rfl
    rw [e0, Array.empty_append] at hc
    simp only [Nat.zero_add] at *
    rw [hc, ← hcap] at hr
    exact ⟨_, _, hr, .inr ⟨w.heap.size, cap, F', rfl, hbase, heap_alloc_new w.drew _, h1, h2, h3⟩, ⟨rfl, rfl, rfl, by simp, fun k hk => Below.heap_alloc w.drew _ k (show k < w.heap.size by omega)⟩, fun k hk _ => Below.heap_alloc w.drew _ k hk⟩
  · by_cases hroom : n + m ≤ cap
    · have hfit : n * i.size + (arr (m * i.size) fun j => g (off + j)).toList.length ≤ (arr (cap * i.size) F).size := by rw [hl, arr_size, ← Nat.add_mul]; exact Nat.mul_le_mul_right _ hroom
      have hr := run_append_room (P := P) w t ty e i ht hi q n cap _ hg ⟨B, off, none⟩ m c _ hl hnews (oneCell_arr _ _) hroom hfit
      rw [hl, arr_splice _ _ _ _ _ (by rw [← Nat.add_mul]; exact Nat.mul_le_mul_right _ hroom)] at hr
      refine ⟨_, _, hr, .inr ⟨q, cap, _, rfl, hbg, setRow_heap w q _ _ e _ hg, hroom, hcm, fun j hj => ?_⟩, ⟨rfl, rfl, rfl, by simp, fun k hk => setRow_other w q k _ (by omega)⟩, fun k _ hk => setRow_other w q k _ (fun e => hk (by simp [Value.ownBlock, e]))⟩
      rw [Nat.add_mul] at hj
      unfold updN app
      by_cases h1 : j < n * i.size
      · rw [if_neg (by omega), if_pos h1, hF j h1]
      · rw [if_pos (by omega), if_neg h1]
    · obtain ⟨cap', F', hc, hcap, h1, h2, h3⟩ := grown cap F hF
      have hr := run_append_grow (P := P) w t ty e i z ht hi hz ⟨q, 0, none⟩ n cap (arr (n * i.size) F).toList (by simp [arr_size]) (fun j u hu => by
          have := news_arr (off := 0) hg (by rw [Nat.zero_add]; exact Nat.mul_le_mul_right _ hnc) j u (by simpa using hu)
          exact this) ⟨B, off, none⟩ m c _ hl hnews (by omega) (by omega) (growslice_fits (by omega) hby)
      rw [hc, ← hcap] at hr
      exact ⟨_, _, hr, .inr ⟨w.heap.size, cap', F', rfl, hbase, heap_alloc_new w.drew _, h1, h2, h3⟩, ⟨rfl, rfl, rfl, by simp, fun k hk => Below.heap_alloc w.drew _ k (show k < w.heap.size by omega)⟩, fun k hk _ => Below.heap_alloc w.drew _ k hk⟩
/-- append, at the walk. -/
theorem wpList_appendS {ops : Array Oper} {rest : List Oper} {o : Oper} {a : Act} {Q : Exit → Act → World → Prop} {t e : TypeId} {s b : Nat} (hT : SlOK P t e s b) (hs0 : 0 < s) (hgd : o.guard = none) (y x : Operand)
    (ho : o.op = .call { callee := .builtin .append, args := #[y, x], argTypes := #[t, t] })
    {w : World} {base : Nat} {v : Value} {n : Nat} {f : Nat → Int} (hy : a.eval y = v) (hS : Sl w base e s v n f)
    {B off N m c : Nat} {g : Nat → Int} {T : TypeId} {fr : Nat × Nat} (hx : a.eval x = .slice (some ⟨B, off, none⟩) m c) (hB : w.heap[B]? = some (.cells (arr N g) T fr)) (hle : off + m * s ≤ N) (hm : 0 < m) (h63 : n + m ≤ maxLen) (hby : (n + m) * b ≤ 140737488355328) (hbase : base ≤ w.heap.size)
    (h : ∀ v' w', Sl w' base e s v' (n + m) (app f (n * s) fun j => g (off + j)) → Below base w w' → wpList P ops Q rest (a.put o.dst v') w') : wpList P ops Q (o :: rest) a w :=
  wpList_plain hgd fun _ hK => by
    obtain ⟨v', w', hr, h2, h3, _⟩ := run_append_Sl (P := P) (ty := o.type) (c := c) hT hs0 hS hB hle hm h63 hby hbase
    unfold Oper.wp execOp
    simp only [ho, resolve, invoke, builtin, Sem.run_bind, Sem.run_pure, Result.andThen_ok, List.map_toArray, List.map_cons, List.map_nil, hy, hx, hr]
    exact hK _ _ (h v' w' h2 h3)
/-- len, at the walk. -/
theorem run_lenS {t e : TypeId} (ht : P.underlying t = some (.slice e)) {w w0 : World} {base : Nat} {e' : TypeId} {s : Nat} {v : Value} {n : Nat} {f : Nat → Int} (hS : Sl w0 base e' s v n f) (ty : TypeId) :
    (Builtin.len_ #[t] ty #[v]).run P w = .ok (.int .i64 n) w := by
  rcases hS with ⟨rfl, rfl⟩ | ⟨g, cap, F, rfl, _⟩
  · simp [Builtin.len_, run_underlying ht, goInt]
  · simp [Builtin.len_, run_underlying ht, goInt]
theorem wpList_lenS {ops : Array Oper} {rest : List Oper} {o : Oper} {a : Act} {Q : Exit → Act → World → Prop} {t e : TypeId} (ht : P.underlying t = some (.slice e)) (hw : Region.wanted o (yielded ops a.tmps) = true) (x : Operand)
    (ho : o.op = .call { callee := .builtin .len, args := #[x], argTypes := #[t] })
    {w w0 : World} {base : Nat} {e' : TypeId} {s : Nat} {v : Value} {n : Nat} {f : Nat → Int} (hx : a.eval x = v) (hS : Sl w0 base e' s v n f)
    (h : wpList P ops Q rest (a.put o.dst (.int .i64 n)) w) : wpList P ops Q (o :: rest) a w :=
  wpList_step fun K hK => by
    rw [if_pos hw]
    have hr := run_lenS (P := P) ht hS o.type (w := w)
    unfold Oper.wp execOp
    simp only [ho, resolve, invoke, builtin, Sem.run_bind, Sem.run_pure, Result.andThen_ok, List.map_toArray, List.map_cons, List.map_nil, hx, hr]
    exact hK _ _ h
theorem Sl.keep {w w' : World} {base : Nat} {e : TypeId} {s : Nat} {v : Value} {n : Nat} {f : Nat → Int} (h : Sl w base e s v n f) (hb : Below w.heap.size w w') : Sl w' base e s v n f := by
  rcases h with h | ⟨g, cap, F, rfl, h1, h2, h3⟩
  · exact .inl h
  · exact .inr ⟨g, cap, F, rfl, h1, row_keep hb h2, h3⟩
theorem Sl.below {w w' : World} {base K : Nat} {e : TypeId} {s : Nat} {v : Value} {n : Nat} {f : Nat → Int} (h : Sl w base e s v n f) (hb : Below K w w') (hk : w.heap.size ≤ K) : Sl w' base e s v n f := h.keep (hb.mono hk)
theorem Sl.lower {w : World} {base base' : Nat} {e : TypeId} {s : Nat} {v : Value} {n : Nat} {f : Nat → Int} (h : Sl w base e s v n f) (hb : base' ≤ base) : Sl w base' e s v n f := by
  rcases h with h | ⟨g, cap, F, rfl, h1, h2, h3⟩
  · exact .inl h
  · exact .inr ⟨g, cap, F, rfl, by omega, h2, h3⟩
theorem Sl.congr {w : World} {base : Nat} {e : TypeId} {s : Nat} {v : Value} {n n' : Nat} {f f' : Nat → Int} (h : Sl w base e s v n f) (hn : n = n') (hf : ∀ j, j < n * s → f j = f' j) : Sl w base e s v n' f' := by
  subst hn
  rcases h with h | ⟨g, cap, F, rfl, h1, h2, h3, h4, h5⟩
  · exact .inl h
  · exact .inr ⟨g, cap, F, rfl, h1, h2, h3, h4, fun j hj => by rw [h5 j hj, hf j hj]⟩
/-- The block of a slice that has elements. -/
theorem Sl.blk {w : World} {base : Nat} {e : TypeId} {s : Nat} {v : Value} {n : Nat} {f : Nat → Int} (h : Sl w base e s v n f) (hn : 0 < n) :
    ∃ g cap F, v = .slice (some ⟨g, 0, none⟩) n cap ∧ base ≤ g ∧ w.heap[g]? = some (.cells (arr (cap * s) F) e (0, 0)) ∧ n ≤ cap ∧ cap ≤ maxLen ∧ ∀ j, j < n * s → F j = f j := by
  rcases h with h | h
  · omega
  · exact h
/-- What a function returns that hands back such a slice. -/
def RetSl (w : World) (e : TypeId) (s n : Nat) (f : Nat → Int) (x : Ending) (w' : World) : Prop := ∃ v, x = .returned v ∧ Sl w' w.heap.size e s v n f ∧ Below w.heap.size w w'
def RetSlB (w : World) (e : TypeId) (s n : Nat) (f : Nat → Int) (b : Bool) (x : Ending) (w' : World) : Prop := ∃ v, x = .returned (.tuple #[v, .bool b]) ∧ Sl w' w.heap.size e s v n f ∧ Below w.heap.size w w'
/-- A sum or difference that is a small number. -/
theorem wrapN {x : Int} {n : Nat} (h : x = n) (hn : n < 4611686018427387904) : IntKind.i64.wrap x = (n : Int) := by
  rw [IntWalk.i64_in _ (by omega)]; exact h
theorem Cls.b {w0 W : World} {l : List (Nat × Obj)} (h : Cls w0 l W) : Below w0.heap.size w0 W := h.2
theorem Cls.kp {w0 W : World} {l : List (Nat × Obj)} {B : Nat} {o : Obj} (h : Cls w0 l W) (hr : w0.heap[B]? = some o) : W.heap[B]? = some o := row_keep h.2 hr
end Go.Proofs.Ytlbgmkengkgnfaa
