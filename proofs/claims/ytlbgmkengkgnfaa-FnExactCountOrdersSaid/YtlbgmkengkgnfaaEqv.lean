/- Comparing arrays of ints, arrays of these, and structs of one such field, by ==. -/
import Derived.Test.YtlbgmkengkgnfaaFloat
import Derived.Test.YtlbgmkengkgnfaaIdx
import Derived.ChangeKeysEq
import Derived.Laws.StructEq
namespace Go.Proofs.Ytlbgmkengkgnfaa
set_option linter.unusedSimpArgs false
set_option linter.unusedVariables false
set_option maxRecDepth 20000
open Go.RowKit
variable {P : Program}
def eqv (n : Nat) (f g : Nat → Int) : Bool := (List.range n).all fun j => f j == g j
theorem eqv_iff {n : Nat} {f g : Nat → Int} : eqv n f g = true ↔ ∀ j, j < n → f j = g j := by
  unfold eqv
  rw [List.all_eq_true]
  exact ⟨fun h j hj => by simpa using h j (List.mem_range.2 hj), fun h j hj => by simpa using h j (List.mem_range.1 hj)⟩
theorem eqv_arr {n : Nat} {f g : Nat → Int} : eqv n f g = true ↔ arr n f = arr n g := by
  rw [eqv_iff]
  refine ⟨fun h => arr_congr h, fun h j hj => ?_⟩
  have h1 := arr_get n f j
  rw [h, arr_get, if_pos hj, if_pos hj] at h1
  simpa using h1.symm
/-- Type t is compared value by value: n of them, from depth k on. -/
structure EqA (P : Program) (t : TypeId) (n k : Nat) : Prop where
  agg : aggB P t = true
  size : (P.info? t).map (·.size) = some n
  run : ∀ (d : Nat) (f g : Nat → Int) (w : World), (Op.equalIn (d + k) t (.agg (arr n f)) (.agg (arr n g))).run P w = .ok (eqv n f g) w
theorem run_partA {e : TypeId} {m N off : Nat} {F : Nat → Int} (ha : aggB P e = true) (hs : (P.info? e).map (·.size) = some m) (hle : off + m ≤ N) (w : World) :
    (part e (arr N F) off).run P w = .ok (.agg (arr m fun j => F (off + j))) w := by
  cases hq : P.info? e with
  | none => simp [hq] at hs
  | some i =>
    have hs' : i.size = m := by simpa [hq] using hs
    simp [part, Sem.run_bind, run_isAgg ha, sizeOf, typeInfo, hq, hs', extract_arr N off m F hle]
theorem run_partI {e : TypeId} {N off : Nat} {F : Nat → Int} (hd : aggB P e = false) (hu : (P.underlying e).isSome = true) (hle : off < N) (w : World) :
    (part e (arr N F) off).run P w = .ok (.int .i64 (F off)) w := by
  have hagg : (isAgg e).run P w = .ok false w := by
    unfold aggB at hd
    unfold isAgg
    cases hq : P.underlying e with
    | none => simp [hq] at hu
    | some d =>
      rw [Sem.run_bind, run_underlying hq w]
      cases d <;> simp_all
  have hg := arr_get N F off
  rw [if_pos hle] at hg
  simp [part, Sem.run_bind, hagg, hg]
theorem run_items (d : Nat) (e : TypeId) (c : Nat) (xs ys : Array Value) (q : Nat → Bool) (w : World) : ∀ (is : List Nat),
    (∀ i, i ∈ is → ∃ a b, (part e xs (i * c)).run P w = .ok a w ∧ (part e ys (i * c)).run P w = .ok b w ∧ (Op.equalIn d e a b).run P w = .ok (q i) w) →
    (Op.eqItems d e c xs ys is).run P w = .ok (is.all q) w
  | [], _ => by simp [Op.eqItems]
  | i :: is, h => by
    obtain ⟨a, b, h1, h2, h3⟩ := h i (.head _)
    have ih := run_items d e c xs ys q w is fun j hj => h j (.tail _ hj)
    simp only [Op.eqItems, Sem.run_bind, h1, h2, h3, Result.andThen_ok, List.all_cons]
    cases q i <;> simp [ih]
theorem EqA.ints {t e : TypeId} {n : Nat} (ha : aggB P t = true) (hs : (P.info? t).map (·.size) = some n) (ht : P.underlying t = some (.array n e)) (he : P.underlying e = some (.int .i64)) (hi : (P.info? e).map (·.size) = some 1) (hc : P.cellsOf e = 1) : EqA P t n 2 := by
  refine ⟨ha, hs, fun d f g w => ?_⟩
  cases hq : P.info? e with
  | none => simp [hq] at hi
  | some i =>
    rw [show d + 2 = (d + 1) + 1 from rfl, run_equalIn_array w (d + 1) _ _ ht hq, hc]
    rw [run_items (d + 1) e 1 _ _ (fun j => f j == g j) w]
    · rfl
    · intro j hj
      have hj' := List.mem_range.1 hj
      rw [Nat.mul_one]
      have hd : aggB P e = false := by simp [aggB, he]
      exact ⟨_, _, run_partI hd (by simp [he]) hj' w, run_partI hd (by simp [he]) hj' w, run_equalIn_int w d e .i64 .i64 _ _ he⟩
theorem all_mul (len m : Nat) (f g : Nat → Int) : ((List.range len).all fun i => eqv m (fun j => f (i * m + j)) fun j => g (i * m + j)) = eqv (len * m) f g := by
  rw [Bool.eq_iff_iff, eqv_iff, List.all_eq_true]
  constructor
  · intro h j hj
    have hm : 0 < m := by rcases Nat.eq_zero_or_pos m with e | e
                          · subst e; omega
                          · exact e
    have h1 := eqv_iff.1 (h (j / m) (List.mem_range.2 (by rw [Nat.div_lt_iff_lt_mul hm]; exact hj))) (j % m) (Nat.mod_lt _ hm)
    have e : j / m * m + j % m = j := by rw [Nat.mul_comm]; exact Nat.div_add_mod j m
    rwa [e] at h1
  · intro h i hi
    have hi' := List.mem_range.1 hi
    refine eqv_iff.2 fun j hj => h _ ?_
    have : (i + 1) * m ≤ len * m := Nat.mul_le_mul_right m hi'
    rw [Nat.add_mul] at this
    omega
theorem EqA.arrays {t e : TypeId} {len m k : Nat} (h : EqA P e m k) (ha : aggB P t = true) (hs : (P.info? t).map (·.size) = some (len * m)) (ht : P.underlying t = some (.array len e)) (hc : P.cellsOf e = m) : EqA P t (len * m) (k + 1) := by
  refine ⟨ha, hs, fun d f g w => ?_⟩
  have hsz := h.size
  cases hq : P.info? e with
  | none => simp [hq] at hsz
  | some i =>
    rw [show d + (k + 1) = (d + k) + 1 from rfl, run_equalIn_array w (d + k) _ _ ht hq, hc]
    rw [run_items (d + k) e m _ _ (fun i => eqv m (fun j => f (i * m + j)) fun j => g (i * m + j)) w, all_mul]
    intro j hj
    have hj' := List.mem_range.1 hj
    have hle : j * m + m ≤ len * m := by
      have : (j + 1) * m ≤ len * m := Nat.mul_le_mul_right m hj'
      rw [Nat.add_mul] at this
      omega
    exact ⟨_, _, run_partA h.agg h.size hle w, run_partA h.agg h.size hle w, h.run d _ _ w⟩
theorem EqA.struct1 {t : TypeId} {f0 : Field} {n k : Nat} (h : EqA P f0.type n k) (ha : aggB P t = true) (hs : (P.info? t).map (·.size) = some n) (ht : P.underlying t = some (.struct #[f0])) (h0 : f0.offset = 0) (hn : f0.name ≠ "_") (hp : P.stoodInHeld t = false) : EqA P t n (k + 1) := by
  refine ⟨ha, hs, fun d f g w => ?_⟩
  have hf : P.fieldsOf t = #[f0] := by unfold Program.fieldsOf; rw [ht]
  rw [show d + (k + 1) = (d + k) + 1 from rfl, run_equalIn_struct w (d + k) t _ _ (by rw [hf]; exact ht) hp, hf]
  have p1 := run_partA (F := f) h.agg h.size (show 0 + n ≤ n by omega) w
  have p2 := run_partA (F := g) h.agg h.size (show 0 + n ≤ n by omega) w
  simp only [Nat.zero_add] at p1 p2
  have hr := h.run d f g w
  simp only [Op.eqFields, hn, ne_eq, not_false_eq_true, if_true, h0, Sem.run_bind, p1, p2, hr, Result.andThen_ok]
  cases eqv n f g <;> simp
theorem run_eqlA {t : TypeId} {n k : Nat} (h : EqA P t n k) (hk : k ≤ 10000) (f g : Nat → Int) (w : World) : (binOp .eql t (.agg (arr n f)) (.agg (arr n g))).run P w = .ok (.bool (eqv n f g)) w := by
  rw [run_eql_struct, show 10000 = (10000 - k) + k by omega, h.run]
  rfl
theorem run_neqA {t : TypeId} {n k : Nat} (h : EqA P t n k) (hk : k ≤ 10000) (f g : Nat → Int) (w : World) : (binOp .neq t (.agg (arr n f)) (.agg (arr n g))).run P w = .ok (.bool (!eqv n f g)) w := by
  rw [run_neq_struct, show 10000 = (10000 - k) + k by omega, h.run]
  rfl
theorem wpList_eqlA {ops : Array Oper} {rest : List Oper} {o : Oper} {a : Act} {w : World} {Q : Exit → Act → World → Prop} {t : TypeId} {n k : Nat} (h : EqA P t n k) (hk : k ≤ 10000) (hm : P.eqGuardType P.depth t = false) (hw : Region.wanted o (yielded ops a.tmps) = true) (x y : Operand) (t2 : TypeId) (ho : o.op = .binOp .eql t x y t2)
    {f g : Nat → Int} (hx : a.eval x = .agg (arr n f)) (hy : a.eval y = .agg (arr n g)) (hc : wpList P ops Q rest (a.put o.dst (.bool (eqv n f g))) w) : wpList P ops Q (o :: rest) a w :=
  wpList_step fun K hK => by
    rw [if_pos hw]
    have hr := run_eqlA h hk f g w
    have hg := run_eqGuard_agg (P := P) w .eql t x y (arr n f) (arr n g) hm
    unfold Oper.wp execOp
    simp only [ho, hx, hy, Sem.run_bind, hg, hr, Result.andThen_ok, Sem.run_pure]
    exact hK _ _ hc
theorem eqT : EqA Try.prog 22 4 2 := EqA.ints agg4 size4 Try.underlying22 Try.underlying3 size1 (by kernel_rfl)
theorem eqTs : EqA Try.prog 23 24 3 := EqA.arrays (len := 6) eqT agg24 size24 Try.underlying23 (by kernel_rfl)
theorem eqRk : EqA Try.prog 28 24 4 := EqA.struct1 eqTs agg24r size24r Try.underlying28 rfl (by decide) (by kernel_rfl)
theorem gdT : Try.prog.eqGuardType Try.prog.depth 22 = false := by kernel_rfl
theorem gdRk : Try.prog.eqGuardType Try.prog.depth 28 = false := by kernel_rfl
end Go.Proofs.Ytlbgmkengkgnfaa
