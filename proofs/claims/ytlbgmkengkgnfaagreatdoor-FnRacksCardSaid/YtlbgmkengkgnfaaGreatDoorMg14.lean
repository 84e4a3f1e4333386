/- A part (number 14) of the proof of the law FnRacks: what each of its sections proves stands in the section's own first remark. No conditions beside those that each theorem states. -/
import Derived.Laws.IdiomStrings
import Derived.Test.YtlbgmkengkgnfaaGreatDoorMg13
import Derived.Test.YtlbgmkengkgnfaaGreatDoorMg11
import Derived.Test.YtlbgmkengkgnfaaGreatDoorMg3
section
/- Slices of strings, read cell by cell; the laws' own comparing and marking of them. -/
namespace Go.Proofs.YtlbgmkengkgnfaaGreatDoor
set_option linter.unusedSimpArgs false
set_option linter.unusedVariables false
set_option maxRecDepth 20000
open Go.RowKit
/-- v is a slice of the strings l: nil, or in a block from base on. -/
def St (w : World) (base : Nat) (v : Value) (l : List ByteArray) : Prop :=
  (v = .slice none 0 0 ∧ l = []) ∨ ∃ g cap, v = .slice (some ⟨g, 0, none⟩) l.length cap ∧ base ≤ g ∧ g < w.heap.size ∧ l.length ≤ cap ∧ (∀ j, w.frozen? ⟨g, j, none⟩ = false) ∧ ∀ j x, l[j]? = some x → w.cell? ⟨g, j, none⟩ = some (.string x)
theorem St.keep {w w' : World} {base : Nat} {v : Value} {l : List ByteArray} (h : St w base v l) (hb : Below w.heap.size w w') : St w' base v l := by
  rcases h with h | ⟨g, cap, h1, h2, h3, h4, h6, h5⟩
  · exact .inl h
  · exact .inr ⟨g, cap, h1, h2, Nat.lt_of_lt_of_le h3 hb.size, h4, fun j => (hb.frozen (p := ⟨g, j, none⟩) h3).trans (h6 j), fun j x hx => (hb.cell h3).trans (h5 j x hx)⟩
theorem St.nil (w : World) (base : Nat) : St w base (.slice none 0 0) [] := .inl ⟨rfl, rfl⟩
theorem Tx.st {w : World} {base : Nat} {v : Value} {l : List ByteArray} (h : Tx w base v l) : St w base v l := by
  obtain ⟨h0, h⟩ := h
  rcases h with ⟨h1, h2⟩ | ⟨g, cap, cur, rfl, h1, h2, h3, h4, h5, h6⟩
  · exact .inl ⟨h1, List.eq_nil_of_length_eq_zero h2⟩
  · refine .inr ⟨g, cap, rfl, h1, row_lt h2, h3, fun j => by simp [World.frozen?, h2], fun j x hx => ?_⟩
    have hj := (List.getElem?_eq_some_iff.1 hx).1
    have : cur.toList[j]? = some (.string x) := by
      have e : (cur.toList.take (l.length * 1))[j]? = some (.string x) := by rw [h6]; simp [hx]
      rw [List.getElem?_take, if_pos (by omega)] at e
      exact e
    simp only [World.cell?, h2, Option.bind_some]
    simpa using this
theorem St.made {w : World} {base : Nat} {l : List ByteArray} (h : base ≤ w.heap.size) : St (w.alloc (.cells (l.map Value.string).toArray 9)) base (.slice (some ⟨w.heap.size, 0, none⟩) l.length l.length) l :=
  .inr ⟨w.heap.size, l.length, rfl, h, by simp, Nat.le_refl _, fun j => by unfold World.frozen?; rw [heap_alloc_new]; simp, fun j x hx => by
    simp only [World.cell?, heap_alloc_new, Option.bind_some]
    simp [hx]⟩
/-- The law's k-th mark. -/
def mkT (k : Nat) : ByteArray := ⟨(109 :: Lib.decDigits k).toArray⟩
def rest (m : Nat) (o : List UInt8) : List UInt8 := if m = 0 then o else Lib.decDigits m ++ o
theorem rest_step (m : Nat) (o : List UInt8) (h : 0 < m) : rest (m / 10) (dgt (m % 10) :: o) = rest m o := by
  unfold rest
  rw [if_neg (show ¬ m = 0 by omega)]
  by_cases hs : m < 10
  · rw [if_pos (by omega), dec_small hs, Nat.mod_eq_of_lt hs]; rfl
  · rw [if_neg (by omega), dec_big hs, List.append_assoc]; rfl
theorem rest_len (m : Nat) (o : List UInt8) : o.length ≤ (rest m o).length := by
  unfold rest
  split
  · exact Nat.le_refl _
  · rw [List.length_append]; omega
theorem dgt_int (m : Nat) (h : m < 10) : ((dgt m).toNat : Int) = 48 + (m : Int) := by
  have hc : m = 0 ∨ m = 1 ∨ m = 2 ∨ m = 3 ∨ m = 4 ∨ m = 5 ∨ m = 6 ∨ m = 7 ∨ m = 8 ∨ m = 9 := by omega
  unfold dgt
  rcases hc with rfl | rfl | rfl | rfl | rfl | rfl | rfl | rfl | rfl | rfl <;> rfl
theorem byte_text (w : World) (x : Int) (m : Nat) (h : m < 10) (hx : x = 48 + (m : Int)) :
    (convert 22 9 (.slice (some ⟨w.heap.size, 0, none⟩) 1 1)).run Tryz.prog (w.alloc (.cells #[.int .u8 x] 5)) = .ok (.string ⟨#[dgt m]⟩) (w.alloc (.cells #[.int .u8 x] 5)) := by
  have := run_convert_bytes_back (P := Tryz.prog) (w.alloc (.cells #[.int .u8 x] 5)) 22 9 5 ⟨w.heap.size, 0, none⟩ 1 [dgt m] Tryz.underlying22 Tryz.underlying5 Tryz.underlying9 (fun j hj => by
    have hj0 : j = 0 := by simpa using hj
    subst hj0
    rw [add_off]
    simp only [World.cell?, heap_alloc_new, Option.bind_some]
    simp [dgt_int m h, hx])
  exact this
end Go.Proofs.YtlbgmkengkgnfaaGreatDoor
end

section
/- The laws' own comparing and marking of slices of strings. -/
namespace Go.Proofs.YtlbgmkengkgnfaaGreatDoor
set_option linter.unusedSimpArgs false
set_option linter.unusedVariables false
set_option maxRecDepth 20000
open Go.RowKit
theorem St.shape {w : World} {base : Nat} {v : Value} {l : List ByteArray} (h : St w base v l) :
    ∃ a c, v = .slice a l.length c ∧ (0 < l.length → ∃ g, a = some ⟨g, 0, none⟩ ∧ base ≤ g ∧ g < w.heap.size ∧ l.length ≤ c ∧ (∀ j, w.frozen? ⟨g, j, none⟩ = false) ∧ ∀ j x, l[j]? = some x → w.cell? ⟨g, j, none⟩ = some (.string x)) := by
  rcases h with ⟨rfl, rfl⟩ | ⟨g, cap, rfl, h2, h3, h4, h6, h5⟩
  · exact ⟨none, 0, rfl, fun h => absurd h (by simp)⟩
  · exact ⟨_, _, rfl, fun _ => ⟨g, rfl, h2, h3, h4, h6, h5⟩⟩
/-- The n marks from the k-th on. -/
def marks (k n : Nat) : List ByteArray := (List.range n).map fun j => mkT (k + j)
theorem marks_len (k n : Nat) : (marks k n).length = n := by simp [marks]
theorem marks_get (k n j : Nat) (h : j < n) : (marks k n)[j]? = some (mkT (k + j)) := by simp [marks, h]
theorem wpQuiet_loadC {P : Program} {ops : Array Oper} {C : World → Prop} {rest : List Oper} {o : Oper} {a : Act} {Q : Act → Prop} (hw : Region.wanted o (yielded ops a.tmps) = true) (ty : TypeId) (x : Operand) (ho : o.op = .load ty x)
    (p : Addr) (v : Value) (hx : a.eval x = .pointer (some p)) (hg : ∀ w, C w → w.cell? p = some v) (hd : aggB P ty = false) (hu : (P.underlying ty).isSome = true)
    (h : wpQuiet P ops C Q rest (a.put o.dst v)) : wpQuiet P ops C Q (o :: rest) a := by
  refine wpQuiet_value _ hw (fun w hw => ?_) h
  have hagg : (isAgg ty).run P w = .ok false w := by
    unfold aggB at hd
    unfold isAgg
    cases hq : P.underlying ty with
    | none => simp [hq] at hu
    | some d =>
      rw [Sem.run_bind, run_underlying hq w]
      cases d <;> simp_all
  unfold execOp
  simp only [ho, hx, Instr.loadAt, Instr.sureAddr, loadVar, Sem.run_bind, Sem.run_pure, Result.andThen_ok, hagg]
  simp [hg w hw]
end Go.Proofs.YtlbgmkengkgnfaaGreatDoor
end
