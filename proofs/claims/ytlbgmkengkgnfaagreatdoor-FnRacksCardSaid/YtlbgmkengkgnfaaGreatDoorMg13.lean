/- A part (number 13) of the proof of the law FnRacks: what each of its sections proves stands in the section's own first remark. No conditions beside those that each theorem states. -/
import Derived.Laws.Append
import Derived.Laws.AppendOwn
import Derived.OwnWalk
import Derived.Lib.Split
import Derived.Lib.SplitLaws
import Derived.Test.YtlbgmkengkgnfaaGreatDoorMg1
import Derived.Test.YtlbgmkengkgnfaaGreatDoorMg3
section
/- Slices of strings that a call has made; the parts of a text. -/
namespace Go.Proofs.YtlbgmkengkgnfaaGreatDoor
set_option linter.unusedSimpArgs false
set_option linter.unusedVariables false
set_option maxRecDepth 20000
open Go.RowKit
/-- v is a slice of the strings l: nil, or in a block from base on. -/
def Tx (w : World) (base : Nat) (v : Value) (l : List ByteArray) : Prop := w.ownsRow base 9 1 v l.length (l.map Value.string)
theorem Tx.keep {w w' : World} {base : Nat} {v : Value} {l : List ByteArray} (h : Tx w base v l) (hb : Below w.heap.size w w') : Tx w' base v l := by
  obtain ⟨h0, h⟩ := h
  refine ⟨h0, ?_⟩
  rcases h with h | ⟨g, cap, cur, rfl, h1, h2, h3⟩
  · exact .inl h
  · exact .inr ⟨g, cap, cur, rfl, h1, row_keep hb h2, h3⟩
theorem below_grown {K : Nat} {w w' : World} {row : Option Nat} (h : w.grownBy w' row) (hK : K ≤ w.heap.size) (hr : ∀ k, row = some k → K ≤ k) : Below K w w' :=
  ⟨h.os, h.tape, h.output, h.size, fun k hk => h.block k (by omega) (fun e => by have := hr k e.symm; omega)⟩
theorem str_info : (Tryz.prog.info? 9).map (fun i => (i.zero, i.size, i.bytes)) = some (some (.string ⟨#[]⟩), 1, 16) := by kernel_rfl
theorem wpList_appendT {ops : Array Oper} {rest : List Oper} {o : Oper} {a : Act} {Q : Exit → Act → World → Prop} (hgd : o.guard = none) (y x : Operand)
    (ho : o.op = .call { callee := .builtin .append, args := #[y, x], argTypes := #[85, 85] })
    {w : World} {base : Nat} {v : Value} {l : List ByteArray} (hy : a.eval y = v) (hS : Tx w base v l)
    {B c : Nat} {s : ByteArray} {T : TypeId} {fr : Nat × Nat} (hx : a.eval x = .slice (some ⟨B, 0, none⟩) 1 c) (hB : w.heap[B]? = some (.cells #[.string s] T fr)) (h63 : l.length ≤ 8000000) (hbase : base ≤ w.heap.size)
    (h : ∀ v' w', Tx w' base v' (l ++ [s]) → Below base w w' → wpList Tryz.prog ops Q rest (a.put o.dst v') w') : wpList Tryz.prog ops Q (o :: rest) a w := by
  obtain ⟨i, hi, hz, hsz, hby⟩ := info_parts str_info
  refine wpList_append_own w hgd y x 85 ho base 9 i (.string ⟨#[]⟩) 1 16 Tryz.underlying85 hi hz hsz hby rfl (by omega) v l.length (l.map Value.string) hy hS ⟨B, 0, none⟩ 1 c [.string s] hx rfl ?_ ?_ ?_ ?_ hbase ?_
  · intro j u hu
    cases j with
    | zero =>
      simp only [List.getElem?_cons_zero, Option.some.injEq] at hu
      subst hu
      rw [add_off]
      simp [World.cell?, hB]
    | succ j => simp at hu
  · intro u hu
    simp only [List.mem_singleton] at hu
    subst hu; rfl
  · unfold maxLen; omega
  · omega
  · intro v' w' h1 h2 _
    refine h v' w' ?_ (below_grown h2 hbase fun k hk => (World.ownsRow.lt hS k hk).1)
    unfold Tx
    rw [List.length_append, List.map_append]
    exact h1
theorem Tx.nil (w : World) (base : Nat) : Tx w base (.slice none 0 0) [] := ⟨by simp, .inl ⟨rfl, rfl⟩⟩
theorem Tx.first {w : World} {base : Nat} {v : Value} {l : List ByteArray} {x : ByteArray} (h : Tx w base v l) (hx : l[0]? = some x) :
    ∃ g cap, v = .slice (some ⟨g, 0, none⟩) l.length cap ∧ w.cell? ⟨g, 0, none⟩ = some (.string x) ∧ 0 < l.length ∧ l.length ≤ cap := by
  have hl := (List.getElem?_eq_some_iff.1 hx).1
  obtain ⟨h0, h⟩ := h
  rcases h with ⟨_, h⟩ | ⟨g, cap, cur, rfl, h1, h2, h3, h4, h5, h6⟩
  · omega
  · refine ⟨g, cap, rfl, ?_, hl, h3⟩
    have : cur.toList[0]? = some (.string x) := by
      have e : (cur.toList.take (l.length * 1))[0]? = some (.string x) := by rw [h6]; simp [hx]
      rw [List.getElem?_take, if_pos (by omega)] at e
      exact e
    simp only [World.cell?, h2, Option.bind_some]
    simpa using this
/-- The closed parts of the first k bytes, and where the open one begins. -/
def splitTo (s : ByteArray) (b : UInt8) : Nat → List ByteArray × Nat
  | 0 => ([], 0)
  | k + 1 => if s.data.toList[k]? = some b then ((splitTo s b k).1 ++ [s.extract (splitTo s b k).2 k], k + 1) else splitTo s b k
def partsB (s : ByteArray) (b : UInt8) : List ByteArray := (splitTo s b s.size).1 ++ [s.extract (splitTo s b s.size).2 s.size]
theorem at_get (s : ByteArray) (k : Nat) (h : k < s.size) : s.data.toList[k]? = some s[k] := by
  rw [Array.getElem?_toList, Array.getElem?_eq_getElem h]; rfl
theorem splitTo_hit (s : ByteArray) (b : UInt8) (k : Nat) (h : k < s.size) (e : s[k] = b) : splitTo s b (k + 1) = ((splitTo s b k).1 ++ [s.extract (splitTo s b k).2 k], k + 1) := by
  rw [splitTo, if_pos (by rw [at_get s k h, e])]
theorem splitTo_miss (s : ByteArray) (b : UInt8) (k : Nat) (h : k < s.size) (e : ¬ s[k] = b) : splitTo s b (k + 1) = splitTo s b k := by
  rw [splitTo, if_neg (by rw [at_get s k h]; simpa using e)]
theorem splitTo_bd (s : ByteArray) (b : UInt8) : ∀ k, (splitTo s b k).2 ≤ k ∧ (splitTo s b k).1.length ≤ k
  | 0 => ⟨Nat.le_refl _, Nat.le_refl _⟩
  | k + 1 => by
    have ih := splitTo_bd s b k
    unfold splitTo
    split
    · exact ⟨Nat.le_refl _, by rw [List.length_append]; simp; omega⟩
    · omega
attribute [irreducible] splitTo
theorem byte_int2 {a b : UInt8} (h : (a.toNat : Int) = (b.toNat : Int)) : a = b := UInt8.toNat_inj.1 (by omega)
theorem Tx.made {w : World} {base : Nat} (h : base ≤ w.heap.size) : Tx (w.alloc (.cells #[] 9)) base (.slice (some ⟨w.heap.size, 0, none⟩) 0 0) [] :=
  ⟨by simp, .inr ⟨w.heap.size, 0, #[], rfl, h, heap_alloc_new _ _, Nat.le_refl _, by unfold maxLen; omega, rfl, rfl⟩⟩
end Go.Proofs.YtlbgmkengkgnfaaGreatDoor
end
