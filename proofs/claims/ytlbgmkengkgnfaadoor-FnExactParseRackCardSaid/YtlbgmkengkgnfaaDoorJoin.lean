/- Joining texts: the reference's and the program's. -/
import Derived.Lib.Join
import Derived.Lib.IndexAny
import Derived.Test.YtlbgmkengkgnfaaDoorStLaw
import Derived.Test.YtlbgmkengkgnfaaDoorHas
import Derived.Test.YtlbgmkengkgnfaaDoorShelfS
namespace Go.Proofs.YtlbgmkengkgnfaaDoor
set_option linter.unusedSimpArgs false
set_option linter.unusedVariables false
set_option maxRecDepth 20000
open Go.RowKit
def jl (l : List ByteArray) : List (List UInt8) := l.map fun x => x.data.toList
/-- The texts with the byte between them. -/
def jn (l : List ByteArray) (b : UInt8) : List UInt8 := Lib.join (jl l) [b]
theorem jn_zero (l : List ByteArray) (b : UInt8) : jn (l.take 0) b = [] := rfl
theorem jn_step (l : List ByteArray) (b : UInt8) (k : Nat) (x : ByteArray) (h : l[k]? = some x) :
    jn (l.take (k + 1)) b = if k = 0 then x.data.toList else jn (l.take k) b ++ [b] ++ x.data.toList := by
  cases l with
  | nil => simp at h
  | cons y r =>
    cases k with
    | zero =>
      simp only [List.getElem?_cons_zero, Option.some.injEq] at h
      subst h
      simp only [if_true]
      exact Lib.join_one _ _
    | succ m =>
      rw [if_neg (by omega)]
      simp only [List.getElem?_cons_succ] at h
      simp only [jn, jl, List.take_succ_cons, List.map_cons, Lib.join_cons, List.map_take]
      rw [Lib.joinTail_take_succ [b] (r.map fun x => x.data.toList) m x.data.toList (by simp [h])]
      simp [List.append_assoc]
theorem jn_le (l : List ByteArray) (b : UInt8) (k : Nat) : (jn (l.take k) b).length ≤ (jn l b).length := by
  cases l with
  | nil => simp
  | cons y r =>
    cases k with
    | zero => rw [jn_zero]; simp
    | succ m =>
      simp only [jn, jl, List.take_succ_cons, List.map_cons, Lib.join_cons, List.map_take, List.length_append]
      have := Lib.joinTail_take_le [b] (r.map fun x => x.data.toList) m
      omega
theorem jn_len (l : List ByteArray) (b : UInt8) (h : 0 < l.length) : (jn l b).length = l.length - 1 + Lib.lens (jl l) := by
  cases l with
  | nil => simp at h
  | cons y r =>
    simp only [jn, jl, List.map_cons]
    rw [Lib.join_length]
    simp
/-- Whether the texts can be joined, and the whole. -/
def jB (l : List ByteArray) (sep : ByteArray) : Bool := decide (sep.size = 1 ∧ 0 < l.length ∧ (∀ x, x ∈ l → hasB x.data.toList (sep.data.toList.headD 0) = false) ∧ (jn l (sep.data.toList.headD 0)).length ≤ 4000)
def jS (l : List ByteArray) (sep : ByteArray) : List UInt8 := if jB l sep then jn l (sep.data.toList.headD 0) else []
theorem head_at {sep : ByteArray} (h : 0 < sep.size) : sep.data.toList.headD 0 = sep[0] := by
  have := at_get sep 0 h
  obtain ⟨⟨l⟩⟩ := sep
  cases l with
  | nil => simp at this
  | cons c t =>
    simp only [List.headD_cons]
    simpa using this
theorem j_sep {l : List ByteArray} {sep : ByteArray} (h : ¬ sep.size = 1) : jB l sep = false := decide_eq_false fun e => h e.1
theorem j_nil {l : List ByteArray} {sep : ByteArray} (h : l.length = 0) : jB l sep = false := decide_eq_false fun e => by have := e.2.1; omega
theorem j_has {l : List ByteArray} {sep : ByteArray} (h0 : 0 < sep.size) {k : Nat} {x : ByteArray} (h : l[k]? = some x) (hh : hasB x.data.toList sep[0] = true) : jB l sep = false := decide_eq_false fun e => by
  have := e.2.2.1 x (List.mem_of_getElem? h)
  rw [head_at h0, hh] at this
  cases this
theorem j_long {l : List ByteArray} {sep : ByteArray} (h0 : 0 < sep.size) {k : Nat} (h : 4000 < (jn (l.take k) sep[0]).length) : jB l sep = false := decide_eq_false fun e => by
  have h1 := e.2.2.2
  rw [head_at h0] at h1
  have := jn_le l sep[0] k
  omega
theorem j_big {l : List ByteArray} {sep : ByteArray} (h0 : 0 < sep.size) {k : Nat} (h : 4000 < l.length - 1 + Lib.lens (jl (l.take k))) : jB l sep = false := decide_eq_false fun e => by
  have h1 := e.2.2.2
  rw [jn_len _ _ e.2.1] at h1
  have : Lib.lens (jl (l.take k)) ≤ Lib.lens (jl l) := by unfold jl; rw [List.map_take]; exact Lib.lens_take_le _ _
  omega
theorem j_good {l : List ByteArray} {sep : ByteArray} (h1 : sep.size = 1) (h2 : 0 < l.length) (h3 : ∀ (k : Nat) x, l[k]? = some x → hasB x.data.toList (sep[0]'(by omega)) = false) (h4 : (jn l (sep[0]'(by omega))).length ≤ 4000) : jB l sep = true :=
  decide_eq_true ⟨h1, h2, fun x hx => by
    obtain ⟨k, hk⟩ := List.getElem?_of_mem hx
    rw [head_at (by omega)]
    exact h3 k x hk, by rw [head_at (by omega)]; exact h4⟩
theorem jS_no {l : List ByteArray} {sep : ByteArray} (h : jB l sep = false) : jS l sep = [] := by unfold jS; rw [h]; rfl
theorem jS_yes {l : List ByteArray} {sep : ByteArray} (h0 : 0 < sep.size) (h : jB l sep = true) : jS l sep = jn l sep[0] := by unfold jS; rw [h, head_at h0]; rfl
attribute [irreducible] jB jS jn
theorem take_has {l : List ByteArray} {b : UInt8} {k : Nat} {x : ByteArray} (h : ∀ j y, j < k → l[j]? = some y → hasB y.data.toList b = false) (hx : l[k]? = some x) (hb : hasB x.data.toList b = false) : ∀ j y, j < k + 1 → l[j]? = some y → hasB y.data.toList b = false := fun j y hj hy => by
  by_cases e : j = k
  · subst e; rw [hx] at hy; cases hy; exact hb
  · exact h j y (by omega) hy
end Go.Proofs.YtlbgmkengkgnfaaDoor
