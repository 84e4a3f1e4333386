/- A part (number 18) of the proof of the law FnRacks: what each of its sections proves stands in the section's own first remark. No conditions beside those that each theorem states. -/
import Derived.Lib.Join
import Derived.Lib.IndexAny
import Derived.Test.YtlbgmkengkgnfaaGreatDoorMg14
import Derived.Test.YtlbgmkengkgnfaaGreatDoorMg15
import Derived.Test.YtlbgmkengkgnfaaGreatDoorMg16
import Derived.Test.YtlbgmkengkgnfaaGreatDoorMg3
import Derived.Lib.IndexBytes
import Derived.Test.YtlbgmkengkgnfaaGreatDoorMg17
section
/- Joining texts: the reference's and the program's. -/
namespace Go.Proofs.YtlbgmkengkgnfaaGreatDoor
set_option linter.unusedSimpArgs false
set_option linter.unusedVariables false
set_option maxRecDepth 20000
open Go.RowKit
def jl (l : List ByteArray) : List (List UInt8) := l.map fun x => x.data.toList
/-- The texts with the byte between them. -/
def jn (l : List ByteArray) (b : UInt8) : List UInt8 := Lib.join (jl l) [b]
theorem jn_zero (l : List ByteArray) (b : UInt8) : jn (l.take 0) b = [] := rfl
theorem jn_step (l : List ByteArray) (b : UInt8) (k : Nat) (x : ByteArray) (h : l[k]? = some x) :
    jn (l.take (k + 1)) b = if k = 0 then x.data.toList else jn (l.take k) b ++ [b] ++ x.data.toList := by
  cases l with
  | nil => simp at h
  | cons y r =>
    cases k with
    | zero =>
      simp only [List.getElem?_cons_zero, Option.some.injEq] at h
      subst h
      simp only [if_true]
      exact Lib.join_one _ _
    | succ m =>
      rw [if_neg (by omega)]
      simp only [List.getElem?_cons_succ] at h
      simp only [jn, jl, List.take_succ_cons, List.map_cons, Lib.join_cons, List.map_take]
      rw [Lib.joinTail_take_succ [b] (r.map fun x => x.data.toList) m x.data.toList (by simp [h])]
      simp [List.append_assoc]
theorem jn_le (l : List ByteArray) (b : UInt8) (k : Nat) : (jn (l.take k) b).length ≤ (jn l b).length := by
  cases l with
  | nil => simp
  | cons y r =>
    cases k with
    | zero => rw [jn_zero]; simp
    | succ m =>
      simp only [jn, jl, List.take_succ_cons, List.map_cons, Lib.join_cons, List.map_take, List.length_append]
      have := Lib.joinTail_take_le [b] (r.map fun x => x.data.toList) m
      omega
theorem jn_len (l : List ByteArray) (b : UInt8) (h : 0 < l.length) : (jn l b).length = l.length - 1 + Lib.lens (jl l) := by
  cases l with
  | nil => simp at h
  | cons y r =>
    simp only [jn, jl, List.map_cons]
    rw [Lib.join_length]
    simp
/-- Whether the texts can be joined, and the whole. -/
def jB (l : List ByteArray) (sep : ByteArray) : Bool := decide (sep.size = 1 ∧ 0 < l.length ∧ (∀ x, x ∈ l → hasB x.data.toList (sep.data.toList.headD 0) = false) ∧ (jn l (sep.data.toList.headD 0)).length ≤ 4000)
def jS (l : List ByteArray) (sep : ByteArray) : List UInt8 := if jB l sep then jn l (sep.data.toList.headD 0) else []
theorem head_at {sep : ByteArray} (h : 0 < sep.size) : sep.data.toList.headD 0 = sep[0] := by
  have := at_get sep 0 h
  obtain ⟨⟨l⟩⟩ := sep
  cases l with
  | nil => simp at this
  | cons c t =>
    simp only [List.headD_cons]
    simpa using this
theorem j_sep {l : List ByteArray} {sep : ByteArray} (h : ¬ sep.size = 1) : jB l sep = false := decide_eq_false fun e => h e.1
theorem j_nil {l : List ByteArray} {sep : ByteArray} (h : l.length = 0) : jB l sep = false := decide_eq_false fun e => by have := e.2.1; omega
theorem j_has {l : List ByteArray} {sep : ByteArray} (h0 : 0 < sep.size) {k : Nat} {x : ByteArray} (h : l[k]? = some x) (hh : hasB x.data.toList sep[0] = true) : jB l sep = false := decide_eq_false fun e => by
  have := e.2.2.1 x (List.mem_of_getElem? h)
  rw [head_at h0, hh] at this
  cases this
theorem j_long {l : List ByteArray} {sep : ByteArray} (h0 : 0 < sep.size) {k : Nat} (h : 4000 < (jn (l.take k) sep[0]).length) : jB l sep = false := decide_eq_false fun e => by
  have h1 := e.2.2.2
  rw [head_at h0] at h1
  have := jn_le l sep[0] k
  omega
theorem j_big {l : List ByteArray} {sep : ByteArray} (h0 : 0 < sep.size) {k : Nat} (h : 4000 < l.length - 1 + Lib.lens (jl (l.take k))) : jB l sep = false := decide_eq_false fun e => by
  have h1 := e.2.2.2
  rw [jn_len _ _ e.2.1] at h1
  have : Lib.lens (jl (l.take k)) ≤ Lib.lens (jl l) := by unfold jl; rw [List.map_take]; exact Lib.lens_take_le _ _
  omega
theorem j_good {l : List ByteArray} {sep : ByteArray} (h1 : sep.size = 1) (h2 : 0 < l.length) (h3 : ∀ (k : Nat) x, l[k]? = some x → hasB x.data.toList (sep[0]'(by omega)) = false) (h4 : (jn l (sep[0]'(by omega))).length ≤ 4000) : jB l sep = true :=
  decide_eq_true ⟨h1, h2, fun x hx => by
    obtain ⟨k, hk⟩ := List.getElem?_of_mem hx
    rw [head_at (by omega)]
    exact h3 k x hk, by rw [head_at (by omega)]; exact h4⟩
theorem jS_no {l : List ByteArray} {sep : ByteArray} (h : jB l sep = false) : jS l sep = [] := by unfold jS; rw [h]; rfl
theorem jS_yes {l : List ByteArray} {sep : ByteArray} (h0 : 0 < sep.size) (h : jB l sep = true) : jS l sep = jn l sep[0] := by unfold jS; rw [h, head_at h0]; rfl
attribute [irreducible] jB jS jn
theorem take_has {l : List ByteArray} {b : UInt8} {k : Nat} {x : ByteArray} (h : ∀ j y, j < k → l[j]? = some y → hasB y.data.toList b = false) (hx : l[k]? = some x) (hb : hasB x.data.toList b = false) : ∀ j y, j < k + 1 → l[j]? = some y → hasB y.data.toList b = false := fun j y hj hy => by
  by_cases e : j = k
  · subst e; rw [hx] at hy; cases hy; exact hb
  · exact h j y (by omega) hy
end Go.Proofs.YtlbgmkengkgnfaaGreatDoor
end

section
/- The text of a rack: plain law. -/
namespace Go.Proofs.YtlbgmkengkgnfaaGreatDoor
set_option linter.unusedSimpArgs false
set_option linter.unusedVariables false
set_option maxRecDepth 20000
open Go.RowKit
/-- The sign of a color. -/
def sgn (c : Int) : UInt8 := if c = 0 then 46 else UInt8.ofNat (96 + c.toNat)
theorem sgn_slice (c : Int) (h0 : 0 ≤ c) (h1 : c ≤ 5) (w : World) : (Instr.sliceAt 9 (.string ⟨#[46, 97, 98, 99, 100, 101]⟩) (some (.int .i64 c)) (some (.int .i64 (c + 1))) none).run Tryz.prog w = .ok (.string ⟨#[sgn c]⟩) w := by
  have h := run_slice_string (P := Tryz.prog) w 9 ⟨#[46, 97, 98, 99, 100, 101]⟩ .i64 .i64 c (c + 1) Tryz.underlying9 h0 (by omega) (by show c + 1 ≤ 6; omega)
  rw [run_sliceAt_string (h := Tryz.underlying9), h]
  have hc : c = 0 ∨ c = 1 ∨ c = 2 ∨ c = 3 ∨ c = 4 ∨ c = 5 := by omega
  rcases hc with rfl | rfl | rfl | rfl | rfl | rfl <;> rfl
/-- The signs of a tube's first k layers. -/
def tp (f : Nat → Int) (i : Nat) : Nat → List UInt8
  | 0 => []
  | k + 1 => tp f i k ++ [sgn (f (i * 4 + k))]
/-- The texts of the first i tubes. -/
def tps (f : Nat → Int) (i : Nat) : List ByteArray := (List.range i).map fun j => ⟨(tp f j 4).toArray⟩
/-- The text of the first i tubes. -/
def tx (f : Nat → Int) : Nat → List UInt8
  | 0 => []
  | i + 1 => tx f i ++ (if i = 0 then [] else [47]) ++ tp f i 4
theorem tps_len (f : Nat → Int) (i : Nat) : (tps f i).length = i := by simp [tps]
theorem tps_succ (f : Nat → Int) (i : Nat) : tps f (i + 1) = tps f i ++ [⟨(tp f i 4).toArray⟩] := by unfold tps; rw [List.range_succ, List.map_append]; rfl
theorem tps_jn (f : Nat → Int) : ∀ i, jn (tps f i) 47 = tx f i
  | 0 => jn_zero [] 47
  | i + 1 => by
    have h : (tps f (i + 1))[i]? = some ⟨(tp f i 4).toArray⟩ := by
      rw [tps_succ, List.getElem?_append_right (by rw [tps_len]; exact Nat.le_refl _), tps_len, Nat.sub_self]; rfl
    have := jn_step (tps f (i + 1)) 47 i _ h
    rw [List.take_of_length_le (by rw [tps_len]; exact Nat.le_refl _)] at this
    rw [this, tx]
    have ht : (tps f (i + 1)).take i = tps f i := by rw [tps_succ, List.take_left' (tps_len f i)]
    rw [ht, tps_jn f i]
    by_cases e : i = 0
    · subst e; rfl
    · rw [if_neg e, if_neg e]
theorem tp_len (f : Nat → Int) (i : Nat) : ∀ k, (tp f i k).length = k
  | 0 => rfl
  | k + 1 => by rw [tp, List.length_append, tp_len f i k]; rfl
theorem tx_len (f : Nat → Int) : ∀ i, (tx f i).length ≤ 5 * i
  | 0 => Nat.le_refl _
  | i + 1 => by
    rw [tx, List.length_append, List.length_append, tp_len]
    have := tx_len f i
    split <;> simp <;> omega
theorem tx_succ (f : Nat → Int) (i : Nat) : tx f (i + 1) = tx f i ++ (if i = 0 then [] else [47]) ++ tp f i 4 := rfl
theorem tx_zero (f : Nat → Int) : tx f 0 = [] := rfl
attribute [irreducible] tx
end Go.Proofs.YtlbgmkengkgnfaaGreatDoor
end

section
/- Joining texts: the walks. -/
namespace Go.Proofs.YtlbgmkengkgnfaaGreatDoor
set_option linter.unusedSimpArgs false
set_option linter.unusedVariables false
set_option maxRecDepth 20000
open Go.RowKit
theorem jadd1 (o : List UInt8) (sep : ByteArray) (h : sep.size = 1) (ho : o.length ≤ 8000000) (w : World) : (Op.stringOp .add ⟨o.toArray⟩ sep).run Tryz.prog w = .ok (.string ⟨(o ++ [sep[0]'(by omega)]).toArray⟩) w := by
  obtain ⟨c, rfl⟩ := Lib.one_byte sep h
  exact str_add o [c] (by omega) (by show 1 ≤ _; omega) w
theorem jadd2 (o : List UInt8) (x : ByteArray) (hx : x.size ≤ 8000000) (ho : o.length ≤ 8000001) (w : World) : (Op.stringOp .add ⟨o.toArray⟩ x).run Tryz.prog w = .ok (.string ⟨(o ++ x.data.toList).toArray⟩) w := by
  have := str_add o x.data.toList (by omega) (by rw [← size_list]; omega) w
  rw [str_eta] at this
  exact this
def RetStr (l : List UInt8) (b : Bool) (w : World) (e : Ending) (w' : World) : Prop := e = .returned (.tuple #[.string ⟨l.toArray⟩, .bool b]) ∧ Below w.heap.size w w'
theorem joins_any (l : List ByteArray) (sep : ByteArray) (g c : Nat) (h1 : sep.size = 1) (hc : l.length ≤ c) (hn : l.length ≤ 4000000) (hl : (jn l (sep[0]'(by omega))).length ≤ 4000) (w : World) (hg : g < w.heap.size) (hcell : ∀ j x, l[j]? = some x → w.cell? ⟨g, j, none⟩ = some (.string x)) :
    Calls Tryz.prog 70 #[.slice (some ⟨g, 0, none⟩) l.length c, .string sep] w fun e w' => e = .returned (.string ⟨(jn l (sep[0]'(by omega))).toArray⟩) ∧ Below w.heap.size w w' := by
  obtain ⟨b, rfl⟩ := Lib.one_byte sep h1
  have hj : jn l b = Lib.join (l.map fun x => x.data.toList) [b] := by unfold jn jl; rfl
  have hl2 : (jn l b).length ≤ 4000 := hl
  have := Tryz.strings_Join g 0 c l ⟨#[b]⟩ w (fun j x hx => by rw [Nat.zero_add]; exact hcell j x hx) hg (by omega) hc (by rw [hj] at hl2; show (Lib.join _ [b]).length ≤ _; omega)
  refine this.mono fun e w' ⟨he, hb⟩ => ⟨?_, hb⟩
  rw [he]
  show _ = Ending.returned (.string ⟨(jn l b).toArray⟩)
  rw [hj]
theorem lens_step (l : List ByteArray) (k : Nat) (x : ByteArray) (h : l[k]? = some x) : Lib.lens (jl (l.take (k + 1))) = Lib.lens (jl (l.take k)) + x.size := by
  unfold jl
  rw [List.map_take, List.map_take, Lib.lens_take_succ _ k x.data.toList (by simp [h]), size_list]
end Go.Proofs.YtlbgmkengkgnfaaGreatDoor
end

section
/- A text is its parts joined: plain law. -/
namespace Go.Proofs.YtlbgmkengkgnfaaGreatDoor
set_option linter.unusedSimpArgs false
set_option linter.unusedVariables false
set_option maxRecDepth 20000
open Go.RowKit
theorem jn_snoc (l : List ByteArray) (x : ByteArray) (b : UInt8) : jn (l ++ [x]) b = if l = [] then x.data.toList else jn l b ++ [b] ++ x.data.toList := by
  have h : (l ++ [x])[l.length]? = some x := by simp
  have := jn_step (l ++ [x]) b l.length x h
  rw [List.take_of_length_le (by simp)] at this
  rw [this, List.take_left']
  · by_cases e : l = []
    · subst e; simp
    · rw [if_neg (by simpa using e), if_neg e]
  · rfl
theorem ext_list (s : ByteArray) (q k : Nat) : (s.extract q k).data.toList = (s.data.toList.take k).drop q := by
  rw [Lib.extract_data]
  rw [List.drop_take]
theorem take_glue (l : List UInt8) (q k : Nat) (h : q ≤ k) : l.take q ++ (l.take k).drop q = l.take k := by
  have h1 : (l.take k).take q = l.take q := by rw [List.take_take, Nat.min_eq_left h]
  rw [← h1, List.take_append_drop]
theorem no_has (l : List UInt8) (b : UInt8) (q k : Nat) (h : ∀ j, q ≤ j → j < k → l[j]? ≠ some b) : hasB ((l.take k).drop q) b = false := by
  unfold hasB
  rw [Bool.eq_false_iff]
  intro hc
  rw [List.contains_iff_mem] at hc
  obtain ⟨j, hj⟩ := List.getElem?_of_mem hc
  rw [List.getElem?_drop, List.getElem?_take] at hj
  split at hj
  · exact h (q + j) (by omega) (by assumption) hj
  · cases hj
theorem splitTo_sum (s : ByteArray) (b : UInt8) : ∀ k, k ≤ s.size →
    (((splitTo s b k).1 = [] → (splitTo s b k).2 = 0) ∧ ((splitTo s b k).1 ≠ [] → jn (splitTo s b k).1 b ++ [b] = s.data.toList.take (splitTo s b k).2)) ∧
      (∀ x, x ∈ (splitTo s b k).1 → hasB x.data.toList b = false) ∧ (∀ j, (splitTo s b k).2 ≤ j → j < k → s.data.toList[j]? ≠ some b)
  | 0, _ => by
    rw [splitTo_z]
    exact ⟨⟨fun _ => rfl, fun h => absurd rfl h⟩, (fun x hx => by cases hx), fun j _ hj => by omega⟩
  | k + 1, hk => by
    obtain ⟨⟨h1, h2⟩, h3, h4⟩ := splitTo_sum s b k (by omega)
    have hbd := splitTo_bd s b k
    by_cases e : s[k] = b
    · rw [splitTo_hit s b k (by omega) e]
      have hg : s.data.toList[k]? = some b := by rw [at_get s k (by omega), e]
      have ht : s.data.toList.take (k + 1) = s.data.toList.take k ++ [b] := by rw [List.take_add_one, hg]; rfl
      refine ⟨⟨fun h => absurd h (by simp), fun _ => ?_⟩, fun x hx => ?_, fun j hj hj2 => by simp only at hj; omega⟩
      · simp only
        rw [jn_snoc, ht, ext_list]
        congr 1
        by_cases hl : (splitTo s b k).1 = []
        · rw [if_pos hl, h1 hl, List.drop_zero]
        · rw [if_neg hl, h2 hl, take_glue _ _ _ hbd.1]
      · rcases List.mem_append.1 hx with h | h
        · exact h3 x h
        · rw [List.mem_singleton.1 h, ext_list]
          exact no_has _ _ _ _ h4
    · rw [splitTo_miss s b k (by omega) e]
      refine ⟨⟨h1, h2⟩, h3, fun j hj hj2 => ?_⟩
      by_cases ej : j = k
      · subst ej; rw [at_get s j (by omega)]; simpa using e
      · exact h4 j hj (by omega)
theorem parts_join (s : ByteArray) (b : UInt8) : jn (partsB s b) b = s.data.toList ∧ (∀ x, x ∈ partsB s b → hasB x.data.toList b = false) ∧ 0 < (partsB s b).length := by
  obtain ⟨⟨h1, h2⟩, h3, h4⟩ := splitTo_sum s b s.size (Nat.le_refl _)
  have hbd := splitTo_bd s b s.size
  have hall : s.data.toList.take s.size = s.data.toList := List.take_of_length_le (by rw [Array.length_toList]; exact Nat.le_refl _)
  unfold partsB
  refine ⟨?_, fun x hx => ?_, by rw [List.length_append]; simp⟩
  · rw [jn_snoc, ext_list, hall]
    by_cases hl : (splitTo s b s.size).1 = []
    · rw [if_pos hl, h1 hl, List.drop_zero]
    · rw [if_neg hl, h2 hl, List.take_append_drop]
  · rcases List.mem_append.1 hx with h | h
    · exact h3 x h
    · rw [List.mem_singleton.1 h, ext_list]
      exact no_has _ _ _ _ h4
theorem back_ok (s sep : ByteArray) (h1 : sep.size = 1) (hs : s.size ≤ 4000) : jB (partsB s (sep[0]'(by omega))) sep = true ∧ jS (partsB s (sep[0]'(by omega))) sep = s.data.toList := by
  obtain ⟨e1, e2, e3⟩ := parts_join s (sep[0]'(by omega))
  have hj : jB (partsB s (sep[0]'(by omega))) sep = true := j_good h1 e3 (fun k x hx => e2 x (List.mem_of_getElem? hx)) (by rw [e1, Array.length_toList]; exact hs)
  exact ⟨hj, by rw [jS_yes (by omega) hj, e1]⟩
theorem part_small (s : ByteArray) (b : UInt8) (hs : s.size ≤ 4000) : ∀ x, x ∈ partsB s b → x.size ≤ 4000000 := fun x hx => by
  have key : ∀ q k, (s.extract q k).size ≤ s.size := fun q k => by rw [ByteArray.size_extract]; omega
  have h3 : ∀ k, ∀ x, x ∈ (splitTo s b k).1 → k ≤ s.size → x.size ≤ s.size := by
    intro k
    induction k with
    | zero => intro x hx; rw [splitTo_z] at hx; cases hx
    | succ k ih =>
      intro x hx hk
      by_cases e : s[k] = b
      · rw [splitTo_hit s b k (by omega) e] at hx
        rcases List.mem_append.1 hx with h | h
        · exact ih x h (by omega)
        · rw [List.mem_singleton.1 h]; exact key _ _
      · rw [splitTo_miss s b k (by omega) e] at hx
        exact ih x hx (by omega)
  unfold partsB at hx
  rcases List.mem_append.1 hx with h | h
  · have := h3 _ x h (Nat.le_refl _); omega
  · rw [List.mem_singleton.1 h]; have := key (splitTo s b s.size).2 s.size; omega
end Go.Proofs.YtlbgmkengkgnfaaGreatDoor
end

section
/- Reading a rack's text: plain law. -/
namespace Go.Proofs.YtlbgmkengkgnfaaGreatDoor
set_option linter.unusedSimpArgs false
set_option linter.unusedVariables false
set_option maxRecDepth 20000
open Go.RowKit
/-- The number of a sign, or -1. -/
def sgB (b : UInt8) : Int := if b = 46 then 0 else if 97 ≤ b.toNat ∧ b.toNat ≤ 101 then (b.toNat : Int) - 96 else -1
theorem sgB_bd (b : UInt8) : -1 ≤ sgB b ∧ sgB b ≤ 5 := by unfold sgB; split <;> (try split) <;> omega
theorem sgB_slash : sgB 47 = -1 := by decide
def bt (s : ByteArray) (i : Nat) : UInt8 := s.data.toList.getD i 0
theorem bt_at (s : ByteArray) (i : Nat) (h : i < s.size) : s[i] = bt s i := by
  unfold bt
  rw [List.getD_eq_getElem?_getD, at_get s i h]; rfl
def gdN (s : ByteArray) (n : Nat) : Prop := ∀ i, i < n → if i % 5 = 4 then bt s i = 47 else 0 ≤ sgB (bt s i)
theorem gdN_zero (s : ByteArray) : gdN s 0 := fun i h => by omega
theorem gdN_slash {s : ByteArray} {n : Nat} (h : gdN s n) (h4 : n % 5 = 4) (e : bt s n = 47) : gdN s (n + 1) := fun i hi => by
  by_cases c : i = n
  · subst c; rw [if_pos h4]; exact e
  · exact h i (by omega)
theorem gdN_sign {s : ByteArray} {n : Nat} (h : gdN s n) (h4 : ¬ n % 5 = 4) (e : 0 ≤ sgB (bt s n)) : gdN s (n + 1) := fun i hi => by
  by_cases c : i = n
  · subst c; rw [if_neg h4]; exact e
  · exact h i (by omega)
/-- The rack behind the first n bytes. -/
def prO (s : ByteArray) (n : Nat) : Nat → Int := fun j => if j / 4 * 5 + j % 4 < n then sgB (bt s (j / 4 * 5 + j % 4)) else 0
theorem prO_zero (s : ByteArray) : prO s 0 = fun _ => 0 := by funext j; unfold prO; rw [if_neg (by omega)]
theorem prO_slash (s : ByteArray) (n : Nat) (h : n % 5 = 4) : prO s (n + 1) = prO s n := by
  funext j; unfold prO; (try dsimp only)
  by_cases c : j / 4 * 5 + j % 4 < n
  · rw [if_pos c, if_pos (by omega)]
  · rw [if_neg c, if_neg (by omega)]
theorem prO_sign (s : ByteArray) (n : Nat) (h : ¬ n % 5 = 4) : prO s (n + 1) = upd (prO s n) (n / 5 * 4 + n % 5) (sgB (bt s n)) := by
  funext j; unfold prO upd; (try dsimp only)
  by_cases c : j = n / 5 * 4 + n % 5
  · rw [if_pos c]
    have e : j / 4 * 5 + j % 4 = n := by omega
    rw [e, if_pos (by omega)]
  · rw [if_neg c]
    have e : ¬ j / 4 * 5 + j % 4 = n := by omega
    by_cases c2 : j / 4 * 5 + j % 4 < n
    · rw [if_pos c2, if_pos (by omega)]
    · rw [if_neg c2, if_neg (by omega)]
open Classical in
noncomputable def prB (s : ByteArray) : Bool := decide (s.size = 29 ∧ gdN s 29 ∧ rackB (prO s 29) = true)
noncomputable def prF (s : ByteArray) : Nat → Int := if prB s then prO s 29 else fun _ => 0
open Classical in
theorem pr_no {s : ByteArray} (h : ¬ (s.size = 29 ∧ gdN s 29 ∧ rackB (prO s 29) = true)) : prB s = false ∧ prF s = fun _ => 0 := by
  have : prB s = false := by unfold prB; simpa using h
  exact ⟨this, by unfold prF; rw [this]; rfl⟩
open Classical in
theorem pr_yes {s : ByteArray} (h1 : s.size = 29) (h2 : gdN s 29) (h3 : rackB (prO s 29) = true) : prB s = true ∧ prF s = prO s 29 := by
  have : prB s = true := by unfold prB; exact decide_eq_true ⟨h1, h2, h3⟩
  exact ⟨this, by unfold prF; rw [this]; rfl⟩
attribute [irreducible] prB prF
theorem gd_size {s : ByteArray} (h : ¬ s.size = 29) : prB s = false ∧ prF s = fun _ => 0 := pr_no fun e => h e.1
theorem gd_slash {s : ByteArray} {n : Nat} (hn : n < 29) (h4 : n % 5 = 4) (e : ¬ bt s n = 47) : prB s = false ∧ prF s = fun _ => 0 := pr_no fun h => by
  have := h.2.1 n hn
  rw [if_pos h4] at this
  exact e this
theorem gd_sign {s : ByteArray} {n : Nat} (hn : n < 29) (h4 : ¬ n % 5 = 4) (e : sgB (bt s n) < 0) : prB s = false ∧ prF s = fun _ => 0 := pr_no fun h => by
  have := h.2.1 n hn
  rw [if_neg h4] at this
  omega
theorem gd_rack {s : ByteArray} (e : rackB (prO s 29) = false) : prB s = false ∧ prF s = fun _ => 0 := pr_no fun h => by rw [e] at h; simp at h
/-! ### the parts -/
def cut5 (s : ByteArray) (m : Nat) : List ByteArray := (List.range m).map fun i => s.extract (i * 5) (i * 5 + 4)
theorem cut5_succ (s : ByteArray) (m : Nat) : cut5 s (m + 1) = cut5 s m ++ [s.extract (m * 5) (m * 5 + 4)] := by unfold cut5; rw [List.range_succ, List.map_append]; rfl
theorem split_good {s : ByteArray} (hz : s.size = 29) (hg : gdN s 29) : ∀ k, k ≤ 29 → splitTo s 47 k = (cut5 s (k / 5), k / 5 * 5)
  | 0, _ => splitTo_z s 47
  | k + 1, hk => by
    have ih := split_good hz hg k (by omega)
    have hgk := hg k (by omega)
    have hb := bt_at s k (by omega)
    by_cases h4 : k % 5 = 4
    · rw [if_pos h4] at hgk
      rw [splitTo_hit s 47 k (by omega) (by rw [hb, hgk]), ih]
      have e : (k + 1) / 5 = k / 5 + 1 := by omega
      rw [e, cut5_succ]
      have e1 : k / 5 * 5 + 4 = k := by omega
      have e2 : (k / 5 + 1) * 5 = k + 1 := by omega
      rw [e1, e2]
    · rw [if_neg h4] at hgk
      rw [splitTo_miss s 47 k (by omega) (fun c => by rw [hb] at c; rw [c, sgB_slash] at hgk; omega), ih]
      have e : (k + 1) / 5 = k / 5 := by omega
      rw [e]
theorem parts_good {s : ByteArray} (hz : s.size = 29) (hg : gdN s 29) : partsB s 47 = cut5 s 6 := by
  unfold partsB
  rw [hz, split_good hz hg 29 (Nat.le_refl _), cut5_succ s 5]
theorem cut5_len (s : ByteArray) (m : Nat) : (cut5 s m).length = m := by simp [cut5]
theorem cut5_get (s : ByteArray) (m i : Nat) (h : i < m) : (cut5 s m)[i]? = some (s.extract (i * 5) (i * 5 + 4)) := by simp [cut5, h]
theorem ext4_size {s : ByteArray} (hz : s.size = 29) {i : Nat} (h : i < 6) : (s.extract (i * 5) (i * 5 + 4)).size = 4 := by rw [ByteArray.size_extract]; omega
theorem ext4_bt {s : ByteArray} (i k : Nat) (hk : k < 4) : bt (s.extract (i * 5) (i * 5 + 4)) k = bt s (i * 5 + k) := by
  unfold bt
  rw [ext_list, List.getD_eq_getElem?_getD, List.getElem?_drop, List.getElem?_take, if_pos (by omega), List.getD_eq_getElem?_getD]
theorem pn_len {s : ByteArray} (h : ¬ (partsB s 47).length = 6) : prB s = false ∧ prF s = fun _ => 0 := pr_no fun e => h (by rw [parts_good e.1 e.2.1, cut5_len])
theorem pn_size {s : ByteArray} {i : Nat} (hi : i < 6) {x : ByteArray} (hx : (partsB s 47)[i]? = some x) (h : ¬ x.size = 4) : prB s = false ∧ prF s = fun _ => 0 := pr_no fun e => h (by
  rw [parts_good e.1 e.2.1, cut5_get _ _ _ hi] at hx
  rw [← Option.some.inj hx]
  exact ext4_size e.1 hi)
theorem pn_sign {s : ByteArray} {i k : Nat} (hi : i < 6) (hk : k < 4) {x : ByteArray} (hx : (partsB s 47)[i]? = some x) (h : sgB (bt x k) < 0) : prB s = false ∧ prF s = fun _ => 0 := pr_no fun e => by
  rw [parts_good e.1 e.2.1, cut5_get _ _ _ hi] at hx
  rw [← Option.some.inj hx, ext4_bt i k hk] at h
  have := e.2.1 (i * 5 + k) (by omega)
  rw [if_neg (by omega)] at this
  omega
theorem list4 {l : List UInt8} (h : l.length = 4) : ∃ a b c d, l = [a, b, c, d] := by
  match l, h with
  | [a, b, c, d], _ => exact ⟨a, b, c, d, rfl⟩
/-- Six parts of four bytes are a text of 29. -/
theorem parts_back {s : ByteArray} (h6 : (partsB s 47).length = 6) (h4 : ∀ (i : Nat) (x : ByteArray), (partsB s 47)[i]? = some x → x.size = 4) : s.size = 29 ∧ (∀ i, i < 5 → bt s (i * 5 + 4) = 47) ∧ ∀ (i : Nat) (x : ByteArray), (partsB s 47)[i]? = some x → ∀ k, k < 4 → bt s (i * 5 + k) = bt x k := by
  obtain ⟨hj, _, _⟩ := parts_join s 47
  generalize partsB s 47 = l at hj h6 h4
  match l, h6 with
  | [x0, x1, x2, x3, x4, x5], _ =>
    have g0 := h4 0 x0 rfl; have g1 := h4 1 x1 rfl; have g2 := h4 2 x2 rfl; have g3 := h4 3 x3 rfl; have g4 := h4 4 x4 rfl; have g5 := h4 5 x5 rfl
    rw [size_list] at g0 g1 g2 g3 g4 g5
    obtain ⟨a0, b0, c0, d0, e0⟩ := list4 g0
    obtain ⟨a1, b1, c1, d1, e1⟩ := list4 g1
    obtain ⟨a2, b2, c2, d2, e2⟩ := list4 g2
    obtain ⟨a3, b3, c3, d3, e3⟩ := list4 g3
    obtain ⟨a4, b4, c4, d4, e4⟩ := list4 g4
    obtain ⟨a5, b5, c5, d5, e5⟩ := list4 g5
    have hs : s.data.toList = [a0, b0, c0, d0, 47, a1, b1, c1, d1, 47, a2, b2, c2, d2, 47, a3, b3, c3, d3, 47, a4, b4, c4, d4, 47, a5, b5, c5, d5] := by
      rw [← hj]
      have k1 := jn_snoc [x0, x1, x2, x3, x4] x5 47
      have k2 := jn_snoc [x0, x1, x2, x3] x4 47
      have k3 := jn_snoc [x0, x1, x2] x3 47
      have k4 := jn_snoc [x0, x1] x2 47
      have k5 := jn_snoc [x0] x1 47
      have k6 := jn_snoc [] x0 47
      simp only [List.cons_append, List.nil_append, reduceCtorEq, if_false, if_true] at k1 k2 k3 k4 k5 k6
      rw [k1, k2, k3, k4, k5, k6, e0, e1, e2, e3, e4, e5]
      rfl
    have hsz : s.size = 29 := by rw [size_list, hs]; rfl
    have hbt : ∀ x : ByteArray, ∀ q k, x.data.toList = q → bt x k = q.getD k 0 := fun x q k h => by unfold bt; rw [h]
    refine ⟨hsz, fun i hi => ?_, fun i x hx k hk => ?_⟩
    · rw [hbt s _ _ hs]
      match i, hi with
      | 0, _ => rfl
      | 1, _ => rfl
      | 2, _ => rfl
      | 3, _ => rfl
      | 4, _ => rfl
    · rw [hbt s _ _ hs]
      have hi : i < 6 := by simpa using (List.getElem?_eq_some_iff.1 hx).1
      match i, hi, hx with
      | 0, _, hx => rw [← Option.some.inj hx, hbt x0 _ _ e0]; match k, hk with | 0, _ => rfl | 1, _ => rfl | 2, _ => rfl | 3, _ => rfl
      | 1, _, hx => rw [← Option.some.inj hx, hbt x1 _ _ e1]; match k, hk with | 0, _ => rfl | 1, _ => rfl | 2, _ => rfl | 3, _ => rfl
      | 2, _, hx => rw [← Option.some.inj hx, hbt x2 _ _ e2]; match k, hk with | 0, _ => rfl | 1, _ => rfl | 2, _ => rfl | 3, _ => rfl
      | 3, _, hx => rw [← Option.some.inj hx, hbt x3 _ _ e3]; match k, hk with | 0, _ => rfl | 1, _ => rfl | 2, _ => rfl | 3, _ => rfl
      | 4, _, hx => rw [← Option.some.inj hx, hbt x4 _ _ e4]; match k, hk with | 0, _ => rfl | 1, _ => rfl | 2, _ => rfl | 3, _ => rfl
      | 5, _, hx => rw [← Option.some.inj hx, hbt x5 _ _ e5]; match k, hk with | 0, _ => rfl | 1, _ => rfl | 2, _ => rfl | 3, _ => rfl
/-- The rack behind m bytes of the parts. -/
def lO (l : List ByteArray) (m : Nat) : Nat → Int := fun j => if j < m then sgB (bt (l.getD (j / 4) ⟨#[]⟩) (j % 4)) else 0
theorem lO_zero (l : List ByteArray) : lO l 0 = fun _ => 0 := by funext j; unfold lO; rw [if_neg (by omega)]
theorem lO_step (l : List ByteArray) (i k : Nat) (hk : k < 4) {x : ByteArray} (hx : l[i]? = some x) : lO l (i * 4 + k + 1) = upd (lO l (i * 4 + k)) (i * 4 + k) (sgB (bt x k)) := by
  funext j; unfold lO upd; (try dsimp only)
  by_cases c : j = i * 4 + k
  · subst c
    rw [if_pos rfl, if_pos (by omega)]
    have e1 : (i * 4 + k) / 4 = i := by omega
    have e2 : (i * 4 + k) % 4 = k := by omega
    rw [e1, e2, List.getD_eq_getElem?_getD, hx]; rfl
  · rw [if_neg c]
    by_cases c2 : j < i * 4 + k
    · rw [if_pos c2, if_pos (by omega)]
    · rw [if_neg c2, if_neg (by omega)]
theorem lO_dot (l : List ByteArray) (i k : Nat) (hk : k < 4) {x : ByteArray} (hx : l[i]? = some x) (h : sgB (bt x k) = 0) : lO l (i * 4 + k + 1) = lO l (i * 4 + k) := by
  rw [lO_step l i k hk hx, h]
  funext j; unfold upd; (try dsimp only)
  by_cases c : j = i * 4 + k
  · rw [if_pos c]; unfold lO; rw [if_neg (by omega)]
  · rw [if_neg c]
/-- The first m bytes of the parts are signs. -/
def okN (l : List ByteArray) (m : Nat) : Prop := ∀ j, j < m → 0 ≤ sgB (bt (l.getD (j / 4) ⟨#[]⟩) (j % 4))
theorem okN_zero (l : List ByteArray) : okN l 0 := fun j h => by omega
theorem okN_step {l : List ByteArray} {i k : Nat} (hk : k < 4) {x : ByteArray} (hx : l[i]? = some x) (h : okN l (i * 4 + k)) (e : 0 ≤ sgB (bt x k)) : okN l (i * 4 + k + 1) := fun j hj => by
  by_cases c : j = i * 4 + k
  · subst c
    have e1 : (i * 4 + k) / 4 = i := by omega
    have e2 : (i * 4 + k) % 4 = k := by omega
    rw [e1, e2, List.getD_eq_getElem?_getD, hx]; exact e
  · exact h j (by omega)
theorem parts_end {s : ByteArray} (h6 : (partsB s 47).length = 6) (h4 : ∀ (i : Nat) (x : ByteArray), (partsB s 47)[i]? = some x → x.size = 4) (ho : okN (partsB s 47) 24) : s.size = 29 ∧ gdN s 29 ∧ arr 24 (lO (partsB s 47) 24) = arr 24 (prO s 29) := by
  obtain ⟨hz, h47, hb⟩ := parts_back h6 h4
  have hget : ∀ i, i < 6 → (partsB s 47)[i]? = some ((partsB s 47).getD i ⟨#[]⟩) := fun i hi => by
    rw [List.getD_eq_getElem?_getD, List.getElem?_eq_getElem (by omega)]; rfl
  refine ⟨hz, fun n hn => ?_, arr_congr fun j hj => ?_⟩
  · by_cases c : n % 5 = 4
    · rw [if_pos c]
      have := h47 (n / 5) (by omega)
      rwa [show n / 5 * 5 + 4 = n by omega] at this
    · rw [if_neg c]
      have := hb (n / 5) _ (hget (n / 5) (by omega)) (n % 5) (by omega)
      rw [show n / 5 * 5 + n % 5 = n by omega] at this
      rw [this]
      have := ho (n / 5 * 4 + n % 5) (by omega)
      rwa [show (n / 5 * 4 + n % 5) / 4 = n / 5 by omega, show (n / 5 * 4 + n % 5) % 4 = n % 5 by omega] at this
  · unfold lO prO
    rw [if_pos hj, if_pos (by omega), hb (j / 4) _ (hget (j / 4) (by omega)) (j % 4) (by omega)]
end Go.Proofs.YtlbgmkengkgnfaaGreatDoor
end
