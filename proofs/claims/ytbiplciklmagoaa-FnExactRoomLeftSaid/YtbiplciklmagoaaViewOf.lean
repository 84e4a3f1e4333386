/- The view of a rack: the program's and the reference's, and the law. -/
import Derived.Test.YtbiplciklmagoaaCanP
import Derived.Test.YtbiplciklmagoaaCnt
import Derived.Test.YtbiplciklmagoaaView
import Derived.Test.YtbiplciklmagoaaConvV
import Derived.Test.YtbiplciklmagoaaFork
import Derived.Test.YtbiplciklmagoaaEq6
namespace Go.Proofs.Ytbiplciklmagoaa
set_option linter.unusedSimpArgs false
set_option linter.unusedVariables false
set_option maxRecDepth 20000
open Go.RowKit
theorem v18z : ((Try.prog.info? 48).bind (·.zero)).map (·.cells) = some (arr 18 fun _ => 0) := by kernel_rfl
theorem v18b : Try.prog.built 48 [] = some (arr 18 fun _ => 0) := by kernel_rfl
variable {P : Program} in
/-- One int of a row is overwritten; behind it the world is a name. -/
theorem wpList_storePI {ops : Array Oper} {rest : List Oper} {o : Oper} {a : Act} {w : World} {Q : Exit → Act → World → Prop} (hgd : o.guard = none) (ty : TypeId) (x y : Operand) (ho : o.op = .store ty x y)
    (B off : Nat) (hx : a.eval x = .pointer (some ⟨B, off, none⟩)) {v : Int} (hy : a.eval y = .int .i64 v) {T : TypeId} {n : Nat} {f : Nat → Int} (hg : w.heap[B]? = some (.cells (arr n f) T (0, 0)))
    (hi : (P.info? ty).map (·.size) = some 1) (hle : off < n) {k : Nat} {w0 : World} (hb : Below k w0 w) (hk : k ≤ B)
    (h : ∀ w', w'.heap[B]? = some (.cells (arr n (upd f off v)) T (0, 0)) → (∀ B', B' ≠ B → w'.heap[B']? = w.heap[B']?) → Below k w0 w' → wpList P ops Q rest (a.put o.dst undef) w') : wpList P ops Q (o :: rest) a w :=
  wpList_storeI hgd ty x y ho B off hx hy hg hi hle (h _ (setRow_heap _ _ _ _ _ _ hg) (fun B' hB => setRow_other _ _ _ _ hB) (below_setRow2 hb hk _))
theorem v18c (g : Nat → Int) : Try.prog.built 48 [(2, .agg (arr 6 g))] = some (arr 18 (updN (fun _ => 0) 12 6 g)) := by kernel_rfl
/-- What one sees of a rack. -/
def viewF (f : Nat → Int) : Nat → Int := fun q => if q < 6 then (tpF (tub f q)).1 else if q < 12 then (nlay (tub f (q - 6)) : Nat) else if q = 12 then 0 else tally f 24 (q - 12)
/-- Behind n tubes, the counts being c. -/
def vI (f c : Nat → Int) (n : Nat) : Nat → Int := fun q => if q < 6 then (if q < n then (tpF (tub f q)).1 else 0) else if q < 12 then (if q - 6 < n then ((nlay (tub f (q - 6)) : Nat) : Int) else 0) else c (q - 12)
theorem vI_step (f c : Nat → Int) {n : Nat} (hn : n < 6) : arr 18 (upd (upd (vI f c n) n (tpF (tub f n)).1) (6 + n) (nlay (tub f n) : Nat)) = arr 18 (vI f c (n + 1)) := by
  refine arr_congr fun q hq => ?_
  unfold upd vI
  by_cases e1 : q = 6 + n
  · subst e1
    rw [if_pos rfl, if_neg (by omega), if_pos (by omega), if_pos (by omega), show 6 + n - 6 = n by omega]
  · rw [if_neg e1]
    by_cases e2 : q = n
    · subst e2
      rw [if_pos rfl, if_pos (by omega), if_pos (by omega)]
    · rw [if_neg e2]
      by_cases h1 : q < 6
      · rw [if_pos h1, if_pos h1]
        by_cases h2 : q < n
        · rw [if_pos h2, if_pos (by omega)]
        · rw [if_neg h2, if_neg (by omega)]
      · rw [if_neg h1, if_neg h1]
        by_cases h3 : q < 12
        · rw [if_pos h3, if_pos h3]
          by_cases h2 : q - 6 < n
          · rw [if_pos h2, if_pos (by omega)]
          · rw [if_neg h2, if_neg (by omega)]
        · rw [if_neg h3, if_neg h3]
theorem vI_zero : arr 18 (fun _ => (0 : Int)) = arr 18 (vI (fun _ => 0) (fun _ => 0) 0) := by
  refine arr_congr fun q hq => ?_
  unfold vI
  (repeat' split) <;> first | rfl | omega
theorem vI_start (f : Nat → Int) : arr 18 (fun _ => (0 : Int)) = arr 18 (vI f (fun _ => 0) 0) := by
  refine arr_congr fun q hq => ?_
  unfold vI
  (repeat' split) <;> first | rfl | omega
/-- The program's end. -/
theorem vI_done (f : Nat → Int) : arr 18 (upd (updN (vI f (fun _ => 0) 6) 12 6 (tally f 24)) 12 0) = arr 18 (viewF f) := by
  refine arr_congr fun q hq => ?_
  unfold upd updN vI viewF
  by_cases e : q = 12
  · subst e; simp
  · rw [if_neg e]
    by_cases h : 12 ≤ q ∧ q < 12 + 6
    · rw [if_pos h, if_neg (by omega), if_neg (by omega), if_neg e]
    · rw [if_neg h]
      by_cases h1 : q < 6
      · rw [if_pos h1, if_pos h1, if_pos h1]
      · rw [if_neg h1, if_neg h1, if_pos (by omega), if_pos (by omega), if_pos (by omega)]
def cn0 (f : Nat → Int) : Nat → Int := upd (tally f 24) 0 0
/-- The reference's end. -/
theorem vI_done2 (f : Nat → Int) : arr 18 (vI f (cn0 f) 6) = arr 18 (viewF f) := by
  refine arr_congr fun q hq => ?_
  unfold vI viewF cn0 upd
  by_cases h1 : q < 6
  · rw [if_pos h1, if_pos h1, if_pos h1]
  · rw [if_neg h1, if_neg h1]
    by_cases h2 : q < 12
    · rw [if_pos h2, if_pos h2, if_pos (by omega)]
    · rw [if_neg h2, if_neg h2]
      by_cases e : q = 12
      · subst e; simp
      · rw [if_neg e, if_neg (by omega)]
theorem vI_start2 (f : Nat → Int) : arr 18 (upd (updN (fun _ => 0) 12 6 (tally f 24)) 12 0) = arr 18 (vI f (cn0 f) 0) := by
  refine arr_congr fun q hq => ?_
  unfold vI cn0 upd updN
  by_cases e : q = 12
  · subst e; simp
  · rw [if_neg e]
    by_cases h : 12 ≤ q ∧ q < 12 + 6
    · rw [if_pos h, if_neg (by omega), if_neg (by omega), if_neg (by omega)]
    · rw [if_neg h]
      by_cases h1 : q < 6
      · rw [if_pos h1, if_neg (by omega)]
      · rw [if_neg h1, if_pos (by omega), if_neg (by omega)]
variable {P : Program} in
/-- A composite value of one part. -/
theorem wpList_build1 {ops : Array Oper} {rest : List Oper} {o : Oper} {a : Act} {w : World} {Q : Exit → Act → World → Prop} (hgd : o.guard = none) (ty : TypeId) (i : Nat) (x : Operand) (ho : o.op = .build ty #[(i, x)]) {m : Nat} {g : Nat → Int} (hx : a.eval x = .agg (arr m g)) {cs : Array Value}
    (hz : P.built ty [(i, .agg (arr m g))] = some cs) (h : wpList P ops Q rest (a.put o.dst (.agg cs)) w) : wpList P ops Q (o :: rest) a w :=
  wpList_build hgd ty #[(i, x)] ho (by simp [hx, hz]) (by simpa [hx, hz] using h)
def vwOf (f : Nat → Int) : (Nat → Int) × Bool := if rackB f = true then (viewF f, true) else (fun _ => 0, false)
end Go.Proofs.Ytbiplciklmagoaa
