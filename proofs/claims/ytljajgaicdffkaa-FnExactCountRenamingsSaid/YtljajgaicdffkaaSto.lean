/- One int of a row is overwritten. -/
import Derived.Test.YtljajgaicdffkaaMem2
import Derived.Test.YtljajgaicdffkaaFork
namespace Go.Proofs.Ytljajgaicdffkaa
set_option linter.unusedSimpArgs false
set_option linter.unusedVariables false
set_option maxRecDepth 20000
open Go.RowKit
variable {P : Program} in
/-- One int of a row is overwritten; behind it the world is a name. -/
theorem wpList_storePI {ops : Array Oper} {rest : List Oper} {o : Oper} {a : Act} {w : World} {Q : Exit → Act → World → Prop} (hgd : o.guard = none) (ty : TypeId) (x y : Operand) (ho : o.op = .store ty x y)
    (B off : Nat) (hx : a.eval x = .pointer (some ⟨B, off, none⟩)) {v : Int} (hy : a.eval y = .int .i64 v) {T : TypeId} {n : Nat} {f : Nat → Int} (hg : w.heap[B]? = some (.cells (arr n f) T (0, 0)))
    (hi : (P.info? ty).map (·.size) = some 1) (hle : off < n) {k : Nat} {w0 : World} (hb : Below k w0 w) (hk : k ≤ B)
    (h : ∀ w', w'.heap[B]? = some (.cells (arr n (upd f off v)) T (0, 0)) → (∀ B', B' ≠ B → w'.heap[B']? = w.heap[B']?) → Below k w0 w' → wpList P ops Q rest (a.put o.dst undef) w') : wpList P ops Q (o :: rest) a w :=
  wpList_storeI hgd ty x y ho B off hx hy hg hi hle (h _ (setRow_heap _ _ _ _ _ _ hg) (fun B' hB => setRow_other _ _ _ _ hB) (below_setRow2 hb hk _))
end Go.Proofs.Ytljajgaicdffkaa
