/- A part (number 14) of the proof of the law FnRackNames: what each of its sections proves stands in the section's own first remark. No conditions beside those that each theorem states. -/
import Derived.OwnWalkIn
import Derived.Test.YtlbgmkengkgnfaaGreatMg3
section
/- append within fences: the row owned, and the row of ints. -/
namespace Go.Proofs.YtlbgmkengkgnfaaGreat
set_option linter.unusedSimpArgs false
set_option linter.unusedVariables false
set_option maxRecDepth 20000
open Go.RowKit
theorem wpListIn_append_both {F : Fence} {n : Nat} {P : Program} (w : World) {ops : Array Oper} {rest : List Oper} {o : Oper} {a : Act} {Q : Exit → Act → World → Prop}
    (hg : o.guard = none) (s x : Operand) (t : TypeId) (hop : o.op = Op.call { callee := Callee.builtin Builtin.append, args := #[s, x], argTypes := #[t, t] })
    (base : Nat) (e : TypeId) (i : TypeInfo) (z : Value) (size bytes : Nat) (h1 : P.underlying t = some (.slice e)) (h2 : P.info? e = some i) (h3 : i.zero = some z) (h4 : i.size = size) (h5 : i.bytes = bytes) (h6 : z.cells.size = size) (h7 : 0 < size)
    (v : Value) (k : Nat) (xs : List Value) (hs : a.eval s = v) (hown : w.ownsRow base e size v k xs) (B off m c : Nat) (news : List Value) (hx : a.eval x = .slice (some ⟨B, off, none⟩) m c) (hn : news.length = m * size)
    (hc : ∀ j u, news[j]? = some u → w.cell? ((⟨B, off, none⟩ : Addr).add j) = some u) (h1c : ∀ u ∈ news, u.oneCell' = true) (b1 : k + m ≤ maxLen) (b2 : (k + m) * bytes ≤ 140737488355328) (b3 : base ≤ w.heap.size)
    (hT : SlOK P t e size bytes) (base2 : Nat) (b4 : base2 ≤ w.heap.size) {f : Nat → Int} (hS : Sl w base2 e size v k f) {N : Nat} {g : Nat → Int} {T : TypeId} {fr : Nat × Nat} (hB : w.heap[B]? = some (.cells (arr N g) T fr)) (hle : off + m * size ≤ N) (hm : 0 < m)
    (hK : ∀ v' w', w'.ownsRow base e size v' (k + m) (xs ++ news) → w.grownBy w' v.ownBlock → Sl w' base2 e size v' (k + m) (app f (k * size) fun j => g (off + j)) → wpListIn F n P ops Q rest (a.put o.dst v') w') :
    wpListIn F n P ops Q (o :: rest) a w := by
  refine wpListIn_plain hg fun K hK' => ?_
  obtain ⟨v', w', hrun, r1, r2, r3⟩ := run_append_own (P := P) w base t o.type e i z size bytes h1 h2 h3 h4 h5 h6 h7 v k xs hown ⟨B, off, none⟩ m c news hn hc h1c b1 b2 b3
  obtain ⟨v2, w2, hr2, s1, _, _⟩ := run_append_Sl (P := P) (ty := o.type) (c := c) hT h7 hS hB hle hm b1 b2 b4
  have he : (v', w') = (v2, w2) := by
    have := hrun.symm.trans hr2
    injection this with e1 e2
    rw [e1, e2]
  injection he with e1 e2
  subst e1 e2
  unfold Oper.wpIn
  refine ⟨?_, ?_⟩
  · simp [Oper.about, hop, resolve, Target.leads, Sem.run_pure]
  · rw [Oper.semAt_plain F _ _ (by rw [hop]; intro c hc'; cases hc')]
    simp [execOp, hop, resolve, invoke, builtin, hs, hx, hrun, Result.andThen]
    exact hK' _ _ (hK v' w' r1 r2 s1)
end Go.Proofs.YtlbgmkengkgnfaaGreat
end
