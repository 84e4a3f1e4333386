/- What is kept of a list: plain laws; clear, and a piece of a slice, at the walk. -/
import Derived.Laws.Slices
import Derived.Test.YtljajgaicdffkaaRgt
namespace Go.Proofs.Ytljajgaicdffkaa
set_option linter.unusedSimpArgs false
set_option linter.unusedVariables false
set_option maxRecDepth 20000
open Go.RowKit
noncomputable def kp (a b : Nat → Int) (n : Nat) : List Nat := (List.range n).filter (mt a b)
noncomputable def kpF (a b : Nat → Int) (n : Nat) : Nat → Int := fls 6 ((kp a b n).map nmS)
theorem kp_yes {a b : Nat → Int} {n : Nat} (h : mt a b n = true) : kp a b (n + 1) = kp a b n ++ [n] := by
  unfold kp
  rw [List.range_succ, List.filter_append]
  simp [h]
theorem kp_no {a b : Nat → Int} {n : Nat} (h : mt a b n = false) : kp a b (n + 1) = kp a b n := by
  unfold kp
  rw [List.range_succ, List.filter_append]
  simp [h]
theorem kp_len (a b : Nat → Int) (n : Nat) : (kp a b n).length ≤ n := by
  unfold kp
  have := List.length_filter_le (mt a b) (List.range n)
  simpa using this
theorem kp_all {a b : Nat → Int} {n : Nat} (h : ∀ k, k < n → mt a b k = true) : kp a b n = List.range n := by
  unfold kp
  rw [List.filter_eq_self]
  exact fun x hx => h x (List.mem_range.1 hx)
theorem kp_lt {a b : Nat → Int} {k0 : Nat} (h0 : mt a b k0 = false) : ∀ n, k0 < n → (kp a b n).length < n := by
  intro n hn
  induction n with
  | zero => omega
  | succ n ih =>
    by_cases e : k0 = n
    · subst e
      rw [kp_no h0]
      have := kp_len a b k0
      omega
    · have := ih (by omega)
      cases hm : mt a b n with
      | true => rw [kp_yes hm, List.length_append]; simp; omega
      | false => rw [kp_no hm]; omega
theorem kpF_range {n q : Nat} (hq : q < n * 6) : fls 6 ((List.range n).map nmS) q = nmS (q / 6) (q % 6) := by
  have hd : q / 6 < n := by omega
  unfold fls
  rw [List.getD_eq_getElem?_getD, List.getElem?_map, List.getElem?_range hd]
  rfl
theorem nm_row {q : Nat} (hq : q < 120 * 6) : fls 6 (nmL.map fnL) q = nmS (q / 6) (q % 6) := by
  have := nm_at (n := q / 6) (j := q % 6) (by omega) (Nat.mod_lt _ (by omega))
  rwa [show q / 6 * 6 + q % 6 = q by omega] at this
theorem kpF_step {a b : Nat → Int} {n : Nat} (h : mt a b n = true) {F : Nat → Int} (hF : ∀ q, q < (kp a b n).length * 6 → F q = kpF a b n q) :
    ∀ q, q < ((kp a b n).length + 1) * 6 → updN F ((kp a b n).length * 6) 6 (nmS n) q = kpF a b (n + 1) q := fun q hq => by
  unfold kpF
  rw [kp_yes h, List.map_append, List.map_cons, List.map_nil, ← fls_snoc (by omega) _ _ q (by rw [List.length_map]; exact hq), List.length_map]
  unfold updN app
  by_cases h1 : q < (kp a b n).length * 6
  · rw [if_neg (by omega), if_pos h1]
    exact hF q h1
  · rw [if_pos (by omega), if_neg h1]
/-- s[i:] and s[:i]. -/
theorem run_from {P : Program} {t e : TypeId} {s b : Nat} (hT : SlOK P t e s b) {g n c i : Nat} (hi : i ≤ n) (hc : i ≠ c) (w : World) :
    (Instr.sliceAt t (.slice (some ⟨g, 0, none⟩) n c) (some (.int .i64 i)) none none).run P w = .ok (.slice (some ⟨g, i * s, none⟩) (n - i) (c - i)) w := by
  obtain ⟨ht, hi0, _⟩ := hT
  have he : P.elem t = e := by unfold Program.elem; rw [ht]
  have hu : P.underlying t = some (.slice (P.elem t)) := by rw [he]; exact ht
  rw [run_sliceAt_slice (h := hu), run_slice_l (ht := hu) (h0 := by omega) (h1 := by omega), he]
  cases hq : P.info? e with
  | none => simp [hq] at hi0
  | some x =>
    simp only [hq, Option.map_some, Option.some.injEq, Prod.mk.injEq] at hi0
    have hc' : ¬ c = i := fun e => hc e.symm
    simp [sizeOf, typeInfo, hq, hi0.1, sliced, Sem.run_bind, hc', add_off]
theorem run_upto {P : Program} {t e : TypeId} {s b : Nat} (hT : SlOK P t e s b) {g n c i : Nat} (hi : i ≤ c) (hc : 0 < c) (w : World) :
    (Instr.sliceAt t (.slice (some ⟨g, 0, none⟩) n c) none (some (.int .i64 i)) none).run P w = .ok (.slice (some ⟨g, 0, none⟩) i c) w := by
  obtain ⟨ht, hi0, _⟩ := hT
  have he : P.elem t = e := by unfold Program.elem; rw [ht]
  have hu : P.underlying t = some (.slice (P.elem t)) := by rw [he]; exact ht
  rw [run_sliceAt_slice (h := hu), run_slice_h (ht := hu) (h0 := by omega) (h2 := by omega), he]
  cases hq : P.info? e with
  | none => simp [hq] at hi0
  | some x =>
    have hc' : ¬ c = 0 := by omega
    simp [sizeOf, typeInfo, hq, sliced, Sem.run_bind, hc', add_off]
/-- clear of a piece of a row. -/
theorem wpList_clearS {P : Program} {ops : Array Oper} {rest : List Oper} {o : Oper} {a : Act} {w : World} {Q : Exit → Act → World → Prop} {t e : TypeId} {s b : Nat} (hT : SlOK P t e s b) (hs0 : 0 < s) (hgd : o.guard = none) (x : Operand)
    (ho : o.op = .call { callee := .builtin .clear, args := #[x], argTypes := #[t] }) {g off n c N : Nat} {F : Nat → Int} (hx : a.eval x = .slice (some ⟨g, off, none⟩) n c) (hn : 0 < n) (hB : w.heap[g]? = some (.cells (arr N F) e (0, 0))) (hle : off + n * s ≤ N)
    {k : Nat} {w0 : World} (hb : Below k w0 w) (hk : k ≤ g)
    (h : ∀ F' w', (∀ q, q < off → F' q = F q) → w'.heap[g]? = some (.cells (arr N F') e (0, 0)) → (∀ B', B' ≠ g → w'.heap[B']? = w.heap[B']?) → Below k w0 w' → wpList P ops Q rest (a.put o.dst (.tuple #[])) w') : wpList P ops Q (o :: rest) a w :=
  wpList_plain hgd fun _ hK => by
    obtain ⟨ht, hi0, hz0⟩ := hT
    cases hi : P.info? e with
    | none => simp [hi] at hi0
    | some i =>
    cases hz : i.zero with
    | none => simp [hi, hz] at hz0
    | some z =>
    simp only [hi, hz, Option.map_some, Option.bind_some, Option.some.injEq] at hz0
    have hst := run_storeCells_arr (P := P) g e N ((List.range (n * s)).map fun _ => 0) off F w 0 hB (by simpa using hle)
    rw [← arr_toList] at hst
    have hr : (Builtin.clear_ #[t] o.type #[.slice (some ⟨g, off, none⟩) n c]).run P w = .ok (.tuple #[]) (w.setRow g (arr N fun j => if off + 0 ≤ j ∧ j < off + 0 + ((List.range (n * s)).map fun _ => (0 : Int)).length then ((List.range (n * s)).map fun _ => (0 : Int)).getD (j - off - 0) 0 else F j)) := by
      unfold Builtin.clear_
      obtain ⟨n', rfl⟩ : ∃ n', n = n' + 1 := ⟨n - 1, by omega⟩
      simp [Sem.run_bind, run_underlying ht, zeroValue, typeInfo, hi, hz, hz0, zeroCells_arr s _ hs0, hst]
    unfold Oper.wp execOp
    simp only [ho, resolve, invoke, builtin, Sem.run_bind, Sem.run_pure, Result.andThen_ok, List.map_toArray, List.map_cons, List.map_nil, hx, hr]
    refine hK _ _ (h _ _ (fun q hq => ?_) (setRow_heap _ _ _ _ _ _ hB) (fun B' hB' => setRow_other _ _ _ _ hB') (below_setRow2 hb hk _))
    rw [if_neg (by omega)]
end Go.Proofs.Ytljajgaicdffkaa
