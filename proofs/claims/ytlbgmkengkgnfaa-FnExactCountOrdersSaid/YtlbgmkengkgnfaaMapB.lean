/- A map of arrays to numbers: counting up, at the operations. -/
import Derived.Maps.RangeWalk
import Derived.Maps.OwnOps
import Derived.DeepKeys4
import Derived.WideKeyEntry
import Derived.WideKeyPair
import Derived.Test.YtlbgmkengkgnfaaMem
namespace Go.Proofs.Ytlbgmkengkgnfaa
set_option linter.unusedSimpArgs false
set_option linter.unusedVariables false
set_option maxRecDepth 20000
open Go.RowKit Go.Maps Go.ChangeShapes Go.WideShapes Go.MapKept Go.ChangeMaps
open Go.WideElems (Fit rd rg pl)
section
variable {P : Program}
theorem wpList_lookupE {ops : Array Oper} {rest : List Oper} {o : Oper} {a : Act} {w : World} {Q : Exit → Act → World → Prop} (hg : o.guard = none) (m x : Operand) (t : TypeId) (hop : o.op = Op.lookup t m x false) {mv key v : Value}
    (hm : a.eval m = mv) (hx : a.eval x = key) (hrun : (Instr.lookup t mv key false).run P w = .ok v w) (h : wpList P ops Q rest (a.put o.dst v) w) : wpList P ops Q (o :: rest) a w := by
  refine wpList_plain hg fun K' hK' => ?_
  unfold Oper.wp
  simp [execOp, hop, hm, hx, hrun, Result.andThen]
  exact hK' _ _ h
theorem wpList_mapEntryE {ops : Array Oper} {rest : List Oper} {o : Oper} {a : Act} {w w' : World} {Q : Exit → Act → World → Prop} (hg : o.guard = none) (m x : Operand) (t : TypeId) (hop : o.op = Op.mapEntry t m x) {mv key v : Value}
    (hm : a.eval m = mv) (hx : a.eval x = key) (hrun : (Instr.mapEntry t mv key).run P w = .ok v w') (h : wpList P ops Q rest (a.put o.dst v) w') : wpList P ops Q (o :: rest) a w := by
  refine wpList_plain hg fun K' hK' => ?_
  unfold Oper.wp
  simp [execOp, hop, hm, hx, hrun, Result.andThen]
  exact hK' _ _ h
theorem wpList_entryStoreE {ops : Array Oper} {rest : List Oper} {o : Oper} {a : Act} {w w' : World} {Q : Exit → Act → World → Prop} (hg : o.guard = none) (m s x : Operand) (t : TypeId) (hop : o.op = Op.entryStore t m s x) {mv st v : Value}
    (hm : a.eval m = mv) (hs : a.eval s = st) (hx : a.eval x = v) (hrun : (Instr.entryStore t mv st v).run P w = .ok () w') (h : wpList P ops Q rest (a.put o.dst undef) w') : wpList P ops Q (o :: rest) a w := by
  refine wpList_plain hg fun K' hK' => ?_
  unfold Oper.wp
  simp [execOp, hop, hm, hs, hx, hrun, Result.andThen]
  exact hK' _ _ h
variable {t k e : TypeId} {b n : Nat} {D : DataW Unit} {w : World} {R : Value → Option (DataW Unit × List MemPlace)}
theorem owns_of_block {w' : World} (h : w.ownsMap P k R b n D) (hb : w'.heap[b]? = w.heap[b]?) : w'.ownsMap P k R b n D := by
  obtain ⟨es, clock, h1, h2⟩ := h
  exact ⟨es, clock, hb.trans h1, h2⟩
theorem grown_block {es : Array MapEntry} {clock : Nat} (hb : w.heap[b]? = some (.map es clock)) (o : Obj) : w.grownBy (setBlock w b o) (some b) :=
  ⟨rfl, rfl, rfl, by simp [setBlock], fun i _ hi => heap_setBlock_other hb _ (fun e => hi (by rw [e]))⟩
theorem bump_runs (K : WideMaps.KeyLaw P k) (ht : P.underlying t = some (.map k e)) (he : P.underlying e = some (.int .i64)) (hz : ∀ u : World, (zeroValue e).run P u = .ok (.int .i64 0) u) (h : w.ownsMap P k (plainElem P e) b n D) (hn : n < maxLen)
    {key : Value} {kl : Lit} (hkey : keyOf P k key = some kl) :
    ∃ (c : Int) (v0 : Value) (st : Nat) (w1 : World), D.atKey kl (.lit (.int .i64 0)) = .lit (.int .i64 c) ∧ (Instr.lookup t (.map (some b)) key false).run P w = .ok (.int .i64 c) w ∧
      (Instr.mapEntry t (.map (some b)) key).run P w = .ok (.tuple #[v0, goInt st]) w1 ∧ (Instr.lookup t (.map (some b)) key false).run P w1 = .ok (.int .i64 c) w1 ∧ w.grownBy w1 (some b) ∧
      ∀ d : Int, (Lit.int .i64 d).wf = true → ∃ w2, (Instr.entryStore t (.map (some b)) (goInt st) (.int .i64 d)).run P w1 = .ok () w2 ∧ w2.ownsMap P k (plainElem P e) b (n + 1) (D.put kl (.lit (.int .i64 d))) ∧ w.grownBy w2 (some b) := by
  have KK : Keyed P k := Keyed.of_law K
  have hwf0 : (Lit.int .i64 0).wf = true := by decide
  have hR0 : plainElem (H := Unit) P e (.int .i64 0) = some (.lit (.int .i64 0), []) := plainElem_int he hwf0
  obtain ⟨c, hl, hat, hwc⟩ := h.lookup_int KK ht he (hz w) hkey
  have h' := h
  obtain ⟨es, clock, hb, F, hs, hD⟩ := h
  obtain ⟨v0, st, es1, clock1, hrun, hwho, hst⟩ := WideElems.entry_then_store K ht hz hb F hkey
  have hb1 := heap_setBlock_same hb (.map es1 clock1)
  refine ⟨c, v0, st, setBlock w b (.map es1 clock1), hat, hl, hrun, ?_, grown_block hb _, fun d hd => ?_⟩
  · rcases K.find w hkey es.toList F.keys with ⟨h1, h2⟩ | ⟨j, e0, h1, h2, h3⟩
    · have e1 : (Instr.mapEntry t (.map (some b)) key).run P w = .ok (.tuple #[.int .i64 0, goInt clock]) (setBlock w b (.map (es.push ⟨key, .int .i64 0, clock⟩) (clock + 1))) := by
        simp [Instr.mapEntry, run_underlying ht, MapKept.run_getObj_map hb, K.check w false hkey, h1, hz, MapKept.run_setObj_map _ hb, Result.andThen, setBlock]
      have e2 : (Instr.mapUpdate t (.map (some b)) key (.int .i64 0)).run P w = .ok () (setBlock w b (.map (es.push ⟨key, .int .i64 0, clock⟩) (clock + 1))) := by
        simp [Instr.mapUpdate, run_underlying ht, MapKept.run_getObj_map hb, K.check w false hkey, h1, MapKept.run_setObj_map _ hb, Result.andThen, setBlock]
      have e3 : (Instr.lookup t (.map (some b)) key false).run P w = .ok (.int .i64 0) w := by
        simp [Instr.lookup, run_underlying ht, MapKept.run_getObj_map hb, K.check w _ hkey, h1, hz, Result.andThen]
      rw [hl] at e3
      obtain rfl : c = 0 := by injection e3 with e3; injection e3
      rw [hrun] at e1
      have ew : setBlock w b (.map es1 clock1) = setBlock w b (.map (es.push ⟨key, .int .i64 0, clock⟩) (clock + 1)) := by injection e1
      obtain ⟨w', hu, how, _⟩ := h'.update KK ht hn hkey hR0
      rw [e2] at hu
      have ew' : setBlock w b (.map (es.push ⟨key, .int .i64 0, clock⟩) (clock + 1)) = w' := by injection hu
      rw [ew, ew']
      obtain ⟨c', hl', hat', _⟩ := how.lookup_int KK ht he (hz w') hkey
      rw [atKey_put_same ⟨_, hD⟩ (KK.key hkey)] at hat'
      obtain rfl : c' = 0 := by injection hat' with h5; injection h5 with _ h6; exact h6.symm
      exact hl'
    · have hj : es[j]? = some e0 := by simpa using h2
      have hsame : es.modify j (fun e => { e with key := key }) = es := by
        apply Array.ext'
        rw [Array.toList_modify, modify_eq_set _ _ _ _ h2]
        have : ({ e0 with key := key } : MapEntry) = e0 := by rw [← h3]
        rw [this]
        exact WideElems.set_self _ _ _ h2
      have e1 : (Instr.mapEntry t (.map (some b)) key).run P w = .ok (.tuple #[e0.val, goInt e0.born]) (setBlock w b (.map es clock)) := by
        simp [Instr.mapEntry, run_underlying ht, MapKept.run_getObj_map hb, K.check w false hkey, h1, hj, h3, K.stays w hkey, hsame, MapKept.run_setObj_map _ hb, Result.andThen, setBlock]
      rw [hrun] at e1
      have ew : setBlock w b (.map es1 clock1) = setBlock w b (.map es clock) := by injection e1
      have how : (setBlock w b (.map es1 clock1)).ownsMap P k (plainElem P e) b n D := owns_of_block h' (by rw [ew, heap_setBlock_same hb, hb])
      obtain ⟨c', hl', hat', _⟩ := how.lookup_int KK ht he (hz _) hkey
      rw [hat] at hat'
      obtain rfl : c = c' := by injection hat' with h5; injection h5
      exact hl'
  · obtain ⟨es', clock', hrun2, hup⟩ := hst (setBlock w b (.map es1 clock1)) (.int .i64 d) hb1
    obtain ⟨w', hu, how, _⟩ := h'.update KK ht hn hkey (plainElem_int (H := Unit) he hd)
    rw [hup] at hu
    have ew' : setBlock w b (.map es' clock') = w' := by injection hu
    refine ⟨_, hrun2, owns_of_block how ?_, ?_⟩
    · rw [← ew', heap_setBlock_same hb1, heap_setBlock_same hb]
    · have g1 := grown_block hb (.map es1 clock1)
      have g2 := grown_block hb1 (.map es' clock')
      exact ⟨rfl, rfl, rfl, Nat.le_trans g1.size g2.size, fun i hi hne => (g2.block i (Nat.lt_of_lt_of_le hi g1.size) hne).trans (g1.block i hi hne)⟩
theorem keyOf_quad (A : WideMaps.ArrKey P k e 4) {q : IntKind} (he : P.underlying e = some (.int q)) (hsz : ∃ m, P.types.size = m + 1) {x0 x1 x2 x3 : Int} (w0 : (Lit.int q x0).wf = true) (w1 : (Lit.int q x1).wf = true) (w2 : (Lit.int q x2).wf = true) (w3 : (Lit.int q x3).wf = true) :
    keyOf P k (.agg #[.int q x0, .int q x1, .int q x2, .int q x3]) = some (.string (keyBytes [.int q x0, .int q x1, .int q x2, .int q x3])) := by
  have hkt := A.keyType hsz
  obtain ⟨m, hm⟩ := hsz
  unfold keyOf
  simp only [A.hu]
  rw [if_pos (by simp [hkt, Value.formed, A.hu, A.size]), hm]
  unfold Program.keyLits
  simp only [A.hu, Value.cells]
  rw [if_pos (by rw [A.size]; rfl), show List.range 4 = [0, 1, 2, 3] from rfl, List.mapM_cons, List.mapM_cons, List.mapM_cons, List.mapM_cons, List.mapM_nil]
  simp [A.one, Program.keyLits, he, w0, w1, w2, w3]
end
theorem arr_four (g : Nat → Int) : arr 4 g = #[.int .i64 (g 0), .int .i64 (g 1), .int .i64 (g 2), .int .i64 (g 3)] := by
  refine Array.ext_getElem? fun i => ?_
  rw [arr_get]
  match i with
  | 0 => rfl
  | 1 => rfl
  | 2 => rfl
  | 3 => rfl
  | i + 4 => rw [if_neg (by omega)]; rfl
end Go.Proofs.Ytlbgmkengkgnfaa
