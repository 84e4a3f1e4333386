/- A region that draws its order, whose first n operations are quiet in a class of worlds and whose others come behind them in one order: one walk in the text's order serves. -/
import Derived.Test.YtlbgmkengkgnfaaDoorMem
import Derived.Deep.Quiet
namespace Go.Proofs.YtlbgmkengkgnfaaDoor
set_option linter.unusedSimpArgs false
set_option linter.unusedVariables false
set_option maxRecDepth 20000
open Go.RowKit
section
variable {P : Program} {ops : Array Oper} {md : Region.Mode} {Q : Exit → Act → World → Prop}

/-- Q, but K where the region goes on. -/
def QThen (K : Act → World → Prop) (Q : Exit → Act → World → Prop) : Exit → Act → World → Prop
  | .normal, a, w => K a w
  | e, a, w => Q e a w

theorem wp_QThen {o : Oper} {a : Act} {w : World} {K K1 : Act → World → Prop} (h : o.wp P a w K (QThen K1 Q)) : o.wp P a w K Q := by
  unfold Oper.wp at *
  generalize (execOp a.eval o).run P w = r at *
  cases r with
  | ok n w' =>
    cases n <;> simp only [Oper.upon] at h ⊢
    case enter f args =>
      refine h.mono fun e w'' he => ?_
      cases e with
      | returned v => exact he
      | panicked c => exact he
      | outgrown => exact he
    all_goals exact h
  | halt x w' =>
    cases x <;> simp only [Oper.upon] at h ⊢
    exact h

theorem letsOut_QThen {K1 : Act → World → Prop} (h : LetsOut (QThen K1 Q)) : LetsOut Q := h

theorem wpAny_fuel : ∀ (fuel : Nat) (listed : Array Bool) (a : Act) (w : World), wpAny P md ops Q fuel listed a w → wpAny P md ops Q (fuel + 1) listed a w
  | 0, _, _, _, h => ⟨fun _ => h.2, fun i hi => by rw [h.1] at hi; cases hi⟩
  | fuel + 1, _, _, _, h => ⟨h.1, fun i hi => wpOp_mono (fun a' w' h' => wpAny_fuel fuel _ a' w' h') (h.2 i hi)⟩
theorem wpAny_fuels (k : Nat) (fuel : Nat) (listed : Array Bool) (a : Act) (w : World) (h : wpAny P md ops Q fuel listed a w) : wpAny P md ops Q (k + fuel) listed a w := by
  induction k with
  | zero => simpa using h
  | succ k ih => have := wpAny_fuel _ _ _ _ ih; rwa [show k + fuel + 1 = k + 1 + fuel by omega] at this

/-- Each of the first n operations waits for earlier ones alone, and is guarded by one of the first n. -/
def lowB (md : Region.Mode) (ops : Array Oper) (n : Nat) : Bool := (List.range n).all fun i => match ops[i]? with | some o => o.after.all (fun e => !Region.binds md e || decide (e.on < i)) && (match o.guard with | some (j, _) => decide (j < n) | none => true) | none => false
def fullL (n N : Nat) : Array Bool := ((List.range N).map fun i => decide (i < n)).toArray
theorem fullL_get (n N i : Nat) : (fullL n N)[i]? = if i < N then some (decide (i < n)) else none := by
  unfold fullL
  by_cases h : i < N <;> simp [h]
def heldB (md : Region.Mode) (ops : Array Oper) (n : Nat) : Bool :=
  decide (n ≤ ops.size) && lowB md ops n && Region.seqB md ops (ops.size - n) n (fullL n ops.size) && Region.lexB md (ops.extract 0 n) && (decide (n = ops.size) || (Region.sinkB md ops n && Region.chainB md ops n))

theorem min_ready {n : Nat} (hl : lowB md ops n = true) (hn : n ≤ ops.size) {listed : Array Bool} (hsz : listed.size = ops.size) :
    ∀ i, i < n → listed.getD i true = false → ∃ k, k < n ∧ k ∈ Region.ready md ops listed ∧ k ∈ Region.ready md (ops.extract 0 n) (listed.extract 0 n) := by
  intro i
  induction i using Nat.strongRecOn with
  | _ i ih =>
    intro hi hun
    have hio : i < ops.size := by omega
    have ho : ops[i]? = some ops[i] := Array.getElem?_eq_getElem hio
    have hlow := List.all_eq_true.1 hl i (List.mem_range.2 hi)
    simp only [ho, Bool.and_eq_true] at hlow
    by_cases hall : ∃ e ∈ (ops[i]).after, Region.binds md e = true ∧ listed.getD e.on true = false
    · obtain ⟨e, he, hbd, hf⟩ := hall
      have hei := Array.all_eq_true_iff_forall_mem.1 hlow.1 e he
      simp only [hbd, Bool.not_true, Bool.false_or, decide_eq_true_eq] at hei
      exact ih e.on hei (by omega) hf
    · have hall2 : ∀ e ∈ (ops[i]).after, Region.binds md e = true → e.on < i ∧ listed.getD e.on false = true := by
        intro e he hbd
        have hei := Array.all_eq_true_iff_forall_mem.1 hlow.1 e he
        simp only [hbd, Bool.not_true, Bool.false_or, decide_eq_true_eq] at hei
        cases h : listed.getD e.on true with
        | false => exact absurd ⟨e, he, hbd, h⟩ hall
        | true =>
          have : e.on < listed.size := by omega
          exact ⟨hei, by simpa [this] using h⟩
      refine ⟨i, hi, mem_ready.2 ⟨hun, _, ho, fun e he hb => (hall2 e he hb).2⟩, mem_ready.2 ⟨?_, ops[i], ?_, fun e he hb => ?_⟩⟩
      · have h1 : i < listed.size := by omega
        simp [h1] at hun
        have h2 : i < (listed.extract 0 n).size := by simp; omega
        simp only [Array.getD, h2, dite_true]
        simpa using hun
      · rw [Array.getElem?_extract_of_lt (by omega)]; simp
      · obtain ⟨hei, h3⟩ := hall2 e he hb
        have h1 : e.on < listed.size := by omega
        simp [h1] at h3
        have h2 : e.on < (listed.extract 0 n).size := by simp; omega
        simp only [Array.getD, h2, dite_true]
        simpa using h3

theorem yielded_head {n j : Nat} (hj : j < n) (hn : n ≤ ops.size) (t : Array Value) : yielded (ops.extract 0 n) t j = yielded ops t j := by
  have hjs : j < ops.size := by omega
  unfold yielded
  rw [Array.getElem?_extract_of_lt (by omega), Array.getElem?_eq_getElem hjs]
  simp
theorem wanted_head {n i : Nat} (hl : lowB md ops n = true) (hi : i < n) (hn : n ≤ ops.size) {o : Oper} (ho : ops[i]? = some o) (t : Array Value) :
    Region.wanted o (yielded (ops.extract 0 n) t) = Region.wanted o (yielded ops t) := by
  have hlow := List.all_eq_true.1 hl i (List.mem_range.2 hi)
  simp only [ho, Bool.and_eq_true] at hlow
  unfold Region.wanted
  cases hg : o.guard with
  | none => rfl
  | some jb =>
    obtain ⟨j, b⟩ := jb
    simp only [hg, decide_eq_true_eq] at hlow
    simp only [yielded_head hlow.2 hn]

theorem wpAny_held {n : Nat} {K1 : Act → World → Prop} (hl : lowB md ops n = true) (hn : n ≤ ops.size) (hseq : Region.seqB md ops (ops.size - n) n (fullL n ops.size) = true)
    (hsink : n < ops.size → Region.sinkB md ops n = true ∧ Region.chainB md ops n = true)
    (hK : ∀ a w, K1 a w → wpList P ops Q (ops.toList.drop n) a w) :
    ∀ (fuel : Nat) (listed : Array Bool) (a : Act) (w : World), HeadInv md ops n listed → wpAny P md (ops.extract 0 n) (QThen K1 Q) fuel (listed.extract 0 n) a w →
      wpAny P md ops Q (fuel + (ops.size - n)) listed a w := by
  intro fuel
  induction fuel with
  | zero =>
    intro listed a w inv h
    by_cases hall : ∃ i, i < n ∧ listed.getD i true = false
    · obtain ⟨i, hi, hun⟩ := hall
      obtain ⟨k, _, _, hk⟩ := min_ready (md := md) hl hn inv.size i hi hun
      rw [h.1] at hk
      cases hk
    · have e : listed = fullL n ops.size := by
        refine Array.ext_getElem? fun i => ?_
        rw [fullL_get]
        by_cases hi : i < ops.size
        · rw [if_pos hi]
          have h1 : i < listed.size := by rw [inv.size]; exact hi
          rw [Array.getElem?_eq_getElem h1]
          congr 1
          by_cases hin : i < n
          · have h2 : listed.getD i true = true := by
              cases hg : listed.getD i true with
              | true => rfl
              | false => exact absurd ⟨i, hin, hg⟩ hall
            simp [h1] at h2
            simp [h2, hin]
          · have h2 := inv.tail i (by omega) hi
            simp [h1] at h2
            simp [h2, hin]
        · rw [if_neg hi]
          have : listed.size = ops.size := inv.size
          simp
          omega
      have hw := hK a w h.2
      have := wpAny_of_seq (md := md) (Q' := Q) (ops.toList.drop n) n listed a w (fun j => by simp [List.getElem?_drop]) (by simpa [e] using hseq) hw
      simpa using this
  | succ fuel ih =>
    intro listed a w inv h
    by_cases hall : ∃ i, i < n ∧ listed.getD i true = false
    · obtain ⟨i, hi, hun⟩ := hall
      obtain ⟨k, _, hk, _⟩ := min_ready (md := md) hl hn inv.size i hi hun
      have hs2 : ∀ j, n ≤ j → j < ops.size → j ∉ Region.ready md ops listed := fun j h1 h2 => tail_waits (hsink (by omega)).1 (hsink (by omega)).2 (by omega) inv (n - i) i rfl hi hun j h1
      rw [show fuel + 1 + (ops.size - n) = (fuel + (ops.size - n)) + 1 by omega]
      refine ⟨fun h0 => (by rw [h0] at hk; cases hk), fun j hj => ?_⟩
      obtain ⟨hjun, oj, hoj, hjall⟩ := mem_ready.1 hj
      have hjN : j < ops.size := (Array.getElem?_eq_some_iff.1 hoj).1
      have hjn : j < n := by
        rcases Nat.lt_or_ge j n with h1 | h1
        · exact h1
        · exact absurd hj (hs2 j h1 hjN)
      have hls : j < listed.size := by rw [inv.size]; exact hjN
      have hlsz : listed.size = ops.size := inv.size
      have hojH : (ops.extract 0 n)[j]? = some oj := by
        rw [Array.getElem?_extract_of_lt (by omega), ← hoj, Array.getElem?_eq_getElem hjN]
        simp
      have hhs : j < (listed.extract 0 n).size := by simp; omega
      have hjH : j ∈ Region.ready md (ops.extract 0 n) (listed.extract 0 n) := by
        refine mem_ready.2 ⟨?_, oj, ?_, fun e he hb => ?_⟩
        · simp [hls] at hjun
          simp only [Array.getD, hhs, dite_true]
          simpa using hjun
        · exact hojH
        · have hlow := List.all_eq_true.1 hl j (List.mem_range.2 hjn)
          simp only [hoj, Bool.and_eq_true] at hlow
          have hei := Array.all_eq_true_iff_forall_mem.1 hlow.1 e he
          simp only [hb, Bool.not_true, Bool.false_or, decide_eq_true_eq] at hei
          have h3 := hjall e he hb
          have h1 : e.on < listed.size := by omega
          simp [h1] at h3
          have h2 : e.on < (listed.extract 0 n).size := by simp; omega
          simp only [Array.getD, h2, dite_true]
          simpa using h3
      have hop := h.2 j hjH
      have hset : (listed.extract 0 n).setIfInBounds j true = (listed.setIfInBounds j true).extract 0 n := by
        refine Array.ext_getElem? fun x => ?_
        rw [Array.getElem?_setIfInBounds]
        by_cases hx : x < n
        · have hxs : x < listed.size := by omega
          rw [Array.getElem?_extract_of_lt (by omega), Array.getElem?_extract_of_lt (by simp only [Array.size_setIfInBounds]; omega)]
          simp only [Nat.zero_add, hhs, if_true]
          by_cases hjx : j = x
          · subst hjx; simp
          · rw [if_neg hjx]
            congr 1
            exact (Array.getElem_setIfInBounds_ne (by simpa using hxs) hjx).symm
        · have e1 : ¬ j = x := by omega
          rw [if_neg e1]
          rw [Array.getElem?_eq_none (by simp; omega), Array.getElem?_eq_none (by simp; omega)]
      unfold wpOp at hop ⊢
      rw [hojH] at hop
      simp only [hoj] at hop ⊢
      rw [wanted_head hl hjn hn hoj] at hop
      have step : ∀ a' w', wpAny P md (ops.extract 0 n) (QThen K1 Q) fuel ((listed.extract 0 n).setIfInBounds j true) a' w' → wpAny P md ops Q (fuel + (ops.size - n)) (listed.setIfInBounds j true) a' w' := fun a' w' h' => by
        rw [hset] at h'
        exact ih _ a' w' (inv.set hj hjn) h'
      by_cases hw : Region.wanted oj (yielded ops a.tmps) = true
      · simp only [hw, if_true] at hop ⊢
        rcases hop with h1 | h1
        · exact .inl (Oper.wp_mono step (wp_QThen h1))
        · exact .inr ⟨h1.1, letsOut_QThen h1.2⟩
      · simp only [hw] at hop ⊢
        exact step _ _ hop
    · have h0 : wpAny P md (ops.extract 0 n) (QThen K1 Q) 0 (listed.extract 0 n) a w := by
        have hr : Region.ready md (ops.extract 0 n) (listed.extract 0 n) = [] := by
          rw [List.eq_nil_iff_forall_not_mem]
          intro j hj
          obtain ⟨h1, o, ho, _⟩ := mem_ready.1 hj
          have hjs : j < (ops.extract 0 n).size := (Array.getElem?_eq_some_iff.1 ho).1
          have hjn : j < n := by simp at hjs; omega
          refine hall ⟨j, hjn, ?_⟩
          have h2 : j < listed.size := by rw [inv.size]; omega
          have h3 : j < (listed.extract 0 n).size := by simp; omega
          simp only [Array.getD, h3, dite_true] at h1
          simp only [Array.getD, h2, dite_true]
          simpa using h1
        exact ⟨hr, h.1 hr⟩
      have := ih listed a w inv (wpAny_fuels fuel 0 _ _ _ h0)
      have h4 := wpAny_fuel _ _ _ _ this
      rwa [show fuel + (ops.size - n) + 1 = fuel + 1 + (ops.size - n) by omega] at h4
end
section
variable {P : Program}
/-- The region's law: its first n operations are walked in the text's order, each quiet in the class C; then the others, in every world of the class. -/
theorem wp_region_held {id : Nat} {Q : Exit → Act → World → Prop} {a : Act} {w : World} {l : List Oper} (n : Nat) (C : World → Prop) (hm : P.follows .mixedOrders = true) (hB : heldB .any l.toArray n = true) (hC : C { w with drawn := w.drawn + 1 })
    (h : wpQuiet P (l.take n).toArray C (fun a' => ∀ w', C w' → wpList P l.toArray Q (l.drop n) a' w') (l.take n) a) : (Code.region id l.toArray true).wp P Q a w := by
  simp only [heldB, Bool.and_eq_true, decide_eq_true_eq, Bool.or_eq_true] at hB
  obtain ⟨⟨⟨⟨hn, hl⟩, hseq⟩, hlex⟩, hs⟩ := hB
  refine wp_region_any hm ?_
  have he : l.toArray.extract 0 n = (l.take n).toArray := by simp
  have inv0 : HeadInv .any l.toArray n (Array.replicate l.toArray.size false) :=
    ⟨by simp, fun j oj _ hl => (by rw [getD_replicate_false] at hl; cases hl), fun t _ ht => getD_in (by simpa using ht) (getD_replicate_false _ _)⟩
  have hq : wpAny P .any (l.take n).toArray (QThen (fun a' w' => wpList P l.toArray Q (l.drop n) a' w') Q) (l.take n).length (Array.replicate (l.take n).toArray.size false) a { w with drawn := w.drawn + 1 } := by
    rw [he] at hlex
    simp only [Region.lexB, Bool.and_eq_true] at hlex
    refine wpAny_of_quiet (Q := fun a' => ∀ w', C w' → wpList P l.toArray Q (l.drop n) a' w') (fun a' w' hw' h => h w' hw') _ _ _ _ hC ?_
    have := wpAnyQ_lex (C := C) (md := .any) hlex.1 (l.take n) 0 (Array.replicate (l.take n).toArray.size false) a (by simp) (by simpa using hlex.2) h
    simpa using this
  have hrep : (Array.replicate l.toArray.size false).extract 0 n = Array.replicate (l.take n).toArray.size false := by
    refine Array.ext_getElem? fun i => ?_
    have hsz : (l.take n).toArray.size = n := by simp at hn; simp; omega
    rw [hsz]
    by_cases hi : i < n
    · rw [Array.getElem?_extract_of_lt (by simp at hn ⊢; omega)]
      simp [hi]
    · rw [Array.getElem?_eq_none (by simp; omega), Array.getElem?_eq_none (by simp; omega)]
  have hsink : n < l.toArray.size → Region.sinkB .any l.toArray n = true ∧ Region.chainB .any l.toArray n = true := fun hlt => hs.resolve_left (by omega)
  have := wpAny_held (md := .any) (Q := Q) (K1 := fun a' w' => wpList P l.toArray Q (l.drop n) a' w') hl hn hseq hsink
    (fun a' w' h' => by simpa using h') (l.take n).length _ a _ inv0 (by rw [he, hrep]; exact hq)
  have hlen : (l.take n).length + (l.toArray.size - n) = l.toArray.size := by simp at hn; simp; omega
  rwa [hlen] at this

/-- Steps of the walk. -/
theorem wpQuiet_value {ops : Array Oper} {C : World → Prop} {Q : Act → Prop} {a : Act} {o : Oper} {rest : List Oper} (v : Value) (hw : Region.wanted o (yielded ops a.tmps) = true)
    (h : ∀ w, C w → (execOp a.eval o).run P w = .ok (.value v) w) (hk : wpQuiet P ops C Q rest (a.put o.dst v)) : wpQuiet P ops C Q (o :: rest) a :=
  wpQuiet_step fun K hK => by
    rw [if_pos hw]
    refine ⟨v, fun w hw' => ?_, hK _ hk⟩
    unfold Oper.quietAt
    rw [h w hw']
    exact ⟨rfl, rfl⟩
theorem wpQuiet_enter {ops : Array Oper} {C : World → Prop} {Q : Act → Prop} {a : Act} {o : Oper} {rest : List Oper} (v : Value) (f : FuncId) (args : Array Value) (hw : Region.wanted o (yielded ops a.tmps) = true)
    (h : ∀ w, C w → (execOp a.eval o).run P w = .ok (.enter f args) w) (hc : ∀ w, C w → Calls P f args w fun e w' => e = .returned v ∧ C w') (hk : wpQuiet P ops C Q rest (a.put o.dst v)) : wpQuiet P ops C Q (o :: rest) a :=
  wpQuiet_step fun K hK => by
    rw [if_pos hw]
    refine ⟨v, fun w hw' => ?_, hK _ hk⟩
    unfold Oper.quietAt
    rw [h w hw']
    exact ⟨rfl, hc w hw'⟩
theorem wpQuiet_loadA {ops : Array Oper} {C : World → Prop} {rest : List Oper} {o : Oper} {a : Act} {Q : Act → Prop} (hw : Region.wanted o (yielded ops a.tmps) = true) (ty : TypeId) (x : Operand) (ho : o.op = .load ty x)
    (B off : Nat) (hx : a.eval x = .pointer (some ⟨B, off, none⟩)) {T : TypeId} {fr : Nat × Nat} {n : Nat} {f : Nat → Int} (hg : ∀ w, C w → w.heap[B]? = some (.cells (arr n f) T fr)) (m : Nat) (hd : aggB P ty = true)
    (hi : (P.info? ty).map (·.size) = some m) (hle : off + m ≤ n) (h : wpQuiet P ops C Q rest (a.put o.dst (.agg (arr m fun j => f (off + j))))) : wpQuiet P ops C Q (o :: rest) a := by
  refine wpQuiet_value _ hw (fun w hw => ?_) h
  unfold execOp
  simp only [ho, hx, Instr.loadAt, Instr.sureAddr, Sem.run_bind, Sem.run_pure, Result.andThen_ok, run_loadVar_arr w B off T ty fr n m f (hg w hw) hd hi hle]
theorem wpQuiet_loadW {ops : Array Oper} {C : World → Prop} {rest : List Oper} {o : Oper} {a : Act} {Q : Act → Prop} (hw : Region.wanted o (yielded ops a.tmps) = true) (ty : TypeId) (x : Operand) (ho : o.op = .load ty x)
    (B : Nat) (hx : a.eval x = .pointer (some ⟨B, 0, none⟩)) {T : TypeId} {fr : Nat × Nat} {n : Nat} {f : Nat → Int} (hg : ∀ w, C w → w.heap[B]? = some (.cells (arr n f) T fr)) (hd : aggB P ty = true)
    (hi : (P.info? ty).map (·.size) = some n) (h : wpQuiet P ops C Q rest (a.put o.dst (.agg (arr n f)))) : wpQuiet P ops C Q (o :: rest) a :=
  wpQuiet_loadA hw ty x ho B 0 hx hg n hd hi (by omega) (by simpa using h)
theorem wpQuiet_loadI {ops : Array Oper} {C : World → Prop} {rest : List Oper} {o : Oper} {a : Act} {Q : Act → Prop} (hw : Region.wanted o (yielded ops a.tmps) = true) (ty : TypeId) (x : Operand) (ho : o.op = .load ty x)
    (B off : Nat) (hx : a.eval x = .pointer (some ⟨B, off, none⟩)) {T : TypeId} {fr : Nat × Nat} {n : Nat} {f : Nat → Int} (hg : ∀ w, C w → w.heap[B]? = some (.cells (arr n f) T fr)) (hd : aggB P ty = false) (hu : (P.underlying ty).isSome = true)
    (hle : off < n) (h : wpQuiet P ops C Q rest (a.put o.dst (.int .i64 (f off)))) : wpQuiet P ops C Q (o :: rest) a := by
  refine wpQuiet_value _ hw (fun w hw => ?_) h
  have hagg : (isAgg ty).run P w = .ok false w := by
    unfold aggB at hd
    unfold isAgg
    cases hq : P.underlying ty with
    | none => simp [hq] at hu
    | some d =>
      rw [Sem.run_bind, run_underlying hq w]
      cases d <;> simp_all
  unfold execOp
  simp only [ho, hx, Instr.loadAt, Instr.sureAddr, loadVar, Sem.run_bind, Sem.run_pure, Result.andThen_ok, hagg]
  simp [rowcell (hg w hw) hle]
theorem wpQuiet_call {ops : Array Oper} {C : World → Prop} {Q : Act → Prop} {a : Act} {o : Oper} {rest : List Oper} (hw : Region.wanted o (yielded ops a.tmps) = true) (f : FuncId) (xs : Array Operand) (ats : Array TypeId)
    (ho : o.op = .call { callee := .value (.func f), args := xs, argTypes := ats }) (v : Value) (hE : ∀ (args : Array Value) (w : World), (callFunc f args).run P w = .ok (.enter f args) w)
    (hc : ∀ w, C w → Calls P f (xs.toList.map a.eval).toArray w fun e w' => e = .returned v ∧ C w') (hk : wpQuiet P ops C Q rest (a.put o.dst v)) : wpQuiet P ops C Q (o :: rest) a := by
  refine wpQuiet_enter v f (xs.toList.map a.eval).toArray hw (fun w _ => ?_) hc hk
  have e : xs.map a.eval = (xs.toList.map a.eval).toArray := by
    cases xs; simp
  unfold execOp
  have h1 : (invoke (.fn (.func f) #[]) (xs.map a.eval)).run P w = .ok (.enter f (xs.toList.map a.eval).toArray) w := by
    unfold invoke
    rw [e]
    simpa using hE (xs.toList.map a.eval).toArray w
  simpa [ho, resolve, Act.eval, Deferred.ofValue] using h1
theorem wpQuiet_callE {ops : Array Oper} {C : World → Prop} {Q : Act → Prop} {a : Act} {o : Oper} {rest : List Oper} (hw : Region.wanted o (yielded ops a.tmps) = true) (f : FuncId) (xs : Array Operand) (ats : Array TypeId)
    (ho : o.op = .call { callee := .value (.func f), args := xs, argTypes := ats }) (v : Value) (args : Array Value) (hargs : (xs.toList.map a.eval).toArray = args) (hE : ∀ (args : Array Value) (w : World), (callFunc f args).run P w = .ok (.enter f args) w)
    (hc : ∀ w, C w → Calls P f args w fun e w' => e = .returned v ∧ C w') (hk : wpQuiet P ops C Q rest (a.put o.dst v)) : wpQuiet P ops C Q (o :: rest) a :=
  wpQuiet_call hw f xs ats ho v hE (by rw [hargs]; exact hc) hk
theorem wpQuiet_skip {ops : Array Oper} {C : World → Prop} {rest : List Oper} {o : Oper} {a : Act} {Q : Act → Prop} (hw : Region.wanted o (yielded ops a.tmps) = false) (h : wpQuiet P ops C Q rest (a.put o.dst undef)) : wpQuiet P ops C Q (o :: rest) a :=
  wpQuiet_step fun K hK => by
    rw [if_neg (by rw [hw]; simp)]
    exact hK _ h
end

/-- A class of worlds: these blocks are as they are, and below w0's end nothing has turned. -/
def Cls (w0 : World) (rows : List (Nat × Obj)) (W : World) : Prop := (∀ p, p ∈ rows → W.heap[p.1]? = some p.2) ∧ Below w0.heap.size w0 W
theorem Cls.one {w0 W : World} {B : Nat} {o : Obj} (h : W.heap[B]? = some o) (hb : Below w0.heap.size w0 W) : Cls w0 [(B, o)] { W with drawn := W.drawn + 1 } :=
  ⟨fun p hp => by simp only [List.mem_singleton] at hp; subst hp; exact h, hb.drew⟩
theorem Cls.two {w0 W : World} {B B2 : Nat} {o o2 : Obj} (h : W.heap[B]? = some o) (h2 : W.heap[B2]? = some o2) (hb : Below w0.heap.size w0 W) : Cls w0 [(B, o), (B2, o2)] { W with drawn := W.drawn + 1 } :=
  ⟨fun p hp => by
    simp only [List.mem_cons, List.not_mem_nil, or_false] at hp
    rcases hp with hp | hp <;> subst hp
    · exact h
    · exact h2, hb.drew⟩
theorem Cls.three {w0 W : World} {B B2 B3 : Nat} {o o2 o3 : Obj} (h : W.heap[B]? = some o) (h2 : W.heap[B2]? = some o2) (h3 : W.heap[B3]? = some o3) (hb : Below w0.heap.size w0 W) : Cls w0 [(B, o), (B2, o2), (B3, o3)] { W with drawn := W.drawn + 1 } :=
  ⟨fun p hp => by
    simp only [List.mem_cons, List.not_mem_nil, or_false] at hp
    rcases hp with hp | hp | hp <;> subst hp
    · exact h
    · exact h2
    · exact h3, hb.drew⟩
theorem Cls.keep {w0 W W' : World} {rows : List (Nat × Obj)} (h : Cls w0 rows W) (hb : Below W.heap.size W W') : Cls w0 rows W' :=
  ⟨fun p hp => row_keep hb (h.1 p hp), h.2.trans (hb.mono h.2.size)⟩
theorem Cls.r1 {w0 W : World} {B : Nat} {o : Obj} {l : List (Nat × Obj)} (h : Cls w0 ((B, o) :: l) W) : W.heap[B]? = some o := h.1 _ (.head _)
theorem Cls.r2 {w0 W : World} {B : Nat} {o : Obj} {x : Nat × Obj} {l : List (Nat × Obj)} (h : Cls w0 (x :: (B, o) :: l) W) : W.heap[B]? = some o := h.1 _ (.tail _ (.head _))
theorem Cls.r3 {w0 W : World} {B : Nat} {o : Obj} {x y : Nat × Obj} {l : List (Nat × Obj)} (h : Cls w0 (x :: y :: (B, o) :: l) W) : W.heap[B]? = some o := h.1 _ (.tail _ (.tail _ (.head _)))
end Go.Proofs.YtlbgmkengkgnfaaDoor
