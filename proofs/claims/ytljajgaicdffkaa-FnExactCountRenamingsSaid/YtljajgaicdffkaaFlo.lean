/- A region that draws its order: readers and calls, a new row that may be laid at any time among them, and writers behind them: one walk in the text's order serves. -/
import Derived.Test.YtljajgaicdffkaaPeel
namespace Go.Proofs.Ytljajgaicdffkaa
set_option linter.unusedSimpArgs false
set_option linter.unusedVariables false
set_option maxRecDepth 20000
open Go.RowKit
section
variable {P : Program} {ops : Array Oper} {md : Region.Mode} {C : World → Prop}
/-- What an operation in world w has come to: the value v, in the very world; or a call that hands back v and turns no block that there was. -/
def rUp (P : Program) (w : World) (v : Value) : Result Next → Prop
  | .ok (.value u) w' => w' = w ∧ u = v
  | .ok (.enter f args) w' => w' = w ∧ Calls P f args w (fun e w'' => e = .returned v ∧ Below w.heap.size w w'')
  | _ => False
def RIn (P : Program) (ops : Array Oper) (C : World → Prop) (o : Oper) (v : Value) (a : Act) : Prop :=
  (Region.wanted o (yielded ops a.tmps) = true ∧ ∀ w, C w → rUp P w v ((execOp a.eval o).run P w)) ∨ (Region.wanted o (yielded ops a.tmps) = false ∧ v = undef)
theorem RIn.of_same {o : Oper} {v : Value} {a a' : Act} (hy : RIn P ops C o v a) (he : execOp a'.eval o = execOp a.eval o)
    (hw : Region.wanted o (yielded ops a'.tmps) = Region.wanted o (yielded ops a.tmps)) : RIn P ops C o v a' := by
  unfold RIn at *
  rw [he, hw]
  exact hy
/-- The text's order. -/
def wpR (P : Program) (ops : Array Oper) (C : World → Prop) (Q : Act → Prop) : List Oper → Act → Prop
  | [], a => Q a
  | o :: rest, a => ∃ v, RIn P ops C o v a ∧ wpR P ops C Q rest (a.put o.dst v)
/-- Any order of the operations that sk does not pass over. -/
def anyR (P : Program) (md : Region.Mode) (ops : Array Oper) (C : World → Prop) (sk : Nat → Bool) (Q : Act → Prop) : Nat → Array Bool → Act → Prop
  | 0, listed, a => (∀ i ∈ Region.ready md ops listed, sk i = true) ∧ Q a
  | fuel + 1, listed, a => ((∀ i ∈ Region.ready md ops listed, sk i = true) → Q a) ∧
    ∀ i ∈ Region.ready md ops listed, sk i = false → ∀ o, ops[i]? = some o → ∃ v, RIn P ops C o v a ∧ anyR P md ops C sk Q fuel (listed.setIfInBounds i true) (a.put o.dst v)
theorem not_waits {i j : Nat} {oj : Oper} {listed : Array Bool} (hr : i ∈ Region.ready md ops listed) (hj : j ∈ Region.ready md ops listed) (hoj : ops[j]? = some oj) : ∀ e ∈ oj.after, Region.binds md e = true → e.on ≠ i := by
  obtain ⟨_, oj', hoj', hall⟩ := mem_ready.1 hj
  rw [hoj] at hoj'; cases hoj'
  intro e he hb heq
  have h1 := hall e he hb
  have h0 := (mem_ready.1 hr).1
  rw [heq] at h1
  rcases Nat.lt_or_ge i listed.size with h' | h'
  · simp [h'] at h0 h1; rw [h0] at h1; cases h1
  · simp [Array.getElem?_eq_none h'] at h1
theorem anyR_first {sk : Nat → Bool} {Q : Act → Prop} {i : Nat} {oi : Oper} {v : Value} (hi : ops[i]? = some oi) (hsk : sk i = false) (hs : Region.noSelect ops = true) :
    ∀ (fuel : Nat) (listed : Array Bool) (a : Act),
      (∀ j oj, ops[j]? = some oj → j ≠ i → sk j = false → listed.getD j true = false → (∀ e ∈ oj.after, Region.binds md e = true → e.on ≠ i) → oi.apart ops oj = true) →
      i ∈ Region.ready md ops listed → RIn P ops C oi v a →
      anyR P md ops C sk Q fuel (listed.setIfInBounds i true) (a.put oi.dst v) → anyR P md ops C sk Q (fuel + 1) listed a := by
  intro fuel
  induction fuel with
  | zero =>
    intro listed a _ hr hy H
    refine ⟨fun h => (by rw [h i hr] at hsk; cases hsk), fun j hj hsj o ho => ?_⟩
    by_cases hji : j = i
    · subst hji
      rw [hi] at ho; cases ho
      exact ⟨v, hy, H⟩
    · have := H.1 j (ready_mono hj hji)
      rw [this] at hsj; cases hsj
  | succ fuel ih =>
    intro listed a hfree hr hy H
    refine ⟨fun h => (by rw [h i hr] at hsk; cases hsk), fun j hj hsj oj hoj => ?_⟩
    by_cases hji : j = i
    · subst hji
      rw [hi] at hoj; cases hoj
      exact ⟨v, hy, H⟩
    · obtain ⟨u, hu, hK⟩ := H.2 j (ready_mono hj hji) hsj oj hoj
      have hjun := (mem_ready.1 hj).1
      obtain ⟨h1, h2, h3⟩ := Oper.apart_spec (hfree j oj hoj hji hsj hjun (not_waits hr hj hoj))
      have sj := Region.noSelect_spec hs j oj
      have si := Region.noSelect_spec hs i oi
      have hu' : RIn P ops C oj u a := hu.of_same (execOp_put oj (fun cs b => sj cs b hoj) a oi.dst v h1).symm (wanted_put oj a oi.dst v h1).symm
      have hy' : RIn P ops C oi v (a.put oj.dst u) := hy.of_same (execOp_put oi (fun cs b => si cs b hi) a oj.dst u h3) (wanted_put oi a oj.dst u h3)
      refine ⟨u, hu', ih (listed.setIfInBounds j true) (a.put oj.dst u) (fun k ok hk hki hskk hun hno => ?_) (ready_mono hr (Ne.symm hji)) hy' ?_⟩
      · refine hfree k ok hk hki hskk ?_ hno
        by_cases hjk : j = k
        · subst hjk; exact hjun
        · rw [getD_set_ne true hjk] at hun; exact hun
      · rw [Array.setIfInBounds_comm _ _ hji, ← Act.put_comm a v u h2]
        exact hK
def freeR (md : Region.Mode) (ops : Array Oper) (sk : Nat → Bool) (listed : Array Bool) (i : Nat) : Bool :=
  (List.range ops.size).all fun j => j == i || listed.getD j true || sk j || Region.waitsFor md ops j i || (match ops[i]?, ops[j]? with | some oi, some oj => oi.apart ops oj | _, _ => false)
def lexR (md : Region.Mode) (ops : Array Oper) (sk : Nat → Bool) : Nat → Nat → Array Bool → Bool
  | 0, _, listed => (Region.ready md ops listed).all sk
  | m + 1, k, listed => (Region.ready md ops listed).contains k && !sk k && freeR md ops sk listed k && lexR md ops sk m (k + 1) (listed.setIfInBounds k true)
theorem anyR_lex {sk : Nat → Bool} {Q : Act → Prop} (hs : Region.noSelect ops = true) : ∀ (l : List Oper) (k : Nat) (listed : Array Bool) (a : Act), (∀ j, j < l.length → l[j]? = ops[k + j]?) →
    lexR md ops sk l.length k listed = true → wpR P ops C Q l a → anyR P md ops C sk Q l.length listed a
  | [], _, _, _, _, hB, h => ⟨by simpa [lexR] using hB, h⟩
  | o :: l, k, listed, a, hl, hB, h => by
    have h0 : ops[k]? = some o := by simpa using (hl 0 (by simp)).symm
    simp only [List.length_cons, lexR, Bool.and_eq_true, Bool.not_eq_true'] at hB
    obtain ⟨⟨⟨hr, hsk⟩, hf⟩, hB'⟩ := hB
    obtain ⟨v, hy, hK⟩ := h
    refine anyR_first h0 hsk hs l.length listed a (fun j oj hoj hne hsj hun hno => ?_) (by simpa using hr) hy
      (anyR_lex hs l (k + 1) _ _ (fun j hj => by have := hl (j + 1) (by simp; omega); simpa [Nat.add_assoc, Nat.add_comm 1 j] using this) hB' hK)
    have h1 := List.all_eq_true.1 hf j (List.mem_range.2 (Array.getElem?_eq_some_iff.1 hoj).1)
    simp only [h0, hoj, Bool.or_eq_true, beq_iff_eq, hne, false_or, hun, Bool.false_eq_true, hsj] at h1
    rcases h1 with h1 | h1
    · obtain ⟨oj', ho', e, he, hb, heq⟩ := Region.waitsFor_spec h1
      rw [hoj] at ho'; cases ho'
      exact absurd heq (hno e he hb)
    · exact h1
/-- Operations that look at no memory. -/
def plainB (o : Oper) : Bool := match o.op with | .extract _ _ => true | _ => false
theorem extract_pure (t : Value) (k : Nat) : (∃ u, Instr.extract t k = pure u) ∨ (∃ m, Instr.extract t k = stuck m) := by
  unfold Instr.extract
  split
  · split
    · exact .inl ⟨_, rfl⟩
    · exact .inr ⟨_, rfl⟩
  · exact .inr ⟨_, rfl⟩
theorem plain_all {o : Oper} (h : plainB o = true) {a : Act} {w : World} {v : Value} (hr : rUp P w v ((execOp a.eval o).run P w)) : ∀ w2, (execOp a.eval o).run P w2 = .ok (.value v) w2 := by
  unfold plainB at h
  split at h
  · rename_i x k ho
    unfold execOp at *
    simp only [ho, Sem.run_bind] at *
    intro w2
    rcases extract_pure (a.eval x) k with ⟨u, e⟩ | ⟨m, e⟩
    · rw [e] at hr ⊢
      simp only [Sem.run_pure, Result.andThen_ok, rUp] at hr ⊢
      rw [hr.2]
    · rw [e] at hr
      exact (hr : False).elim
  · cases h
/-- The shape of such a region. -/
structure FloOK (P : Program) (md : Region.Mode) (ops : Array Oper) (m T : Nat) (F : Nat → Bool) (om : Oper) : Prop where
  hs : Region.noSelect ops = true
  hN : ops.size = m + 1 + T
  hom : ops[m]? = some om
  hlow : ∀ i o, i < m → ops[i]? = some o → ∀ e ∈ o.after, Region.binds md e = true → e.on < i ∧ F e.on = false
  hmw : ∀ e ∈ om.after, Region.binds md e = true → False
  hmg : om.guard = none
  htail : ∀ t, m < t → t < ops.size → (t = m + 1 → Region.waitsFor md ops t m = true ∧ ∀ i, i < m → F i = false → Region.waitsFor md ops t i = true) ∧ (m + 1 < t → Region.waitsFor md ops t (t - 1) = true)
  hF : ∀ i oi, i < m → F i = true → ops[i]? = some oi → plainB oi = true ∧ ∀ j oj, ops[j]? = some oj → j ≠ i → Region.waitsFor md ops j i = true ∨ Region.waitsFor md ops i j = true ∨ oi.apart ops oj = true
  hap : ∀ j oj, j < m → ops[j]? = some oj → om.apart ops oj = true
structure FloInv (ops : Array Oper) (m : Nat) (listed : Array Bool) : Prop where
  size : listed.size = ops.size
  tail : ∀ t, m ≤ t → t < ops.size → listed.getD t true = false
theorem FloInv.set {m i : Nat} {listed : Array Bool} (inv : FloInv ops m listed) (hi : i < m) : FloInv ops m (listed.setIfInBounds i true) :=
  ⟨by simp [inv.size], fun t h1 h2 => by rw [getD_set_ne true (by omega)]; exact inv.tail t h1 h2⟩
theorem listed_both {listed : Array Bool} {i : Nat} (hi : i < listed.size) (h : listed.getD i false = true) : listed.getD i true = true := by
  simp [hi] at h ⊢; exact h
theorem unl_both {listed : Array Bool} {i : Nat} (hi : i < listed.size) (h : listed.getD i true = true) : listed.getD i false = true := by
  simp [hi] at h ⊢; exact h
theorem waits_not {j i : Nat} {listed : Array Bool} (hw : Region.waitsFor md ops j i = true) (hj : j ∈ Region.ready md ops listed) : listed.getD i false = true := by
  obtain ⟨oj, ho, e, he, hb, heq⟩ := Region.waitsFor_spec hw
  obtain ⟨_, oj', ho', hall⟩ := mem_ready.1 hj
  rw [ho] at ho'; cases ho'
  rw [← heq]
  exact hall e he hb
section
variable {m T n0 : Nat} {F : Nat → Bool} {om : Oper} {ob : Obj} {K : Act → World → Prop} {Q : Act → Prop}
/-- A plain operation whose turn may come may be taken first. -/
theorem flo_ready {listed : Array Bool} (hO : FloOK P md ops m T F om) (inv : FloInv ops m listed) (hno : ¬ ∃ i, i < m ∧ F i = true ∧ i ∈ Region.ready md ops listed)
    (hall : ∀ i, i < m → F i = false → listed.getD i true = true) : ∀ i, i < m → listed.getD i true = true := by
  intro i hi
  cases hf : F i with
  | false => exact hall i hi hf
  | true =>
    cases hl : listed.getD i true with
    | true => rfl
    | false =>
      have hio : i < ops.size := by have := hO.hN; omega
      have ho : ops[i]? = some ops[i] := Array.getElem?_eq_getElem hio
      refine absurd ⟨i, hi, hf, mem_ready.2 ⟨hl, _, ho, fun e he hb => ?_⟩⟩ hno
      obtain ⟨h1, h2⟩ := hO.hlow i _ hi ho e he hb
      exact unl_both (by rw [inv.size]; omega) (hall e.on (by omega) h2)
theorem flo_min {listed : Array Bool} (hO : FloOK P md ops m T F om) (inv : FloInv ops m listed) : ∀ i, i < m → listed.getD i true = false → ∃ k, k < m ∧ k ∈ Region.ready md ops listed := by
  intro i
  induction i using Nat.strongRecOn with
  | _ i ih =>
    intro hi hun
    have hio : i < ops.size := by have := hO.hN; omega
    have ho : ops[i]? = some ops[i] := Array.getElem?_eq_getElem hio
    by_cases hx : ∃ e ∈ (ops[i]).after, Region.binds md e = true ∧ listed.getD e.on true = false
    · obtain ⟨e, he, hb, hf⟩ := hx
      have := (hO.hlow i _ hi ho e he hb).1
      exact ih e.on this (by omega) hf
    · refine ⟨i, hi, mem_ready.2 ⟨hun, _, ho, fun e he hb => ?_⟩⟩
      have h1 := (hO.hlow i _ hi ho e he hb).1
      cases h : listed.getD e.on true with
      | false => exact absurd ⟨e, he, hb, h⟩ hx
      | true => exact unl_both (by rw [inv.size]; omega) h
theorem flo_yields {i : Nat} {oi : Oper} {v : Value} {a : Act} {w : World} (hp : plainB oi = true) (hw : C w) (hy : RIn P ops C oi v a) : Yields P ops oi v a := by
  rcases hy with ⟨h1, h2⟩ | h
  · exact .inl ⟨h1, plain_all hp (h2 w hw)⟩
  · exact .inr h
theorem flo_step {j : Nat} {oj : Oper} {u : Value} {a : Act} {w : World} {K' : Act → World → Prop} (hoj : ops[j]? = some oj) (hC : ∀ w w', C w → Below w.heap.size w w' → C w') (hw : C w) (hu : RIn P ops C oj u a)
    (h : ∀ w', C w' → Below w.heap.size w w' → K' (a.put oj.dst u) w') : wpOp P ops (QN K) j K' a w := by
  unfold wpOp
  simp only [hoj]
  rcases hu with ⟨h1, h2⟩ | ⟨h1, rfl⟩
  · rw [if_pos h1]
    refine .inl ?_
    have h3 := h2 w hw
    unfold Oper.wp
    generalize (execOp a.eval oj).run P w = r at *
    cases r with
    | ok nx w' =>
      cases nx <;> simp only [rUp] at h3 <;> simp only [Oper.upon]
      case value x =>
        obtain ⟨e1, e2⟩ := h3
        subst e1 e2
        exact h _ hw (Below.refl _ _)
      case enter f args =>
        obtain ⟨e1, hc⟩ := h3
        subst e1
        exact hc.mono fun e w'' ⟨he, hb⟩ => by subst he; exact h _ (hC _ _ hw hb) hb
    | halt x w' => simp only [rUp] at h3
  · rw [if_neg (by rw [h1]; simp)]
    exact h _ hw (Below.refl _ _)
theorem flo_B (hO : FloOK P md ops m T F om) (hseq : Region.seqB md ops T (m + 1) (fullL (m + 1) ops.size) = true) (hC : ∀ w w', C w → Below w.heap.size w w' → C w') {B : Nat} (hB : n0 ≤ B)
    (hQ : ∀ a w, Q a → C w → w.heap[B]? = some ob → wpList P ops (QN K) (ops.toList.drop (m + 1)) (a.put om.dst (.pointer (some ⟨B, 0, none⟩))) w) :
    ∀ (fuel : Nat) (listed : Array Bool) (a : Act) (w : World), FloInv ops m listed → anyR P md ops C (fun i => decide (m ≤ i)) Q fuel listed a → C w → w.heap[B]? = some ob →
      wpAny P md ops (QN K) (fuel + T) (listed.setIfInBounds m true) (a.put om.dst (.pointer (some ⟨B, 0, none⟩))) w := by
  intro fuel
  induction fuel with
  | zero =>
    intro listed a w inv h hw hr
    have hnr : ∀ i, i < m → i ∉ Region.ready md ops listed := fun i hi hm => by have := h.1 i hm; simp only [decide_eq_true_eq] at this; omega
    have hall : ∀ i, i < m → listed.getD i true = true := fun i hi => by
      cases hl : listed.getD i true with
      | true => rfl
      | false => obtain ⟨k, hk, hk2⟩ := flo_min hO inv i hi hl; exact absurd hk2 (hnr k hk)
    have e : listed.setIfInBounds m true = fullL (m + 1) ops.size := by
      have hN := hO.hN
      have hsz := inv.size
      refine Array.ext_getElem? fun i => ?_
      rw [fullL_get, Array.getElem?_setIfInBounds]
      by_cases him : m = i
      · subst him
        rw [if_pos rfl, if_pos (by omega), if_pos (by omega)]
        simp
      · rw [if_neg him]
        by_cases hi : i < ops.size
        · rw [if_pos hi]
          have h1 : i < listed.size := by omega
          rw [Array.getElem?_eq_getElem h1]
          congr 1
          by_cases hin : i < m
          · have h2 := hall i hin
            simp [h1] at h2
            rw [h2]; simp; omega
          · have h2 := inv.tail i (by omega) hi
            simp [h1] at h2
            rw [h2]; simp; omega
        · rw [if_neg hi, Array.getElem?_eq_none (by omega)]
    rw [e, Nat.zero_add]
    have hT : (ops.toList.drop (m + 1)).length = T := by have := hO.hN; simp; omega
    have := wpAny_of_seq (md := md) (Q' := QN K) (ops.toList.drop (m + 1)) (m + 1) (fullL (m + 1) ops.size) _ w (fun j => by simp [List.getElem?_drop]) (by rw [hT]; exact hseq) (hQ a w h.2 hw hr)
    rwa [hT] at this
  | succ fuel ih =>
    intro listed a w inv h hw hr
    by_cases hF : ∃ i, i < m ∧ F i = true ∧ i ∈ Region.ready md ops listed
    · obtain ⟨i, him, hFi, hi⟩ := hF
      obtain ⟨_, oi, hoi, _⟩ := mem_ready.1 hi
      obtain ⟨v, hy, hK⟩ := h.2 i hi (by simp; omega) _ hoi
      obtain ⟨hp, hfr⟩ := hO.hF i _ him hFi hoi
      obtain ⟨a1, a2, a3⟩ := Oper.apart_spec (hO.hap i _ him hoi)
      have sel := Region.noSelect_spec hO.hs
      have hy' : RIn P ops C oi v (a.put om.dst (.pointer (some ⟨B, 0, none⟩))) := hy.of_same (execOp_put _ (fun cs b => sel i _ cs b hoi) a om.dst _ a1) (wanted_put _ a om.dst _ a1)
      rw [show fuel + 1 + T = (fuel + T) + 1 by omega]
      refine wpAny_first hoi sel (fun _ _ _ hq => hq) (fuel + T) _ _ w (fun j oj hoj hji hun hno => ?_) (ready_mono hi (by omega)) (flo_yields (i := i) hp hw hy') ?_
      · rcases hfr j oj hoj hji with h1 | h1 | h1
        · obtain ⟨oj', ho', e, he, hb, heq⟩ := Region.waitsFor_spec h1
          rw [hoj] at ho'; cases ho'
          exact absurd heq (hno e he hb)
        · have h2 := waits_not h1 (ready_mono hi (show i ≠ m by omega))
          have h3 : j < (listed.setIfInBounds m true).size := by
            have := (Array.getElem?_eq_some_iff.1 hoj).1
            have := inv.size
            simp; omega
          rw [listed_both h3 h2] at hun; cases hun
        · exact h1
      · have := ih (listed.setIfInBounds i true) (a.put oi.dst v) w (inv.set him) hK hw hr
        rw [Array.setIfInBounds_comm _ _ (show i ≠ m by omega)] at this
        rw [Act.put_comm a _ v a2]
        exact this
    · by_cases hun : ∃ i, i < m ∧ listed.getD i true = false
      · obtain ⟨i, him, hil⟩ := hun
        obtain ⟨k, hk, hkr⟩ := flo_min hO inv i him hil
        rw [show fuel + 1 + T = (fuel + T) + 1 by omega]
        refine ⟨fun h0 => (by have := ready_mono (i := m) hkr (by omega); rw [h0] at this; cases this), fun j hj => ?_⟩
        obtain ⟨hjun, oj, hoj, hjall⟩ := mem_ready.1 hj
        have hjN : j < ops.size := (Array.getElem?_eq_some_iff.1 hoj).1
        have hsz := inv.size
        have hjm : j < m := by
          rcases Nat.lt_trichotomy j m with h1 | h1 | h1
          · exact h1
          · subst h1
            have : j < listed.size := by omega
            simp [this] at hjun
          · exfalso
            obtain ⟨t1, t2⟩ := hO.htail j h1 hjN
            by_cases hj1 : j = m + 1
            · have hx : ∀ i, i < m → F i = false → listed.getD i true = true := fun i hi hf => by
                have := waits_not ((t1 hj1).2 i hi hf) hj
                rw [getD_set_ne false (by omega)] at this
                exact listed_both (by omega) this
              have := flo_ready hO inv hF hx i him
              rw [this] at hil; cases hil
            · have := waits_not (t2 (by omega)) hj
              rw [getD_set_ne false (by omega)] at this
              have h3 := inv.tail (j - 1) (by omega) (by omega)
              rw [listed_both (by omega) this] at h3; cases h3
        have hjr : j ∈ Region.ready md ops listed := by
          refine mem_ready.2 ⟨by rw [getD_set_ne true (by omega)] at hjun; exact hjun, oj, hoj, fun e he hb => ?_⟩
          have h1 := (hO.hlow j oj hjm hoj e he hb).1
          have := hjall e he hb
          rw [getD_set_ne false (by omega)] at this
          exact this
        obtain ⟨u, hu, hK⟩ := h.2 j hjr (by simp; omega) oj hoj
        obtain ⟨a1, a2, a3⟩ := Oper.apart_spec (hO.hap j oj hjm hoj)
        have sel := Region.noSelect_spec hO.hs
        have hu' : RIn P ops C oj u (a.put om.dst (.pointer (some ⟨B, 0, none⟩))) := hu.of_same (execOp_put _ (fun cs b => sel j _ cs b hoj) a om.dst _ a1) (wanted_put _ a om.dst _ a1)
        refine flo_step hoj hC hw hu' fun w' hw' hb' => ?_
        have := ih (listed.setIfInBounds j true) (a.put oj.dst u) w' (inv.set hjm) hK hw' (row_keep hb' hr)
        rw [Array.setIfInBounds_comm _ _ (show j ≠ m by omega)] at this
        rw [Act.put_comm a _ u a2]
        exact this
      · have hall : ∀ i ∈ Region.ready md ops listed, decide (m ≤ i) = true := fun i hi => by
          have h1 := (mem_ready.1 hi).1
          by_cases him : i < m
          · exact absurd ⟨i, him, h1⟩ hun
          · simp; omega
        have h0 : anyR P md ops C (fun i => decide (m ≤ i)) Q 0 listed a := ⟨hall, h.1 hall⟩
        have hz : wpAny P md ops (QN K) (0 + T) (listed.setIfInBounds m true) (a.put om.dst (.pointer (some ⟨B, 0, none⟩))) w := by
          have hN := hO.hN
          have hsz := inv.size
          have e : listed.setIfInBounds m true = fullL (m + 1) ops.size := by
            refine Array.ext_getElem? fun i => ?_
            rw [fullL_get, Array.getElem?_setIfInBounds]
            by_cases him : m = i
            · subst him
              rw [if_pos rfl, if_pos (by omega), if_pos (by omega)]
              simp
            · rw [if_neg him]
              by_cases hi : i < ops.size
              · rw [if_pos hi]
                have h1 : i < listed.size := by omega
                rw [Array.getElem?_eq_getElem h1]
                congr 1
                by_cases hin : i < m
                · have h2 : listed.getD i true = true := by
                    cases hl : listed.getD i true with
                    | true => rfl
                    | false => exact absurd ⟨i, hin, hl⟩ hun
                  simp [h1] at h2
                  rw [h2]; simp; omega
                · have h2 := inv.tail i (by omega) hi
                  simp [h1] at h2
                  rw [h2]; simp; omega
              · rw [if_neg hi, Array.getElem?_eq_none (by omega)]
          rw [e, Nat.zero_add]
          have hT : (ops.toList.drop (m + 1)).length = T := by simp; omega
          have := wpAny_of_seq (md := md) (Q' := QN K) (ops.toList.drop (m + 1)) (m + 1) (fullL (m + 1) ops.size) _ w (fun j => by simp [List.getElem?_drop]) (by rw [hT]; exact hseq) (hQ a w h0.2 hw hr)
          rwa [hT] at this
        have := wpAny_fuels (fuel + 1) _ _ _ _ hz
        rwa [show fuel + 1 + (0 + T) = fuel + 1 + T by omega] at this
theorem flo_A (hO : FloOK P md ops m T F om) (hseq : Region.seqB md ops T (m + 1) (fullL (m + 1) ops.size) = true) (hC : ∀ w w', C w → Below w.heap.size w w' → C w') (hn0 : ∀ w, C w → n0 ≤ w.heap.size)
    (ha : ∀ (a : Act) (w : World), (execOp a.eval om).run P w = .ok (.value (.pointer (some ⟨w.heap.size, 0, none⟩))) (w.alloc ob))
    (hQ : ∀ B, n0 ≤ B → ∀ a w, Q a → C w → w.heap[B]? = some ob → wpList P ops (QN K) (ops.toList.drop (m + 1)) (a.put om.dst (.pointer (some ⟨B, 0, none⟩))) w) :
    ∀ (fuel : Nat) (listed : Array Bool) (a : Act) (w : World), FloInv ops m listed → anyR P md ops C (fun i => decide (m ≤ i)) Q fuel listed a → C w →
      wpAny P md ops (QN K) (fuel + T + 1) listed a w := by
  intro fuel
  induction fuel with
  | zero =>
    intro listed a w inv h hw
    have hN := hO.hN
    have hsz := inv.size
    have hmr : m ∈ Region.ready md ops listed := mem_ready.2 ⟨inv.tail m (Nat.le_refl _) (by omega), om, hO.hom, fun e he hb => (hO.hmw e he hb).elim⟩
    refine ⟨fun h0 => (by rw [h0] at hmr; cases hmr), fun j hj => ?_⟩
    have hjs := h.1 j hj
    simp only [decide_eq_true_eq] at hjs
    obtain ⟨hjun, oj, hoj, hjall⟩ := mem_ready.1 hj
    have hjN : j < ops.size := (Array.getElem?_eq_some_iff.1 hoj).1
    have hjm : j = m := by
      rcases Nat.lt_or_ge m j with h1 | h1
      · exfalso
        obtain ⟨t1, t2⟩ := hO.htail j h1 hjN
        by_cases hj1 : j = m + 1
        · have := waits_not (t1 hj1).1 hj
          rw [inv.tail m (Nat.le_refl _) (by omega) |> fun x => getD_both x] at this; cases this
        · have := waits_not (t2 (by omega)) hj
          rw [inv.tail (j - 1) (by omega) (by omega) |> fun x => getD_both x] at this; cases this
      · omega
    subst hjm
    rw [hO.hom] at hoj; cases hoj
    unfold wpOp
    simp only [hO.hom]
    rw [if_pos (by unfold Region.wanted; rw [hO.hmg])]
    refine .inl ?_
    unfold Oper.wp
    rw [ha a w]
    exact flo_B hO hseq hC (hn0 w hw) (hQ _ (hn0 w hw)) 0 listed a (w.alloc ob) inv h (hC _ _ hw ((Below.refl _ _).alloc (Nat.le_refl _) _)) (heap_new rfl)
  | succ fuel ih =>
    intro listed a w inv h hw
    have hN := hO.hN
    have hsz := inv.size
    by_cases hF : ∃ i, i < m ∧ F i = true ∧ i ∈ Region.ready md ops listed
    · obtain ⟨i, him, hFi, hi⟩ := hF
      obtain ⟨_, oi, hoi, _⟩ := mem_ready.1 hi
      obtain ⟨v, hy, hK⟩ := h.2 i hi (by simp; omega) _ hoi
      obtain ⟨hp, hfr⟩ := hO.hF i _ him hFi hoi
      have sel := Region.noSelect_spec hO.hs
      rw [show fuel + 1 + T + 1 = (fuel + T + 1) + 1 by omega]
      refine wpAny_first hoi sel (fun _ _ _ hq => hq) (fuel + T + 1) _ _ w (fun j oj hoj hji hun hno => ?_) hi (flo_yields (i := i) hp hw hy) (ih (listed.setIfInBounds i true) (a.put oi.dst v) w (inv.set him) hK hw)
      rcases hfr j oj hoj hji with h1 | h1 | h1
      · obtain ⟨oj', ho', e, he, hb, heq⟩ := Region.waitsFor_spec h1
        rw [hoj] at ho'; cases ho'
        exact absurd heq (hno e he hb)
      · have h2 := waits_not h1 hi
        have h3 : j < listed.size := by
          have := (Array.getElem?_eq_some_iff.1 hoj).1
          omega
        rw [listed_both h3 h2] at hun; cases hun
      · exact h1
    · have hmr : m ∈ Region.ready md ops listed := mem_ready.2 ⟨inv.tail m (Nat.le_refl _) (by omega), om, hO.hom, fun e he hb => (hO.hmw e he hb).elim⟩
      rw [show fuel + 1 + T + 1 = (fuel + 1 + T) + 1 by omega]
      refine ⟨fun h0 => (by rw [h0] at hmr; cases hmr), fun j hj => ?_⟩
      obtain ⟨hjun, oj, hoj, hjall⟩ := mem_ready.1 hj
      have hjN : j < ops.size := (Array.getElem?_eq_some_iff.1 hoj).1
      rcases Nat.lt_trichotomy j m with h1 | h1 | h1
      · obtain ⟨u, hu, hK⟩ := h.2 j hj (by simp; omega) oj hoj
        refine flo_step hoj hC hw hu fun w' hw' _ => ?_
        have := ih (listed.setIfInBounds j true) (a.put oj.dst u) w' (inv.set h1) hK hw'
        rwa [show fuel + T + 1 = fuel + 1 + T by omega] at this
      · subst h1
        rw [hO.hom] at hoj; cases hoj
        unfold wpOp
        simp only [hO.hom]
        rw [if_pos (by unfold Region.wanted; rw [hO.hmg])]
        refine .inl ?_
        unfold Oper.wp
        rw [ha a w]
        exact flo_B hO hseq hC (hn0 w hw) (hQ _ (hn0 w hw)) (fuel + 1) listed a (w.alloc ob) inv h (hC _ _ hw ((Below.refl _ _).alloc (Nat.le_refl _) _)) (heap_new rfl)
      · exfalso
        obtain ⟨t1, t2⟩ := hO.htail j h1 hjN
        by_cases hj1 : j = m + 1
        · have := waits_not (t1 hj1).1 hj
          rw [inv.tail m (Nat.le_refl _) (by omega) |> fun x => getD_both x] at this; cases this
        · have := waits_not (t2 (by omega)) hj
          rw [inv.tail (j - 1) (by omega) (by omega) |> fun x => getD_both x] at this; cases this
end
def floB (md : Region.Mode) (ops : Array Oper) (m T : Nat) (Fl : List Nat) : Bool :=
  Region.noSelect ops && decide (ops.size = m + 1 + T)
  && ((List.range m).all fun i => match ops[i]? with | some o => o.after.all (fun e => !Region.binds md e || (decide (e.on < i) && !Fl.contains e.on)) | none => false)
  && (match ops[m]? with | some om => om.after.all (fun e => !Region.binds md e) && om.guard.isNone | none => false)
  && ((List.range ops.size).all fun t => decide (t ≤ m) || ((!decide (t = m + 1) || (Region.waitsFor md ops t m && (List.range m).all fun i => Fl.contains i || Region.waitsFor md ops t i)) && (decide (t ≤ m + 1) || Region.waitsFor md ops t (t - 1))))
  && ((List.range m).all fun i => !Fl.contains i || (match ops[i]? with | some oi => plainB oi && (List.range ops.size).all (fun j => j == i || Region.waitsFor md ops j i || Region.waitsFor md ops i j || (match ops[j]? with | some oj => oi.apart ops oj | none => false)) | none => false))
  && ((List.range m).all fun j => match ops[m]?, ops[j]? with | some om, some oj => om.apart ops oj | _, _ => false)
  && Region.seqB md ops T (m + 1) (fullL (m + 1) ops.size) && lexR md ops (fun i => decide (m ≤ i)) m 0 (Array.replicate ops.size false)
theorem floOK_of {m T : Nat} {Fl : List Nat} {om : Oper} (hom : ops[m]? = some om) (h : floB md ops m T Fl = true) :
    FloOK P md ops m T (fun i => Fl.contains i) om ∧ Region.seqB md ops T (m + 1) (fullL (m + 1) ops.size) = true ∧ lexR md ops (fun i => decide (m ≤ i)) m 0 (Array.replicate ops.size false) = true := by
  simp only [floB, Bool.and_eq_true, decide_eq_true_eq] at h
  obtain ⟨⟨⟨⟨⟨⟨⟨⟨h1, h2⟩, h3⟩, h4⟩, h5⟩, h6⟩, h7⟩, h8⟩, h9⟩ := h
  refine ⟨⟨h1, h2, hom, fun i o hi ho e he hb => ?_, fun e he hb => ?_, ?_, fun t ht hts => ?_, fun i oi hi hf ho => ?_, fun j oj hj ho => ?_⟩, h8, h9⟩
  · have := List.all_eq_true.1 h3 i (List.mem_range.2 hi)
    simp only [ho] at this
    have := Array.all_eq_true_iff_forall_mem.1 this e he
    simp only [hb, Bool.not_true, Bool.false_or, Bool.and_eq_true, decide_eq_true_eq, Bool.not_eq_true'] at this
    exact this
  · simp only [hom, Bool.and_eq_true] at h4
    have := Array.all_eq_true_iff_forall_mem.1 h4.1 e he
    simp [hb] at this
  · simp only [hom, Bool.and_eq_true] at h4
    simpa using h4.2
  · have := List.all_eq_true.1 h5 t (List.mem_range.2 hts)
    simp only [Bool.or_eq_true, decide_eq_true_eq, show ¬ t ≤ m by omega, false_or, Bool.and_eq_true, Bool.not_eq_true', decide_eq_false_iff_not] at this
    obtain ⟨a, b⟩ := this
    refine ⟨fun e => ?_, fun hlt => b.resolve_left (by omega)⟩
    have a := a.resolve_left (by simp [e])
    refine ⟨a.1, fun i hi hf => ?_⟩
    have := List.all_eq_true.1 a.2 i (List.mem_range.2 hi)
    simp only [Bool.or_eq_true] at this
    exact this.resolve_left (by simpa using hf)
  · have := List.all_eq_true.1 h6 i (List.mem_range.2 hi)
    simp only [hf, Bool.not_true, Bool.false_or, ho, Bool.and_eq_true] at this
    refine ⟨this.1, fun j oj hj hne => ?_⟩
    have := List.all_eq_true.1 this.2 j (List.mem_range.2 (Array.getElem?_eq_some_iff.1 hj).1)
    simp only [hj, Bool.or_eq_true, beq_iff_eq, hne, false_or] at this
    exact or_assoc.1 this
  · have := List.all_eq_true.1 h7 j (List.mem_range.2 hj)
    simpa only [hom, ho] using this
theorem Cls.keep2 {w0 : World} {rows : List (Nat × Obj)} : ∀ w w' : World, Cls w0 rows w → Below w.heap.size w w' → Cls w0 rows w' := fun _ _ h hb => h.keep hb
end
section
variable {P : Program}
/-- The region's law. -/
theorem wp_region_flo {id : Nat} {Q : Exit → Act → World → Prop} {a : Act} {w : World} {l : List Oper} (m T : Nat) (Fl : List Nat) (w0 : World) (rows : List (Nat × Obj)) (ty : TypeId) (n : Nat)
    (hz : ((P.info? ty).bind (·.zero)).map (·.cells) = some (arr n fun _ => 0)) (om : Oper) (hom : l.toArray[m]? = some om) (hop : om.op = .alloc ty) (hm : P.follows .mixedOrders = true) (hB : floB .any l.toArray m T Fl = true) (hC : Cls w0 rows { w with drawn := w.drawn + 1 })
    (h : wpR P l.toArray (Cls w0 rows) (fun a' => ∀ B w', w0.heap.size ≤ B → Cls w0 rows w' → w'.heap[B]? = some (.cells (arr n fun _ => 0) ty (0, 0)) → wpList P l.toArray (QN (Q .normal)) (l.drop (m + 1)) (a'.put om.dst (.pointer (some ⟨B, 0, none⟩))) w') (l.take m) a) :
    (Code.region id l.toArray true).wp P Q a w := by
  obtain ⟨hO, hseq, hlex⟩ := floOK_of (P := P) hom hB
  refine Code.wp_mono QN.imp ?_
  refine wp_region_any hm ?_
  have hN := hO.hN
  have hlN : l.length = m + 1 + T := by simpa using hN
  have hany := anyR_lex (P := P) (C := Cls w0 rows) (md := .any) hO.hs (l.take m) 0 (Array.replicate l.toArray.size false) a (fun j hj => by
    have hj2 : j < m := by simp at hj; omega
    rw [List.getElem?_take, if_pos hj2]; simp) (by simpa [show min m l.length = m by omega] using hlex) h
  have hlen : (l.take m).length = m := by simp; omega
  rw [hlen] at hany
  have := flo_A (n0 := w0.heap.size) (K := Q .normal) hO hseq Cls.keep2 (fun w h => h.2.size) (fun a w => run_allocA (P := P) ty hop n hz)
    (fun B hB2 a' w' hq hw hr => by have := hq B w' hB2 hw hr; simpa using this) m (Array.replicate l.toArray.size false) a { w with drawn := w.drawn + 1 }
    ⟨by simp, fun t h1 h2 => getD_in (by simpa using h2) (getD_replicate_false _ _)⟩ hany hC
  rw [show m + T + 1 = l.toArray.size by omega] at this
  exact this
section
variable {ops : Array Oper} {C : World → Prop} {Q : Act → Prop} {a : Act} {o : Oper} {rest : List Oper}
theorem wpR_nil (h : Q a) : wpR P ops C Q [] a := h
theorem wpR_value (v : Value) (hw : Region.wanted o (yielded ops a.tmps) = true) (h : ∀ w, C w → (execOp a.eval o).run P w = .ok (.value v) w) (hk : wpR P ops C Q rest (a.put o.dst v)) : wpR P ops C Q (o :: rest) a :=
  ⟨v, .inl ⟨hw, fun w h' => by rw [h w h']; exact ⟨rfl, rfl⟩⟩, hk⟩
theorem wpR_step (h : ∀ K : Act → Prop, (∀ a, wpR P ops C Q rest a → K a) →
    if Region.wanted o (yielded ops a.tmps) = true then ∃ v, (∀ w, C w → (execOp a.eval o).run P w = .ok (.value v) w) ∧ K (a.put o.dst v) else K (a.put o.dst undef)) : wpR P ops C Q (o :: rest) a := by
  have h := h _ (fun _ h => h)
  by_cases hw : Region.wanted o (yielded ops a.tmps) = true
  · rw [if_pos hw] at h
    obtain ⟨v, h1, h2⟩ := h
    exact wpR_value v hw h1 h2
  · rw [if_neg hw] at h
    exact ⟨undef, .inr ⟨by simpa using hw, rfl⟩, h⟩
theorem wpR_loadA (hw : Region.wanted o (yielded ops a.tmps) = true) (ty : TypeId) (x : Operand) (ho : o.op = .load ty x)
    (B off : Nat) (hx : a.eval x = .pointer (some ⟨B, off, none⟩)) {T : TypeId} {fr : Nat × Nat} {n : Nat} {f : Nat → Int} (hg : ∀ w, C w → w.heap[B]? = some (.cells (arr n f) T fr)) (m : Nat) (hd : aggB P ty = true)
    (hi : (P.info? ty).map (·.size) = some m) (hle : off + m ≤ n) (h : wpR P ops C Q rest (a.put o.dst (.agg (arr m fun j => f (off + j))))) : wpR P ops C Q (o :: rest) a := by
  refine wpR_value _ hw (fun w hw => ?_) h
  unfold execOp
  simp only [ho, hx, Instr.loadAt, Instr.sureAddr, Sem.run_bind, Sem.run_pure, Result.andThen_ok, run_loadVar_arr w B off T ty fr n m f (hg w hw) hd hi hle]
theorem wpR_loadW (hw : Region.wanted o (yielded ops a.tmps) = true) (ty : TypeId) (x : Operand) (ho : o.op = .load ty x)
    (B : Nat) (hx : a.eval x = .pointer (some ⟨B, 0, none⟩)) {T : TypeId} {fr : Nat × Nat} {n : Nat} {f : Nat → Int} (hg : ∀ w, C w → w.heap[B]? = some (.cells (arr n f) T fr)) (hd : aggB P ty = true)
    (hi : (P.info? ty).map (·.size) = some n) (h : wpR P ops C Q rest (a.put o.dst (.agg (arr n f)))) : wpR P ops C Q (o :: rest) a :=
  wpR_loadA hw ty x ho B 0 hx hg n hd hi (by omega) (by simpa using h)
theorem wpR_loadI (hw : Region.wanted o (yielded ops a.tmps) = true) (ty : TypeId) (x : Operand) (ho : o.op = .load ty x)
    (B off : Nat) (hx : a.eval x = .pointer (some ⟨B, off, none⟩)) {T : TypeId} {fr : Nat × Nat} {n : Nat} {f : Nat → Int} (hg : ∀ w, C w → w.heap[B]? = some (.cells (arr n f) T fr)) (hd : aggB P ty = false) (hu : (P.underlying ty).isSome = true)
    (hle : off < n) (h : wpR P ops C Q rest (a.put o.dst (.int .i64 (f off)))) : wpR P ops C Q (o :: rest) a := by
  refine wpR_value _ hw (fun w hw => ?_) h
  have hagg : (isAgg ty).run P w = .ok false w := by
    unfold aggB at hd
    unfold isAgg
    cases hq : P.underlying ty with
    | none => simp [hq] at hu
    | some d =>
      rw [Sem.run_bind, run_underlying hq w]
      cases d <;> simp_all
  unfold execOp
  simp only [ho, hx, Instr.loadAt, Instr.sureAddr, loadVar, Sem.run_bind, Sem.run_pure, Result.andThen_ok, hagg]
  simp [rowcell (hg w hw) hle]
theorem wpR_callE (hw : Region.wanted o (yielded ops a.tmps) = true) (f : FuncId) (xs : Array Operand) (ats : Array TypeId)
    (ho : o.op = .call { callee := .value (.func f), args := xs, argTypes := ats }) (v : Value) (args : Array Value) (hargs : (xs.toList.map a.eval).toArray = args) (hE : ∀ (args : Array Value) (w : World), (callFunc f args).run P w = .ok (.enter f args) w)
    (hc : ∀ w, C w → Calls P f args w fun e w' => e = .returned v ∧ Below w.heap.size w w') (hk : wpR P ops C Q rest (a.put o.dst v)) : wpR P ops C Q (o :: rest) a := by
  refine ⟨v, .inl ⟨hw, fun w h' => ?_⟩, hk⟩
  have e : xs.map a.eval = args := by
    rw [← hargs]
    cases xs; simp
  have h1 : (invoke (.fn (.func f) #[]) (xs.map a.eval)).run P w = .ok (.enter f args) w := by
    unfold invoke
    rw [e]
    simpa using hE args w
  have h2 : (execOp a.eval o).run P w = .ok (.enter f args) w := by
    unfold execOp
    simpa [ho, resolve, Act.eval, Deferred.ofValue] using h1
  rw [h2]
  exact ⟨rfl, hc w h'⟩
end
end
end Go.Proofs.Ytljajgaicdffkaa
