/- A part (number 7) of the proof of the law FnRackNames: what each of its sections proves stands in the section's own first remark. No conditions beside those that each theorem states. -/
import Derived.Test.YtlbgmkengkgnfaaGreatMg6
import Derived.Test.YtlbgmkengkgnfaaGreatMg4
import Derived.Test.YtlbgmkengkgnfaaGreatMg3
section
/- A region that draws its order: readers and calls, a new row that may be laid at any time among them, and writers behind them: one walk in the text's order serves. -/
namespace Go.Proofs.YtlbgmkengkgnfaaGreat
set_option linter.unusedSimpArgs false
set_option linter.unusedVariables false
set_option maxRecDepth 20000
open Go.RowKit
section
variable {P : Program} {ops : Array Oper} {md : Region.Mode} {C : World → Prop}
/-- What an operation in world w has come to: the value v, in the very world; or a call that hands back v and turns no block that there was. -/
def rUp (P : Program) (w : World) (v : Value) : Result Next → Prop
  | .ok (.value u) w' => w' = w ∧ u = v
  | .ok (.enter f args) w' => w' = w ∧ Calls P f args w (fun e w'' => e = .returned v ∧ Below w.heap.size w w'')
  | _ => False
def RIn (P : Program) (ops : Array Oper) (C : World → Prop) (o : Oper) (v : Value) (a : Act) : Prop :=
  (Region.wanted o (yielded ops a.tmps) = true ∧ ∀ w, C w → rUp P w v ((execOp a.eval o).run P w)) ∨ (Region.wanted o (yielded ops a.tmps) = false ∧ v = undef)
theorem RIn.of_same {o : Oper} {v : Value} {a a' : Act} (hy : RIn P ops C o v a) (he : execOp a'.eval o = execOp a.eval o)
    (hw : Region.wanted o (yielded ops a'.tmps) = Region.wanted o (yielded ops a.tmps)) : RIn P ops C o v a' := by
  unfold RIn at *
  rw [he, hw]
  exact hy
/-- The text's order. -/
def wpR (P : Program) (ops : Array Oper) (C : World → Prop) (Q : Act → Prop) : List Oper → Act → Prop
  | [], a => Q a
  | o :: rest, a => ∃ v, RIn P ops C o v a ∧ wpR P ops C Q rest (a.put o.dst v)
/-- Any order of the operations that sk does not pass over. -/
def anyR (P : Program) (md : Region.Mode) (ops : Array Oper) (C : World → Prop) (sk : Nat → Bool) (Q : Act → Prop) : Nat → Array Bool → Act → Prop
  | 0, listed, a => (∀ i ∈ Region.ready md ops listed, sk i = true) ∧ Q a
  | fuel + 1, listed, a => ((∀ i ∈ Region.ready md ops listed, sk i = true) → Q a) ∧
    ∀ i ∈ Region.ready md ops listed, sk i = false → ∀ o, ops[i]? = some o → ∃ v, RIn P ops C o v a ∧ anyR P md ops C sk Q fuel (listed.setIfInBounds i true) (a.put o.dst v)
theorem not_waits {i j : Nat} {oj : Oper} {listed : Array Bool} (hr : i ∈ Region.ready md ops listed) (hj : j ∈ Region.ready md ops listed) (hoj : ops[j]? = some oj) : ∀ e ∈ oj.after, Region.binds md e = true → e.on ≠ i := by
  obtain ⟨_, oj', hoj', hall⟩ := mem_ready.1 hj
  rw [hoj] at hoj'; cases hoj'
  intro e he hb heq
  have h1 := hall e he hb
  have h0 := (mem_ready.1 hr).1
  rw [heq] at h1
  rcases Nat.lt_or_ge i listed.size with h' | h'
  · simp [h'] at h0 h1; rw [h0] at h1; cases h1
  · simp [Array.getElem?_eq_none h'] at h1
theorem anyR_first {sk : Nat → Bool} {Q : Act → Prop} {i : Nat} {oi : Oper} {v : Value} (hi : ops[i]? = some oi) (hsk : sk i = false) (hs : Region.noSelect ops = true) :
    ∀ (fuel : Nat) (listed : Array Bool) (a : Act),
      (∀ j oj, ops[j]? = some oj → j ≠ i → sk j = false → listed.getD j true = false → (∀ e ∈ oj.after, Region.binds md e = true → e.on ≠ i) → oi.apart ops oj = true) →
      i ∈ Region.ready md ops listed → RIn P ops C oi v a →
      anyR P md ops C sk Q fuel (listed.setIfInBounds i true) (a.put oi.dst v) → anyR P md ops C sk Q (fuel + 1) listed a := by
  intro fuel
  induction fuel with
  | zero =>
    intro listed a _ hr hy H
    refine ⟨fun h => (by rw [h i hr] at hsk; cases hsk), fun j hj hsj o ho => ?_⟩
    by_cases hji : j = i
    · subst hji
      rw [hi] at ho; cases ho
      exact ⟨v, hy, H⟩
    · have := H.1 j (ready_mono hj hji)
      rw [this] at hsj; cases hsj
  | succ fuel ih =>
    intro listed a hfree hr hy H
    refine ⟨fun h => (by rw [h i hr] at hsk; cases hsk), fun j hj hsj oj hoj => ?_⟩
    by_cases hji : j = i
    · subst hji
      rw [hi] at hoj; cases hoj
      exact ⟨v, hy, H⟩
    · obtain ⟨u, hu, hK⟩ := H.2 j (ready_mono hj hji) hsj oj hoj
      have hjun := (mem_ready.1 hj).1
      obtain ⟨h1, h2, h3⟩ := Oper.apart_spec (hfree j oj hoj hji hsj hjun (not_waits hr hj hoj))
      have sj := Region.noSelect_spec hs j oj
      have si := Region.noSelect_spec hs i oi
      have hu' : RIn P ops C oj u a := hu.of_same (execOp_put oj (fun cs b => sj cs b hoj) a oi.dst v h1).symm (wanted_put oj a oi.dst v h1).symm
      have hy' : RIn P ops C oi v (a.put oj.dst u) := hy.of_same (execOp_put oi (fun cs b => si cs b hi) a oj.dst u h3) (wanted_put oi a oj.dst u h3)
      refine ⟨u, hu', ih (listed.setIfInBounds j true) (a.put oj.dst u) (fun k ok hk hki hskk hun hno => ?_) (ready_mono hr (Ne.symm hji)) hy' ?_⟩
      · refine hfree k ok hk hki hskk ?_ hno
        by_cases hjk : j = k
        · subst hjk; exact hjun
        · rw [getD_set_ne true hjk] at hun; exact hun
      · rw [Array.setIfInBounds_comm _ _ hji, ← Act.put_comm a v u h2]
        exact hK
def freeR (md : Region.Mode) (ops : Array Oper) (sk : Nat → Bool) (listed : Array Bool) (i : Nat) : Bool :=
  (List.range ops.size).all fun j => j == i || listed.getD j true || sk j || Region.waitsFor md ops j i || (match ops[i]?, ops[j]? with | some oi, some oj => oi.apart ops oj | _, _ => false)
def lexR (md : Region.Mode) (ops : Array Oper) (sk : Nat → Bool) : Nat → Nat → Array Bool → Bool
  | 0, _, listed => (Region.ready md ops listed).all sk
  | m + 1, k, listed => (Region.ready md ops listed).contains k && !sk k && freeR md ops sk listed k && lexR md ops sk m (k + 1) (listed.setIfInBounds k true)
theorem anyR_lex {sk : Nat → Bool} {Q : Act → Prop} (hs : Region.noSelect ops = true) : ∀ (l : List Oper) (k : Nat) (listed : Array Bool) (a : Act), (∀ j, j < l.length → l[j]? = ops[k + j]?) →
    lexR md ops sk l.length k listed = true → wpR P ops C Q l a → anyR P md ops C sk Q l.length listed a
  | [], _, _, _, _, hB, h => ⟨by simpa [lexR] using hB, h⟩
  | o :: l, k, listed, a, hl, hB, h => by
    have h0 : ops[k]? = some o := by simpa using (hl 0 (by simp)).symm
    simp only [List.length_cons, lexR, Bool.and_eq_true, Bool.not_eq_true'] at hB
    obtain ⟨⟨⟨hr, hsk⟩, hf⟩, hB'⟩ := hB
    obtain ⟨v, hy, hK⟩ := h
    refine anyR_first h0 hsk hs l.length listed a (fun j oj hoj hne hsj hun hno => ?_) (by simpa using hr) hy
      (anyR_lex hs l (k + 1) _ _ (fun j hj => by have := hl (j + 1) (by simp; omega); simpa [Nat.add_assoc, Nat.add_comm 1 j] using this) hB' hK)
    have h1 := List.all_eq_true.1 hf j (List.mem_range.2 (Array.getElem?_eq_some_iff.1 hoj).1)
    simp only [h0, hoj, Bool.or_eq_true, beq_iff_eq, hne, false_or, hun, Bool.false_eq_true, hsj] at h1
    rcases h1 with h1 | h1
    · obtain ⟨oj', ho', e, he, hb, heq⟩ := Region.waitsFor_spec h1
      rw [hoj] at ho'; cases ho'
      exact absurd heq (hno e he hb)
    · exact h1
/-- Operations that look at no memory. -/
def plainB (o : Oper) : Bool := match o.op with | .extract _ _ => true | _ => false
theorem extract_pure (t : Value) (k : Nat) : (∃ u, Instr.extract t k = pure u) ∨ (∃ m, Instr.extract t k = stuck m) := by
  unfold Instr.extract
  split
  · split
    · exact .inl ⟨_, rfl⟩
    · exact .inr ⟨_, rfl⟩
  · exact .inr ⟨_, rfl⟩
theorem plain_all {o : Oper} (h : plainB o = true) {a : Act} {w : World} {v : Value} (hr : rUp P w v ((execOp a.eval o).run P w)) : ∀ w2, (execOp a.eval o).run P w2 = .ok (.value v) w2 := by
  unfold plainB at h
  split at h
  · rename_i x k ho
    unfold execOp at *
    simp only [ho, Sem.run_bind] at *
    intro w2
    rcases extract_pure (a.eval x) k with ⟨u, e⟩ | ⟨m, e⟩
    · rw [e] at hr ⊢
      simp only [Sem.run_pure, Result.andThen_ok, rUp] at hr ⊢
      rw [hr.2]
    · rw [e] at hr
      exact (hr : False).elim
  · cases h
/-- The shape of such a region. -/
structure FloOK (P : Program) (md : Region.Mode) (ops : Array Oper) (m T : Nat) (F : Nat → Bool) (om : Oper) : Prop where
  hs : Region.noSelect ops = true
  hN : ops.size = m + 1 + T
  hom : ops[m]? = some om
  hlow : ∀ i o, i < m → ops[i]? = some o → ∀ e ∈ o.after, Region.binds md e = true → e.on < i ∧ F e.on = false
  hmw : ∀ e ∈ om.after, Region.binds md e = true → False
  hmg : om.guard = none
  htail : ∀ t, m < t → t < ops.size → (t = m + 1 → Region.waitsFor md ops t m = true ∧ ∀ i, i < m → F i = false → Region.waitsFor md ops t i = true) ∧ (m + 1 < t → Region.waitsFor md ops t (t - 1) = true)
  hF : ∀ i oi, i < m → F i = true → ops[i]? = some oi → plainB oi = true ∧ ∀ j oj, ops[j]? = some oj → j ≠ i → Region.waitsFor md ops j i = true ∨ Region.waitsFor md ops i j = true ∨ oi.apart ops oj = true
  hap : ∀ j oj, j < m → ops[j]? = some oj → om.apart ops oj = true
structure FloInv (ops : Array Oper) (m : Nat) (listed : Array Bool) : Prop where
  size : listed.size = ops.size
  tail : ∀ t, m ≤ t → t < ops.size → listed.getD t true = false
theorem FloInv.set {m i : Nat} {listed : Array Bool} (inv : FloInv ops m listed) (hi : i < m) : FloInv ops m (listed.setIfInBounds i true) :=
  ⟨by simp [inv.size], fun t h1 h2 => by rw [getD_set_ne true (by omega)]; exact inv.tail t h1 h2⟩
theorem listed_both {listed : Array Bool} {i : Nat} (hi : i < listed.size) (h : listed.getD i false = true) : listed.getD i true = true := by
  simp [hi] at h ⊢; exact h
theorem unl_both {listed : Array Bool} {i : Nat} (hi : i < listed.size) (h : listed.getD i true = true) : listed.getD i false = true := by
  simp [hi] at h ⊢; exact h
theorem waits_not {j i : Nat} {listed : Array Bool} (hw : Region.waitsFor md ops j i = true) (hj : j ∈ Region.ready md ops listed) : listed.getD i false = true := by
  obtain ⟨oj, ho, e, he, hb, heq⟩ := Region.waitsFor_spec hw
  obtain ⟨_, oj', ho', hall⟩ := mem_ready.1 hj
  rw [ho] at ho'; cases ho'
  rw [← heq]
  exact hall e he hb
section
variable {m T n0 : Nat} {F : Nat → Bool} {om : Oper} {ob : Obj} {K : Act → World → Prop} {Q : Act → Prop}
/-- A plain operation whose turn may come may be taken first. -/
theorem flo_ready {listed : Array Bool} (hO : FloOK P md ops m T F om) (inv : FloInv ops m listed) (hno : ¬ ∃ i, i < m ∧ F i = true ∧ i ∈ Region.ready md ops listed)
    (hall : ∀ i, i < m → F i = false → listed.getD i true = true) : ∀ i, i < m → listed.getD i true = true := by
  intro i hi
  cases hf : F i with
  | false => exact hall i hi hf
  | true =>
    cases hl : listed.getD i true with
    | true => rfl
    | false =>
      have hio : i < ops.size := by have := hO.hN; omega
      have ho : ops[i]? = some ops[i] := Array.getElem?_eq_getElem hio
      refine absurd ⟨i, hi, hf, mem_ready.2 ⟨hl, _, ho, fun e he hb => ?_⟩⟩ hno
      obtain ⟨h1, h2⟩ := hO.hlow i _ hi ho e he hb
      exact unl_both (by rw [inv.size]; omega) (hall e.on (by omega) h2)
theorem flo_min {listed : Array Bool} (hO : FloOK P md ops m T F om) (inv : FloInv ops m listed) : ∀ i, i < m → listed.getD i true = false → ∃ k, k < m ∧ k ∈ Region.ready md ops listed := by
  intro i
  induction i using Nat.strongRecOn with
  | _ i ih =>
    intro hi hun
    have hio : i < ops.size := by have := hO.hN; omega
    have ho : ops[i]? = some ops[i] := Array.getElem?_eq_getElem hio
    by_cases hx : ∃ e ∈ (ops[i]).after, Region.binds md e = true ∧ listed.getD e.on true = false
    · obtain ⟨e, he, hb, hf⟩ := hx
      have := (hO.hlow i _ hi ho e he hb).1
      exact ih e.on this (by omega) hf
    · refine ⟨i, hi, mem_ready.2 ⟨hun, _, ho, fun e he hb => ?_⟩⟩
      have h1 := (hO.hlow i _ hi ho e he hb).1
      cases h : listed.getD e.on true with
      | false => exact absurd ⟨e, he, hb, h⟩ hx
      | true => exact unl_both (by rw [inv.size]; omega) h
theorem flo_yields {i : Nat} {oi : Oper} {v : Value} {a : Act} {w : World} (hp : plainB oi = true) (hw : C w) (hy : RIn P ops C oi v a) : Yields P ops oi v a := by
  rcases hy with ⟨h1, h2⟩ | h
  · exact .inl ⟨h1, plain_all hp (h2 w hw)⟩
  · exact .inr h
theorem flo_step {j : Nat} {oj : Oper} {u : Value} {a : Act} {w : World} {K' : Act → World → Prop} (hoj : ops[j]? = some oj) (hC : ∀ w w', C w → Below w.heap.size w w' → C w') (hw : C w) (hu : RIn P ops C oj u a)
    (h : ∀ w', C w' → Below w.heap.size w w' → K' (a.put oj.dst u) w') : wpOp P ops (QN K) j K' a w := by
  unfold wpOp
  simp only [hoj]
  rcases hu with ⟨h1, h2⟩ | ⟨h1, rfl⟩
  · rw [if_pos h1]
    refine .inl ?_
    have h3 := h2 w hw
    unfold Oper.wp
    generalize (execOp a.eval oj).run P w = r at *
    cases r with
    | ok nx w' =>
      cases nx <;> simp only [rUp] at h3 <;> simp only [Oper.upon]
      case value x =>
        obtain ⟨e1, e2⟩ := h3
        subst e1 e2
        exact h _ hw (Below.refl _ _)
      case enter f args =>
        obtain ⟨e1, hc⟩ := h3
        subst e1
        exact hc.mono fun e w'' ⟨he, hb⟩ => by subst he; exact h _ (hC _ _ hw hb) hb
    | halt x w' => simp only [rUp] at h3
  · rw [if_neg (by rw [h1]; simp)]
    exact h _ hw (Below.refl _ _)
theorem flo_B (hO : FloOK P md ops m T F om) (hseq : Region.seqB md ops T (m + 1) (fullL (m + 1) ops.size) = true) (hC : ∀ w w', C w → Below w.heap.size w w' → C w') {B : Nat} (hB : n0 ≤ B)
    (hQ : ∀ a w, Q a → C w → w.heap[B]? = some ob → wpList P ops (QN K) (ops.toList.drop (m + 1)) (a.put om.dst (.pointer (some ⟨B, 0, none⟩))) w) :
    ∀ (fuel : Nat) (listed : Array Bool) (a : Act) (w : World), FloInv ops m listed → anyR P md ops C (fun i => decide (m ≤ i)) Q fuel listed a → C w → w.heap[B]? = some ob →
      wpAny P md ops (QN K) (fuel + T) (listed.setIfInBounds m true) (a.put om.dst (.pointer (some ⟨B, 0, none⟩))) w := by
  intro fuel
  induction fuel with
  | zero =>
    intro listed a w inv h hw hr
    have hnr : ∀ i, i < m → i ∉ Region.ready md ops listed := fun i hi hm => by have := h.1 i hm; simp only [decide_eq_true_eq] at this; omega
    have hall : ∀ i, i < m → listed.getD i true = true := fun i hi => by
      cases hl : listed.getD i true with
      | true => rfl
      | false => obtain ⟨k, hk, hk2⟩ := flo_min hO inv i hi hl; exact absurd hk2 (hnr k hk)
    have e : listed.setIfInBounds m true = fullL (m + 1) ops.size := by
      have hN := hO.hN
      have hsz := inv.size
      refine Array.ext_getElem? fun i => ?_
      rw [fullL_get, Array.getElem?_setIfInBounds]
      by_cases him : m = i
      · subst him
        rw [if_pos rfl, if_pos (by omega), if_pos (by omega)]
        simp
      · rw [if_neg him]
        by_cases hi : i < ops.size
        · rw [if_pos hi]
          have h1 : i < listed.size := by omega
          rw [Array.getElem?_eq_getElem h1]
          congr 1
          by_cases hin : i < m
          · have h2 := hall i hin
            simp [h1] at h2
            rw [h2]; simp; omega
          · have h2 := inv.tail i (by omega) hi
            simp [h1] at h2
            rw [h2]; simp; omega
        · rw [if_neg hi, Array.getElem?_eq_none (by omega)]
    rw [e, Nat.zero_add]
    have hT : (ops.toList.drop (m + 1)).length = T := by have := hO.hN; simp; omega
    have := wpAny_of_seq (md := md) (Q' := QN K) (ops.toList.drop (m + 1)) (m + 1) (fullL (m + 1) ops.size) _ w (fun j => by simp [List.getElem?_drop]) (by rw [hT]; exact hseq) (hQ a w h.2 hw hr)
    rwa [hT] at this
  | succ fuel ih =>
    intro listed a w inv h hw hr
    by_cases hF : ∃ i, i < m ∧ F i = true ∧ i ∈ Region.ready md ops listed
    · obtain ⟨i, him, hFi, hi⟩ := hF
      obtain ⟨_, oi, hoi, _⟩ := mem_ready.1 hi
      obtain ⟨v, hy, hK⟩ := h.2 i hi (by simp; omega) _ hoi
      obtain ⟨hp, hfr⟩ := hO.hF i _ him hFi hoi
      obtain ⟨a1, a2, a3⟩ := Oper.apart_spec (hO.hap i _ him hoi)
      have sel := Region.noSelect_spec hO.hs
      have hy' : RIn P ops C oi v (a.put om.dst (.pointer (some ⟨B, 0, none⟩))) := hy.of_same (execOp_put _ (fun cs b => sel i _ cs b hoi) a om.dst _ a1) (wanted_put _ a om.dst _ a1)
      rw [show fuel + 1 + T = (fuel + T) + 1 by omega]
      refine wpAny_first hoi sel (fun _ _ _ hq => hq) (fuel + T) _ _ w (fun j oj hoj hji hun hno => ?_) (ready_mono hi (by omega)) (flo_yields (i := i) hp hw hy') ?_
      · rcases hfr j oj hoj hji with h1 | h1 | h1
        · obtain ⟨oj', ho', e, he, hb, heq⟩ := Region.waitsFor_spec h1
          rw [hoj] at ho'; cases ho'
          exact absurd heq (hno e he hb)
        · have h2 := waits_not h1 (ready_mono hi (show i ≠ m by omega))
          have h3 : j < (listed.setIfInBounds m true).size := by
            have := (Array.getElem?_eq_some_iff.1 hoj).1
            have := inv.size
            simp; omega
          rw [listed_both h3 h2] at hun; cases hun
        · exact h1
      · have := ih (listed.setIfInBounds i true) (a.put oi.dst v) w (inv.set him) hK hw hr
        rw [Array.setIfInBounds_comm _ _ (show i ≠ m by omega)] at this
        rw [Act.put_comm a _ v a2]
        exact this
    · by_cases hun : ∃ i, i < m ∧ listed.getD i true = false
      · obtain ⟨i, him, hil⟩ := hun
        obtain ⟨k, hk, hkr⟩ := flo_min hO inv i him hil
        rw [show fuel + 1 + T = (fuel + T) + 1 by omega]
        refine ⟨fun h0 => (by have := ready_mono (i := m) hkr (by omega); rw [h0] at this; cases this), fun j hj => ?_⟩
        obtain ⟨hjun, oj, hoj, hjall⟩ := mem_ready.1 hj
        have hjN : j < ops.size := (Array.getElem?_eq_some_iff.1 hoj).1
        have hsz := inv.size
        have hjm : j < m := by
          rcases Nat.lt_trichotomy j m with h1 | h1 | h1
          · exact h1
          · subst h1
            have : j < listed.size := by omega
            simp [this] at hjun
          · exfalso
            obtain ⟨t1, t2⟩ := hO.htail j h1 hjN
            by_cases hj1 : j = m + 1
            · have hx : ∀ i, i < m → F i = false → listed.getD i true = true := fun i hi hf => by
                have := waits_not ((t1 hj1).2 i hi hf) hj
                rw [getD_set_ne false (by omega)] at this
                exact listed_both (by omega) this
              have := flo_ready hO inv hF hx i him
              rw [this] at hil; cases hil
            · have := waits_not (t2 (by omega)) hj
              rw [getD_set_ne false (by omega)] at this
              have h3 := inv.tail (j - 1) (by omega) (by omega)
              rw [listed_both (by omega) this] at h3; cases h3
        have hjr : j ∈ Region.ready md ops listed := by
          refine mem_ready.2 ⟨by rw [getD_set_ne true (by omega)] at hjun; exact hjun, oj, hoj, fun e he hb => ?_⟩
          have h1 := (hO.hlow j oj hjm hoj e he hb).1
          have := hjall e he hb
          rw [getD_set_ne false (by omega)] at this
          exact this
        obtain ⟨u, hu, hK⟩ := h.2 j hjr (by simp; omega) oj hoj
        obtain ⟨a1, a2, a3⟩ := Oper.apart_spec (hO.hap j oj hjm hoj)
        have sel := Region.noSelect_spec hO.hs
        have hu' : RIn P ops C oj u (a.put om.dst (.pointer (some ⟨B, 0, none⟩))) := hu.of_same (execOp_put _ (fun cs b => sel j _ cs b hoj) a om.dst _ a1) (wanted_put _ a om.dst _ a1)
        refine flo_step hoj hC hw hu' fun w' hw' hb' => ?_
        have := ih (listed.setIfInBounds j true) (a.put oj.dst u) w' (inv.set hjm) hK hw' (row_keep hb' hr)
        rw [Array.setIfInBounds_comm _ _ (show j ≠ m by omega)] at this
        rw [Act.put_comm a _ u a2]
        exact this
      · have hall : ∀ i ∈ Region.ready md ops listed, decide (m ≤ i) = true := fun i hi => by
          have h1 := (mem_ready.1 hi).1
          by_cases him : i < m
          · exact absurd ⟨i, him, h1⟩ hun
          · simp; omega
        have h0 : anyR P md ops C (fun i => decide (m ≤ i)) Q 0 listed a := ⟨hall, h.1 hall⟩
        have hz : wpAny P md ops (QN K) (0 + T) (listed.setIfInBounds m true) (a.put om.dst (.pointer (some ⟨B, 0, none⟩))) w := by
          have hN := hO.hN
          have hsz := inv.size
          have e : listed.setIfInBounds m true = fullL (m + 1) ops.size := by
            refine Array.ext_getElem? fun i => ?_
            rw [fullL_get, Array.getElem?_setIfInBounds]
            by_cases him : m = i
            · subst him
              rw [if_pos rfl, if_pos (by omega), if_pos (by omega)]
              simp
            · rw [if_neg him]
              by_cases hi : i < ops.size
              · rw [if_pos hi]
                have h1 : i < listed.size := by omega
                rw [Array.getElem?_eq_getElem h1]
                congr 1
                by_cases hin : i < m
                · have h2 : listed.getD i true = true := by
                    cases hl : listed.getD i true with
                    | true => rfl
                    | false => exact absurd ⟨i, hin, hl⟩ hun
                  simp [h1] at h2
                  rw [h2]; simp; omega
                · have h2 := inv.tail i (by omega) hi
                  simp [h1] at h2
                  rw [h2]; simp; omega
              · rw [if_neg hi, Array.getElem?_eq_none (by omega)]
          rw [e, Nat.zero_add]
          have hT : (ops.toList.drop (m + 1)).length = T := by simp; omega
          have := wpAny_of_seq (md := md) (Q' := QN K) (ops.toList.drop (m + 1)) (m + 1) (fullL (m + 1) ops.size) _ w (fun j => by simp [List.getElem?_drop]) (by rw [hT]; exact hseq) (hQ a w h0.2 hw hr)
          rwa [hT] at this
        have := wpAny_fuels (fuel + 1) _ _ _ _ hz
        rwa [show fuel + 1 + (0 + T) = fuel + 1 + T by omega] at this
theorem flo_A (hO : FloOK P md ops m T F om) (hseq : Region.seqB md ops T (m + 1) (fullL (m + 1) ops.size) = true) (hC : ∀ w w', C w → Below w.heap.size w w' → C w') (hn0 : ∀ w, C w → n0 ≤ w.heap.size)
    (ha : ∀ (a : Act) (w : World), (execOp a.eval om).run P w = .ok (.value (.pointer (some ⟨w.heap.size, 0, none⟩))) (w.alloc ob))
    (hQ : ∀ B, n0 ≤ B → ∀ a w, Q a → C w → w.heap[B]? = some ob → wpList P ops (QN K) (ops.toList.drop (m + 1)) (a.put om.dst (.pointer (some ⟨B, 0, none⟩))) w) :
    ∀ (fuel : Nat) (listed : Array Bool) (a : Act) (w : World), FloInv ops m listed → anyR P md ops C (fun i => decide (m ≤ i)) Q fuel listed a → C w →
      wpAny P md ops (QN K) (fuel + T + 1) listed a w := by
  intro fuel
  induction fuel with
  | zero =>
    intro listed a w inv h hw
    have hN := hO.hN
    have hsz := inv.size
    have hmr : m ∈ Region.ready md ops listed := mem_ready.2 ⟨inv.tail m (Nat.le_refl _) (by omega), om, hO.hom, fun e he hb => (hO.hmw e he hb).elim⟩
    refine ⟨fun h0 => (by rw [h0] at hmr; cases hmr), fun j hj => ?_⟩
    have hjs := h.1 j hj
    simp only [decide_eq_true_eq] at hjs
    obtain ⟨hjun, oj, hoj, hjall⟩ := mem_ready.1 hj
    have hjN : j < ops.size := (Array.getElem?_eq_some_iff.1 hoj).1
    have hjm : j = m := by
      rcases Nat.lt_or_ge m j with h1 | h1
      · exfalso
        obtain ⟨t1, t2⟩ := hO.htail j h1 hjN
        by_cases hj1 : j = m + 1
        · have := waits_not (t1 hj1).1 hj
          rw [inv.tail m (Nat.le_refl _) (by omega) |> fun x => getD_both x] at this; cases this
        · have := waits_not (t2 (by omega)) hj
          rw [inv.tail (j - 1) (by omega) (by omega) |> fun x => getD_both x] at this; cases this
      · omega
    subst hjm
    rw [hO.hom] at hoj; cases hoj
    unfold wpOp
    simp only [hO.hom]
    rw [if_pos (by unfold Region.wanted; rw [hO.hmg])]
    refine .inl ?_
    unfold Oper.wp
    rw [ha a w]
    exact flo_B hO hseq hC (hn0 w hw) (hQ _ (hn0 w hw)) 0 listed a (w.alloc ob) inv h (hC _ _ hw ((Below.refl _ _).alloc (Nat.le_refl _) _)) (heap_new rfl)
  | succ fuel ih =>
    intro listed a w inv h hw
    have hN := hO.hN
    have hsz := inv.size
    by_cases hF : ∃ i, i < m ∧ F i = true ∧ i ∈ Region.ready md ops listed
    · obtain ⟨i, him, hFi, hi⟩ := hF
      obtain ⟨_, oi, hoi, _⟩ := mem_ready.1 hi
      obtain ⟨v, hy, hK⟩ := h.2 i hi (by simp; omega) _ hoi
      obtain ⟨hp, hfr⟩ := hO.hF i _ him hFi hoi
      have sel := Region.noSelect_spec hO.hs
      rw [show fuel + 1 + T + 1 = (fuel + T + 1) + 1 by omega]
      refine wpAny_first hoi sel (fun _ _ _ hq => hq) (fuel + T + 1) _ _ w (fun j oj hoj hji hun hno => ?_) hi (flo_yields (i := i) hp hw hy) (ih (listed.setIfInBounds i true) (a.put oi.dst v) w (inv.set him) hK hw)
      rcases hfr j oj hoj hji with h1 | h1 | h1
      · obtain ⟨oj', ho', e, he, hb, heq⟩ := Region.waitsFor_spec h1
        rw [hoj] at ho'; cases ho'
        exact absurd heq (hno e he hb)
      · have h2 := waits_not h1 hi
        have h3 : j < listed.size := by
          have := (Array.getElem?_eq_some_iff.1 hoj).1
          omega
        rw [listed_both h3 h2] at hun; cases hun
      · exact h1
    · have hmr : m ∈ Region.ready md ops listed := mem_ready.2 ⟨inv.tail m (Nat.le_refl _) (by omega), om, hO.hom, fun e he hb => (hO.hmw e he hb).elim⟩
      rw [show fuel + 1 + T + 1 = (fuel + 1 + T) + 1 by omega]
      refine ⟨fun h0 => (by rw [h0] at hmr; cases hmr), fun j hj => ?_⟩
      obtain ⟨hjun, oj, hoj, hjall⟩ := mem_ready.1 hj
      have hjN : j < ops.size := (Array.getElem?_eq_some_iff.1 hoj).1
      rcases Nat.lt_trichotomy j m with h1 | h1 | h1
      · obtain ⟨u, hu, hK⟩ := h.2 j hj (by simp; omega) oj hoj
        refine flo_step hoj hC hw hu fun w' hw' _ => ?_
        have := ih (listed.setIfInBounds j true) (a.put oj.dst u) w' (inv.set h1) hK hw'
        rwa [show fuel + T + 1 = fuel + 1 + T by omega] at this
      · subst h1
        rw [hO.hom] at hoj; cases hoj
        unfold wpOp
        simp only [hO.hom]
        rw [if_pos (by unfold Region.wanted; rw [hO.hmg])]
        refine .inl ?_
        unfold Oper.wp
        rw [ha a w]
        exact flo_B hO hseq hC (hn0 w hw) (hQ _ (hn0 w hw)) (fuel + 1) listed a (w.alloc ob) inv h (hC _ _ hw ((Below.refl _ _).alloc (Nat.le_refl _) _)) (heap_new rfl)
      · exfalso
        obtain ⟨t1, t2⟩ := hO.htail j h1 hjN
        by_cases hj1 : j = m + 1
        · have := waits_not (t1 hj1).1 hj
          rw [inv.tail m (Nat.le_refl _) (by omega) |> fun x => getD_both x] at this; cases this
        · have := waits_not (t2 (by omega)) hj
          rw [inv.tail (j - 1) (by omega) (by omega) |> fun x => getD_both x] at this; cases this
end
def floB (md : Region.Mode) (ops : Array Oper) (m T : Nat) (Fl : List Nat) : Bool :=
  Region.noSelect ops && decide (ops.size = m + 1 + T)
  && ((List.range m).all fun i => match ops[i]? with | some o => o.after.all (fun e => !Region.binds md e || (decide (e.on < i) && !Fl.contains e.on)) | none => false)
  && (match ops[m]? with | some om => om.after.all (fun e => !Region.binds md e) && om.guard.isNone | none => false)
  && ((List.range ops.size).all fun t => decide (t ≤ m) || ((!decide (t = m + 1) || (Region.waitsFor md ops t m && (List.range m).all fun i => Fl.contains i || Region.waitsFor md ops t i)) && (decide (t ≤ m + 1) || Region.waitsFor md ops t (t - 1))))
  && ((List.range m).all fun i => !Fl.contains i || (match ops[i]? with | some oi => plainB oi && (List.range ops.size).all (fun j => j == i || Region.waitsFor md ops j i || Region.waitsFor md ops i j || (match ops[j]? with | some oj => oi.apart ops oj | none => false)) | none => false))
  && ((List.range m).all fun j => match ops[m]?, ops[j]? with | some om, some oj => om.apart ops oj | _, _ => false)
  && Region.seqB md ops T (m + 1) (fullL (m + 1) ops.size) && lexR md ops (fun i => decide (m ≤ i)) m 0 (Array.replicate ops.size false)
theorem floOK_of {m T : Nat} {Fl : List Nat} {om : Oper} (hom : ops[m]? = some om) (h : floB md ops m T Fl = true) :
    FloOK P md ops m T (fun i => Fl.contains i) om ∧ Region.seqB md ops T (m + 1) (fullL (m + 1) ops.size) = true ∧ lexR md ops (fun i => decide (m ≤ i)) m 0 (Array.replicate ops.size false) = true := by
  simp only [floB, Bool.and_eq_true, decide_eq_true_eq] at h
  obtain ⟨⟨⟨⟨⟨⟨⟨⟨h1, h2⟩, h3⟩, h4⟩, h5⟩, h6⟩, h7⟩, h8⟩, h9⟩ := h
  refine ⟨⟨h1, h2, hom, fun i o hi ho e he hb => ?_, fun e he hb => ?_, ?_, fun t ht hts => ?_, fun i oi hi hf ho => ?_, fun j oj hj ho => ?_⟩, h8, h9⟩
  · have := List.all_eq_true.1 h3 i (List.mem_range.2 hi)
    simp only [ho] at this
    have := Array.all_eq_true_iff_forall_mem.1 this e he
    simp only [hb, Bool.not_true, Bool.false_or, Bool.and_eq_true, decide_eq_true_eq, Bool.not_eq_true'] at this
    exact this
  · simp only [hom, Bool.and_eq_true] at h4
    have := Array.all_eq_true_iff_forall_mem.1 h4.1 e he
    simp [hb] at this
  · simp only [hom, Bool.and_eq_true] at h4
    simpa using h4.2
  · have := List.all_eq_true.1 h5 t (List.mem_range.2 hts)
    simp only [Bool.or_eq_true, decide_eq_true_eq, show ¬ t ≤ m by omega, false_or, Bool.and_eq_true, Bool.not_eq_true', decide_eq_false_iff_not] at this
    obtain ⟨a, b⟩ := this
    refine ⟨fun e => ?_, fun hlt => b.resolve_left (by omega)⟩
    have a := a.resolve_left (by simp [e])
    refine ⟨a.1, fun i hi hf => ?_⟩
    have := List.all_eq_true.1 a.2 i (List.mem_range.2 hi)
    simp only [Bool.or_eq_true] at this
    exact this.resolve_left (by simpa using hf)
  · have := List.all_eq_true.1 h6 i (List.mem_range.2 hi)
    simp only [hf, Bool.not_true, Bool.false_or, ho, Bool.and_eq_true] at this
    refine ⟨this.1, fun j oj hj hne => ?_⟩
    have := List.all_eq_true.1 this.2 j (List.mem_range.2 (Array.getElem?_eq_some_iff.1 hj).1)
    simp only [hj, Bool.or_eq_true, beq_iff_eq, hne, false_or] at this
    exact or_assoc.1 this
  · have := List.all_eq_true.1 h7 j (List.mem_range.2 hj)
    simpa only [hom, ho] using this
theorem Cls.keep2 {w0 : World} {rows : List (Nat × Obj)} : ∀ w w' : World, Cls w0 rows w → Below w.heap.size w w' → Cls w0 rows w' := fun _ _ h hb => h.keep hb
end
section
variable {P : Program}
/-- The region's law. -/
theorem wp_region_flo {id : Nat} {Q : Exit → Act → World → Prop} {a : Act} {w : World} {l : List Oper} (m T : Nat) (Fl : List Nat) (w0 : World) (rows : List (Nat × Obj)) (ty : TypeId) (n : Nat)
    (hz : ((P.info? ty).bind (·.zero)).map (·.cells) = some (arr n fun _ => 0)) (om : Oper) (hom : l.toArray[m]? = some om) (hop : om.op = .alloc ty) (hm : P.follows .mixedOrders = true) (hB : floB .any l.toArray m T Fl = true) (hC : Cls w0 rows { w with drawn := w.drawn + 1 })
    (h : wpR P l.toArray (Cls w0 rows) (fun a' => ∀ B w', w0.heap.size ≤ B → Cls w0 rows w' → w'.heap[B]? = some (.cells (arr n fun _ => 0) ty (0, 0)) → wpList P l.toArray (QN (Q .normal)) (l.drop (m + 1)) (a'.put om.dst (.pointer (some ⟨B, 0, none⟩))) w') (l.take m) a) :
    (Code.region id l.toArray true).wp P Q a w := by
  obtain ⟨hO, hseq, hlex⟩ := floOK_of (P := P) hom hB
  refine Code.wp_mono QN.imp ?_
  refine wp_region_any hm ?_
  have hN := hO.hN
  have hlN : l.length = m + 1 + T := by simpa using hN
  have hany := anyR_lex (P := P) (C := Cls w0 rows) (md := .any) hO.hs (l.take m) 0 (Array.replicate l.toArray.size false) a (fun j hj => by
    have hj2 : j < m := by simp at hj; omega
    rw [List.getElem?_take, if_pos hj2]; simp) (by simpa [show min m l.length = m by omega] using hlex) h
  have hlen : (l.take m).length = m := by simp; omega
  rw [hlen] at hany
  have := flo_A (n0 := w0.heap.size) (K := Q .normal) hO hseq Cls.keep2 (fun w h => h.2.size) (fun a w => run_allocA (P := P) ty hop n hz)
    (fun B hB2 a' w' hq hw hr => by have := hq B w' hB2 hw hr; simpa using this) m (Array.replicate l.toArray.size false) a { w with drawn := w.drawn + 1 }
    ⟨by simp, fun t h1 h2 => getD_in (by simpa using h2) (getD_replicate_false _ _)⟩ hany hC
  rw [show m + T + 1 = l.toArray.size by omega] at this
  exact this
section
variable {ops : Array Oper} {C : World → Prop} {Q : Act → Prop} {a : Act} {o : Oper} {rest : List Oper}
theorem wpR_nil (h : Q a) : wpR P ops C Q [] a := h
theorem wpR_value (v : Value) (hw : Region.wanted o (yielded ops a.tmps) = true) (h : ∀ w, C w → (execOp a.eval o).run P w = .ok (.value v) w) (hk : wpR P ops C Q rest (a.put o.dst v)) : wpR P ops C Q (o :: rest) a :=
  ⟨v, .inl ⟨hw, fun w h' => by rw [h w h']; exact ⟨rfl, rfl⟩⟩, hk⟩
theorem wpR_step (h : ∀ K : Act → Prop, (∀ a, wpR P ops C Q rest a → K a) →
    if Region.wanted o (yielded ops a.tmps) = true then ∃ v, (∀ w, C w → (execOp a.eval o).run P w = .ok (.value v) w) ∧ K (a.put o.dst v) else K (a.put o.dst undef)) : wpR P ops C Q (o :: rest) a := by
  have h := h _ (fun _ h => h)
  by_cases hw : Region.wanted o (yielded ops a.tmps) = true
  · rw [if_pos hw] at h
    obtain ⟨v, h1, h2⟩ := h
    exact wpR_value v hw h1 h2
  · rw [if_neg hw] at h
    exact ⟨undef, .inr ⟨by simpa using hw, rfl⟩, h⟩
theorem wpR_loadA (hw : Region.wanted o (yielded ops a.tmps) = true) (ty : TypeId) (x : Operand) (ho : o.op = .load ty x)
    (B off : Nat) (hx : a.eval x = .pointer (some ⟨B, off, none⟩)) {T : TypeId} {fr : Nat × Nat} {n : Nat} {f : Nat → Int} (hg : ∀ w, C w → w.heap[B]? = some (.cells (arr n f) T fr)) (m : Nat) (hd : aggB P ty = true)
    (hi : (P.info? ty).map (·.size) = some m) (hle : off + m ≤ n) (h : wpR P ops C Q rest (a.put o.dst (.agg (arr m fun j => f (off + j))))) : wpR P ops C Q (o :: rest) a := by
  refine wpR_value _ hw (fun w hw => ?_) h
  unfold execOp
  simp only [ho, hx, Instr.loadAt, Instr.sureAddr, Sem.run_bind, Sem.run_pure, Result.andThen_ok, run_loadVar_arr w B off T ty fr n m f (hg w hw) hd hi hle]
theorem wpR_loadW (hw : Region.wanted o (yielded ops a.tmps) = true) (ty : TypeId) (x : Operand) (ho : o.op = .load ty x)
    (B : Nat) (hx : a.eval x = .pointer (some ⟨B, 0, none⟩)) {T : TypeId} {fr : Nat × Nat} {n : Nat} {f : Nat → Int} (hg : ∀ w, C w → w.heap[B]? = some (.cells (arr n f) T fr)) (hd : aggB P ty = true)
    (hi : (P.info? ty).map (·.size) = some n) (h : wpR P ops C Q rest (a.put o.dst (.agg (arr n f)))) : wpR P ops C Q (o :: rest) a :=
  wpR_loadA hw ty x ho B 0 hx hg n hd hi (by omega) (by simpa using h)
theorem wpR_loadI (hw : Region.wanted o (yielded ops a.tmps) = true) (ty : TypeId) (x : Operand) (ho : o.op = .load ty x)
    (B off : Nat) (hx : a.eval x = .pointer (some ⟨B, off, none⟩)) {T : TypeId} {fr : Nat × Nat} {n : Nat} {f : Nat → Int} (hg : ∀ w, C w → w.heap[B]? = some (.cells (arr n f) T fr)) (hd : aggB P ty = false) (hu : (P.underlying ty).isSome = true)
    (hle : off < n) (h : wpR P ops C Q rest (a.put o.dst (.int .i64 (f off)))) : wpR P ops C Q (o :: rest) a := by
  refine wpR_value _ hw (fun w hw => ?_) h
  have hagg : (isAgg ty).run P w = .ok false w := by
    unfold aggB at hd
    unfold isAgg
    cases hq : P.underlying ty with
    | none => simp [hq] at hu
    | some d =>
      rw [Sem.run_bind, run_underlying hq w]
      cases d <;> simp_all
  unfold execOp
  simp only [ho, hx, Instr.loadAt, Instr.sureAddr, loadVar, Sem.run_bind, Sem.run_pure, Result.andThen_ok, hagg]
  simp [rowcell (hg w hw) hle]
theorem wpR_callE (hw : Region.wanted o (yielded ops a.tmps) = true) (f : FuncId) (xs : Array Operand) (ats : Array TypeId)
    (ho : o.op = .call { callee := .value (.func f), args := xs, argTypes := ats }) (v : Value) (args : Array Value) (hargs : (xs.toList.map a.eval).toArray = args) (hE : ∀ (args : Array Value) (w : World), (callFunc f args).run P w = .ok (.enter f args) w)
    (hc : ∀ w, C w → Calls P f args w fun e w' => e = .returned v ∧ Below w.heap.size w w') (hk : wpR P ops C Q rest (a.put o.dst v)) : wpR P ops C Q (o :: rest) a := by
  refine ⟨v, .inl ⟨hw, fun w h' => ?_⟩, hk⟩
  have e : xs.map a.eval = args := by
    rw [← hargs]
    cases xs; simp
  have h1 : (invoke (.fn (.func f) #[]) (xs.map a.eval)).run P w = .ok (.enter f args) w := by
    unfold invoke
    rw [e]
    simpa using hE args w
  have h2 : (execOp a.eval o).run P w = .ok (.enter f args) w := by
    unfold execOp
    simpa [ho, resolve, Act.eval, Deferred.ofValue] using h1
  rw [h2]
  exact ⟨rfl, hc w h'⟩
end
end
end Go.Proofs.YtlbgmkengkgnfaaGreat
end

section
/- slices.Equal of two rows of ints. -/
namespace Go.Proofs.YtlbgmkengkgnfaaGreat
set_option linter.unusedSimpArgs false
set_option linter.unusedVariables false
set_option maxRecDepth 20000
open Go.RowKit
theorem eqS_any {B1 B2 n1 n2 n c1 c2 : Nat} {f g : Nat → Int} {T1 T2 : TypeId} {fr1 fr2 : Nat × Nat} (hl1 : n ≤ n1) (hl2 : n ≤ n2) (hn : n ≤ 1000) (w : World) (h1 : w.heap[B1]? = some (.cells (arr n1 f) T1 fr1)) (h2 : w.heap[B2]? = some (.cells (arr n2 g) T2 fr2)) :
    Calls Tryz.prog 45 #[.slice (some ⟨B1, 0, none⟩) n c1, .slice (some ⟨B2, 0, none⟩) n c2] w fun e w' => e = .returned (.bool (decide (∀ j, j < n → f j = g j))) ∧ Below w.heap.size w w' := by
  have hbel := Below.refl w.heap.size w
  go_enter Tryz.func45, Tryz.ntmps45
  go_wp2_with fail
  go_loopw [13] (fun i wr => ∃ k : Nat, k ≤ n ∧ i = .int .i64 k ∧ (∀ j, j < k → f j = g j) ∧ wr.heap[B1]? = some (.cells (arr n1 f) T1 fr1) ∧ wr.heap[B2]? = some (.cells (arr n2 g) T2 fr2) ∧ Below w.heap.size w wr) (fun i _ => n - (intOf i).toNat)
  case atStart => exact ⟨0, by omega, rfl, fun j hj => by omega, h1, h2, hbel⟩
  case round =>
    clear h1 h2 hbel
    obtain ⟨k, hk, rfl, he, h1, h2, hbel⟩ := hrel
    have HE : Hid _ := he
    clear he
    by_cases hlt : k < n
    · have hlt' : (k : Int) < (n : Int) := by omega
      by_cases e : f k = g k
      · have hed : (f k != g k) = false := by simpa using e
        have HK : Hid _ := e
        clear e
        go_wp2_with fail
        refine wp_region_held 9 (Cls wr []) (by kernel_rfl) (by kernel_rfl) (Cls.zero (Below.refl _ _)) ?_; simp only [List.take_succ_cons, List.take_zero, List.drop_succ_cons, List.drop_zero]
        repeat (first
          | (with_reducible refine wpQuiet_loadI rfl _ _ rfl _ _ rfl (fun _ h => h.kp h1) aggI undI (by omega) ?_)
          | (with_reducible refine wpQuiet_loadI rfl _ _ rfl _ _ rfl (fun _ h => h.kp h2) aggI undI (by omega) ?_)
          | ((with_reducible refine wpQuiet_step (fun K hK => ?_)); go_simp; (first | (refine ⟨_, fun _ _ => rfl, hK _ ?_⟩) | (refine ⟨_, fun _ _ => ⟨rfl, rfl⟩, hK _ ?_⟩) | (refine hK _ ?_)); clear hK K))
        refine wpQuiet_nil ?_; intro wt hCt; replace hCt := hCt.2; replace hbel := hbel.trans (hCt.mono hbel.size); replace h1 := row_keep hCt h1; replace h2 := row_keep hCt h2; clear hCt
        go_wp2_with fail
        go_roundw
        case rel => exact ⟨k + 1, by omega, by go_num, fun j hj => by
          by_cases e2 : j = k
          · subst e2; exact HK.out
          · exact HE.out j (by omega), h1, h2, hbel⟩
        case measure => simp [intOf]; omega
      · have hed : (f k != g k) = true := by simpa using e
        have HS : Hid (decide (∀ j, j < n → f j = g j) = false) := decide_eq_false fun h => e (h k hlt)
        clear e
        go_wp2_with fail
        refine wp_region_held 9 (Cls wr []) (by kernel_rfl) (by kernel_rfl) (Cls.zero (Below.refl _ _)) ?_; simp only [List.take_succ_cons, List.take_zero, List.drop_succ_cons, List.drop_zero]
        repeat (first
          | (with_reducible refine wpQuiet_loadI rfl _ _ rfl _ _ rfl (fun _ h => h.kp h1) aggI undI (by omega) ?_)
          | (with_reducible refine wpQuiet_loadI rfl _ _ rfl _ _ rfl (fun _ h => h.kp h2) aggI undI (by omega) ?_)
          | ((with_reducible refine wpQuiet_step (fun K hK => ?_)); go_simp; (first | (refine ⟨_, fun _ _ => rfl, hK _ ?_⟩) | (refine ⟨_, fun _ _ => ⟨rfl, rfl⟩, hK _ ?_⟩) | (refine hK _ ?_)); clear hK K))
        refine wpQuiet_nil ?_; intro wt hCt; replace hCt := hCt.2; replace hbel := hbel.trans (hCt.mono hbel.size); replace h1 := row_keep hCt h1; replace h2 := row_keep hCt h2; clear hCt
        go_wp2_with fail
        go_ret
        exact ⟨ret_bool HS.out.symm, hbel⟩
    · obtain rfl : k = n := by omega
      have HS : Hid (decide (∀ j, j < k → f j = g j) = true) := decide_eq_true HE.out
      go_wp2_with fail
      go_ret
      exact ⟨ret_bool HS.out.symm, hbel⟩
end Go.Proofs.YtlbgmkengkgnfaaGreat
end

section
/- A rack under other names: the reference's. -/
namespace Go.Proofs.YtlbgmkengkgnfaaGreat
set_option linter.unusedSimpArgs false
set_option linter.unusedVariables false
set_option maxRecDepth 20000
open Go.RowKit
/-- Behind q layers. -/
def rP (f p : Nat → Int) (q : Nat) : Nat → Int := fun j => if j < q then p (f j).toNat else f j
theorem rP_step (f p : Nat → Int) {q c : Nat} (hc : f q = c) : arr 24 (upd (rP f p q) q (p c)) = arr 24 (rP f p (q + 1)) := by
  refine arr_congr fun j _ => ?_
  unfold upd rP
  by_cases h : j = q
  · rw [if_pos h, if_pos (by omega), h, hc, Int.toNat_natCast]
  · rw [if_neg h]
    by_cases h2 : j < q
    · rw [if_pos h2, if_pos (by omega)]
    · rw [if_neg h2, if_neg (by omega)]
theorem rP_done (f p : Nat → Int) : arr 24 (rP f p 24) = arr 24 (fun j => p (f j).toNat) := arr_congr fun j hj => by
  unfold rP
  rw [if_pos hj]
theorem rP_start (f p : Nat → Int) : arr 24 f = arr 24 (rP f p 0) := arr_congr fun j hj => by
  unfold rP
  rw [if_neg (by omega)]
theorem l4Rename_any (f p : Nat → Int) (hf : ∀ j, j < 24 → 0 ≤ f j ∧ f j ≤ 5) (w : World) : Calls Tryz.prog 31 #[.agg (arr 24 f), .agg (arr 6 p)] w fun e w' => e = .returned (.agg (arr 24 (fun j => p (f j).toNat))) ∧ Below w.heap.size w w' := by
  have h1 : (((w.alloc (.cells (arr 24 f) 27)).alloc (.cells (arr 6 p) 28)).alloc (.cells (arr 24 fun _ => 0) 27)).heap[w.heap.size]? = some (.cells (arr 24 f) 27 (0, 0)) := by rw [heap_old (by simp <;> omega), heap_old (by simp), heap_new rfl]
  have h2 : (((w.alloc (.cells (arr 24 f) 27)).alloc (.cells (arr 6 p) 28)).alloc (.cells (arr 24 fun _ => 0) 27)).heap[w.heap.size + 1]? = some (.cells (arr 6 p) 28 (0, 0)) := by rw [heap_old (by simp), heap_new (by simp)]
  have h4 : (((w.alloc (.cells (arr 24 f) 27)).alloc (.cells (arr 6 p) 28)).alloc (.cells (arr 24 fun _ => 0) 27)).heap[w.heap.size + 1 + 1]? = some (.cells (arr 24 fun _ => 0) 27 (0, 0)) := heap_new (by simp)
  have hbel : Below w.heap.size w (((w.alloc (.cells (arr 24 f) 27)).alloc (.cells (arr 6 p) 28)).alloc (.cells (arr 24 fun _ => 0) 27)) := (((Below.refl _ _).alloc (by simp) _).alloc (by simp) _).alloc (by simp <;> omega) _
  have HP : Hid _ := hf
  clear hf
  go_enter Tryz.func31, Tryz.ntmps31
  go_wp2_with first
    | (with_reducible refine wpList_allocA rfl 27 rfl 24 zero24r ?_; (try simp only [size_al]))
  go_loopw [5] (fun i wr => ∃ n : Nat, n ≤ 6 ∧ i = .int .i64 n ∧ wr.heap[w.heap.size]? = some (.cells (arr 24 (rP f p (n * 4))) 27 (0, 0)) ∧ wr.heap[w.heap.size + 1]? = some (.cells (arr 6 p) 28 (0, 0)) ∧ wr.heap[w.heap.size + 1 + 1]? = some (.cells (arr 24 fun _ => 0) 27 (0, 0)) ∧ Below w.heap.size w wr) (fun i _ => 6 - (intOf i).toNat)
  case atStart => exact ⟨0, by omega, rfl, by rw [Nat.zero_mul, ← rP_start]; exact h1, h2, h4, hbel⟩
  case round =>
    clear h1 h2 h4 hbel
    obtain ⟨n, hn, rfl, h1, h2, h4, hbel⟩ := hrel
    obtain ⟨wo, hwo⟩ : ∃ wo : World, wo = wr := ⟨_, rfl⟩
    rw [← hwo] at h1 h2 h4 hbel ⊢
    clear hwo
    by_cases hlt : n < 6
    · have hlt' : (n : Int) < 6 := by omega
      go_wp2_with fail
      go_loopw [6] (fun i wr => ∃ m : Nat, m ≤ 4 ∧ i = .int .i64 m ∧ wr.heap[w.heap.size]? = some (.cells (arr 24 (rP f p (n * 4 + m))) 27 (0, 0)) ∧ wr.heap[w.heap.size + 1]? = some (.cells (arr 6 p) 28 (0, 0)) ∧ wr.heap[w.heap.size + 1 + 1]? = some (.cells (arr 24 fun _ => 0) 27 (0, 0)) ∧ Below w.heap.size w wr) (fun i _ => 4 - (intOf i).toNat)
      case atStart => exact ⟨0, by omega, rfl, h1, h2, h4, hbel⟩
      case round =>
        clear h1 h2 h4 hbel
        obtain ⟨m, hm, rfl, h1, h2, h4, hbel⟩ := hrel
        by_cases hmt : m < 4
        · have hmt' : (m : Int) < 4 := by omega
          obtain ⟨pa, pb⟩ := HP.out (n * 4 + m) (by omega)
          obtain ⟨c, hc⟩ : ∃ c : Nat, f (n * 4 + m) = c := ⟨(f (n * 4 + m)).toNat, by omega⟩
          have hc6 : c < 6 := by omega
          have hc6' : (c : Int) < 6 := by omega
          have HC : Hid _ := hc
          have HR : Hid (rP f p (n * 4 + m) (n * 4 + m) = c) := by show rP f p (n * 4 + m) (n * 4 + m) = c; unfold rP; rw [if_neg (by omega)]; exact hc
          clear pa pb hc
          go_wp2_with fail
          refine wp_region_held 13 (Cls w _) (by kernel_rfl) (by kernel_rfl) (Cls.three h1 h2 h4 hbel) ?_; simp only [List.take_succ_cons, List.take_zero, List.drop_succ_cons, List.drop_zero]
          repeat (first
            | ((with_reducible refine wpQuiet_loadI rfl _ _ rfl _ _ rfl (fun _ h => h.r1) aggI undI (by omega) ?_); rw [HR.out])
            | (with_reducible refine wpQuiet_loadI rfl _ _ rfl _ _ rfl (fun _ h => h.r2) aggI undI (by omega) ?_)
            | ((with_reducible refine wpQuiet_step (fun K hK => ?_)); go_simp; (first | (refine ⟨_, fun _ _ => rfl, hK _ ?_⟩) | (refine ⟨_, fun _ _ => ⟨rfl, rfl⟩, hK _ ?_⟩) | (refine hK _ ?_)); clear hK K))
          refine wpQuiet_nil ?_
          intro wt hCt
          replace h1 := hCt.r1
          replace h2 := hCt.r2
          replace h4 := hCt.r3
          replace hbel := hCt.2
          clear hCt
          go_wp2_with first
            | (with_reducible refine wpList_storePI rfl 3 _ _ rfl _ _ rfl rfl h1 size1 (by omega) hbel (by omega) ?_; intro w1 g3 ho g4; replace h2 := (ho _ (by omega)).trans h2; replace h4 := (ho _ (by omega)).trans h4; clear h1 hbel; have h1 := g3; have hbel := g4; clear g3 g4 ho)
          rw [rP_step f p HC.out] at h1
          go_roundw
          case rel => exact ⟨m + 1, by omega, by go_num, h1, h2, h4, hbel⟩
          case measure => simp [intOf]; omega
        · obtain rfl : m = 4 := by omega
          go_wp2_with fail
          go_roundw
          case rel => exact ⟨n + 1, by omega, by go_num, by rw [show (n + 1) * 4 = n * 4 + 4 by omega]; exact h1, h2, h4, hbel⟩
          case measure => simp [intOf]; omega
    · obtain rfl : n = 6 := by omega
      rw [show 6 * 4 = 24 from rfl, rP_done] at h1
      go_wp2_with first
        | (with_reducible refine wpList_loadW rfl _ _ rfl _ rfl h1 agg24r size24r ?_)
        | (with_reducible refine wpList_storeW rfl _ _ _ rfl _ rfl rfl h4 size24r ?_)
      exact bodyPost_ret_by (results_cellA rfl _ _ _ _ _ _ _ rfl (setRow_heap _ _ _ _ _ _ h4) agg24r size24r) rfl ⟨rfl, below_setRow2 hbel (by omega) _⟩
theorem sizeO2 : (Tryz.prog.info? 25).map (·.size) = some 24 := by kernel_rfl
theorem aggO2 : aggB Tryz.prog 25 = true := by kernel_rfl
theorem renamed_any (f p : Nat → Int) (hf : ∀ j, j < 24 → 0 ≤ f j ∧ f j ≤ 5) (w : World) : Calls Tryz.prog 28 #[.agg (arr 24 f), .agg (arr 6 p)] w fun e w' => e = .returned (.agg (arr 24 (fun j => p (f j).toNat))) ∧ Below w.heap.size w w' := by
  have h1 : (((w.alloc (.cells (arr 24 f) 27)).alloc (.cells (arr 6 p) 28)).alloc (.cells (arr 24 fun _ => 0) 27)).heap[w.heap.size]? = some (.cells (arr 24 f) 27 (0, 0)) := by rw [heap_old (by simp <;> omega), heap_old (by simp), heap_new rfl]
  have h2 : (((w.alloc (.cells (arr 24 f) 27)).alloc (.cells (arr 6 p) 28)).alloc (.cells (arr 24 fun _ => 0) 27)).heap[w.heap.size + 1]? = some (.cells (arr 6 p) 28 (0, 0)) := by rw [heap_old (by simp), heap_new (by simp)]
  have h4 : (((w.alloc (.cells (arr 24 f) 27)).alloc (.cells (arr 6 p) 28)).alloc (.cells (arr 24 fun _ => 0) 27)).heap[w.heap.size + 1 + 1]? = some (.cells (arr 24 fun _ => 0) 27 (0, 0)) := heap_new (by simp)
  have hbel : Below w.heap.size w (((w.alloc (.cells (arr 24 f) 27)).alloc (.cells (arr 6 p) 28)).alloc (.cells (arr 24 fun _ => 0) 27)) := (((Below.refl _ _).alloc (by simp) _).alloc (by simp) _).alloc (by simp <;> omega) _
  have HP : Hid _ := hf
  clear hf
  go_enter Tryz.func28, Tryz.ntmps28
  go_wp2_with first
    | (with_reducible refine wpList_allocA rfl 27 rfl 24 zero24r ?_; (try simp only [size_al]))
    | (with_reducible refine wpList_loadW rfl _ _ rfl _ rfl h1 aggO2 sizeO2 ?_)
  go_loopw [11] (fun i wr => ∃ n : Nat, n ≤ 6 ∧ i = .int .i64 n ∧ wr.heap[w.heap.size]? = some (.cells (arr 24 (rP f p (n * 4))) 27 (0, 0)) ∧ wr.heap[w.heap.size + 1]? = some (.cells (arr 6 p) 28 (0, 0)) ∧ wr.heap[w.heap.size + 1 + 1]? = some (.cells (arr 24 fun _ => 0) 27 (0, 0)) ∧ Below w.heap.size w wr) (fun i _ => 6 - (intOf i).toNat)
  case atStart => exact ⟨0, by omega, rfl, by rw [Nat.zero_mul, ← rP_start]; exact h1, h2, h4, hbel⟩
  case round =>
    clear h1 h2 h4 hbel
    obtain ⟨n, hn, rfl, h1, h2, h4, hbel⟩ := hrel
    obtain ⟨wo, hwo⟩ : ∃ wo : World, wo = wr := ⟨_, rfl⟩
    rw [← hwo] at h1 h2 h4 hbel ⊢
    clear hwo
    by_cases hlt : n < 6
    · have hlt' : (n : Int) < 6 := by omega
      have tok_h6 : True := trivial
      go_wp2_with first
        | (with_reducible refine wpList_indexA rfl _ _ _ rfl rfl rfl 6 _ Tryz.underlying25 4 agg4 size4 (by omega) rfl ?_)
        | (have _t := tok_h6; with_reducible refine wpList_allocN rfl 24 rfl 4 zero4 ?_; intro Bh6 w1 hBh6 h6 hb1; have hWh6 := Nat.le_trans hbel.size hBh6; have hLh1h6 := Nat.lt_of_lt_of_le (row_lt h1) hBh6; have hLh2h6 := Nat.lt_of_lt_of_le (row_lt h2) hBh6; have hLh4h6 := Nat.lt_of_lt_of_le (row_lt h4) hBh6; replace hbel := hbel.trans (hb1.mono hbel.size); replace h1 := row_keep hb1 h1; replace h2 := row_keep hb1 h2; replace h4 := row_keep hb1 h4; clear hb1 _t tok_h6)
        | (with_reducible refine wpList_storeWN rfl _ _ _ rfl _ rfl rfl h6 size4 hbel hWh6 ?_; intro w1 g3 ho g4; replace h1 := (ho _ (by omega)).trans h1; replace h2 := (ho _ (by omega)).trans h2; replace h4 := (ho _ (by omega)).trans h4; clear h6 hbel; have h6 := g3; have hbel := g4; clear g3 g4 ho)
        | (with_reducible refine wpList_loadW rfl _ _ rfl _ rfl h6 agg4 size4 ?_)
      clear h6
      go_loopw [16] (fun i wr => ∃ m : Nat, m ≤ 4 ∧ i = .int .i64 m ∧ wr.heap[w.heap.size]? = some (.cells (arr 24 (rP f p (n * 4 + m))) 27 (0, 0)) ∧ wr.heap[w.heap.size + 1]? = some (.cells (arr 6 p) 28 (0, 0)) ∧ wr.heap[w.heap.size + 1 + 1]? = some (.cells (arr 24 fun _ => 0) 27 (0, 0)) ∧ Below w.heap.size w wr) (fun i _ => 4 - (intOf i).toNat)
      case atStart => exact ⟨0, by omega, rfl, h1, h2, h4, hbel⟩
      case round =>
        clear h1 h2 h4 hbel
        obtain ⟨m, hm, rfl, h1, h2, h4, hbel⟩ := hrel
        by_cases hmt : m < 4
        · have hmt' : (m : Int) < 4 := by omega
          obtain ⟨pa, pb⟩ := HP.out (n * 4 + m) (by omega)
          obtain ⟨c, hc⟩ : ∃ c : Nat, f (n * 4 + m) = c := ⟨(f (n * 4 + m)).toNat, by omega⟩
          have hc6 : c < 6 := by omega
          have hc6' : (c : Int) < 6 := by omega
          have HC : Hid _ := hc
          have HR : Hid (rP f p (n * 4 + m) (n * 4 + m) = c) := by show rP f p (n * 4 + m) (n * 4 + m) = c; unfold rP; rw [if_neg (by omega)]; exact hc
          clear pa pb hc
          go_wp2_with first
            | ((with_reducible refine wpList_indexI rfl _ _ _ rfl rfl rfl _ Tryz.underlying24 aggI undI size1 (by omega) ?_); rw [HC.out])
          refine wp_region_held 8 (Cls w _) (by kernel_rfl) (by kernel_rfl) (Cls.three h1 h2 h4 hbel) ?_; simp only [List.take_succ_cons, List.take_zero, List.drop_succ_cons, List.drop_zero]
          repeat (first
            | ((with_reducible refine wpQuiet_loadI rfl _ _ rfl _ _ rfl (fun _ h => h.r1) aggI undI (by omega) ?_); rw [HR.out])
            | (with_reducible refine wpQuiet_loadI rfl _ _ rfl _ _ rfl (fun _ h => h.r2) aggI undI (by omega) ?_)
            | ((with_reducible refine wpQuiet_step (fun K hK => ?_)); go_simp; (first | (refine ⟨_, fun _ _ => rfl, hK _ ?_⟩) | (refine ⟨_, fun _ _ => ⟨rfl, rfl⟩, hK _ ?_⟩) | (refine hK _ ?_)); clear hK K))
          refine wpQuiet_nil ?_
          intro wt hCt
          replace h1 := hCt.r1
          replace h2 := hCt.r2
          replace h4 := hCt.r3
          replace hbel := hCt.2
          clear hCt
          go_wp2_with first
            | (with_reducible refine wpList_storePI rfl 3 _ _ rfl _ _ rfl rfl h1 size1 (by omega) hbel (by omega) ?_; intro w1 g3 ho g4; replace h2 := (ho _ (by omega)).trans h2; replace h4 := (ho _ (by omega)).trans h4; clear h1 hbel; have h1 := g3; have hbel := g4; clear g3 g4 ho)
          rw [rP_step f p HC.out] at h1
          go_roundw
          case rel => exact ⟨m + 1, by omega, by go_num, h1, h2, h4, hbel⟩
          case measure => simp [intOf]; omega
        · obtain rfl : m = 4 := by omega
          go_wp2_with fail
          go_roundw
          case rel => exact ⟨n + 1, by omega, by go_num, by rw [show (n + 1) * 4 = n * 4 + 4 by omega]; exact h1, h2, h4, hbel⟩
          case measure => simp [intOf]; omega
    · obtain rfl : n = 6 := by omega
      rw [show 6 * 4 = 24 from rfl, rP_done] at h1
      go_wp2_with first
        | (with_reducible refine wpList_loadW rfl _ _ rfl _ rfl h1 agg24r size24r ?_)
        | (with_reducible refine wpList_storeW rfl _ _ _ rfl _ rfl rfl h4 size24r ?_)
      exact bodyPost_ret_by (results_cellA rfl _ _ _ _ _ _ _ rfl (setRow_heap _ _ _ _ _ _ h4) agg24r size24r) rfl ⟨rfl, below_setRow2 hbel (by omega) _⟩
end Go.Proofs.YtlbgmkengkgnfaaGreat
end

section
/- The form of a rack: the program's sort and the reference's. -/
namespace Go.Proofs.YtlbgmkengkgnfaaGreat
set_option linter.unusedSimpArgs false
set_option linter.unusedVariables false
set_option maxRecDepth 20000
open Go.RowKit
section
variable {P : Program}
/-- A function value of no captured values is called with two. -/
theorem wpQuiet_callV2 {ops : Array Oper} {C : World → Prop} {Q : Act → Prop} {a : Act} {o : Oper} {rest : List Oper} (hw : Region.wanted o (yielded ops a.tmps) = true) (x y z : Operand) (ats : Array TypeId)
    (ho : o.op = .call { callee := .value x, args := #[y, z], argTypes := ats }) (f : FuncId) {u1 u2 : Value} (hx : a.eval x = .func (.func f) #[] #[]) (hy : a.eval y = u1) (hz : a.eval z = u2) (v : Value) (hE : Enters P f)
    (hc : ∀ w, C w → Calls P f #[u1, u2] w fun e w' => e = .returned v ∧ C w') (hk : wpQuiet P ops C Q rest (a.put o.dst v)) : wpQuiet P ops C Q (o :: rest) a := by
  refine wpQuiet_enter v f #[u1, u2] hw (fun w _ => ?_) hc hk
  unfold execOp
  have h1 : (invoke (.fn (.func f) #[]) #[u1, u2]).run P w = .ok (.enter f #[u1, u2]) w := by
    unfold invoke
    simpa using hE #[u1, u2] w
  simpa [ho, resolve, Deferred.ofValue, hx, hy, hz] using h1
end
theorem wrapI {x : Int} (h1 : -4611686018427387904 < x) (h2 : x < 4611686018427387904) : IntKind.i64.wrap x = x := IntWalk.i64_in _ (by omega)
theorem results_none {fn : Func} (h : fn.results = #[]) (tmps : Array Value) (w : World) : (results fn tmps).run Tryz.prog w = .ok (.tuple #[]) w := by simp [results, h]
/-- The insertion's swap is the neighbours'. -/
theorem swp_ins (F : Nat → Int) (J : Nat) : arr 24 (updN (updN F ((J + 1) * 4) 4 fun l => F (J * 4 + l)) (J * 4) 4 fun l => F ((J + 1) * 4 + l)) = arr 24 (swp F J) := by
  refine arr_congr fun q hq => ?_
  unfold swp updN
  by_cases h1 : J * 4 ≤ q ∧ q < J * 4 + 4
  · rw [if_pos h1, if_neg (by omega), if_pos h1]
  · rw [if_neg h1]
    by_cases h2 : (J + 1) * 4 ≤ q ∧ q < (J + 1) * 4 + 4
    · rw [if_pos h2, if_pos h2]
    · rw [if_neg h2, if_neg h2, if_neg h1]
theorem lex_tub {F : Nat → Int} (h : cellB F) {a b : Nat} (ha : a < 6) (hb : b < 6) : decide (lexC (fun l => F (a * 4 + l)) (fun l => F (b * 4 + l)) 4 < 0) = decide (cod (tub F a) < cod (tub F b)) := by
  have := (lexC_cod (tub_cell h ha) (tub_cell h hb)).1
  rw [Bool.eq_iff_iff, decide_eq_true_iff, decide_eq_true_iff]
  exact this
set_option maxHeartbeats 2000000 in
theorem insSort_any {f F0 : Nat → Int} {B B2 cap : Nat} {T : TypeId} {o2 : Obj} (w wI : World) (hbel : Below w.heap.size w wI) (hB : w.heap.size ≤ B) (h1 : wI.heap[B]? = some (.cells (arr 24 F0) T (0, 0))) (h2 : wI.heap[B2]? = some o2) (hne : B2 ≠ B) (hR : Rr f F0) :
    Calls Tryz.prog 93 #[.slice (some ⟨B, 0, none⟩) 6 cap, .int .i64 0, .int .i64 6, .func (.func 67) #[] #[]] wI fun e w' => (∃ u, e = .returned u) ∧ ∃ F, IsForm f F ∧ w'.heap[B]? = some (.cells (arr 24 F) T (0, 0)) ∧ w'.heap[B2]? = some o2 ∧ Below w.heap.size w w' := by
  go_enter Tryz.func93, Tryz.ntmps93
  go_wp2_with fail
  go_loopw [8] (fun i wr => ∃ n : Nat, ∃ F, 1 ≤ n ∧ n ≤ 6 ∧ i = .int .i64 n ∧ Rr f F ∧ (∀ a b, a < b → b < n → cod (tub F a) ≤ cod (tub F b)) ∧ wr.heap[B]? = some (.cells (arr 24 F) T (0, 0)) ∧ wr.heap[B2]? = some o2 ∧ Below w.heap.size w wr) (fun i _ => 6 - (intOf i).toNat)
  case atStart => exact ⟨1, F0, by omega, by omega, rfl, hR, fun a b hab hb => by omega, h1, h2, hbel⟩
  case round =>
    clear h1 h2 hbel hR
    obtain ⟨n, F, hn1, hn6, rfl, hR, hs, h1, h2, hbel⟩ := hrel
    obtain ⟨wo, hwo⟩ : ∃ wo : World, wo = wr := ⟨_, rfl⟩
    rw [← hwo] at h1 h2 hbel ⊢
    clear hwo
    by_cases hlt : n < 6
    · have hlt' : (n : Int) < 6 := by omega
      go_wp2_with fail
      go_loopw [9] (fun i wr => ∃ j : Nat, ∃ F, j ≤ n ∧ i = .int .i64 j ∧ Rr f F ∧ iI F n j ∧ wr.heap[B]? = some (.cells (arr 24 F) T (0, 0)) ∧ wr.heap[B2]? = some o2 ∧ Below w.heap.size w wr) (fun i _ => (intOf i).toNat)
      case atStart => exact ⟨n, F, by omega, rfl, hR, iI_start hs, h1, h2, hbel⟩
      case round =>
        clear h1 h2 hbel hR hs
        obtain ⟨j, F, hj, rfl, hR, hI, h1, h2, hbel⟩ := hrel
        cases j with
        | zero =>
          have HR : Hid _ := hR
          have HD : Hid (∀ a b, a < b → b < n + 1 → cod (tub F a) ≤ cod (tub F b)) := iI_done hI (.inl rfl)
          clear hR hI
          go_wp2_with fail
          refine wp_region_held 17 (Cls wr []) (by kernel_rfl) (by kernel_rfl) (Cls.zero (Below.refl _ _)) ?_; simp only [List.take_succ_cons, List.take_zero, List.drop_succ_cons, List.drop_zero]
          repeat (first
            | ((with_reducible refine wpQuiet_step (fun K hK => ?_)); go_simp; (first | (refine ⟨_, fun _ _ => rfl, hK _ ?_⟩) | (refine ⟨_, fun _ _ => ⟨rfl, rfl⟩, hK _ ?_⟩) | (refine hK _ ?_)); clear hK K))
          refine wpQuiet_nil ?_; intro wt hCt; replace hCt := hCt.2; replace hbel := hbel.trans (hCt.mono hbel.size); replace h1 := row_keep hCt h1; replace h2 := row_keep hCt h2; clear hCt
          go_wp2_with fail
          go_roundw
          case rel => exact ⟨n + 1, F, by omega, by omega, by go_num, HR.out, HD.out, h1, h2, hbel⟩
          case measure => simp [intOf]; omega
        | succ J =>
          have hJ5 : J < 5 := by omega
          have hc := lex_tub hR.2 (show J + 1 < 6 by omega) (show J < 6 by omega)
          have e1 : IntKind.i64.wrap (J : Int) = J := wrapN rfl (by omega)
          have hJ6 : (J : Int) < 6 := by omega
          have hJ7 : (J : Int) + 1 < 6 := by omega
          have hJ0 : 0 ≤ (J : Int) + 1 := by omega
          have hJ1 : 0 < (J : Int) + 1 := by omega
          have HR : Hid _ := hR
          have HI : Hid _ := hI
          obtain ⟨z, hz⟩ : ∃ z, lexC (fun l => F ((J + 1) * 4 + l)) (fun l => F (J * 4 + l)) 4 = z := ⟨_, rfl⟩
          rw [hz] at hc
          have HZ : Hid _ := hz
          clear hz
          by_cases hlt2 : cod (tub F (J + 1)) < cod (tub F J)
          · rw [decide_eq_true hlt2] at hc
            have HS : Hid (Rr f (swp F J) ∧ iI (swp F J) n J) := ⟨hR.swp hJ5, iI_step hI hlt2⟩
            clear hR hI hlt2
            go_wp2_with fail
            refine wp_region_held 17 (Cls wr []) (by kernel_rfl) (by kernel_rfl) (Cls.zero (Below.refl _ _)) ?_; simp only [List.take_succ_cons, List.take_zero, List.drop_succ_cons, List.drop_zero]
            repeat (first
              | (with_reducible refine wpQuiet_loadA rfl _ _ rfl _ _ rfl (fun _ h => h.kp h1) 4 agg4 size4 (by omega) ?_)
              | ((with_reducible refine wpQuiet_callV2 rfl _ _ _ _ rfl 67 rfl rfl rfl (.int .i64 z) ?_ ?_ ?_); (exact enters_of Tryz.func67 (by kernel_rfl) rfl); (intro w' h'; rw [← HZ.out]; exact (cmpTubes_any _ _ w').mono fun _ _ ⟨he, hb⟩ => ⟨he, h'.keep hb⟩))
              | ((with_reducible refine wpQuiet_step (fun K hK => ?_)); go_simp; (first | (refine ⟨_, fun _ _ => rfl, hK _ ?_⟩) | (refine ⟨_, fun _ _ => ⟨rfl, rfl⟩, hK _ ?_⟩) | (refine hK _ ?_)); clear hK K))
            refine wpQuiet_nil ?_; intro wt hCt; replace hCt := hCt.2; replace hbel := hbel.trans (hCt.mono hbel.size); replace h1 := row_keep hCt h1; replace h2 := row_keep hCt h2; clear hCt
            clear e1
            go_wp2_with fail
            have e1 : IntKind.i64.wrap (J : Int) = J := wrapN rfl (by omega)
            obtain ⟨wm, hwm⟩ : ∃ wm : World, wm = wt := ⟨_, rfl⟩
            rw [← hwm] at h1 h2 hbel ⊢
            clear hwm
            refine wp_region_fork [0, 1, 2, 3, 4, 5, 6, 7, 8, 10, 11, 12] [9, 13] [] 4 (fun l => l.take 9 ++ (l.drop 10).take 3) (fun l => (l.drop 9).take 1 ++ (l.drop 13).take 1) (Cls w _) (by kernel_rfl) (by kernel_rfl) (by kernel_rfl) (by kernel_rfl) trivial (Cls.two h1 h2 hbel) ?_; try simp only [List.take_succ_cons, List.take_zero, List.drop_succ_cons, List.drop_zero, List.singleton_append, List.cons_append, List.nil_append]
            repeat (first
              | ((with_reducible refine wpCalm_step (fun K hK => ?_)); go_simp; (first | (refine ⟨_, fun _ _ => rfl, hK _ ?_⟩) | (refine hK _ ?_)); clear hK K))
            refine wpCalm_nil ?_
            repeat (first
              | (with_reducible refine wpCalm_loadA rfl _ _ rfl _ _ rfl (fun _ h => h.r1) 4 agg4 size4 (by omega) ?_)
              | ((with_reducible refine wpCalm_step (fun K hK => ?_)); go_simp; (first | (refine ⟨_, fun _ _ => rfl, hK _ ?_⟩) | (refine hK _ ?_)); clear hK K))
            refine wpCalm_nil ?_
            have hCt := Cls.two h1 h2 hbel
            obtain ⟨wq, hwq⟩ : ∃ wq : World, wq = { wm with drawn := wm.drawn + 1 } := ⟨_, rfl⟩
            rw [← hwq] at hCt ⊢
            clear hwq
            replace h1 := hCt.r1
            replace h2 := hCt.r2
            replace hbel := hCt.2
            clear hCt e1
            refine wpAny_fork1 14 (by kernel_rfl) rfl ?_
            go_wp2_with fail
            refine QN.intro ?_
            refine wpAny_fork1 15 (by kernel_rfl) rfl ?_
            go_wp2_with first
              | (with_reducible refine wpList_storePN rfl _ _ _ rfl _ _ rfl rfl h1 size4 (by omega) hbel (by omega) ?_; intro w1 g3 ho g4; replace h2 := (ho _ hne).trans h2; clear h1 hbel; have h1 := g3; have hbel := g4; clear g3 g4 ho)
            refine QN.intro ?_
            refine wpAny_fork1 16 (by kernel_rfl) rfl ?_
            go_wp2_with fail
            refine QN.intro ?_
            refine wpAny_fork1 17 (by kernel_rfl) rfl ?_
            go_wp2_with first
              | (with_reducible refine wpList_storePN rfl _ _ _ rfl _ _ rfl rfl h1 size4 (by omega) hbel (by omega) ?_; intro w1 g3 ho g4; replace h2 := (ho _ hne).trans h2; clear h1 hbel; have h1 := g3; have hbel := g4; clear g3 g4 ho)
            refine QN.intro ?_
            refine wpAny_end (by kernel_rfl) ?_
            go_wp2_with fail
            rw [swp_ins] at h1
            go_roundw
            case rel => exact ⟨J, _, by omega, by go_num, HS.out.1, HS.out.2, h1, h2, hbel⟩
            case measure => simp [intOf] <;> omega
          · rw [decide_eq_false hlt2] at hc
            have HD : Hid (∀ a b, a < b → b < n + 1 → cod (tub F a) ≤ cod (tub F b)) := iI_done hI (.inr (by rw [Nat.add_sub_cancel]; exact hlt2))
            clear hR hI hlt2
            go_wp2_with fail
            refine wp_region_held 17 (Cls wr []) (by kernel_rfl) (by kernel_rfl) (Cls.zero (Below.refl _ _)) ?_; simp only [List.take_succ_cons, List.take_zero, List.drop_succ_cons, List.drop_zero]
            repeat (first
              | (with_reducible refine wpQuiet_loadA rfl _ _ rfl _ _ rfl (fun _ h => h.kp h1) 4 agg4 size4 (by omega) ?_)
              | ((with_reducible refine wpQuiet_callV2 rfl _ _ _ _ rfl 67 rfl rfl rfl (.int .i64 z) ?_ ?_ ?_); (exact enters_of Tryz.func67 (by kernel_rfl) rfl); (intro w' h'; rw [← HZ.out]; exact (cmpTubes_any _ _ w').mono fun _ _ ⟨he, hb⟩ => ⟨he, h'.keep hb⟩))
              | ((with_reducible refine wpQuiet_step (fun K hK => ?_)); go_simp; (first | (refine ⟨_, fun _ _ => rfl, hK _ ?_⟩) | (refine ⟨_, fun _ _ => ⟨rfl, rfl⟩, hK _ ?_⟩) | (refine hK _ ?_)); clear hK K))
            refine wpQuiet_nil ?_; intro wt hCt; replace hCt := hCt.2; replace hbel := hbel.trans (hCt.mono hbel.size); replace h1 := row_keep hCt h1; replace h2 := row_keep hCt h2; clear hCt
            clear e1
            go_wp2_with fail
            go_roundw
            case rel => exact ⟨n + 1, F, by omega, by omega, by go_num, HR.out, HD.out, h1, h2, hbel⟩
            case measure => simp [intOf]; omega
    · obtain rfl : n = 6 := by omega
      have HF : Hid (IsForm f F) := ⟨hR, fun a b hab hb => hs a b hab hb⟩
      clear hR hs
      go_wp2_with fail
      exact bodyPost_end (v := .tuple #[]) (results_none rfl _ _) rfl ⟨⟨_, rfl⟩, F, HF.out, h1, h2, hbel⟩
theorem pdq_any {f F0 : Nat → Int} {B B2 cap : Nat} {T : TypeId} {o2 : Obj} (lim : Int) (w wI : World) (hbel : Below w.heap.size w wI) (hB : w.heap.size ≤ B) (h1 : wI.heap[B]? = some (.cells (arr 24 F0) T (0, 0))) (h2 : wI.heap[B2]? = some o2) (hne : B2 ≠ B) (hR : Rr f F0) :
    Calls Tryz.prog 85 #[.slice (some ⟨B, 0, none⟩) 6 cap, .int .i64 0, .int .i64 6, .int .i64 lim, .func (.func 67) #[] #[]] wI fun e w' => (∃ u, e = .returned u) ∧ ∃ F, IsForm f F ∧ w'.heap[B]? = some (.cells (arr 24 F) T (0, 0)) ∧ w'.heap[B2]? = some o2 ∧ Below w.heap.size w w' := by
  go_enter Tryz.func85, Tryz.ntmps85
  go_wp2_with fail
  go_loopw [1, 2] (fun a b wr => a = .int .i64 0 ∧ b = .int .i64 6 ∧ wr.heap[B]? = some (.cells (arr 24 F0) T (0, 0)) ∧ wr.heap[B2]? = some o2 ∧ Below w.heap.size w wr) (fun _ _ _ => 0)
  case atStart => exact ⟨rfl, rfl, h1, h2, hbel⟩
  case round =>
    clear h1 h2 hbel
    obtain ⟨rfl, rfl, h1, h2, hbel⟩ := hrel
    go_wp2_with first
      | (go_at_call 93; (with_reducible refine (insSort_any w _ hbel hB h1 h2 hne hR).mono ?_); rintro e w1 ⟨⟨u, rfl⟩, F, hF, g1, g2, g3⟩)
    exact bodyPost_ret (v := .tuple #[]) (results_none rfl _ _) rfl ⟨⟨_, rfl⟩, F, hF, g1, g2, g3⟩
theorem len64_six (w : World) : Calls Tryz.prog 102 #[.int .u64 6] w fun e w' => e = .returned (.int .i64 3) ∧ w = w' := by
  go_enter Tryz.func102, Tryz.ntmps102
  go_wp2_with fail
  go_ret
  refine ⟨?_, rfl⟩
  kernel_rfl
theorem len_six (w : World) : Calls Tryz.prog 86 #[.int .u64 6] w fun e w' => e = .returned (.int .i64 3) ∧ w = w' := by
  go_enter Tryz.func86, Tryz.ntmps86
  go_wp2_with first
    | (go_at_call 102; (with_reducible refine (len64_six _).mono ?_); rintro e w' ⟨rfl, rfl⟩)
  go_ret
  exact ⟨rfl, rfl⟩
theorem sortF_any {f F0 : Nat → Int} {B B2 cap : Nat} {T : TypeId} {o2 : Obj} (w wI : World) (hbel : Below w.heap.size w wI) (hB : w.heap.size ≤ B) (h1 : wI.heap[B]? = some (.cells (arr 24 F0) T (0, 0))) (h2 : wI.heap[B2]? = some o2) (hne : B2 ≠ B) (hR : Rr f F0) :
    Calls Tryz.prog 66 #[.slice (some ⟨B, 0, none⟩) 6 cap, .func (.func 67) #[] #[]] wI fun e w' => (∃ u, e = .returned u) ∧ ∃ F, IsForm f F ∧ w'.heap[B]? = some (.cells (arr 24 F) T (0, 0)) ∧ w'.heap[B2]? = some o2 ∧ Below w.heap.size w w' := by
  go_enter Tryz.func66, Tryz.ntmps66
  go_wp2_with first
    | (go_at_call 86; (with_reducible refine (len_six _).mono ?_); rintro e w' ⟨rfl, rfl⟩)
    | (go_at_call 85; (with_reducible refine (pdq_any 3 w _ hbel hB h1 h2 hne hR).mono ?_); rintro e w1 ⟨⟨u, rfl⟩, F, hF, g1, g2, g3⟩)
  exact bodyPost_end (v := .tuple #[]) (results_none rfl _ _) rfl ⟨⟨_, rfl⟩, F, hF, g1, g2, g3⟩
theorem formOf_any (f : Nat → Int) (hf : rackB f = true) (w : World) : Calls Tryz.prog 41 #[.agg (arr 24 f)] w fun e w' => e = .returned (.agg (arr 24 (formF f))) ∧ Below w.heap.size w w' := by
  have h1 : ((w.alloc (.cells (arr 24 f) 27)).alloc (.cells (arr 24 fun _ => 0) 27)).heap[w.heap.size]? = some (.cells (arr 24 f) 27 (0, 0)) := by rw [heap_old (by simp), heap_new rfl]
  have h2 : ((w.alloc (.cells (arr 24 f) 27)).alloc (.cells (arr 24 fun _ => 0) 27)).heap[w.heap.size + 1]? = some (.cells (arr 24 fun _ => 0) 27 (0, 0)) := heap_new (by simp)
  have hbel : Below w.heap.size w ((w.alloc (.cells (arr 24 f) 27)).alloc (.cells (arr 24 fun _ => 0) 27)) := ((Below.refl _ _).alloc (by simp) _).alloc (by simp) _
  have hR : Rr f f := Rr.refl (cellB_of_rack hf)
  go_enter Tryz.func41, Tryz.ntmps41
  go_wp2_with first
    | (with_reducible refine wpList_allocA rfl 27 rfl 24 zero24r ?_; (try simp only [size_al]))
    | (go_at_call 66; (with_reducible refine (sortF_any w _ hbel (by omega) h1 h2 (by omega) hR).mono ?_); rintro e w1 ⟨⟨u, rfl⟩, F, hF, g1, g2, g3⟩; clear h1 h2 hbel; have h1 := g1; have h2 := g2; have hbel := g3; clear g1 g2 g3)
    | (with_reducible refine wpList_loadW rfl _ _ rfl _ rfl h1 agg24r size24r ?_)
    | (with_reducible refine wpList_storeW rfl _ _ _ rfl _ rfl rfl h2 size24r ?_)
  refine bodyPost_ret_by (results_cellA rfl _ _ _ _ _ _ _ rfl (setRow_heap _ _ _ _ _ _ h2) agg24r size24r) rfl ⟨?_, below_setRow2 hbel (by omega) _⟩
  rw [form_arr hF]
theorem l3Below_any (f g : Nat → Int) (w : World) : Calls Tryz.prog 65 #[.agg (arr 4 f), .agg (arr 4 g)] w fun e w' => e = .returned (.bool (decide (lexC f g 4 < 0))) ∧ Below w.heap.size w w' := by
  have h1 : ((w.alloc (.cells (arr 4 f) 24)).alloc (.cells (arr 4 g) 24)).heap[w.heap.size]? = some (.cells (arr 4 f) 24 (0, 0)) := by rw [heap_old (by simp), heap_new rfl]
  have h2 : ((w.alloc (.cells (arr 4 f) 24)).alloc (.cells (arr 4 g) 24)).heap[w.heap.size + 1]? = some (.cells (arr 4 g) 24 (0, 0)) := heap_new (by simp)
  have hbel : Below w.heap.size w ((w.alloc (.cells (arr 4 f) 24)).alloc (.cells (arr 4 g) 24)) := ((Below.refl _ _).alloc (by simp) _).alloc (by simp) _
  go_enter Tryz.func65, Tryz.ntmps65
  go_wp2_with fail
  go_loopw [5] (fun i wr => ∃ j : Nat, j ≤ 4 ∧ i = .int .i64 j ∧ lexC f g j = 0 ∧ wr.heap[w.heap.size]? = some (.cells (arr 4 f) 24 (0, 0)) ∧ wr.heap[w.heap.size + 1]? = some (.cells (arr 4 g) 24 (0, 0)) ∧ Below w.heap.size w wr) (fun i _ => 4 - (intOf i).toNat)
  case atStart => exact ⟨0, by omega, rfl, rfl, h1, h2, hbel⟩
  case round =>
    clear h1 h2 hbel
    obtain ⟨j, hj, rfl, h0, h1, h2, hbel⟩ := hrel
    by_cases hjt : j < 4
    · have hjt' : (j : Int) < 4 := by omega
      by_cases he : f j = g j
      · have HS : Hid (lexC f g (j + 1) = 0) := by
          show lexC f g (j + 1) = 0
          rw [lexC_next h0, he]
          simp [c3]
        have hed : (f j != g j) = false := by simpa using he
        clear he h0
        go_wp2_with fail
        refine wp_region_held 7 (Cls w _) (by kernel_rfl) (by kernel_rfl) (Cls.two h1 h2 hbel) ?_; simp only [List.take_succ_cons, List.take_zero, List.drop_succ_cons, List.drop_zero]
        repeat (first
          | (with_reducible refine wpQuiet_loadI rfl _ _ rfl _ _ rfl (fun _ h => h.r1) aggI undI (by omega) ?_)
          | (with_reducible refine wpQuiet_loadI rfl _ _ rfl _ _ rfl (fun _ h => h.r2) aggI undI (by omega) ?_)
          | ((with_reducible refine wpQuiet_step (fun K hK => ?_)); go_simp; (first | (refine ⟨_, fun _ _ => rfl, hK _ ?_⟩) | (refine ⟨_, fun _ _ => ⟨rfl, rfl⟩, hK _ ?_⟩) | (refine hK _ ?_)); clear hK K))
        refine wpQuiet_nil ?_
        intro wt hCt
        replace h1 := hCt.r1
        replace h2 := hCt.r2
        replace hbel := hCt.2
        clear hCt
        go_wp2_with fail
        go_roundw
        case rel => exact ⟨j + 1, by omega, by go_num, HS.out, h1, h2, hbel⟩
        case measure => simp [intOf]; omega
      · have hed : (f j != g j) = true := by simpa using he
        have HS : Hid (decide (lexC f g 4 < 0) = decide (f j < g j)) := lexC_neg h0 he (by omega)
        clear he h0
        go_wp2_with fail
        refine wp_region_held 7 (Cls w _) (by kernel_rfl) (by kernel_rfl) (Cls.two h1 h2 hbel) ?_; simp only [List.take_succ_cons, List.take_zero, List.drop_succ_cons, List.drop_zero]
        repeat (first
          | (with_reducible refine wpQuiet_loadI rfl _ _ rfl _ _ rfl (fun _ h => h.r1) aggI undI (by omega) ?_)
          | (with_reducible refine wpQuiet_loadI rfl _ _ rfl _ _ rfl (fun _ h => h.r2) aggI undI (by omega) ?_)
          | ((with_reducible refine wpQuiet_step (fun K hK => ?_)); go_simp; (first | (refine ⟨_, fun _ _ => rfl, hK _ ?_⟩) | (refine ⟨_, fun _ _ => ⟨rfl, rfl⟩, hK _ ?_⟩) | (refine hK _ ?_)); clear hK K))
        refine wpQuiet_nil ?_
        intro wt hCt
        replace h1 := hCt.r1
        replace h2 := hCt.r2
        replace hbel := hCt.2
        clear hCt
        go_wp2_with fail
        refine wp_region_held 7 (Cls w _) (by kernel_rfl) (by kernel_rfl) (Cls.two h1 h2 hbel) ?_; simp only [List.take_succ_cons, List.take_zero, List.drop_succ_cons, List.drop_zero]
        repeat (first
          | (with_reducible refine wpQuiet_loadI rfl _ _ rfl _ _ rfl (fun _ h => h.r1) aggI undI (by omega) ?_)
          | (with_reducible refine wpQuiet_loadI rfl _ _ rfl _ _ rfl (fun _ h => h.r2) aggI undI (by omega) ?_)
          | ((with_reducible refine wpQuiet_step (fun K hK => ?_)); go_simp; (first | (refine ⟨_, fun _ _ => rfl, hK _ ?_⟩) | (refine ⟨_, fun _ _ => ⟨rfl, rfl⟩, hK _ ?_⟩) | (refine hK _ ?_)); clear hK K))
        refine wpQuiet_nil ?_
        intro wt hCt
        replace h1 := hCt.r1
        replace h2 := hCt.r2
        replace hbel := hCt.2
        clear hCt
        go_wp2_with fail
        go_ret
        exact ⟨ret_bool HS.out.symm, hbel⟩
    · obtain rfl : j = 4 := by omega
      have HS : Hid (decide (lexC f g 4 < 0) = false) := by show decide (lexC f g 4 < 0) = false; rw [h0]; rfl
      clear h0
      go_wp2_with fail
      go_ret
      exact ⟨ret_bool HS.out.symm, hbel⟩
set_option maxHeartbeats 4000000 in
theorem l3Form_any (f : Nat → Int) (hf : rackB f = true) (w : World) : Calls Tryz.prog 40 #[.agg (arr 24 f)] w fun e w' => e = .returned (.agg (arr 24 (formF f))) ∧ Below w.heap.size w w' := by
  have h1 : ((w.alloc (.cells (arr 24 f) 27)).alloc (.cells (arr 24 fun _ => 0) 27)).heap[w.heap.size]? = some (.cells (arr 24 f) 27 (0, 0)) := by rw [heap_old (by simp), heap_new rfl]
  have h2 : ((w.alloc (.cells (arr 24 f) 27)).alloc (.cells (arr 24 fun _ => 0) 27)).heap[w.heap.size + 1]? = some (.cells (arr 24 fun _ => 0) 27 (0, 0)) := heap_new (by simp)
  have hbel : Below w.heap.size w ((w.alloc (.cells (arr 24 f) 27)).alloc (.cells (arr 24 fun _ => 0) 27)) := ((Below.refl _ _).alloc (by simp) _).alloc (by simp) _
  have hR : Rr f f := Rr.refl (cellB_of_rack hf)
  go_enter Tryz.func40, Tryz.ntmps40
  go_wp2_with first
    | (with_reducible refine wpList_allocA rfl 27 rfl 24 zero24r ?_; (try simp only [size_al]))
  go_loopw [3] (fun i wr => ∃ n : Nat, ∃ F, n ≤ 6 ∧ i = .int .i64 n ∧ Rr f F ∧ bI F n 0 ∧ wr.heap[w.heap.size]? = some (.cells (arr 24 F) 27 (0, 0)) ∧ wr.heap[w.heap.size + 1]? = some (.cells (arr 24 fun _ => 0) 27 (0, 0)) ∧ Below w.heap.size w wr) (fun i _ => 6 - (intOf i).toNat)
  case atStart => exact ⟨0, f, by omega, rfl, hR, bI_start f, h1, h2, hbel⟩
  case round =>
    clear h1 h2 hbel hR
    obtain ⟨n, F, hn, rfl, hR, hI, h1, h2, hbel⟩ := hrel
    obtain ⟨wo, hwo⟩ : ∃ wo : World, wo = wr := ⟨_, rfl⟩
    rw [← hwo] at h1 h2 hbel ⊢
    clear hwo
    by_cases hlt : n < 6
    · have hlt' : (n : Int) < 6 := by omega
      go_wp2_with fail
      go_loopw [4] (fun i wr => ∃ k : Nat, ∃ F, k ≤ 5 ∧ i = .int .i64 k ∧ Rr f F ∧ bI F n k ∧ wr.heap[w.heap.size]? = some (.cells (arr 24 F) 27 (0, 0)) ∧ wr.heap[w.heap.size + 1]? = some (.cells (arr 24 fun _ => 0) 27 (0, 0)) ∧ Below w.heap.size w wr) (fun i _ => 5 - (intOf i).toNat)
      case atStart => exact ⟨0, F, by omega, rfl, hR, hI, h1, h2, hbel⟩
      case round =>
        clear h1 h2 hbel hR hI
        obtain ⟨k, F, hk, rfl, hR, hI, h1, h2, hbel⟩ := hrel
        by_cases hkt : k < 5
        · have hk6 : (k : Int) + 1 < 6 := by omega
          have hk7 : (k : Int) < 6 := by omega
          have hk0 : 0 ≤ (k : Int) + 1 := by omega
          have e1 : IntKind.i64.wrap ((k : Int) + 1) = (k : Int) + 1 := wrapI (by omega) (by omega)
          have hz := lex_tub hR.2 (show k + 1 < 6 by omega) (show k < 6 by omega)
          have hst := bI_step hkt hI
          cases hd : decide (cod (tub F (k + 1)) < cod (tub F k)) with
          | false =>
            obtain ⟨d, hdd⟩ : ∃ d, d = false := ⟨_, rfl⟩
            have HZ : Hid (decide (lexC (fun l => F ((k + 1) * 4 + l)) (fun l => F (k * 4 + l)) 4 < 0) = d) := by show _ = d; rw [hz, hd, hdd]
            have HS : Hid (Rr f F ∧ bI F n (k + 1)) := ⟨hR, by rw [show bS F k = F from if_neg (of_decide_eq_false hd)] at hst; exact hst⟩
            clear hz hst hd hR hI
            go_wp2_with fail
            refine wp_region_held 10 (Cls w _) (by kernel_rfl) (by kernel_rfl) (Cls.two h1 h2 hbel) ?_; simp only [List.take_succ_cons, List.take_zero, List.drop_succ_cons, List.drop_zero]
            repeat (first
              | (with_reducible refine wpQuiet_loadA rfl _ _ rfl _ _ rfl (fun _ h => h.r1) 4 agg4 size4 (by omega) ?_)
              | ((with_reducible refine wpQuiet_callE rfl 65 _ _ rfl (.bool d) (#[.agg (arr 4 fun l => F ((k + 1) * 4 + l)), .agg (arr 4 fun l => F (k * 4 + l))]) rfl ?_ ?_ ?_); (exact enters_of Tryz.func65 (by kernel_rfl) rfl); (intro w' h'; with_reducible exact (HZ.out ▸ l3Below_any (fun l => F ((k + 1) * 4 + l)) (fun l => F (k * 4 + l)) w').mono fun _ _ ⟨he, hb⟩ => ⟨he, h'.keep hb⟩))
              | ((with_reducible refine wpQuiet_step (fun K hK => ?_)); go_simp; (first | (refine ⟨_, fun _ _ => rfl, hK _ ?_⟩) | (refine ⟨_, fun _ _ => ⟨rfl, rfl⟩, hK _ ?_⟩) | (refine hK _ ?_)); clear hK K))
            refine wpQuiet_nil ?_
            intro wt hCt
            replace h1 := hCt.r1
            replace h2 := hCt.r2
            replace hbel := hCt.2
            clear hCt
            rw [hdd]
            clear e1
            go_wp2_with fail
            go_roundw
            case rel => exact ⟨k + 1, F, by omega, by go_num, HS.out.1, HS.out.2, h1, h2, hbel⟩
            case measure => simp [intOf]; omega
          | true =>
            obtain ⟨d, hdd⟩ : ∃ d, d = true := ⟨_, rfl⟩
            have HZ : Hid (decide (lexC (fun l => F ((k + 1) * 4 + l)) (fun l => F (k * 4 + l)) 4 < 0) = d) := by show _ = d; rw [hz, hd, hdd]
            have HS : Hid (Rr f (swp F k) ∧ bI (swp F k) n (k + 1)) := ⟨hR.swp hkt, by rw [show bS F k = swp F k from if_pos (of_decide_eq_true hd)] at hst; exact hst⟩
            clear hz hst hd hR hI
            go_wp2_with fail
            refine wp_region_held 10 (Cls w _) (by kernel_rfl) (by kernel_rfl) (Cls.two h1 h2 hbel) ?_; simp only [List.take_succ_cons, List.take_zero, List.drop_succ_cons, List.drop_zero]
            repeat (first
              | (with_reducible refine wpQuiet_loadA rfl _ _ rfl _ _ rfl (fun _ h => h.r1) 4 agg4 size4 (by omega) ?_)
              | ((with_reducible refine wpQuiet_callE rfl 65 _ _ rfl (.bool d) (#[.agg (arr 4 fun l => F ((k + 1) * 4 + l)), .agg (arr 4 fun l => F (k * 4 + l))]) rfl ?_ ?_ ?_); (exact enters_of Tryz.func65 (by kernel_rfl) rfl); (intro w' h'; with_reducible exact (HZ.out ▸ l3Below_any (fun l => F ((k + 1) * 4 + l)) (fun l => F (k * 4 + l)) w').mono fun _ _ ⟨he, hb⟩ => ⟨he, h'.keep hb⟩))
              | ((with_reducible refine wpQuiet_step (fun K hK => ?_)); go_simp; (first | (refine ⟨_, fun _ _ => rfl, hK _ ?_⟩) | (refine ⟨_, fun _ _ => ⟨rfl, rfl⟩, hK _ ?_⟩) | (refine hK _ ?_)); clear hK K))
            refine wpQuiet_nil ?_
            intro wt hCt
            replace h1 := hCt.r1
            replace h2 := hCt.r2
            replace hbel := hCt.2
            clear hCt
            rw [hdd]
            go_wp2_with fail
            obtain ⟨wm, hwm⟩ : ∃ wm : World, wm = wt := ⟨_, rfl⟩
            rw [← hwm] at h1 h2 hbel ⊢
            clear hwm
            refine wp_region_fork [0, 1, 2, 4, 5, 6, 7] [3] [8, 9, 10] 5 (fun l => l.take 3 ++ (l.drop 4).take 4) (fun l => (l.drop 3).take 1) (Cls w _) (by kernel_rfl) (by kernel_rfl) (by kernel_rfl) (by kernel_rfl) ⟨Pres.load _ _ rfl, Pres.alloc _ rfl 4 zero4, Pres.alloc _ rfl 4 zero4, trivial⟩ (Cls.two h1 h2 hbel) ?_; try simp only [List.take_succ_cons, List.take_zero, List.drop_succ_cons, List.drop_zero, List.singleton_append, List.cons_append, List.nil_append]
            repeat (first
              | ((with_reducible refine wpCalm_step (fun K hK => ?_)); go_simp; (first | (refine ⟨_, fun _ _ => rfl, hK _ ?_⟩) | (refine hK _ ?_)); clear hK K))
            refine wpCalm_nil ?_
            repeat (first
              | (with_reducible refine wpCalm_loadA rfl _ _ rfl _ _ rfl (fun _ h => h.r1) 4 agg4 size4 (by omega) ?_)
              | ((with_reducible refine wpCalm_step (fun K hK => ?_)); go_simp; (first | (refine ⟨_, fun _ _ => rfl, hK _ ?_⟩) | (refine hK _ ?_)); clear hK K))
            refine wpCalm_nil ?_
            have hCt := Cls.two h1 h2 hbel
            obtain ⟨wt, hwt⟩ : ∃ wt : World, wt = { wm with drawn := wm.drawn + 1 } := ⟨_, rfl⟩
            rw [← hwt] at hCt ⊢
            clear hwt
            replace h1 := hCt.r1
            replace h2 := hCt.r2
            replace hbel := hCt.2
            clear hCt e1
            refine wpAny_fork3 8 9 10 (by kernel_rfl) rfl rfl rfl ?_ ?_ ?_
            · go_wp2_with first
                | (with_reducible refine wpList_loadA rfl _ _ rfl _ _ rfl h1 4 agg4 size4 (by omega) ?_)
              refine QN.intro ?_
              refine wpAny_fork2 9 10 (by kernel_rfl) rfl rfl ?_ ?_
              · go_wp2_with first
                  | (with_reducible refine wpList_allocN rfl 24 rfl 4 zero4 ?_; intro p w1 hp0 hp hb1; have hpl := Nat.lt_of_lt_of_le (Array.getElem?_eq_some_iff.1 h2).1 hp0; (try have hpq := Nat.lt_of_lt_of_le (Array.getElem?_eq_some_iff.1 hq).1 hp0); replace hbel := hbel.trans (hb1.mono hbel.size); replace h1 := row_keep hb1 h1; replace h2 := row_keep hb1 h2; (try replace hq := row_keep hb1 hq); clear hb1 hp0)
                refine QN.intro ?_
                refine wpAny_fork1 10 (by kernel_rfl) rfl ?_
                go_wp2_with first
                  | (with_reducible refine wpList_allocN rfl 24 rfl 4 zero4 ?_; intro q w1 hq0 hq hb1; have hql := Nat.lt_of_lt_of_le (Array.getElem?_eq_some_iff.1 h2).1 hq0; (try have hpq := Nat.lt_of_lt_of_le (Array.getElem?_eq_some_iff.1 hp).1 hq0); replace hbel := hbel.trans (hb1.mono hbel.size); replace h1 := row_keep hb1 h1; replace h2 := row_keep hb1 h2; (try replace hp := row_keep hb1 hp); clear hb1 hq0)
                refine QN.intro ?_
                refine wpAny_fork1 11 (by kernel_rfl) rfl ?_
                go_wp2_with first
                  | (with_reducible refine wpList_storeWN rfl _ _ _ rfl _ rfl rfl hp size4 hbel (by omega) ?_; intro w1 g3 ho g4; replace h1 := (ho _ (by omega)).trans h1; replace h2 := (ho _ (by omega)).trans h2; replace hq := (ho _ (by omega)).trans hq; clear hp hbel; have hp := g3; have hbel := g4; clear g3 g4 ho)
                refine QN.intro ?_
                refine wpAny_fork1 12 (by kernel_rfl) rfl ?_
                go_wp2_with first
                  | (with_reducible refine wpList_storeWN rfl _ _ _ rfl _ rfl rfl hq size4 hbel (by omega) ?_; intro w1 g3 ho g4; replace h1 := (ho _ (by omega)).trans h1; replace h2 := (ho _ (by omega)).trans h2; replace hp := (ho _ (by omega)).trans hp; clear hq hbel; have hq := g3; have hbel := g4; clear g3 g4 ho)
                refine QN.intro ?_
                refine wpAny_end (by kernel_rfl) ?_
                go_wp2_with first
                  | (with_reducible refine wpList_loadW rfl _ _ rfl _ rfl hq agg4 size4 ?_)
                  | (with_reducible refine wpList_loadW rfl _ _ rfl _ rfl hp agg4 size4 ?_)
                  | (with_reducible refine wpList_storePN rfl _ _ _ rfl _ _ rfl rfl h1 size4 (by omega) hbel (by omega) ?_; intro w1 g3 ho g4; replace h2 := (ho _ (by omega)).trans h2; (try replace hp := (ho _ (by omega)).trans hp); (try replace hq := (ho _ (by omega)).trans hq); clear h1 hbel; have h1 := g3; have hbel := g4; clear g3 g4 ho)
                go_roundw
                case rel => exact ⟨k + 1, _, by omega, by go_num, HS.out.1, HS.out.2, h1, h2, hbel⟩
                case measure => simp [intOf] <;> omega
              · go_wp2_with first
                  | (with_reducible refine wpList_allocN rfl 24 rfl 4 zero4 ?_; intro q w1 hq0 hq hb1; have hql := Nat.lt_of_lt_of_le (Array.getElem?_eq_some_iff.1 h2).1 hq0; (try have hpq := Nat.lt_of_lt_of_le (Array.getElem?_eq_some_iff.1 hp).1 hq0); replace hbel := hbel.trans (hb1.mono hbel.size); replace h1 := row_keep hb1 h1; replace h2 := row_keep hb1 h2; (try replace hp := row_keep hb1 hp); clear hb1 hq0)
                refine QN.intro ?_
                refine wpAny_fork1 9 (by kernel_rfl) rfl ?_
                go_wp2_with first
                  | (with_reducible refine wpList_allocN rfl 24 rfl 4 zero4 ?_; intro p w1 hp0 hp hb1; have hpl := Nat.lt_of_lt_of_le (Array.getElem?_eq_some_iff.1 h2).1 hp0; (try have hpq := Nat.lt_of_lt_of_le (Array.getElem?_eq_some_iff.1 hq).1 hp0); replace hbel := hbel.trans (hb1.mono hbel.size); replace h1 := row_keep hb1 h1; replace h2 := row_keep hb1 h2; (try replace hq := row_keep hb1 hq); clear hb1 hp0)
                refine QN.intro ?_
                refine wpAny_fork1 11 (by kernel_rfl) rfl ?_
                go_wp2_with first
                  | (with_reducible refine wpList_storeWN rfl _ _ _ rfl _ rfl rfl hp size4 hbel (by omega) ?_; intro w1 g3 ho g4; replace h1 := (ho _ (by omega)).trans h1; replace h2 := (ho _ (by omega)).trans h2; replace hq := (ho _ (by omega)).trans hq; clear hp hbel; have hp := g3; have hbel := g4; clear g3 g4 ho)
                refine QN.intro ?_
                refine wpAny_fork1 12 (by kernel_rfl) rfl ?_
                go_wp2_with first
                  | (with_reducible refine wpList_storeWN rfl _ _ _ rfl _ rfl rfl hq size4 hbel (by omega) ?_; intro w1 g3 ho g4; replace h1 := (ho _ (by omega)).trans h1; replace h2 := (ho _ (by omega)).trans h2; replace hp := (ho _ (by omega)).trans hp; clear hq hbel; have hq := g3; have hbel := g4; clear g3 g4 ho)
                refine QN.intro ?_
                refine wpAny_end (by kernel_rfl) ?_
                go_wp2_with first
                  | (with_reducible refine wpList_loadW rfl _ _ rfl _ rfl hq agg4 size4 ?_)
                  | (with_reducible refine wpList_loadW rfl _ _ rfl _ rfl hp agg4 size4 ?_)
                  | (with_reducible refine wpList_storePN rfl _ _ _ rfl _ _ rfl rfl h1 size4 (by omega) hbel (by omega) ?_; intro w1 g3 ho g4; replace h2 := (ho _ (by omega)).trans h2; (try replace hp := (ho _ (by omega)).trans hp); (try replace hq := (ho _ (by omega)).trans hq); clear h1 hbel; have h1 := g3; have hbel := g4; clear g3 g4 ho)
                go_roundw
                case rel => exact ⟨k + 1, _, by omega, by go_num, HS.out.1, HS.out.2, h1, h2, hbel⟩
                case measure => simp [intOf] <;> omega
            · go_wp2_with first
                | (with_reducible refine wpList_allocN rfl 24 rfl 4 zero4 ?_; intro p w1 hp0 hp hb1; have hpl := Nat.lt_of_lt_of_le (Array.getElem?_eq_some_iff.1 h2).1 hp0; (try have hpq := Nat.lt_of_lt_of_le (Array.getElem?_eq_some_iff.1 hq).1 hp0); replace hbel := hbel.trans (hb1.mono hbel.size); replace h1 := row_keep hb1 h1; replace h2 := row_keep hb1 h2; (try replace hq := row_keep hb1 hq); clear hb1 hp0)
              refine QN.intro ?_
              refine wpAny_fork2 8 10 (by kernel_rfl) rfl rfl ?_ ?_
              · go_wp2_with first
                  | (with_reducible refine wpList_loadA rfl _ _ rfl _ _ rfl h1 4 agg4 size4 (by omega) ?_)
                refine QN.intro ?_
                refine wpAny_fork1 10 (by kernel_rfl) rfl ?_
                go_wp2_with first
                  | (with_reducible refine wpList_allocN rfl 24 rfl 4 zero4 ?_; intro q w1 hq0 hq hb1; have hql := Nat.lt_of_lt_of_le (Array.getElem?_eq_some_iff.1 h2).1 hq0; (try have hpq := Nat.lt_of_lt_of_le (Array.getElem?_eq_some_iff.1 hp).1 hq0); replace hbel := hbel.trans (hb1.mono hbel.size); replace h1 := row_keep hb1 h1; replace h2 := row_keep hb1 h2; (try replace hp := row_keep hb1 hp); clear hb1 hq0)
                refine QN.intro ?_
                refine wpAny_fork1 11 (by kernel_rfl) rfl ?_
                go_wp2_with first
                  | (with_reducible refine wpList_storeWN rfl _ _ _ rfl _ rfl rfl hp size4 hbel (by omega) ?_; intro w1 g3 ho g4; replace h1 := (ho _ (by omega)).trans h1; replace h2 := (ho _ (by omega)).trans h2; replace hq := (ho _ (by omega)).trans hq; clear hp hbel; have hp := g3; have hbel := g4; clear g3 g4 ho)
                refine QN.intro ?_
                refine wpAny_fork1 12 (by kernel_rfl) rfl ?_
                go_wp2_with first
                  | (with_reducible refine wpList_storeWN rfl _ _ _ rfl _ rfl rfl hq size4 hbel (by omega) ?_; intro w1 g3 ho g4; replace h1 := (ho _ (by omega)).trans h1; replace h2 := (ho _ (by omega)).trans h2; replace hp := (ho _ (by omega)).trans hp; clear hq hbel; have hq := g3; have hbel := g4; clear g3 g4 ho)
                refine QN.intro ?_
                refine wpAny_end (by kernel_rfl) ?_
                go_wp2_with first
                  | (with_reducible refine wpList_loadW rfl _ _ rfl _ rfl hq agg4 size4 ?_)
                  | (with_reducible refine wpList_loadW rfl _ _ rfl _ rfl hp agg4 size4 ?_)
                  | (with_reducible refine wpList_storePN rfl _ _ _ rfl _ _ rfl rfl h1 size4 (by omega) hbel (by omega) ?_; intro w1 g3 ho g4; replace h2 := (ho _ (by omega)).trans h2; (try replace hp := (ho _ (by omega)).trans hp); (try replace hq := (ho _ (by omega)).trans hq); clear h1 hbel; have h1 := g3; have hbel := g4; clear g3 g4 ho)
                go_roundw
                case rel => exact ⟨k + 1, _, by omega, by go_num, HS.out.1, HS.out.2, h1, h2, hbel⟩
                case measure => simp [intOf] <;> omega
              · go_wp2_with first
                  | (with_reducible refine wpList_allocN rfl 24 rfl 4 zero4 ?_; intro q w1 hq0 hq hb1; have hql := Nat.lt_of_lt_of_le (Array.getElem?_eq_some_iff.1 h2).1 hq0; (try have hpq := Nat.lt_of_lt_of_le (Array.getElem?_eq_some_iff.1 hp).1 hq0); replace hbel := hbel.trans (hb1.mono hbel.size); replace h1 := row_keep hb1 h1; replace h2 := row_keep hb1 h2; (try replace hp := row_keep hb1 hp); clear hb1 hq0)
                refine QN.intro ?_
                refine wpAny_fork2 8 11 (by kernel_rfl) rfl rfl ?_ ?_
                · go_wp2_with first
                    | (with_reducible refine wpList_loadA rfl _ _ rfl _ _ rfl h1 4 agg4 size4 (by omega) ?_)
                  refine QN.intro ?_
                  refine wpAny_fork1 11 (by kernel_rfl) rfl ?_
                  go_wp2_with first
                    | (with_reducible refine wpList_storeWN rfl _ _ _ rfl _ rfl rfl hp size4 hbel (by omega) ?_; intro w1 g3 ho g4; replace h1 := (ho _ (by omega)).trans h1; replace h2 := (ho _ (by omega)).trans h2; replace hq := (ho _ (by omega)).trans hq; clear hp hbel; have hp := g3; have hbel := g4; clear g3 g4 ho)
                  refine QN.intro ?_
                  refine wpAny_fork1 12 (by kernel_rfl) rfl ?_
                  go_wp2_with first
                    | (with_reducible refine wpList_storeWN rfl _ _ _ rfl _ rfl rfl hq size4 hbel (by omega) ?_; intro w1 g3 ho g4; replace h1 := (ho _ (by omega)).trans h1; replace h2 := (ho _ (by omega)).trans h2; replace hp := (ho _ (by omega)).trans hp; clear hq hbel; have hq := g3; have hbel := g4; clear g3 g4 ho)
                  refine QN.intro ?_
                  refine wpAny_end (by kernel_rfl) ?_
                  go_wp2_with first
                    | (with_reducible refine wpList_loadW rfl _ _ rfl _ rfl hq agg4 size4 ?_)
                    | (with_reducible refine wpList_loadW rfl _ _ rfl _ rfl hp agg4 size4 ?_)
                    | (with_reducible refine wpList_storePN rfl _ _ _ rfl _ _ rfl rfl h1 size4 (by omega) hbel (by omega) ?_; intro w1 g3 ho g4; replace h2 := (ho _ (by omega)).trans h2; (try replace hp := (ho _ (by omega)).trans hp); (try replace hq := (ho _ (by omega)).trans hq); clear h1 hbel; have h1 := g3; have hbel := g4; clear g3 g4 ho)
                  go_roundw
                  case rel => exact ⟨k + 1, _, by omega, by go_num, HS.out.1, HS.out.2, h1, h2, hbel⟩
                  case measure => simp [intOf] <;> omega
                · go_wp2_with first
                    | (with_reducible refine wpList_storeWN rfl _ _ _ rfl _ rfl rfl hp size4 hbel (by omega) ?_; intro w1 g3 ho g4; replace h1 := (ho _ (by omega)).trans h1; replace h2 := (ho _ (by omega)).trans h2; replace hq := (ho _ (by omega)).trans hq; clear hp hbel; have hp := g3; have hbel := g4; clear g3 g4 ho)
                  refine QN.intro ?_
                  refine wpAny_fork1 8 (by kernel_rfl) rfl ?_
                  go_wp2_with first
                    | (with_reducible refine wpList_loadA rfl _ _ rfl _ _ rfl h1 4 agg4 size4 (by omega) ?_)
                  refine QN.intro ?_
                  refine wpAny_fork1 12 (by kernel_rfl) rfl ?_
                  go_wp2_with first
                    | (with_reducible refine wpList_storeWN rfl _ _ _ rfl _ rfl rfl hq size4 hbel (by omega) ?_; intro w1 g3 ho g4; replace h1 := (ho _ (by omega)).trans h1; replace h2 := (ho _ (by omega)).trans h2; replace hp := (ho _ (by omega)).trans hp; clear hq hbel; have hq := g3; have hbel := g4; clear g3 g4 ho)
                  refine QN.intro ?_
                  refine wpAny_end (by kernel_rfl) ?_
                  go_wp2_with first
                    | (with_reducible refine wpList_loadW rfl _ _ rfl _ rfl hq agg4 size4 ?_)
                    | (with_reducible refine wpList_loadW rfl _ _ rfl _ rfl hp agg4 size4 ?_)
                    | (with_reducible refine wpList_storePN rfl _ _ _ rfl _ _ rfl rfl h1 size4 (by omega) hbel (by omega) ?_; intro w1 g3 ho g4; replace h2 := (ho _ (by omega)).trans h2; (try replace hp := (ho _ (by omega)).trans hp); (try replace hq := (ho _ (by omega)).trans hq); clear h1 hbel; have h1 := g3; have hbel := g4; clear g3 g4 ho)
                  go_roundw
                  case rel => exact ⟨k + 1, _, by omega, by go_num, HS.out.1, HS.out.2, h1, h2, hbel⟩
                  case measure => simp [intOf] <;> omega
            · go_wp2_with first
                | (with_reducible refine wpList_allocN rfl 24 rfl 4 zero4 ?_; intro q w1 hq0 hq hb1; have hql := Nat.lt_of_lt_of_le (Array.getElem?_eq_some_iff.1 h2).1 hq0; (try have hpq := Nat.lt_of_lt_of_le (Array.getElem?_eq_some_iff.1 hp).1 hq0); replace hbel := hbel.trans (hb1.mono hbel.size); replace h1 := row_keep hb1 h1; replace h2 := row_keep hb1 h2; (try replace hp := row_keep hb1 hp); clear hb1 hq0)
              refine QN.intro ?_
              refine wpAny_fork2 8 9 (by kernel_rfl) rfl rfl ?_ ?_
              · go_wp2_with first
                  | (with_reducible refine wpList_loadA rfl _ _ rfl _ _ rfl h1 4 agg4 size4 (by omega) ?_)
                refine QN.intro ?_
                refine wpAny_fork1 9 (by kernel_rfl) rfl ?_
                go_wp2_with first
                  | (with_reducible refine wpList_allocN rfl 24 rfl 4 zero4 ?_; intro p w1 hp0 hp hb1; have hpl := Nat.lt_of_lt_of_le (Array.getElem?_eq_some_iff.1 h2).1 hp0; (try have hpq := Nat.lt_of_lt_of_le (Array.getElem?_eq_some_iff.1 hq).1 hp0); replace hbel := hbel.trans (hb1.mono hbel.size); replace h1 := row_keep hb1 h1; replace h2 := row_keep hb1 h2; (try replace hq := row_keep hb1 hq); clear hb1 hp0)
                refine QN.intro ?_
                refine wpAny_fork1 11 (by kernel_rfl) rfl ?_
                go_wp2_with first
                  | (with_reducible refine wpList_storeWN rfl _ _ _ rfl _ rfl rfl hp size4 hbel (by omega) ?_; intro w1 g3 ho g4; replace h1 := (ho _ (by omega)).trans h1; replace h2 := (ho _ (by omega)).trans h2; replace hq := (ho _ (by omega)).trans hq; clear hp hbel; have hp := g3; have hbel := g4; clear g3 g4 ho)
                refine QN.intro ?_
                refine wpAny_fork1 12 (by kernel_rfl) rfl ?_
                go_wp2_with first
                  | (with_reducible refine wpList_storeWN rfl _ _ _ rfl _ rfl rfl hq size4 hbel (by omega) ?_; intro w1 g3 ho g4; replace h1 := (ho _ (by omega)).trans h1; replace h2 := (ho _ (by omega)).trans h2; replace hp := (ho _ (by omega)).trans hp; clear hq hbel; have hq := g3; have hbel := g4; clear g3 g4 ho)
                refine QN.intro ?_
                refine wpAny_end (by kernel_rfl) ?_
                go_wp2_with first
                  | (with_reducible refine wpList_loadW rfl _ _ rfl _ rfl hq agg4 size4 ?_)
                  | (with_reducible refine wpList_loadW rfl _ _ rfl _ rfl hp agg4 size4 ?_)
                  | (with_reducible refine wpList_storePN rfl _ _ _ rfl _ _ rfl rfl h1 size4 (by omega) hbel (by omega) ?_; intro w1 g3 ho g4; replace h2 := (ho _ (by omega)).trans h2; (try replace hp := (ho _ (by omega)).trans hp); (try replace hq := (ho _ (by omega)).trans hq); clear h1 hbel; have h1 := g3; have hbel := g4; clear g3 g4 ho)
                go_roundw
                case rel => exact ⟨k + 1, _, by omega, by go_num, HS.out.1, HS.out.2, h1, h2, hbel⟩
                case measure => simp [intOf] <;> omega
              · go_wp2_with first
                  | (with_reducible refine wpList_allocN rfl 24 rfl 4 zero4 ?_; intro p w1 hp0 hp hb1; have hpl := Nat.lt_of_lt_of_le (Array.getElem?_eq_some_iff.1 h2).1 hp0; (try have hpq := Nat.lt_of_lt_of_le (Array.getElem?_eq_some_iff.1 hq).1 hp0); replace hbel := hbel.trans (hb1.mono hbel.size); replace h1 := row_keep hb1 h1; replace h2 := row_keep hb1 h2; (try replace hq := row_keep hb1 hq); clear hb1 hp0)
                refine QN.intro ?_
                refine wpAny_fork2 8 11 (by kernel_rfl) rfl rfl ?_ ?_
                · go_wp2_with first
                    | (with_reducible refine wpList_loadA rfl _ _ rfl _ _ rfl h1 4 agg4 size4 (by omega) ?_)
                  refine QN.intro ?_
                  refine wpAny_fork1 11 (by kernel_rfl) rfl ?_
                  go_wp2_with first
                    | (with_reducible refine wpList_storeWN rfl _ _ _ rfl _ rfl rfl hp size4 hbel (by omega) ?_; intro w1 g3 ho g4; replace h1 := (ho _ (by omega)).trans h1; replace h2 := (ho _ (by omega)).trans h2; replace hq := (ho _ (by omega)).trans hq; clear hp hbel; have hp := g3; have hbel := g4; clear g3 g4 ho)
                  refine QN.intro ?_
                  refine wpAny_fork1 12 (by kernel_rfl) rfl ?_
                  go_wp2_with first
                    | (with_reducible refine wpList_storeWN rfl _ _ _ rfl _ rfl rfl hq size4 hbel (by omega) ?_; intro w1 g3 ho g4; replace h1 := (ho _ (by omega)).trans h1; replace h2 := (ho _ (by omega)).trans h2; replace hp := (ho _ (by omega)).trans hp; clear hq hbel; have hq := g3; have hbel := g4; clear g3 g4 ho)
                  refine QN.intro ?_
                  refine wpAny_end (by kernel_rfl) ?_
                  go_wp2_with first
                    | (with_reducible refine wpList_loadW rfl _ _ rfl _ rfl hq agg4 size4 ?_)
                    | (with_reducible refine wpList_loadW rfl _ _ rfl _ rfl hp agg4 size4 ?_)
                    | (with_reducible refine wpList_storePN rfl _ _ _ rfl _ _ rfl rfl h1 size4 (by omega) hbel (by omega) ?_; intro w1 g3 ho g4; replace h2 := (ho _ (by omega)).trans h2; (try replace hp := (ho _ (by omega)).trans hp); (try replace hq := (ho _ (by omega)).trans hq); clear h1 hbel; have h1 := g3; have hbel := g4; clear g3 g4 ho)
                  go_roundw
                  case rel => exact ⟨k + 1, _, by omega, by go_num, HS.out.1, HS.out.2, h1, h2, hbel⟩
                  case measure => simp [intOf] <;> omega
                · go_wp2_with first
                    | (with_reducible refine wpList_storeWN rfl _ _ _ rfl _ rfl rfl hp size4 hbel (by omega) ?_; intro w1 g3 ho g4; replace h1 := (ho _ (by omega)).trans h1; replace h2 := (ho _ (by omega)).trans h2; replace hq := (ho _ (by omega)).trans hq; clear hp hbel; have hp := g3; have hbel := g4; clear g3 g4 ho)
                  refine QN.intro ?_
                  refine wpAny_fork1 8 (by kernel_rfl) rfl ?_
                  go_wp2_with first
                    | (with_reducible refine wpList_loadA rfl _ _ rfl _ _ rfl h1 4 agg4 size4 (by omega) ?_)
                  refine QN.intro ?_
                  refine wpAny_fork1 12 (by kernel_rfl) rfl ?_
                  go_wp2_with first
                    | (with_reducible refine wpList_storeWN rfl _ _ _ rfl _ rfl rfl hq size4 hbel (by omega) ?_; intro w1 g3 ho g4; replace h1 := (ho _ (by omega)).trans h1; replace h2 := (ho _ (by omega)).trans h2; replace hp := (ho _ (by omega)).trans hp; clear hq hbel; have hq := g3; have hbel := g4; clear g3 g4 ho)
                  refine QN.intro ?_
                  refine wpAny_end (by kernel_rfl) ?_
                  go_wp2_with first
                    | (with_reducible refine wpList_loadW rfl _ _ rfl _ rfl hq agg4 size4 ?_)
                    | (with_reducible refine wpList_loadW rfl _ _ rfl _ rfl hp agg4 size4 ?_)
                    | (with_reducible refine wpList_storePN rfl _ _ _ rfl _ _ rfl rfl h1 size4 (by omega) hbel (by omega) ?_; intro w1 g3 ho g4; replace h2 := (ho _ (by omega)).trans h2; (try replace hp := (ho _ (by omega)).trans hp); (try replace hq := (ho _ (by omega)).trans hq); clear h1 hbel; have h1 := g3; have hbel := g4; clear g3 g4 ho)
                  go_roundw
                  case rel => exact ⟨k + 1, _, by omega, by go_num, HS.out.1, HS.out.2, h1, h2, hbel⟩
                  case measure => simp [intOf] <;> omega
        · obtain rfl : k = 5 := by omega
          have HS : Hid (Rr f F ∧ bI F (n + 1) 0) := ⟨hR, bI_next hlt hI⟩
          clear hR hI
          go_wp2_with fail
          go_roundw
          case rel => exact ⟨n + 1, F, by omega, by go_num, HS.out.1, HS.out.2, h1, h2, hbel⟩
          case measure => simp [intOf]; omega
    · obtain rfl : n = 6 := by omega
      have hF : IsForm f F := ⟨hR, bI_done hI⟩
      have HF : Hid _ := form_arr hF
      clear hR hI hF
      go_wp2_with first
        | (with_reducible refine wpList_loadW rfl _ _ rfl _ rfl h1 agg24r size24r ?_)
        | (with_reducible refine wpList_storeW rfl _ _ _ rfl _ rfl rfl h2 size24r ?_)
      refine bodyPost_ret_by (results_cellA rfl _ _ _ _ _ _ _ rfl (setRow_heap _ _ _ _ _ _ h2) agg24r size24r) rfl ⟨?_, below_setRow2 hbel (by omega) _⟩
      rw [HF.out]
end Go.Proofs.YtlbgmkengkgnfaaGreat
end

section
/- OrderTo: the program's and the reference's, and the law. -/
namespace Go.Proofs.YtlbgmkengkgnfaaGreat
set_option linter.unusedSimpArgs false
set_option linter.unusedVariables false
set_option maxRecDepth 20000
open Go.RowKit
def tc (f : Nat → Int) : Nat → Int := fun k => cod (tub f k)
theorem sizeBl : (Tryz.prog.info? 4).map (·.size) = some 1 := by kernel_rfl
theorem aggBl : aggB Tryz.prog 4 = false := by kernel_rfl
theorem undBl : (Tryz.prog.underlying 4).isSome = true := by kernel_rfl
noncomputable def otR (a b : Nat → Int) : (Nat → Int) × Bool := if rackB a = true ∧ rackB b = true ∧ eqv 24 (formF a) (formF b) = true then ((grS (tc a) (tc b) 6).1, true) else (fun _ => 0, false)
theorem tq_eq {a b : Nat → Int} (ha : cellB a) (hb : cellB b) {k n : Nat} (hk : k < 6) (hn : n < 6) : eqv 4 (fun j => a (k * 4 + j)) (fun j => b (n * 4 + j)) = (tc a k == tc b n) := by
  rw [Bool.eq_iff_iff, eqv_iff, beq_iff_eq]
  constructor
  · intro h
    unfold tc cod tub
    rw [h 0 (by omega), h 1 (by omega), h 2 (by omega), h 3 (by omega)]
  · intro h
    exact cod_inj (tub_cell ha hk) (tub_cell hb hn) h
theorem l2Rack_at {f : Nat → Int} {x : Bool} (h : rackB f = x) (w : World) : Calls Tryz.prog 29 #[.agg (arr 24 f)] w fun e w' => e = .returned (.bool x) ∧ Below w.heap.size w w' := h ▸ l2Rack_any f w
theorem IsRack_at {f : Nat → Int} {x : Bool} (h : rackB f = x) (w : World) : Calls Tryz.prog 8 #[.agg (arr 24 f)] w fun e w' => e = .returned (.bool x) ∧ Below w.heap.size w w' := h ▸ IsRack_any f w
theorem ot_kf {a b : Nat → Int} (ha : rackB a = true) (hb : rackB b = true) (he : eqv 24 (formF a) (formF b) = true) : ∀ n, n < 6 → kf (tc a) (tc b) (grS (tc a) (tc b) n).2 n < 6 ∧ (grS (tc a) (tc b) n).2 (kf (tc a) (tc b) (grS (tc a) (tc b) n).2 n) = false ∧ tc a (kf (tc a) (tc b) (grS (tc a) (tc b) n).2 n) = tc b n ∧ ∀ k, k < kf (tc a) (tc b) (grS (tc a) (tc b) n).2 n → (grS (tc a) (tc b) n).2 k = true ∨ ((grS (tc a) (tc b) n).2 k = false ∧ tc a k ≠ tc b n) :=
  fun n hn => gr_kf (gr_perm (perm_form (cellB_of_rack ha) (cellB_of_rack hb) (eqv_arr.1 he))) hn
end Go.Proofs.YtlbgmkengkgnfaaGreat
end
