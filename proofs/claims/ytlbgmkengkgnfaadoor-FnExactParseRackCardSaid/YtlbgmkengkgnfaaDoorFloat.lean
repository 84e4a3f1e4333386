/- A region that draws its order, where some operations that only read may come up between others that write: the readers are walked first. -/
import Derived.Test.YtlbgmkengkgnfaaDoorHeld
namespace Go.Proofs.YtlbgmkengkgnfaaDoor
set_option linter.unusedSimpArgs false
set_option linter.unusedVariables false
set_option maxRecDepth 20000
open Go.RowKit
section
variable {P : Program} {ops : Array Oper} {md : Region.Mode}
/-- K where the region goes on; nothing else. -/
def QN (K : Act → World → Prop) : Exit → Act → World → Prop
  | .normal, a, w => K a w
  | _, _, _ => False
theorem QN.imp {Q : Exit → Act → World → Prop} : ∀ (e : Exit) (a : Act) (w : World), QN (Q .normal) e a w → Q e a w := fun e a w h => by
  cases e <;> first | exact h | exact (h : False).elim
theorem QN.intro {K : Act → World → Prop} {a : Act} {w : World} (h : K a w) : QN K .normal a w := h
/-- In state a, in every world of the class, o yields v and leaves the world alone. -/
def CalmIn (P : Program) (ops : Array Oper) (C : World → Prop) (o : Oper) (v : Value) (a : Act) : Prop :=
  (Region.wanted o (yielded ops a.tmps) = true ∧ ∀ w, C w → (execOp a.eval o).run P w = .ok (.value v) w) ∨ (Region.wanted o (yielded ops a.tmps) = false ∧ v = undef)
theorem CalmIn.of_same {C : World → Prop} {o : Oper} {v : Value} {a a' : Act} (hy : CalmIn P ops C o v a) (he : execOp a'.eval o = execOp a.eval o)
    (hw : Region.wanted o (yielded ops a'.tmps) = Region.wanted o (yielded ops a.tmps)) : CalmIn P ops C o v a' := by
  unfold CalmIn at *
  rw [he, hw]
  exact hy
theorem CalmIn.wpOp {C : World → Prop} {i : Nat} {o : Oper} {v : Value} {a : Act} {w : World} {Q : Exit → Act → World → Prop} {K : Act → World → Prop} (hi : ops[i]? = some o) (hw : C w) (hy : CalmIn P ops C o v a)
    (h : K (a.put o.dst v) w) : Go.wpOp P ops Q i K a w := by
  unfold Go.wpOp
  simp only [hi]
  rcases hy with ⟨h1, h2⟩ | ⟨h1, rfl⟩
  · rw [if_pos h1]
    refine .inl ?_
    unfold Oper.wp
    rw [h2 w hw]
    exact h
  · rw [if_neg (by rw [h1]; simp)]
    exact h
/-- o leaves a world of the class where it found one. -/
def Pres (P : Program) (C : World → Prop) (o : Oper) : Prop :=
  ∀ (a : Act) (w : World) (K K1 : Act → World → Prop), C w → o.wp P a w K (QN K1) → o.wp P a w (fun a' w' => C w' ∧ K a' w') (QN K1)
theorem Pres.top (o : Oper) : Pres P (fun _ => True) o := fun _ _ _ _ _ h => Oper.wp_mono (fun _ _ h => ⟨trivial, h⟩) h
theorem Pres.of_run {C : World → Prop} {o : Oper} (h : ∀ (a : Act) (w : World), C w → ∃ v w', (execOp a.eval o).run P w = .ok (.value v) w' ∧ C w') : Pres P C o := fun a w K K1 hw hk => by
  obtain ⟨v, w', hr, hc⟩ := h a w hw
  unfold Oper.wp at *
  rw [hr] at hk ⊢
  exact ⟨hc, hk⟩

theorem wpOp_putN {C : World → Prop} {j : Nat} {oi oj : Oper} {v : Value} (hj : ops[j]? = some oj) (hap : oi.apart ops oj = true)
    (hsi : ∀ cs b, oi.op ≠ .select cs b) (hsj : ∀ cs b, oj.op ≠ .select cs b) {K K1 : Act → World → Prop} {a : Act} {w : World}
    (hy : CalmIn P ops C oi v a) (h : wpOp P ops (QN K1) j K (a.put oi.dst v) w) :
    wpOp P ops (QN K1) j (fun a' w' => CalmIn P ops C oi v a' ∧ K (a'.put oi.dst v) w') a w := by
  obtain ⟨h1, h2, h3⟩ := Oper.apart_spec hap
  have keep : ∀ (a : Act), CalmIn P ops C oi v a → ∀ u, CalmIn P ops C oi v (a.put oj.dst u) := fun a hy u =>
    hy.of_same (execOp_put oi hsi a oj.dst u h3) (wanted_put oi a oj.dst u h3)
  unfold wpOp at *
  simp only [hj] at *
  rw [wanted_put oj a oi.dst v h1] at h
  have hx := execOp_put oj hsj a oi.dst v h1
  split
  · rename_i hw
    simp only [hw, if_true] at h
    rcases h with h | ⟨h, hl⟩
    · refine .inl ?_
      unfold Oper.wp at *
      rw [hx] at h
      generalize (execOp a.eval oj).run P w = r at *
      cases r with
      | ok n w' =>
        cases n <;> simp only [Oper.upon] at h ⊢
        case value u => exact ⟨keep a hy u, by rw [← Act.put_comm a v u h2]; exact h⟩
        case skip => exact ⟨keep a hy undef, by rw [← Act.put_comm a v undef h2]; exact h⟩
        case defer d =>
          have hy2 : CalmIn P ops C oi v { a with defers := d :: a.defers } := hy.of_same rfl rfl
          refine ⟨keep _ hy2 undef, ?_⟩
          rw [← Act.put_comm _ v undef h2]
          have e : ∀ (x : Option Tmp), { (a.put x v) with defers := d :: (a.put x v).defers } = ({ a with defers := d :: a.defers } : Act).put x v := fun x => by cases x <;> rfl
          rw [e] at h
          exact h
        case enter f args =>
          refine Calls.mono h fun e w'' he => ?_
          cases e with
          | returned u => exact ⟨keep a hy u, by rw [← Act.put_comm a v u h2]; exact he⟩
          | panicked c => exact he
          | outgrown => exact he
        case row r args => exact Rows.mono h fun u w'' he => ⟨keep a hy u, by rw [← Act.put_comm a v u h2]; exact he⟩
      | halt x w' => cases x <;> simp only [Oper.upon] at h ⊢ <;> exact h
    · refine .inr ⟨?_, hl⟩
      unfold Oper.asks at *
      rwa [hx] at h
  · rename_i hw
    simp only [hw] at h
    exact ⟨keep a hy _, by rw [← Act.put_comm a v undef h2]; exact h⟩

/-- wpAny, where each of the operations hd leaves a world of the class. -/
def wpAnyI (P : Program) (md : Region.Mode) (ops : Array Oper) (hd : Nat → Bool) (C : World → Prop) (Q : Exit → Act → World → Prop) : Nat → Array Bool → Act → World → Prop
  | 0, listed, a, w => Region.ready md ops listed = [] ∧ Q .normal a w
  | fuel + 1, listed, a, w => (Region.ready md ops listed = [] → Q .normal a w) ∧
    ∀ i ∈ Region.ready md ops listed, wpOp P ops Q i (fun a' w' => (hd i = true → C w') ∧ wpAnyI P md ops hd C Q fuel (listed.setIfInBounds i true) a' w') a w
theorem wpAny_of_I {hd : Nat → Bool} {C : World → Prop} {Q : Exit → Act → World → Prop} : ∀ (fuel : Nat) (listed : Array Bool) (a : Act) (w : World), wpAnyI P md ops hd C Q fuel listed a w → wpAny P md ops Q fuel listed a w
  | 0, _, _, _, h => h
  | fuel + 1, _, _, _, h => ⟨h.1, fun i hi => wpOp_mono (fun a' w' h' => wpAny_of_I fuel _ a' w' h'.2) (h.2 i hi)⟩
theorem wpAnyI_of_any {hd : Nat → Bool} {C : World → Prop} {Q : Exit → Act → World → Prop} : ∀ (fuel : Nat) (listed : Array Bool) (a : Act) (w : World), (∀ i, hd i = true → i < ops.size → listed.getD i true = true) →
    wpAny P md ops Q fuel listed a w → wpAnyI P md ops hd C Q fuel listed a w
  | 0, _, _, _, _, h => h
  | fuel + 1, listed, _, _, hl, h => ⟨h.1, fun i hi => wpOp_mono (fun a' w' h' => ⟨fun hh => (by
      obtain ⟨h0, o, ho, _⟩ := mem_ready.1 hi
      have := hl i hh (Array.getElem?_eq_some_iff.1 ho).1
      rw [h0] at this
      cases this), wpAnyI_of_any fuel _ a' w' (fun k hk hs => (by
        by_cases e : i = k
        · subst e
          simp [Array.getElem?_setIfInBounds]
          split <;> simp
        · rw [getD_set_ne true e]
          exact hl k hk hs)) h'⟩) (h.2 i hi)⟩

theorem wpAnyI_first {hd : Nat → Bool} {C : World → Prop} {K1 : Act → World → Prop} {i : Nat} {oi : Oper} {v : Value} (hi : ops[i]? = some oi) (hsel : ∀ (j : Nat) (o : Oper) cs b, ops[j]? = some o → o.op ≠ .select cs b) :
    ∀ (fuel : Nat) (listed : Array Bool) (a : Act) (w : World),
      (∀ j oj, ops[j]? = some oj → j ≠ i → listed.getD j true = false → (∀ e ∈ oj.after, Region.binds md e = true → e.on ≠ i) → oi.apart ops oj = true ∧ (hd j = true ∨ Pres P C oj)) →
      i ∈ Region.ready md ops listed → CalmIn P ops C oi v a → C w →
      wpAnyI P md ops hd C (QN K1) fuel (listed.setIfInBounds i true) (a.put oi.dst v) w → wpAnyI P md ops hd C (QN K1) (fuel + 1) listed a w := by
  intro fuel
  induction fuel with
  | zero =>
    intro listed a w _ hr hy hC H
    refine ⟨fun h => (by rw [h] at hr; cases hr), fun j hj => ?_⟩
    by_cases hji : j = i
    · subst hji; exact hy.wpOp hi hC ⟨fun _ => hC, H⟩
    · have := ready_mono hj hji
      rw [H.1] at this
      cases this
  | succ fuel ih =>
    intro listed a w hfree hr hy hC H
    refine ⟨fun h => (by rw [h] at hr; cases hr), fun j hj => ?_⟩
    by_cases hji : j = i
    · subst hji; exact hy.wpOp hi hC ⟨fun _ => hC, H⟩
    · have h1 := H.2 j (ready_mono hj hji)
      obtain ⟨hjun, oj, hoj, hall⟩ := mem_ready.1 hj
      have hnot : ∀ e ∈ oj.after, Region.binds md e = true → e.on ≠ i := fun e he hb heq => by
        have h1 := hall e he hb
        have h0 := (mem_ready.1 hr).1
        rw [heq] at h1
        rcases Nat.lt_or_ge i listed.size with h' | h'
        · simp [h'] at h0 h1; rw [h0] at h1; cases h1
        · simp [Array.getElem?_eq_none h'] at h1
      obtain ⟨hap, hpr⟩ := hfree j oj hoj hji hjun hnot
      have h2 := wpOp_putN hoj hap (fun cs b => hsel i oi cs b hi) (fun cs b => hsel j oj cs b hoj) hy h1
      have hfree' : ∀ k ok, ops[k]? = some ok → k ≠ i → (listed.setIfInBounds j true).getD k true = false →
          (∀ e ∈ ok.after, Region.binds md e = true → e.on ≠ i) → oi.apart ops ok = true ∧ (hd k = true ∨ Pres P C ok) := fun k ok hk hki hun hno => by
        refine hfree k ok hk hki ?_ hno
        by_cases hjk : j = k
        · subst hjk; exact hjun
        · rw [getD_set_ne true hjk] at hun; exact hun
      have step : ∀ a' w', C w' → CalmIn P ops C oi v a' → wpAnyI P md ops hd C (QN K1) fuel ((listed.setIfInBounds i true).setIfInBounds j true) (a'.put oi.dst v) w' →
          (hd j = true → C w') ∧ wpAnyI P md ops hd C (QN K1) (fuel + 1) (listed.setIfInBounds j true) a' w' := fun a' w' hc hy' h' =>
        ⟨fun _ => hc, ih (listed.setIfInBounds j true) a' w' hfree' (ready_mono hr (Ne.symm hji)) hy' hc (by rw [Array.setIfInBounds_comm _ _ hji]; exact h')⟩
      rcases hpr with hh | hp
      · exact wpOp_mono (fun a' w' h3 => step a' w' (h3.2.1 hh) h3.1 h3.2.2) h2
      · unfold wpOp at h2 ⊢
        simp only [hoj] at h2 ⊢
        split
        · rename_i hw
          simp only [hw, if_true] at h2
          rcases h2 with h2 | h2
          · exact .inl (Oper.wp_mono (fun a' w' h3 => step a' w' h3.1 h3.2.1 h3.2.2.2) (hp _ _ _ _ hC h2))
          · exact .inr h2
        · rename_i hw
          simp only [hw] at h2
          exact step _ _ hC h2.1 h2.2.2

/-- The readers, walked in order, each calm in the class. -/
def wpCalm (P : Program) (ops : Array Oper) (C : World → Prop) (Q : Act → Prop) : List Oper → Act → Prop
  | [], a => Q a
  | o :: rest, a => if Region.wanted o (yielded ops a.tmps) = true then ∃ v, (∀ w, C w → (execOp a.eval o).run P w = .ok (.value v) w) ∧ wpCalm P ops C Q rest (a.put o.dst v) else wpCalm P ops C Q rest (a.put o.dst undef)
theorem wpCalm_nil {C : World → Prop} {Q : Act → Prop} {a : Act} (h : Q a) : wpCalm P ops C Q [] a := h
theorem wpCalm_step {C : World → Prop} {Q : Act → Prop} {a : Act} {o : Oper} {rest : List Oper} (h : ∀ K : Act → Prop, (∀ a, wpCalm P ops C Q rest a → K a) →
    if Region.wanted o (yielded ops a.tmps) = true then ∃ v, (∀ w, C w → (execOp a.eval o).run P w = .ok (.value v) w) ∧ K (a.put o.dst v) else K (a.put o.dst undef)) : wpCalm P ops C Q (o :: rest) a :=
  h _ (fun _ h => h)
theorem wpCalm_value {C : World → Prop} {Q : Act → Prop} {a : Act} {o : Oper} {rest : List Oper} (v : Value) (hw : Region.wanted o (yielded ops a.tmps) = true)
    (h : ∀ w, C w → (execOp a.eval o).run P w = .ok (.value v) w) (hk : wpCalm P ops C Q rest (a.put o.dst v)) : wpCalm P ops C Q (o :: rest) a := by
  unfold wpCalm
  rw [if_pos hw]
  exact ⟨v, h, hk⟩
def freeB (md : Region.Mode) (ops : Array Oper) (ok : Nat → Bool) (listed : Array Bool) (i : Nat) : Bool :=
  (List.range ops.size).all fun j => j == i || listed.getD j true || Region.waitsFor md ops j i || (match ops[i]?, ops[j]? with | some oi, some oj => oi.apart ops oj && ok j | _, _ => false)
def setFrom (listed : Array Bool) : Nat → Nat → Array Bool
  | _, 0 => listed
  | k, m + 1 => setFrom (listed.setIfInBounds k true) (k + 1) m
def segB (md : Region.Mode) (ops : Array Oper) (ok : Nat → Bool) : Nat → Nat → Array Bool → Bool
  | _, 0, _ => true
  | k, m + 1, listed => (Region.ready md ops listed).contains k && freeB md ops ok listed k && segB md ops ok (k + 1) m (listed.setIfInBounds k true)
theorem wpAnyI_seg {hd st : Nat → Bool} {C : World → Prop} {K1 : Act → World → Prop} (hs : Region.noSelect ops = true) (hst : ∀ j, st j = true → ∀ oj, ops[j]? = some oj → Pres P C oj) (fuel : Nat) {w : World} (hw : C w) :
    ∀ (l : List Oper) (k : Nat) (listed : Array Bool) (a : Act), (∀ j, j < l.length → l[j]? = ops[k + j]?) → segB md ops (fun j => hd j || st j) k l.length listed = true →
      wpCalm P ops C (fun a' => wpAnyI P md ops hd C (QN K1) fuel (setFrom listed k l.length) a' w) l a → wpAnyI P md ops hd C (QN K1) (fuel + l.length) listed a w
  | [], _, _, _, _, _, h => h
  | o :: l, k, listed, a, hl, hB, h => by
    have h0 : ops[k]? = some o := by simpa using (hl 0 (by simp)).symm
    simp only [List.length_cons, segB, Bool.and_eq_true] at hB
    obtain ⟨⟨hr, hf⟩, hB'⟩ := hB
    obtain ⟨v, hy, hK⟩ : ∃ v, CalmIn P ops C o v a ∧ wpCalm P ops C (fun a' => wpAnyI P md ops hd C (QN K1) fuel (setFrom listed k (o :: l).length) a' w) l (a.put o.dst v) := by
      unfold wpCalm at h
      by_cases hw : Region.wanted o (yielded ops a.tmps) = true
      · rw [if_pos hw] at h
        obtain ⟨v, h1, h2⟩ := h
        exact ⟨v, .inl ⟨hw, h1⟩, h2⟩
      · rw [if_neg hw] at h
        exact ⟨undef, .inr ⟨by simpa using hw, rfl⟩, h⟩
    refine wpAnyI_first h0 (Region.noSelect_spec hs) (fuel + l.length) listed a w (fun j oj hoj hne hun hno => ?_) (by simpa using hr) hy hw
      (wpAnyI_seg hs hst fuel hw l (k + 1) _ _ (fun j hj => by have := hl (j + 1) (by simp; omega); simpa [Nat.add_assoc, Nat.add_comm 1 j] using this) hB' hK)
    have h1 := List.all_eq_true.1 hf j (List.mem_range.2 (Array.getElem?_eq_some_iff.1 hoj).1)
    simp only [h0, hoj, Bool.or_eq_true, beq_iff_eq, hne, false_or, hun, Bool.false_eq_true, Bool.and_eq_true] at h1
    rcases h1 with h1 | ⟨h1, h2⟩
    · obtain ⟨oj', ho', e, he, hb, heq⟩ := Region.waitsFor_spec h1
      rw [hoj] at ho'; cases ho'
      exact absurd heq (hno e he hb)
    · exact ⟨h1, h2.imp id fun h => hst j h oj hoj⟩

theorem wpCalm_mono {C : World → Prop} {Q Q' : Act → Prop} (h : ∀ a, Q a → Q' a) : ∀ (l : List Oper) (a : Act), wpCalm P ops C Q l a → wpCalm P ops C Q' l a
  | [], a, hh => h a hh
  | o :: l, a, hh => by
    unfold wpCalm at *
    split
    · rename_i hw
      rw [if_pos hw] at hh
      obtain ⟨v, h1, h2⟩ := hh
      exact ⟨v, h1, wpCalm_mono h l _ h2⟩
    · rename_i hw
      rw [if_neg hw] at hh
      exact wpCalm_mono h l _ hh

/-- A tail in one order. -/
def seqLB (md : Region.Mode) (ops : Array Oper) : List Nat → Array Bool → Bool
  | [], listed => (Region.ready md ops listed).isEmpty
  | k :: ks, listed => decide (Region.ready md ops listed = [k]) && seqLB md ops ks (listed.setIfInBounds k true)
theorem wpAny_seqL {Q : Exit → Act → World → Prop} : ∀ (ks : List Nat) (l : List Oper) (listed : Array Bool) (a : Act) (w : World), ks.map (ops[·]?) = l.map some → seqLB md ops ks listed = true →
    wpList P ops Q l a w → wpAny P md ops Q ks.length listed a w
  | [], [], _, _, _, _, hB, h => ⟨by simpa [seqLB] using hB, h⟩
  | [], _ :: _, _, _, _, hl, _, _ => by simp at hl
  | _ :: _, [], _, _, _, hl, _, _ => by simp at hl
  | k :: ks, o :: l, listed, a, w, hl, hB, h => by
    simp only [List.map_cons, List.cons.injEq] at hl
    simp only [seqLB, Bool.and_eq_true, decide_eq_true_eq] at hB
    refine ⟨fun h0 => (by rw [h0] at hB; simp at hB), fun i hi => ?_⟩
    rw [hB.1] at hi
    simp only [List.mem_singleton] at hi
    subst hi
    unfold wpOp
    simp only [hl.1]
    have h2 : if Region.wanted o (yielded ops a.tmps) then (o.wp P a w (wpAny P md ops Q ks.length (listed.setIfInBounds i true)) Q ∨ (o.asks P a w ∧ LetsOut Q)) else wpAny P md ops Q ks.length (listed.setIfInBounds i true) (a.put o.dst undef) w := by
      unfold wpList at h
      split
      · rename_i hw
        simp only [hw, if_true] at h
        first
          | exact h.imp (Oper.wp_mono fun a' w' h' => wpAny_seqL ks l _ a' w' hl.2 hB.2 h') id
          | exact .inl (Oper.wp_mono (fun a' w' h' => wpAny_seqL ks l _ a' w' hl.2 hB.2 h') h)
      · rename_i hw
        simp only [hw] at h
        exact wpAny_seqL ks l _ _ _ hl.2 hB.2 h
    exact h2
end
section
variable {P : Program}
def allF (n : Nat) : Array Bool := Array.replicate n false
def PresAll (P : Program) (C : World → Prop) (ops : Array Oper) : List Nat → Prop
  | [] => True
  | j :: js => (match ops[j]? with | some o => Pres P C o | none => True) ∧ PresAll P C ops js
theorem PresAll.at {C : World → Prop} {ops : Array Oper} : ∀ {js : List Nat}, PresAll P C ops js → ∀ j, js.contains j = true → ∀ oj, ops[j]? = some oj → Pres P C oj
  | [], _, _, hj, _, _ => by simp at hj
  | k :: js, h, j, hj, oj, ho => by
    by_cases e : j = k
    · subst e
      have := h.1
      rw [ho] at this
      exact this
    · exact h.2.at j (by simpa [e] using hj) oj ho
/-- The region's law: first the readers s .. s + k - 1, which read nothing of the world; then the first n, calm in the class C, which the writers st keep; then the others ks in one order. -/
theorem wp_region_float {id : Nat} {Q : Exit → Act → World → Prop} {a : Act} {w : World} {l : List Oper} (s k n : Nat) (st : List Nat) (ks : List Nat) (tlf : List Oper → List Oper) (C : World → Prop) (hm : P.follows .mixedOrders = true)
    (hB : (Region.noSelect l.toArray && decide (s + k ≤ l.length) && decide (n ≤ l.length) && segB .any l.toArray (fun _ => true) s k (allF l.length) && segB .any l.toArray (fun j => decide (j < n) || st.contains j) 0 n (setFrom (allF l.length) s k)
      && (List.range l.length).all (fun i => !decide (i < n) || (setFrom (setFrom (allF l.length) s k) 0 n).getD i true) && seqLB .any l.toArray ks (setFrom (setFrom (allF l.length) s k) 0 n) && decide (ks.length + n + k = l.length)) = true)
    (htl : ks.map (l.toArray[·]?) = (tlf l).map some)
    (hst0 : PresAll P C l.toArray st) (hC : C { w with drawn := w.drawn + 1 })
    (h : wpCalm P l.toArray (fun _ => True) (fun a1 => wpCalm P l.toArray C (fun a' => wpList P l.toArray (QN (Q .normal)) (tlf l) a' { w with drawn := w.drawn + 1 }) (l.take n) a1) ((l.drop s).take k) a) : (Code.region id l.toArray true).wp P Q a w := by
  have hst := hst0.at
  simp only [Bool.and_eq_true, decide_eq_true_eq] at hB
  obtain ⟨⟨⟨⟨⟨⟨⟨hs, hsk⟩, hn⟩, h1⟩, h2⟩, h3⟩, h4⟩, h5⟩ := hB
  refine Code.wp_mono QN.imp ?_
  refine wp_region_any hm ?_
  have e1 : ((l.drop s).take k).length = k := by simp; omega
  have e2 : (l.take n).length = n := by simp; omega
  have hseg2 : ∀ a1, wpCalm P l.toArray C (fun a' => wpList P l.toArray (QN (Q .normal)) (tlf l) a' { w with drawn := w.drawn + 1 }) (l.take n) a1 →
      wpAny P .any l.toArray (QN (Q .normal)) (ks.length + n) (setFrom (allF l.length) s k) a1 { w with drawn := w.drawn + 1 } := fun a1 ha => by
    have := wpAnyI_seg (P := P) (md := .any) (hd := fun j => decide (j < n)) (st := fun j => st.contains j) (C := C) (K1 := Q .normal) hs hst ks.length hC (l.take n) 0 (setFrom (allF l.length) s k) a1
      (fun j hj => by rw [e2] at hj; simp [hj]) (by rw [e2]; exact h2) ?_
    · rw [e2] at this
      exact wpAny_of_I _ _ _ _ this
    · rw [e2]
      refine wpCalm_mono ?_ _ _ ha
      intro a' ha'
      refine wpAnyI_of_any _ _ _ _ (fun i hi hs' => ?_) (wpAny_seqL ks (tlf l) _ _ _ htl h4 ha')
      have := List.all_eq_true.1 h3 i (List.mem_range.2 (by simpa using hs'))
      simpa [show i < n by simpa using hi] using this
  have := wpAnyI_seg (P := P) (md := .any) (hd := fun _ => false) (st := fun _ => true) (C := fun _ => True) (K1 := Q .normal) hs (fun j _ oj _ => Pres.top oj) (ks.length + n) (w := { w with drawn := w.drawn + 1 }) trivial ((l.drop s).take k) s (allF l.length) a
    (fun j hj => by rw [e1] at hj; simp [hj]) (by rw [e1]; simpa using h1) ?_
  · rw [e1, h5] at this
    have := wpAny_of_I _ _ _ _ this
    unfold allF at this
    simpa using this
  · rw [e1]
    refine wpCalm_mono ?_ _ _ h
    intro a1 ha1
    exact wpAnyI_of_any _ _ _ _ (fun i hi => by simp at hi) (hseg2 a1 ha1)

/-- The walk's steps. -/
theorem wpCalm_loadA {ops : Array Oper} {C : World → Prop} {rest : List Oper} {o : Oper} {a : Act} {Q : Act → Prop} (hw : Region.wanted o (yielded ops a.tmps) = true) (ty : TypeId) (x : Operand) (ho : o.op = .load ty x)
    (B off : Nat) (hx : a.eval x = .pointer (some ⟨B, off, none⟩)) {T : TypeId} {fr : Nat × Nat} {n : Nat} {f : Nat → Int} (hg : ∀ w, C w → w.heap[B]? = some (.cells (arr n f) T fr)) (m : Nat) (hd : aggB P ty = true)
    (hi : (P.info? ty).map (·.size) = some m) (hle : off + m ≤ n) (h : wpCalm P ops C Q rest (a.put o.dst (.agg (arr m fun j => f (off + j))))) : wpCalm P ops C Q (o :: rest) a := by
  refine wpCalm_value _ hw (fun w hw => ?_) h
  unfold execOp
  simp only [ho, hx, Instr.loadAt, Instr.sureAddr, Sem.run_bind, Sem.run_pure, Result.andThen_ok, run_loadVar_arr w B off T ty fr n m f (hg w hw) hd hi hle]
theorem wpCalm_loadI {ops : Array Oper} {C : World → Prop} {rest : List Oper} {o : Oper} {a : Act} {Q : Act → Prop} (hw : Region.wanted o (yielded ops a.tmps) = true) (ty : TypeId) (x : Operand) (ho : o.op = .load ty x)
    (B off : Nat) (hx : a.eval x = .pointer (some ⟨B, off, none⟩)) {T : TypeId} {fr : Nat × Nat} {n : Nat} {f : Nat → Int} (hg : ∀ w, C w → w.heap[B]? = some (.cells (arr n f) T fr)) (hd : aggB P ty = false) (hu : (P.underlying ty).isSome = true)
    (hle : off < n) (h : wpCalm P ops C Q rest (a.put o.dst (.int .i64 (f off)))) : wpCalm P ops C Q (o :: rest) a := by
  refine wpCalm_value _ hw (fun w hw => ?_) h
  have hagg : (isAgg ty).run P w = .ok false w := by
    unfold aggB at hd
    unfold isAgg
    cases hq : P.underlying ty with
    | none => simp [hq] at hu
    | some d =>
      rw [Sem.run_bind, run_underlying hq w]
      cases d <;> simp_all
  unfold execOp
  simp only [ho, hx, Instr.loadAt, Instr.sureAddr, loadVar, Sem.run_bind, Sem.run_pure, Result.andThen_ok, hagg]
  simp [rowcell (hg w hw) hle]
theorem run_allocA {o : Oper} {a : Act} {w : World} (ty : TypeId) (ho : o.op = .alloc ty) (n : Nat) (hz : ((P.info? ty).bind (·.zero)).map (·.cells) = some (arr n fun _ => 0)) :
    (execOp a.eval o).run P w = .ok (.value (.pointer (some ⟨w.heap.size, 0, none⟩))) (w.alloc (.cells (arr n fun _ => 0) ty)) := by
  have hr : (Instr.alloc ty true (.tuple #[])).run P w = .ok (.pointer (some ⟨w.heap.size, 0, none⟩)) (w.alloc (.cells (arr n fun _ => 0) ty)) := by
    cases hq : P.info? ty with
    | none => simp [hq] at hz
    | some i =>
      cases hz2 : i.zero with
      | none => simp [hq, hz2] at hz
      | some z =>
        simp only [hq, hz2, Option.bind_some, Option.map_some, Option.some.injEq] at hz
        simp [Instr.alloc, zeroValue, typeInfo, hq, hz2, newVar, newRow, hz]
  unfold execOp
  simp only [ho, Sem.run_bind, hr, Result.andThen_ok, Sem.run_pure]
theorem Pres.alloc {o : Oper} {w0 : World} {rows : List (Nat × Obj)} (ty : TypeId) (ho : o.op = .alloc ty) (n : Nat) (hz : ((P.info? ty).bind (·.zero)).map (·.cells) = some (arr n fun _ => 0)) : Pres P (Cls w0 rows) o :=
  Pres.of_run fun a w hw => ⟨_, _, run_allocA ty ho n hz, hw.keep ((Below.refl _ _).alloc (Nat.le_refl _) _)⟩
theorem Pres.assign {o : Oper} {C : World → Prop} (x : Operand) (ho : o.op = .assign x) : Pres P C o :=
  Pres.of_run fun a w hw => ⟨a.eval x, w, by unfold execOp; simp [ho], hw⟩
theorem Cls.zero {w0 W : World} (hb : Below w0.heap.size w0 W) : Cls w0 [] { W with drawn := W.drawn + 1 } := ⟨fun p hp => (by cases hp), hb.drew⟩
end
end Go.Proofs.YtlbgmkengkgnfaaDoor
