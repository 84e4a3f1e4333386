/- A region that draws its order: pure operations and readers are walked first; what is left is walked as it comes up. -/
import Derived.Test.YtlbgmkengkgnfaaDoorFloat
import Derived.Test.YtlbgmkengkgnfaaDoorConv
import Derived.Stop.Looks
namespace Go.Proofs.YtlbgmkengkgnfaaDoor
set_option linter.unusedSimpArgs false
set_option linter.unusedVariables false
set_option maxRecDepth 20000
open Go.RowKit
variable {P : Program}
def setL : Array Bool → List Nat → Array Bool
  | listed, [] => listed
  | listed, k :: ks => setL (listed.setIfInBounds k true) ks
def segLB (md : Region.Mode) (ops : Array Oper) (ok : Nat → Bool) : List Nat → Array Bool → Bool
  | [], _ => true
  | k :: ks, listed => (Region.ready md ops listed).contains k && freeB md ops ok listed k && segLB md ops ok ks (listed.setIfInBounds k true)
theorem wpAnyI_segL {md : Region.Mode} {ops : Array Oper} {hd st : Nat → Bool} {C : World → Prop} {K1 : Act → World → Prop} (hs : Region.noSelect ops = true) (hst : ∀ j, st j = true → ∀ oj, ops[j]? = some oj → Pres P C oj) (fuel : Nat) {w : World} (hw : C w) :
    ∀ (ks : List Nat) (l : List Oper) (listed : Array Bool) (a : Act), ks.map (ops[·]?) = l.map some → segLB md ops (fun j => hd j || st j) ks listed = true →
      wpCalm P ops C (fun a' => wpAnyI P md ops hd C (QN K1) fuel (setL listed ks) a' w) l a → wpAnyI P md ops hd C (QN K1) (fuel + ks.length) listed a w
  | [], [], _, _, _, _, h => h
  | [], _ :: _, _, _, hl, _, _ => by simp at hl
  | _ :: _, [], _, _, hl, _, _ => by simp at hl
  | k :: ks, o :: l, listed, a, hl, hB, h => by
    simp only [List.map_cons, List.cons.injEq] at hl
    have h0 : ops[k]? = some o := hl.1
    simp only [segLB, Bool.and_eq_true] at hB
    obtain ⟨⟨hr, hf⟩, hB'⟩ := hB
    obtain ⟨v, hy, hK⟩ : ∃ v, CalmIn P ops C o v a ∧ wpCalm P ops C (fun a' => wpAnyI P md ops hd C (QN K1) fuel (setL listed (k :: ks)) a' w) l (a.put o.dst v) := by
      unfold wpCalm at h
      by_cases hw : Region.wanted o (yielded ops a.tmps) = true
      · rw [if_pos hw] at h
        obtain ⟨v, h1, h2⟩ := h
        exact ⟨v, .inl ⟨hw, h1⟩, h2⟩
      · rw [if_neg hw] at h
        exact ⟨undef, .inr ⟨by simpa using hw, rfl⟩, h⟩
    refine wpAnyI_first h0 (Region.noSelect_spec hs) (fuel + ks.length) listed a w (fun j oj hoj hne hun hno => ?_) (by simpa using hr) hy hw
      (wpAnyI_segL hs hst fuel hw ks l _ _ hl.2 hB' hK)
    have h1 := List.all_eq_true.1 hf j (List.mem_range.2 (Array.getElem?_eq_some_iff.1 hoj).1)
    simp only [h0, hoj, Bool.or_eq_true, beq_iff_eq, hne, false_or, hun, Bool.false_eq_true, Bool.and_eq_true] at h1
    rcases h1 with h1 | ⟨h1, h2⟩
    · obtain ⟨oj', ho', e, he, hb, heq⟩ := Region.waitsFor_spec h1
      rw [hoj] at ho'; cases ho'
      exact absurd heq (hno e he hb)
    · exact ⟨h1, h2.imp id fun h => hst j h oj hoj⟩
/-- The same by lists of operations; what is left is walked as it comes up. -/
theorem wp_region_fork {id : Nat} {Q : Exit → Act → World → Prop} {a : Act} {w : World} {l : List Oper} (is0 is1 st : List Nat) (m : Nat) (f0 f1 : List Oper → List Oper) (C : World → Prop) (hm : P.follows .mixedOrders = true)
    (hB : (Region.noSelect l.toArray && segLB .any l.toArray (fun _ => true) is0 (allF l.length) && segLB .any l.toArray (fun j => is1.contains j || st.contains j) is1 (setL (allF l.length) is0)
      && (List.range l.length).all (fun i => !is1.contains i || (setL (setL (allF l.length) is0) is1).getD i true) && decide (m + is1.length + is0.length = l.length)) = true)
    (hf0 : is0.map (l.toArray[·]?) = (f0 l).map some) (hf1 : is1.map (l.toArray[·]?) = (f1 l).map some)
    (hst0 : PresAll P C l.toArray st) (hC : C { w with drawn := w.drawn + 1 })
    (h : wpCalm P l.toArray (fun _ => True) (fun a1 => wpCalm P l.toArray C (fun a' => wpAny P .any l.toArray (QN (Q .normal)) m (setL (setL (allF l.length) is0) is1) a' { w with drawn := w.drawn + 1 }) (f1 l) a1) (f0 l) a) : (Code.region id l.toArray true).wp P Q a w := by
  have hst := hst0.at
  simp only [Bool.and_eq_true, decide_eq_true_eq] at hB
  obtain ⟨⟨⟨⟨hs, h1⟩, h2⟩, h3⟩, h5⟩ := hB
  refine Code.wp_mono QN.imp ?_
  refine wp_region_any hm ?_
  have hseg2 : ∀ a1, wpCalm P l.toArray C (fun a' => wpAny P .any l.toArray (QN (Q .normal)) m (setL (setL (allF l.length) is0) is1) a' { w with drawn := w.drawn + 1 }) (f1 l) a1 →
      wpAny P .any l.toArray (QN (Q .normal)) (m + is1.length) (setL (allF l.length) is0) a1 { w with drawn := w.drawn + 1 } := fun a1 ha => by
    refine wpAny_of_I _ _ _ _ (wpAnyI_segL (P := P) (md := .any) (hd := fun j => is1.contains j) (st := fun j => st.contains j) (C := C) (K1 := Q .normal) hs hst m hC is1 (f1 l) (setL (allF l.length) is0) a1 hf1 h2 ?_)
    refine wpCalm_mono ?_ _ _ ha
    intro a' ha'
    refine wpAnyI_of_any _ _ _ _ (fun i hi hs' => ?_) ha'
    have := List.all_eq_true.1 h3 i (List.mem_range.2 (by simpa using hs'))
    have hi' : i ∈ is1 := by simpa using hi
    simpa [hi'] using this
  have := wpAnyI_segL (P := P) (md := .any) (hd := fun _ => false) (st := fun _ => true) (C := fun _ => True) (K1 := Q .normal) hs (fun j _ oj _ => Pres.top oj) (m + is1.length) (w := { w with drawn := w.drawn + 1 }) trivial is0 (f0 l) (allF l.length) a
    hf0 (by simpa using h1) ?_
  · rw [h5] at this
    have := wpAny_of_I _ _ _ _ this
    unfold allF at this
    simpa using this
  · refine wpCalm_mono ?_ _ _ h
    intro a1 ha1
    exact wpAnyI_of_any _ _ _ _ (fun i hi => by simp at hi) (hseg2 a1 ha1)
section
variable {md : Region.Mode} {ops : Array Oper} {K : Act → World → Prop} {fuel : Nat} {listed : Array Bool} {a : Act} {w : World}
theorem wpOp_of_list {i : Nat} {oi : Oper} (ho : ops[i]? = some oi) (h : wpList P ops (QN fun a' w' => wpAny P md ops (QN K) fuel (listed.setIfInBounds i true) a' w') [oi] a w) :
    wpOp P ops (QN K) i (wpAny P md ops (QN K) fuel (listed.setIfInBounds i true)) a w := by
  unfold wpList at h
  unfold wpOp
  simp only [ho]
  split
  · rename_i hw
    simp only [hw, if_true] at h
    rcases h with h | ⟨_, _, _, hl⟩
    · refine .inl ?_
      unfold Oper.wp at *
      generalize (execOp a.eval oi).run P w = r at *
      cases r with
      | ok n w' =>
        cases n <;> simp only [Oper.upon] at h ⊢
        case enter f args =>
          refine h.mono fun e w'' he => ?_
          cases e <;> exact he
        all_goals exact h
      | halt x w' => cases x <;> simp only [Oper.upon] at h ⊢ <;> exact h
    · exact hl.elim
  · rename_i hw
    simp only [hw] at h
    exact h
theorem wpAny_end (hr : Region.ready md ops listed = []) (h : K a w) : wpAny P md ops (QN K) 0 listed a w := ⟨hr, h⟩
theorem wpAny_fork1 (i : Nat) {oi : Oper} (hr : Region.ready md ops listed = [i]) (ho : ops[i]? = some oi) (h : wpList P ops (QN fun a' w' => wpAny P md ops (QN K) fuel (listed.setIfInBounds i true) a' w') [oi] a w) : wpAny P md ops (QN K) (fuel + 1) listed a w :=
  ⟨fun h0 => (by rw [h0] at hr; cases hr), fun j hj => by
    rw [hr] at hj
    simp only [List.mem_singleton] at hj
    subst hj
    exact wpOp_of_list ho h⟩
theorem wpAny_fork2 (i j : Nat) {oi oj : Oper} (hr : Region.ready md ops listed = [i, j]) (ho : ops[i]? = some oi) (ho2 : ops[j]? = some oj) (h : wpList P ops (QN fun a' w' => wpAny P md ops (QN K) fuel (listed.setIfInBounds i true) a' w') [oi] a w)
    (h2 : wpList P ops (QN fun a' w' => wpAny P md ops (QN K) fuel (listed.setIfInBounds j true) a' w') [oj] a w) : wpAny P md ops (QN K) (fuel + 1) listed a w :=
  ⟨fun h0 => (by rw [h0] at hr; cases hr), fun k hk => by
    rw [hr] at hk
    simp only [List.mem_cons, List.not_mem_nil, or_false] at hk
    rcases hk with rfl | rfl
    · exact wpOp_of_list ho h
    · exact wpOp_of_list ho2 h2⟩
theorem wpAny_fork3 (i j k : Nat) {oi oj ok : Oper} (hr : Region.ready md ops listed = [i, j, k]) (ho : ops[i]? = some oi) (ho2 : ops[j]? = some oj) (ho3 : ops[k]? = some ok) (h : wpList P ops (QN fun a' w' => wpAny P md ops (QN K) fuel (listed.setIfInBounds i true) a' w') [oi] a w)
    (h2 : wpList P ops (QN fun a' w' => wpAny P md ops (QN K) fuel (listed.setIfInBounds j true) a' w') [oj] a w) (h3 : wpList P ops (QN fun a' w' => wpAny P md ops (QN K) fuel (listed.setIfInBounds k true) a' w') [ok] a w) : wpAny P md ops (QN K) (fuel + 1) listed a w :=
  ⟨fun h0 => (by rw [h0] at hr; cases hr), fun x hk => by
    rw [hr] at hk
    simp only [List.mem_cons, List.not_mem_nil, or_false] at hk
    rcases hk with rfl | rfl | rfl
    · exact wpOp_of_list ho h
    · exact wpOp_of_list ho2 h2
    · exact wpOp_of_list ho3 h3⟩
end
theorem loadAt_looks (ty : TypeId) (x : Value) : (Instr.loadAt ty x).Looks := by
  unfold Instr.loadAt
  refine Sem.Looks.bind ?_ fun a => ?_
  · unfold Instr.sureAddr
    cases x <;> first | trivial | skip
    rename_i p
    cases p <;> first | trivial | skip
  · unfold loadVar
    refine Sem.Looks.bind ?_ fun b => ?_
    · unfold isAgg
      exact (underlying_looks ty).bind fun d => by cases d <;> trivial
    · cases b
      · exact load_looks _ _
      · exact (sizeOf_looks ty).bind fun n => (loadCells_looks _ n).bind fun c => trivial
theorem Pres.load {o : Oper} {C : World → Prop} (ty : TypeId) (x : Operand) (ho : o.op = .load ty x) : Pres P C o := fun a w K K1 hw h => by
  have e : (execOp a.eval o).run P w = ((Instr.loadAt ty (a.eval x)).run P w).andThen fun v w' => .ok (.value v) w' := by
    unfold execOp
    simp only [ho, Sem.run_bind, Sem.run_pure]
  unfold Oper.wp at *
  rw [e] at h ⊢
  cases hr : (Instr.loadAt ty (a.eval x)).run P w with
  | ok v w' =>
    rw [hr] at h
    have := (loadAt_looks ty (a.eval x)).ok hr
    subst this
    exact ⟨hw, h⟩
  | halt y w' =>
    rw [hr] at h
    cases y <;> simp only [Result.andThen, Oper.upon] at h ⊢ <;> exact h
/-- A new zero row, by name. -/
theorem wpList_allocN {ops : Array Oper} {rest : List Oper} {o : Oper} {a : Act} {w : World} {Q : Exit → Act → World → Prop} (hgd : o.guard = none) (ty : TypeId) (ho : o.op = .alloc ty) (n : Nat)
    (hz : ((P.info? ty).bind (·.zero)).map (·.cells) = some (arr n fun _ => 0))
    (h : ∀ B w', w.heap.size ≤ B → w'.heap[B]? = some (.cells (arr n fun _ => 0) ty (0, 0)) → Below w.heap.size w w' → wpList P ops Q rest (a.put o.dst (.pointer (some ⟨B, 0, none⟩))) w') : wpList P ops Q (o :: rest) a w :=
  wpList_allocA hgd ty ho n hz (h _ _ (Nat.le_refl _) (heap_new rfl) ((Below.refl _ _).alloc (Nat.le_refl _) _))
/-- A whole row is overwritten; behind it the world is a name. -/
theorem wpList_storeWN {ops : Array Oper} {rest : List Oper} {o : Oper} {a : Act} {w : World} {Q : Exit → Act → World → Prop} (hgd : o.guard = none) (ty : TypeId) (x y : Operand) (ho : o.op = .store ty x y)
    (B : Nat) (hx : a.eval x = .pointer (some ⟨B, 0, none⟩)) {n : Nat} {g : Nat → Int} (hy : a.eval y = .agg (arr n g)) {T : TypeId} {f : Nat → Int} (hg : w.heap[B]? = some (.cells (arr n f) T (0, 0)))
    (hi : (P.info? ty).map (·.size) = some n) {k : Nat} {w0 : World} (hb : Below k w0 w) (hk : k ≤ B)
    (h : ∀ w', w'.heap[B]? = some (.cells (arr n g) T (0, 0)) → (∀ B', B' ≠ B → w'.heap[B']? = w.heap[B']?) → Below k w0 w' → wpList P ops Q rest (a.put o.dst undef) w') : wpList P ops Q (o :: rest) a w :=
  wpList_storeW hgd ty x y ho B hx hy hg hi (h _ (setRow_heap _ _ _ _ _ _ hg) (fun B' hB => setRow_other _ _ _ _ hB) (below_setRow2 hb hk _))
/-- A part of a row is overwritten; behind it the world is a name. -/
theorem wpList_storePN {ops : Array Oper} {rest : List Oper} {o : Oper} {a : Act} {w : World} {Q : Exit → Act → World → Prop} (hgd : o.guard = none) (ty : TypeId) (x y : Operand) (ho : o.op = .store ty x y)
    (B off : Nat) (hx : a.eval x = .pointer (some ⟨B, off, none⟩)) {m : Nat} {g : Nat → Int} (hy : a.eval y = .agg (arr m g)) {T : TypeId} {n : Nat} {f : Nat → Int} (hg : w.heap[B]? = some (.cells (arr n f) T (0, 0)))
    (hi : (P.info? ty).map (·.size) = some m) (hle : off + m ≤ n) {k : Nat} {w0 : World} (hb : Below k w0 w) (hk : k ≤ B)
    (h : ∀ w', w'.heap[B]? = some (.cells (arr n (updN f off m g)) T (0, 0)) → (∀ B', B' ≠ B → w'.heap[B']? = w.heap[B']?) → Below k w0 w' → wpList P ops Q rest (a.put o.dst undef) w') : wpList P ops Q (o :: rest) a w :=
  wpList_storeA hgd ty x y ho B off hx hy hg hi hle (h _ (setRow_heap _ _ _ _ _ _ hg) (fun B' hB => setRow_other _ _ _ _ hB) (below_setRow2 hb hk _))
end Go.Proofs.YtlbgmkengkgnfaaDoor
