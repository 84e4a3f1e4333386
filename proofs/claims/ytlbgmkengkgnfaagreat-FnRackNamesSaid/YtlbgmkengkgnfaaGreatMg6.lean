/- A part (number 6) of the proof of the law FnRackNames: what each of its sections proves stands in the section's own first remark. No conditions beside those that each theorem states. -/
import Derived.Test.YtlbgmkengkgnfaaGreatMg2
import Derived.Stop.Looks
import Derived.Test.YtlbgmkengkgnfaaGreatMg3
section
/- A region that draws its order: pure operations and readers are walked first; what is left is walked as it comes up. -/
namespace Go.Proofs.YtlbgmkengkgnfaaGreat
set_option linter.unusedSimpArgs false
set_option linter.unusedVariables false
set_option maxRecDepth 20000
open Go.RowKit
variable {P : Program}
def setL : Array Bool → List Nat → Array Bool
  | listed, [] => listed
  | listed, k :: ks => setL (listed.setIfInBounds k true) ks
def segLB (md : Region.Mode) (ops : Array Oper) (ok : Nat → Bool) : List Nat → Array Bool → Bool
  | [], _ => true
  | k :: ks, listed => (Region.ready md ops listed).contains k && freeB md ops ok listed k && segLB md ops ok ks (listed.setIfInBounds k true)
theorem wpAnyI_segL {md : Region.Mode} {ops : Array Oper} {hd st : Nat → Bool} {C : World → Prop} {K1 : Act → World → Prop} (hs : Region.noSelect ops = true) (hst : ∀ j, st j = true → ∀ oj, ops[j]? = some oj → Pres P C oj) (fuel : Nat) {w : World} (hw : C w) :
    ∀ (ks : List Nat) (l : List Oper) (listed : Array Bool) (a : Act), ks.map (ops[·]?) = l.map some → segLB md ops (fun j => hd j || st j) ks listed = true →
      wpCalm P ops C (fun a' => wpAnyI P md ops hd C (QN K1) fuel (setL listed ks) a' w) l a → wpAnyI P md ops hd C (QN K1) (fuel + ks.length) listed a w
  | [], [], _, _, _, _, h => h
  | [], _ :: _, _, _, hl, _, _ => by simp at hl
  | _ :: _, [], _, _, hl, _, _ => by simp at hl
  | k :: ks, o :: l, listed, a, hl, hB, h => by
    simp only [List.map_cons, List.cons.injEq] at hl
    have h0 : ops[k]? = some o := hl.1
    simp only [segLB, Bool.and_eq_true] at hB
    obtain ⟨⟨hr, hf⟩, hB'⟩ := hB
    obtain ⟨v, hy, hK⟩ : ∃ v, CalmIn P ops C o v a ∧ wpCalm P ops C (fun a' => wpAnyI P md ops hd C (QN K1) fuel (setL listed (k :: ks)) a' w) l (a.put o.dst v) := by
      unfold wpCalm at h
      by_cases hw : Region.wanted o (yielded ops a.tmps) = true
      · rw [if_pos hw] at h
        obtain ⟨v, h1, h2⟩ := h
        exact ⟨v, .inl ⟨hw, h1⟩, h2⟩
      · rw [if_neg hw] at h
        exact ⟨undef, .inr ⟨by simpa using hw, rfl⟩, h⟩
    refine wpAnyI_first h0 (Region.noSelect_spec hs) (fuel + ks.length) listed a w (fun j oj hoj hne hun hno => ?_) (by simpa using hr) hy hw
      (wpAnyI_segL hs hst fuel hw ks l _ _ hl.2 hB' hK)
    have h1 := List.all_eq_true.1 hf j (List.mem_range.2 (Array.getElem?_eq_some_iff.1 hoj).1)
    simp only [h0, hoj, Bool.or_eq_true, beq_iff_eq, hne, false_or, hun, Bool.false_eq_true, Bool.and_eq_true] at h1
    rcases h1 with h1 | ⟨h1, h2⟩
    · obtain ⟨oj', ho', e, he, hb, heq⟩ := Region.waitsFor_spec h1
      rw [hoj] at ho'; cases ho'
      exact absurd heq (hno e he hb)
    · exact ⟨h1, h2.imp id fun h => hst j h oj hoj⟩
/-- The same by lists of operations; what is left is walked as it comes up. -/
theorem wp_region_fork {id : Nat} {Q : Exit → Act → World → Prop} {a : Act} {w : World} {l : List Oper} (is0 is1 st : List Nat) (m : Nat) (f0 f1 : List Oper → List Oper) (C : World → Prop) (hm : P.follows .mixedOrders = true)
    (hB : (Region.noSelect l.toArray && segLB .any l.toArray (fun _ => true) is0 (allF l.length) && segLB .any l.toArray (fun j => is1.contains j || st.contains j) is1 (setL (allF l.length) is0)
      && (List.range l.length).all (fun i => !is1.contains i || (setL (setL (allF l.length) is0) is1).getD i true) && decide (m + is1.length + is0.length = l.length)) = true)
    (hf0 : is0.map (l.toArray[·]?) = (f0 l).map some) (hf1 : is1.map (l.toArray[·]?) = (f1 l).map some)
    (hst0 : PresAll P C l.toArray st) (hC : C { w with drawn := w.drawn + 1 })
    (h : wpCalm P l.toArray (fun _ => True) (fun a1 => wpCalm P l.toArray C (fun a' => wpAny P .any l.toArray (QN (Q .normal)) m (setL (setL (allF l.length) is0) is1) a' { w with drawn := w.drawn + 1 }) (f1 l) a1) (f0 l) a) : (Code.region id l.toArray true).wp P Q a w := by
  have hst := hst0.at
  simp only [Bool.and_eq_true, decide_eq_true_eq] at hB
  obtain ⟨⟨⟨⟨hs, h1⟩, h2⟩, h3⟩, h5⟩ := hB
  refine Code.wp_mono QN.imp ?_
  refine wp_region_any hm ?_
  have hseg2 : ∀ a1, wpCalm P l.toArray C (fun a' => wpAny P .any l.toArray (QN (Q .normal)) m (setL (setL (allF l.length) is0) is1) a' { w with drawn := w.drawn + 1 }) (f1 l) a1 →
      wpAny P .any l.toArray (QN (Q .normal)) (m + is1.length) (setL (allF l.length) is0) a1 { w with drawn := w.drawn + 1 } := fun a1 ha => by
    refine wpAny_of_I _ _ _ _ (wpAnyI_segL (P := P) (md := .any) (hd := fun j => is1.contains j) (st := fun j => st.contains j) (C := C) (K1 := Q .normal) hs hst m hC is1 (f1 l) (setL (allF l.length) is0) a1 hf1 h2 ?_)
    refine wpCalm_mono ?_ _ _ ha
    intro a' ha'
    refine wpAnyI_of_any _ _ _ _ (fun i hi hs' => ?_) ha'
    have := List.all_eq_true.1 h3 i (List.mem_range.2 (by simpa using hs'))
    have hi' : i ∈ is1 := by simpa using hi
    simpa [hi'] using this
  have := wpAnyI_segL (P := P) (md := .any) (hd := fun _ => false) (st := fun _ => true) (C := fun _ => True) (K1 := Q .normal) hs (fun j _ oj _ => Pres.top oj) (m + is1.length) (w := { w with drawn := w.drawn + 1 }) trivial is0 (f0 l) (allF l.length) a
    hf0 (by simpa using h1) ?_
  · rw [h5] at this
    have := wpAny_of_I _ _ _ _ this
    unfold allF at this
    simpa using this
  · refine wpCalm_mono ?_ _ _ h
    intro a1 ha1
    exact wpAnyI_of_any _ _ _ _ (fun i hi => by simp at hi) (hseg2 a1 ha1)
section
variable {md : Region.Mode} {ops : Array Oper} {K : Act → World → Prop} {fuel : Nat} {listed : Array Bool} {a : Act} {w : World}
theorem wpOp_of_list {i : Nat} {oi : Oper} (ho : ops[i]? = some oi) (h : wpList P ops (QN fun a' w' => wpAny P md ops (QN K) fuel (listed.setIfInBounds i true) a' w') [oi] a w) :
    wpOp P ops (QN K) i (wpAny P md ops (QN K) fuel (listed.setIfInBounds i true)) a w := by
  unfold wpList at h
  unfold wpOp
  simp only [ho]
  split
  · rename_i hw
    simp only [hw, if_true] at h
    rcases h with h | ⟨_, _, _, hl⟩
    · refine .inl ?_
      unfold Oper.wp at *
      generalize (execOp a.eval oi).run P w = r at *
      cases r with
      | ok n w' =>
        cases n <;> simp only [Oper.upon] at h ⊢
        case enter f args =>
          refine h.mono fun e w'' he => ?_
          cases e <;> exact he
        all_goals exact h
      | halt x w' => cases x <;> simp only [Oper.upon] at h ⊢ <;> exact h
    · exact hl.elim
  · rename_i hw
    simp only [hw] at h
    exact h
theorem wpAny_end (hr : Region.ready md ops listed = []) (h : K a w) : wpAny P md ops (QN K) 0 listed a w := ⟨hr, h⟩
theorem wpAny_fork1 (i : Nat) {oi : Oper} (hr : Region.ready md ops listed = [i]) (ho : ops[i]? = some oi) (h : wpList P ops (QN fun a' w' => wpAny P md ops (QN K) fuel (listed.setIfInBounds i true) a' w') [oi] a w) : wpAny P md ops (QN K) (fuel + 1) listed a w :=
  ⟨fun h0 => (by rw [h0] at hr; cases hr), fun j hj => by
    rw [hr] at hj
    simp only [List.mem_singleton] at hj
    subst hj
    exact wpOp_of_list ho h⟩
theorem wpAny_fork2 (i j : Nat) {oi oj : Oper} (hr : Region.ready md ops listed = [i, j]) (ho : ops[i]? = some oi) (ho2 : ops[j]? = some oj) (h : wpList P ops (QN fun a' w' => wpAny P md ops (QN K) fuel (listed.setIfInBounds i true) a' w') [oi] a w)
    (h2 : wpList P ops (QN fun a' w' => wpAny P md ops (QN K) fuel (listed.setIfInBounds j true) a' w') [oj] a w) : wpAny P md ops (QN K) (fuel + 1) listed a w :=
  ⟨fun h0 => (by rw [h0] at hr; cases hr), fun k hk => by
    rw [hr] at hk
    simp only [List.mem_cons, List.not_mem_nil, or_false] at hk
    rcases hk with rfl | rfl
    · exact wpOp_of_list ho h
    · exact wpOp_of_list ho2 h2⟩
theorem wpAny_fork3 (i j k : Nat) {oi oj ok : Oper} (hr : Region.ready md ops listed = [i, j, k]) (ho : ops[i]? = some oi) (ho2 : ops[j]? = some oj) (ho3 : ops[k]? = some ok) (h : wpList P ops (QN fun a' w' => wpAny P md ops (QN K) fuel (listed.setIfInBounds i true) a' w') [oi] a w)
    (h2 : wpList P ops (QN fun a' w' => wpAny P md ops (QN K) fuel (listed.setIfInBounds j true) a' w') [oj] a w) (h3 : wpList P ops (QN fun a' w' => wpAny P md ops (QN K) fuel (listed.setIfInBounds k true) a' w') [ok] a w) : wpAny P md ops (QN K) (fuel + 1) listed a w :=
  ⟨fun h0 => (by rw [h0] at hr; cases hr), fun x hk => by
    rw [hr] at hk
    simp only [List.mem_cons, List.not_mem_nil, or_false] at hk
    rcases hk with rfl | rfl | rfl
    · exact wpOp_of_list ho h
    · exact wpOp_of_list ho2 h2
    · exact wpOp_of_list ho3 h3⟩
end
theorem loadAt_looks (ty : TypeId) (x : Value) : (Instr.loadAt ty x).Looks := by
  unfold Instr.loadAt
  refine Sem.Looks.bind ?_ fun a => ?_
  · unfold Instr.sureAddr
    cases x <;> first | trivial | skip
    rename_i p
    cases p <;> first | trivial | skip
  · unfold loadVar
    refine Sem.Looks.bind ?_ fun b => ?_
    · unfold isAgg
      exact (underlying_looks ty).bind fun d => by cases d <;> trivial
    · cases b
      · exact load_looks _ _
      · exact (sizeOf_looks ty).bind fun n => (loadCells_looks _ n).bind fun c => trivial
theorem Pres.load {o : Oper} {C : World → Prop} (ty : TypeId) (x : Operand) (ho : o.op = .load ty x) : Pres P C o := fun a w K K1 hw h => by
  have e : (execOp a.eval o).run P w = ((Instr.loadAt ty (a.eval x)).run P w).andThen fun v w' => .ok (.value v) w' := by
    unfold execOp
    simp only [ho, Sem.run_bind, Sem.run_pure]
  unfold Oper.wp at *
  rw [e] at h ⊢
  cases hr : (Instr.loadAt ty (a.eval x)).run P w with
  | ok v w' =>
    rw [hr] at h
    have := (loadAt_looks ty (a.eval x)).ok hr
    subst this
    exact ⟨hw, h⟩
  | halt y w' =>
    rw [hr] at h
    cases y <;> simp only [Result.andThen, Oper.upon] at h ⊢ <;> exact h
/-- A new zero row, by name. -/
theorem wpList_allocN {ops : Array Oper} {rest : List Oper} {o : Oper} {a : Act} {w : World} {Q : Exit → Act → World → Prop} (hgd : o.guard = none) (ty : TypeId) (ho : o.op = .alloc ty) (n : Nat)
    (hz : ((P.info? ty).bind (·.zero)).map (·.cells) = some (arr n fun _ => 0))
    (h : ∀ B w', w.heap.size ≤ B → w'.heap[B]? = some (.cells (arr n fun _ => 0) ty (0, 0)) → Below w.heap.size w w' → wpList P ops Q rest (a.put o.dst (.pointer (some ⟨B, 0, none⟩))) w') : wpList P ops Q (o :: rest) a w :=
  wpList_allocA hgd ty ho n hz (h _ _ (Nat.le_refl _) (heap_new rfl) ((Below.refl _ _).alloc (Nat.le_refl _) _))
/-- A whole row is overwritten; behind it the world is a name. -/
theorem wpList_storeWN {ops : Array Oper} {rest : List Oper} {o : Oper} {a : Act} {w : World} {Q : Exit → Act → World → Prop} (hgd : o.guard = none) (ty : TypeId) (x y : Operand) (ho : o.op = .store ty x y)
    (B : Nat) (hx : a.eval x = .pointer (some ⟨B, 0, none⟩)) {n : Nat} {g : Nat → Int} (hy : a.eval y = .agg (arr n g)) {T : TypeId} {f : Nat → Int} (hg : w.heap[B]? = some (.cells (arr n f) T (0, 0)))
    (hi : (P.info? ty).map (·.size) = some n) {k : Nat} {w0 : World} (hb : Below k w0 w) (hk : k ≤ B)
    (h : ∀ w', w'.heap[B]? = some (.cells (arr n g) T (0, 0)) → (∀ B', B' ≠ B → w'.heap[B']? = w.heap[B']?) → Below k w0 w' → wpList P ops Q rest (a.put o.dst undef) w') : wpList P ops Q (o :: rest) a w :=
  wpList_storeW hgd ty x y ho B hx hy hg hi (h _ (setRow_heap _ _ _ _ _ _ hg) (fun B' hB => setRow_other _ _ _ _ hB) (below_setRow2 hb hk _))
/-- A part of a row is overwritten; behind it the world is a name. -/
theorem wpList_storePN {ops : Array Oper} {rest : List Oper} {o : Oper} {a : Act} {w : World} {Q : Exit → Act → World → Prop} (hgd : o.guard = none) (ty : TypeId) (x y : Operand) (ho : o.op = .store ty x y)
    (B off : Nat) (hx : a.eval x = .pointer (some ⟨B, off, none⟩)) {m : Nat} {g : Nat → Int} (hy : a.eval y = .agg (arr m g)) {T : TypeId} {n : Nat} {f : Nat → Int} (hg : w.heap[B]? = some (.cells (arr n f) T (0, 0)))
    (hi : (P.info? ty).map (·.size) = some m) (hle : off + m ≤ n) {k : Nat} {w0 : World} (hb : Below k w0 w) (hk : k ≤ B)
    (h : ∀ w', w'.heap[B]? = some (.cells (arr n (updN f off m g)) T (0, 0)) → (∀ B', B' ≠ B → w'.heap[B']? = w.heap[B']?) → Below k w0 w' → wpList P ops Q rest (a.put o.dst undef) w') : wpList P ops Q (o :: rest) a w :=
  wpList_storeA hgd ty x y ho B off hx hy hg hi hle (h _ (setRow_heap _ _ _ _ _ _ hg) (fun B' hB => setRow_other _ _ _ _ hB) (below_setRow2 hb hk _))
end Go.Proofs.YtlbgmkengkgnfaaGreat
end

section
/- One int of a row is overwritten. -/
namespace Go.Proofs.YtlbgmkengkgnfaaGreat
set_option linter.unusedSimpArgs false
set_option linter.unusedVariables false
set_option maxRecDepth 20000
open Go.RowKit
variable {P : Program} in
/-- One int of a row is overwritten; behind it the world is a name. -/
theorem wpList_storePI {ops : Array Oper} {rest : List Oper} {o : Oper} {a : Act} {w : World} {Q : Exit → Act → World → Prop} (hgd : o.guard = none) (ty : TypeId) (x y : Operand) (ho : o.op = .store ty x y)
    (B off : Nat) (hx : a.eval x = .pointer (some ⟨B, off, none⟩)) {v : Int} (hy : a.eval y = .int .i64 v) {T : TypeId} {n : Nat} {f : Nat → Int} (hg : w.heap[B]? = some (.cells (arr n f) T (0, 0)))
    (hi : (P.info? ty).map (·.size) = some 1) (hle : off < n) {k : Nat} {w0 : World} (hb : Below k w0 w) (hk : k ≤ B)
    (h : ∀ w', w'.heap[B]? = some (.cells (arr n (upd f off v)) T (0, 0)) → (∀ B', B' ≠ B → w'.heap[B']? = w.heap[B']?) → Below k w0 w' → wpList P ops Q rest (a.put o.dst undef) w') : wpList P ops Q (o :: rest) a w :=
  wpList_storeI hgd ty x y ho B off hx hy hg hi hle (h _ (setRow_heap _ _ _ _ _ _ hg) (fun B' hB => setRow_other _ _ _ _ hB) (below_setRow2 hb hk _))
end Go.Proofs.YtlbgmkengkgnfaaGreat
end

section
/- A region that draws its order: every order is walked, pure operations are taken first as they come up; what comes out is told by one relation. -/
namespace Go.Proofs.YtlbgmkengkgnfaaGreat
set_option linter.unusedSimpArgs false
set_option linter.unusedVariables false
set_option maxRecDepth 20000
open Go.RowKit
section
variable {P : Program} {ops : Array Oper} {K : Act → World → Prop} {fuel : Nat} {listed : Array Bool} {a : Act} {w : World}
theorem wpAny_peel {md : Region.Mode} (ks : List Nat) (l : List Oper) (hs : Region.noSelect ops = true) (hl : ks.map (ops[·]?) = l.map some) (hB : segLB md ops (fun _ => true) ks listed = true)
    (h : wpCalm P ops (fun _ => True) (fun a' => wpAny P md ops (QN K) fuel (setL listed ks) a' w) l a) : wpAny P md ops (QN K) (fuel + ks.length) listed a w := by
  refine wpAny_of_I _ _ _ _ (wpAnyI_segL (P := P) (md := md) (hd := fun _ => false) (st := fun _ => true) (C := fun _ => True) (K1 := K) hs (fun j _ oj _ => Pres.top oj) fuel (w := w) trivial ks l listed a hl (by simpa using hB) ?_)
  refine wpCalm_mono ?_ _ _ h
  intro a1 ha1
  exact wpAnyI_of_any _ _ _ _ (fun i hi => by simp at hi) ha1
theorem wpAny_peel2 {md : Region.Mode} (i j : Nat) {oi oj : Oper} (hs : Region.noSelect ops = true) (ho : ops[i]? = some oi) (ho2 : ops[j]? = some oj) (hB : segLB md ops (fun _ => true) [i, j] listed = true)
    (h : wpCalm P ops (fun _ => True) (fun a' => wpAny P md ops (QN K) fuel (setL listed [i, j]) a' w) [oi, oj] a) : wpAny P md ops (QN K) (fuel + 2) listed a w :=
  wpAny_peel [i, j] [oi, oj] hs (by simp [ho, ho2]) hB h
theorem wpAny_peel1 {md : Region.Mode} (i : Nat) {oi : Oper} (hs : Region.noSelect ops = true) (ho : ops[i]? = some oi) (hB : segLB md ops (fun _ => true) [i] listed = true)
    (h : wpCalm P ops (fun _ => True) (fun a' => wpAny P md ops (QN K) fuel (setL listed [i]) a' w) [oi] a) : wpAny P md ops (QN K) (fuel + 1) listed a w :=
  wpAny_peel [i] [oi] hs (by simp [ho]) hB h
theorem wpAny_peel3 {md : Region.Mode} (i j k : Nat) {oi oj ok : Oper} (hs : Region.noSelect ops = true) (ho : ops[i]? = some oi) (ho2 : ops[j]? = some oj) (ho3 : ops[k]? = some ok) (hB : segLB md ops (fun _ => true) [i, j, k] listed = true)
    (h : wpCalm P ops (fun _ => True) (fun a' => wpAny P md ops (QN K) fuel (setL listed [i, j, k]) a' w) [oi, oj, ok] a) : wpAny P md ops (QN K) (fuel + 3) listed a w :=
  wpAny_peel [i, j, k] [oi, oj, ok] hs (by simp [ho, ho2, ho3]) hB h
theorem wp_region_ord {id : Nat} {Q : Exit → Act → World → Prop} {l : List Oper} (n : Nat) (C : World → Prop) (R : Act → World → Prop) (hm : P.follows .mixedOrders = true) (hn : l.length = n) (hC : C { w with drawn := w.drawn + 1 })
    (h : ∀ wt, C wt → wpAny P .any l.toArray (QN R) n (allF n) a wt) (hk : ∀ a' w', R a' w' → Q .normal a' w') : (Code.region id l.toArray true).wp P Q a w := by
  refine Code.wp_mono (Q := QN R) (fun e a' w' hq => ?_) ?_
  · cases e <;> first | exact hk _ _ hq | exact (hq : False).elim
  · refine wp_region_any hm ?_
    subst hn
    have := h _ hC
    unfold allF at this
    simpa using this
end
end Go.Proofs.YtlbgmkengkgnfaaGreat
end

section
/- Six ints sorted by insertion. -/
namespace Go.Proofs.YtlbgmkengkgnfaaGreat
set_option linter.unusedSimpArgs false
set_option linter.unusedVariables false
set_option maxRecDepth 20000
open Go.RowKit
def swi (F : Nat → Int) (J : Nat) : Nat → Int := fun q => if q = J then F (J + 1) else if q = J + 1 then F J else F q
theorem swi_at (F : Nat → Int) (k i : Nat) : swi F k i = if i = k then F (k + 1) else if i = k + 1 then F k else F i := rfl
theorem swi_arr (F : Nat → Int) (J N : Nat) : arr N (upd (upd F (J + 1) (F J)) J (F (J + 1))) = arr N (swi F J) := by
  refine arr_congr fun q _ => ?_
  unfold swi upd
  by_cases h1 : q = J
  · rw [if_pos h1]
  · rw [if_neg h1]
def ls6 (F : Nat → Int) : List Int := [F 0, F 1, F 2, F 3, F 4, F 5]
theorem swi_perm (F : Nat → Int) {k : Nat} (hk : k < 5) : (ls6 (swi F k)).Perm (ls6 F) := by
  unfold ls6
  simp only [swi_at]
  match k, hk with
  | 0, _ => exact .swap _ _ _
  | 1, _ => exact .cons _ (.swap _ _ _)
  | 2, _ => exact .cons _ (.cons _ (.swap _ _ _))
  | 3, _ => exact .cons _ (.cons _ (.cons _ (.swap _ _ _)))
  | 4, _ => exact .cons _ (.cons _ (.cons _ (.cons _ (.swap _ _ _))))
def jI (F : Nat → Int) (i j : Nat) : Prop := j ≤ i ∧ (∀ a b, a < b → b ≤ i → a ≠ j → b ≠ j → (F a) ≤ (F b)) ∧ (∀ b, j < b → b ≤ i → (F j) ≤ (F b))
theorem jI_start {F : Nat → Int} {i : Nat} (h : ∀ a b, a < b → b < i → (F a) ≤ (F b)) : jI F i i := ⟨Nat.le_refl _, fun a b hab hb h1 h2 => h a b hab (by omega), fun b h1 h2 => by omega⟩
theorem jI_step {F : Nat → Int} {i j : Nat} (h : jI F i (j + 1)) (hc : (F (j + 1)) < (F j)) : jI (swi F j) i j := by
  obtain ⟨h0, h1, h2⟩ := h
  refine ⟨by omega, fun a b hab hb ha hb2 => ?_, fun b h3 h4 => ?_⟩
  · rw [swi_at, swi_at, if_neg ha, if_neg hb2]
    by_cases e1 : a = j + 1
    · rw [if_pos e1, if_neg (by omega)]
      exact h1 j b (by omega) hb (by omega) (by omega)
    · rw [if_neg e1]
      by_cases e2 : b = j + 1
      · rw [if_pos e2]
        exact h1 a j (by omega) (by omega) (by omega) (by omega)
      · rw [if_neg e2]
        exact h1 a b hab hb e1 e2
  · rw [swi_at, swi_at, if_pos rfl, if_neg (show ¬ b = j by omega)]
    split
    · omega
    · exact h2 b (by omega) h4
theorem jI_done {F : Nat → Int} {i j : Nat} (h : jI F i j) (hc : j = 0 ∨ ¬ (F j) < (F (j - 1))) : ∀ a b, a < b → b < i + 1 → (F a) ≤ (F b) := by
  obtain ⟨h0, h1, h2⟩ := h
  intro a b hab hb
  by_cases e1 : a = j
  · subst e1; exact h2 b hab (by omega)
  · by_cases e2 : b = j
    · subst e2
      rcases hc with hc | hc
      · omega
      · by_cases e3 : a = b - 1
        · subst e3; omega
        · have := h1 a (b - 1) (by omega) (by omega) e1 (by omega); omega
    · exact h1 a b hab (by omega) e1 e2
/-- Sorted, and the same ints. -/
def IsS (f F : Nat → Int) : Prop := (ls6 F).Perm (ls6 f) ∧ ∀ a b, a < b → b < 6 → F a ≤ F b
theorem isNaN_int2 (x : Int) (w : World) : Calls Tryz.prog 118 #[.int .i64 x] w fun e w' => e = .returned (.bool false) ∧ w = w' := by
  go_enter Tryz.func118, Tryz.ntmps118
  go_wp2_with fail
  go_ret
  simp
theorem lessI_any (x y : Int) (w : World) : Calls Tryz.prog 110 #[.int .i64 x, .int .i64 y] w fun e w' => e = .returned (.bool (decide (x < y))) ∧ Below w.heap.size w w' := by
  go_enter Tryz.func110, Tryz.ntmps110
  go_wp2_with first
    | (go_at_call 118; (with_reducible refine (isNaN_int2 _ _).mono ?_); rintro e w' ⟨rfl, rfl⟩)
  go_ret
  exact ⟨rfl, Below.refl _ _⟩
theorem lessI_at {x y : Int} {d : Bool} (h : decide (x < y) = d) (w : World) : Calls Tryz.prog 110 #[.int .i64 x, .int .i64 y] w fun e w' => e = .returned (.bool d) ∧ Below w.heap.size w w' := by
  rw [← h]
  exact lessI_any x y w
theorem noRes {fn : Func} (h : fn.results = #[]) (tmps : Array Value) (w : World) : (results fn tmps).run Tryz.prog w = .ok (.tuple #[]) w := by simp [results, h]
theorem wrapI2 {x : Int} (h1 : -4611686018427387904 < x) (h2 : x < 4611686018427387904) : IntKind.i64.wrap x = x := IntWalk.i64_in _ (by omega)
set_option maxHeartbeats 2000000 in
theorem insI_any {f : Nat → Int} {B B2 N cap : Nat} {T : TypeId} {o2 : Obj} (hN : 6 ≤ N) (w wI : World) (hbel : Below w.heap.size w wI) (hB : w.heap.size ≤ B) (h1 : wI.heap[B]? = some (.cells (arr N f) T (0, 0))) (h2 : wI.heap[B2]? = some o2) (hne : B2 ≠ B) :
    Calls Tryz.prog 104 #[.slice (some ⟨B, 0, none⟩) 6 cap, .int .i64 0, .int .i64 6] wI fun e w' => (∃ u, e = .returned u) ∧ ∃ F, IsS f F ∧ w'.heap[B]? = some (.cells (arr N F) T (0, 0)) ∧ w'.heap[B2]? = some o2 ∧ Below w.heap.size w w' := by
  go_enter Tryz.func104, Tryz.ntmps104
  go_wp2_with fail
  go_loopw [6] (fun i wr => ∃ n : Nat, ∃ F, 1 ≤ n ∧ n ≤ 6 ∧ i = .int .i64 n ∧ (ls6 F).Perm (ls6 f) ∧ (∀ a b, a < b → b < n → F a ≤ F b) ∧ wr.heap[B]? = some (.cells (arr N F) T (0, 0)) ∧ wr.heap[B2]? = some o2 ∧ Below w.heap.size w wr) (fun i _ => 6 - (intOf i).toNat)
  case atStart => exact ⟨1, f, by omega, by omega, rfl, .refl _, fun a b hab hb => by omega, h1, h2, hbel⟩
  case round =>
    clear h1 h2 hbel
    obtain ⟨n, F, hn1, hn6, rfl, hR, hs, h1, h2, hbel⟩ := hrel
    obtain ⟨wo, hwo⟩ : ∃ wo : World, wo = wr := ⟨_, rfl⟩
    rw [← hwo] at h1 h2 hbel ⊢
    clear hwo
    by_cases hlt : n < 6
    · have hlt' : (n : Int) < 6 := by omega
      go_wp2_with fail
      go_loopw [7] (fun i wr => ∃ j : Nat, ∃ F, j ≤ n ∧ i = .int .i64 j ∧ (ls6 F).Perm (ls6 f) ∧ jI F n j ∧ wr.heap[B]? = some (.cells (arr N F) T (0, 0)) ∧ wr.heap[B2]? = some o2 ∧ Below w.heap.size w wr) (fun i _ => (intOf i).toNat)
      case atStart => exact ⟨n, F, by omega, rfl, hR, jI_start hs, h1, h2, hbel⟩
      case round =>
        clear h1 h2 hbel hR hs
        obtain ⟨j, F, hj, rfl, hR, hI, h1, h2, hbel⟩ := hrel
        cases j with
        | zero =>
          have HR : Hid _ := hR
          have HD : Hid (∀ a b, a < b → b < n + 1 → F a ≤ F b) := jI_done hI (.inl rfl)
          clear hR hI
          go_wp2_with fail
          refine wp_region_held 15 (Cls wr []) (by kernel_rfl) (by kernel_rfl) (Cls.zero (Below.refl _ _)) ?_; simp only [List.take_succ_cons, List.take_zero, List.drop_succ_cons, List.drop_zero]
          repeat (first
            | ((with_reducible refine wpQuiet_step (fun K hK => ?_)); go_simp; (first | (refine ⟨_, fun _ _ => rfl, hK _ ?_⟩) | (refine ⟨_, fun _ _ => ⟨rfl, rfl⟩, hK _ ?_⟩) | (refine hK _ ?_)); clear hK K))
          refine wpQuiet_nil ?_; intro wt hCt; replace hCt := hCt.2; replace hbel := hbel.trans (hCt.mono hbel.size); replace h1 := row_keep hCt h1; replace h2 := row_keep hCt h2; clear hCt
          go_wp2_with fail
          go_roundw
          case rel => exact ⟨n + 1, F, by omega, by omega, by go_num, HR.out, HD.out, h1, h2, hbel⟩
          case measure => simp [intOf]; omega
        | succ J =>
          have hJ5 : J < 5 := by omega
          have e1 : IntKind.i64.wrap (J : Int) = J := wrapI2 (by omega) (by omega)
          have hJ6 : (J : Int) < 6 := by omega
          have hJ7 : (J : Int) + 1 < 6 := by omega
          have hJ0 : 0 ≤ (J : Int) + 1 := by omega
          have hJ1 : 0 < (J : Int) + 1 := by omega
          have HR : Hid _ := hR
          cases hd : decide (F (J + 1) < F J) with
          | true =>
            obtain ⟨d, hdd⟩ : ∃ d, d = true := ⟨_, rfl⟩
            have HZ : Hid (decide (F (J + 1) < F J) = d) := by show _ = d; rw [hd, hdd]
            have HS : Hid ((ls6 (swi F J)).Perm (ls6 f) ∧ jI (swi F J) n J) := ⟨(swi_perm F hJ5).trans hR, jI_step hI (of_decide_eq_true hd)⟩
            clear hR hI hd
            go_wp2_with fail
            refine wp_region_held 15 (Cls wr []) (by kernel_rfl) (by kernel_rfl) (Cls.zero (Below.refl _ _)) ?_; simp only [List.take_succ_cons, List.take_zero, List.drop_succ_cons, List.drop_zero]
            repeat (first
              | (with_reducible refine wpQuiet_loadI rfl _ _ rfl _ _ rfl (fun _ h => h.kp h1) aggI undI (by omega) ?_)
              | ((with_reducible refine wpQuiet_call rfl 110 _ _ rfl (.bool d) ?_ ?_ ?_); (exact enters_of Tryz.func110 (by kernel_rfl) rfl); (intro w' h'; exact (lessI_at HZ.out w').mono fun _ _ ⟨he, hb⟩ => ⟨he, h'.keep hb⟩))
              | ((with_reducible refine wpQuiet_step (fun K hK => ?_)); go_simp; (first | (refine ⟨_, fun _ _ => rfl, hK _ ?_⟩) | (refine ⟨_, fun _ _ => ⟨rfl, rfl⟩, hK _ ?_⟩) | (refine hK _ ?_)); clear hK K))
            refine wpQuiet_nil ?_; intro wt hCt; replace hCt := hCt.2; replace hbel := hbel.trans (hCt.mono hbel.size); replace h1 := row_keep hCt h1; replace h2 := row_keep hCt h2; clear hCt
            try rw [hdd]
            clear e1
            go_wp2_with fail
            have e1 : IntKind.i64.wrap (J : Int) = J := wrapI2 (by omega) (by omega)
            obtain ⟨wm, hwm⟩ : ∃ wm : World, wm = wt := ⟨_, rfl⟩
            rw [← hwm] at h1 h2 hbel ⊢
            clear hwm
            refine wp_region_fork [0, 1, 2, 3, 4, 5, 6, 7, 8, 10, 11, 12] [9, 13] [] 4 (fun l => l.take 9 ++ (l.drop 10).take 3) (fun l => (l.drop 9).take 1 ++ (l.drop 13).take 1) (Cls w _) (by kernel_rfl) (by kernel_rfl) (by kernel_rfl) (by kernel_rfl) trivial (Cls.two h1 h2 hbel) ?_; try simp only [List.take_succ_cons, List.take_zero, List.drop_succ_cons, List.drop_zero, List.singleton_append, List.cons_append, List.nil_append]
            repeat (first
              | ((with_reducible refine wpCalm_step (fun K hK => ?_)); go_simp; (first | (refine ⟨_, fun _ _ => rfl, hK _ ?_⟩) | (refine hK _ ?_)); clear hK K))
            refine wpCalm_nil ?_
            repeat (first
              | (with_reducible refine wpCalm_loadI rfl _ _ rfl _ _ rfl (fun _ h => h.r1) aggI undI (by omega) ?_)
              | ((with_reducible refine wpCalm_step (fun K hK => ?_)); go_simp; (first | (refine ⟨_, fun _ _ => rfl, hK _ ?_⟩) | (refine hK _ ?_)); clear hK K))
            refine wpCalm_nil ?_
            have hCt := Cls.two h1 h2 hbel
            obtain ⟨wq, hwq⟩ : ∃ wq : World, wq = { wm with drawn := wm.drawn + 1 } := ⟨_, rfl⟩
            rw [← hwq] at hCt ⊢
            clear hwq
            replace h1 := hCt.r1
            replace h2 := hCt.r2
            replace hbel := hCt.2
            clear hCt e1
            refine wpAny_fork1 14 (by kernel_rfl) rfl ?_
            go_wp2_with fail
            refine QN.intro ?_
            refine wpAny_fork1 15 (by kernel_rfl) rfl ?_
            go_wp2_with first
              | (with_reducible refine wpList_storePI rfl 3 _ _ rfl _ _ rfl rfl h1 size1 (by omega) hbel (by omega) ?_; intro w1 g3 ho g4; replace h2 := (ho _ hne).trans h2; clear h1 hbel; have h1 := g3; have hbel := g4; clear g3 g4 ho)
            refine QN.intro ?_
            refine wpAny_fork1 16 (by kernel_rfl) rfl ?_
            go_wp2_with fail
            refine QN.intro ?_
            refine wpAny_fork1 17 (by kernel_rfl) rfl ?_
            go_wp2_with first
              | (with_reducible refine wpList_storePI rfl 3 _ _ rfl _ _ rfl rfl h1 size1 (by omega) hbel (by omega) ?_; intro w1 g3 ho g4; replace h2 := (ho _ hne).trans h2; clear h1 hbel; have h1 := g3; have hbel := g4; clear g3 g4 ho)
            refine QN.intro ?_
            refine wpAny_end (by kernel_rfl) ?_
            go_wp2_with fail
            rw [swi_arr] at h1
            go_roundw
            case rel => exact ⟨J, _, by omega, by go_num, HS.out.1, HS.out.2, h1, h2, hbel⟩
            case measure => simp [intOf] <;> omega
          | false =>
            obtain ⟨d, hdd⟩ : ∃ d, d = false := ⟨_, rfl⟩
            have HZ : Hid (decide (F (J + 1) < F J) = d) := by show _ = d; rw [hd, hdd]
            have HD : Hid (∀ a b, a < b → b < n + 1 → F a ≤ F b) := jI_done hI (.inr (by rw [Nat.add_sub_cancel]; exact of_decide_eq_false hd))
            clear hR hI hd
            go_wp2_with fail
            refine wp_region_held 15 (Cls wr []) (by kernel_rfl) (by kernel_rfl) (Cls.zero (Below.refl _ _)) ?_; simp only [List.take_succ_cons, List.take_zero, List.drop_succ_cons, List.drop_zero]
            repeat (first
              | (with_reducible refine wpQuiet_loadI rfl _ _ rfl _ _ rfl (fun _ h => h.kp h1) aggI undI (by omega) ?_)
              | ((with_reducible refine wpQuiet_call rfl 110 _ _ rfl (.bool d) ?_ ?_ ?_); (exact enters_of Tryz.func110 (by kernel_rfl) rfl); (intro w' h'; exact (lessI_at HZ.out w').mono fun _ _ ⟨he, hb⟩ => ⟨he, h'.keep hb⟩))
              | ((with_reducible refine wpQuiet_step (fun K hK => ?_)); go_simp; (first | (refine ⟨_, fun _ _ => rfl, hK _ ?_⟩) | (refine ⟨_, fun _ _ => ⟨rfl, rfl⟩, hK _ ?_⟩) | (refine hK _ ?_)); clear hK K))
            refine wpQuiet_nil ?_; intro wt hCt; replace hCt := hCt.2; replace hbel := hbel.trans (hCt.mono hbel.size); replace h1 := row_keep hCt h1; replace h2 := row_keep hCt h2; clear hCt
            try rw [hdd]
            clear e1
            go_wp2_with fail
            go_roundw
            case rel => exact ⟨n + 1, F, by omega, by omega, by go_num, HR.out, HD.out, h1, h2, hbel⟩
            case measure => simp [intOf]; omega
    · obtain rfl : n = 6 := by omega
      have HF : Hid (IsS f F) := ⟨hR, hs⟩
      clear hR hs
      go_wp2_with fail
      exact bodyPost_end (v := .tuple #[]) (noRes rfl _ _) rfl ⟨⟨_, rfl⟩, F, HF.out, h1, h2, hbel⟩
theorem pdqI_any {f : Nat → Int} {B B2 N cap : Nat} {T : TypeId} {o2 : Obj} (lim : Int) (hN : 6 ≤ N) (w wI : World) (hbel : Below w.heap.size w wI) (hB : w.heap.size ≤ B) (h1 : wI.heap[B]? = some (.cells (arr N f) T (0, 0))) (h2 : wI.heap[B2]? = some o2) (hne : B2 ≠ B) :
    Calls Tryz.prog 89 #[.slice (some ⟨B, 0, none⟩) 6 cap, .int .i64 0, .int .i64 6, .int .i64 lim] wI fun e w' => (∃ u, e = .returned u) ∧ ∃ F, IsS f F ∧ w'.heap[B]? = some (.cells (arr N F) T (0, 0)) ∧ w'.heap[B2]? = some o2 ∧ Below w.heap.size w w' := by
  go_enter Tryz.func89, Tryz.ntmps89
  go_wp2_with fail
  go_loopw [1, 2] (fun a b wr => a = .int .i64 0 ∧ b = .int .i64 6 ∧ wr.heap[B]? = some (.cells (arr N f) T (0, 0)) ∧ wr.heap[B2]? = some o2 ∧ Below w.heap.size w wr) (fun _ _ _ => 0)
  case atStart => exact ⟨rfl, rfl, h1, h2, hbel⟩
  case round =>
    clear h1 h2 hbel
    obtain ⟨rfl, rfl, h1, h2, hbel⟩ := hrel
    go_wp2_with first
      | (go_at_call 104; (with_reducible refine (insI_any hN w _ hbel hB h1 h2 hne).mono ?_); rintro e w1 ⟨⟨u, rfl⟩, F, hF, g1, g2, g3⟩)
    exact bodyPost_ret (v := .tuple #[]) (noRes rfl _ _) rfl ⟨⟨_, rfl⟩, F, hF, g1, g2, g3⟩
theorem len64_6 (w : World) : Calls Tryz.prog 102 #[.int .u64 6] w fun e w' => e = .returned (.int .i64 3) ∧ w = w' := by
  go_enter Tryz.func102, Tryz.ntmps102
  go_wp2_with fail
  go_ret
  refine ⟨?_, rfl⟩
  kernel_rfl
theorem len_6 (w : World) : Calls Tryz.prog 86 #[.int .u64 6] w fun e w' => e = .returned (.int .i64 3) ∧ w = w' := by
  go_enter Tryz.func86, Tryz.ntmps86
  go_wp2_with first
    | (go_at_call 102; (with_reducible refine (len64_6 _).mono ?_); rintro e w' ⟨rfl, rfl⟩)
  go_ret
  exact ⟨rfl, rfl⟩
theorem sortI_any {f : Nat → Int} {B B2 N cap : Nat} {T : TypeId} {o2 : Obj} (hN : 6 ≤ N) (w wI : World) (hbel : Below w.heap.size w wI) (hB : w.heap.size ≤ B) (h1 : wI.heap[B]? = some (.cells (arr N f) T (0, 0))) (h2 : wI.heap[B2]? = some o2) (hne : B2 ≠ B) :
    Calls Tryz.prog 70 #[.slice (some ⟨B, 0, none⟩) 6 cap] wI fun e w' => (∃ u, e = .returned u) ∧ ∃ F, IsS f F ∧ w'.heap[B]? = some (.cells (arr N F) T (0, 0)) ∧ w'.heap[B2]? = some o2 ∧ Below w.heap.size w w' := by
  go_enter Tryz.func70, Tryz.ntmps70
  go_wp2_with first
    | (go_at_call 86; (with_reducible refine (len_6 _).mono ?_); rintro e w' ⟨rfl, rfl⟩)
    | (go_at_call 89; (with_reducible refine (pdqI_any 3 hN w _ hbel hB h1 h2 hne).mono ?_); rintro e w1 ⟨⟨u, rfl⟩, F, hF, g1, g2, g3⟩)
  exact bodyPost_end (v := .tuple #[]) (noRes rfl _ _) rfl ⟨⟨_, rfl⟩, F, hF, g1, g2, g3⟩
end Go.Proofs.YtlbgmkengkgnfaaGreat
end

section
/- Orders of six: the reference's test. -/
namespace Go.Proofs.YtlbgmkengkgnfaaGreat
set_option linter.unusedSimpArgs false
set_option linter.unusedVariables false
set_option maxRecDepth 20000
open Go.RowKit
/-- Is x among the first m? -/
def hsB (h : Nat → Int) (m : Nat) (x : Int) : Bool := (List.range m).any fun j => h j == x
theorem hsB_yes {h : Nat → Int} {m j : Nat} {x : Int} (hj : j < m) (e : h j = x) : hsB h m x = true := by
  unfold hsB
  rw [List.any_eq_true]
  exact ⟨j, List.mem_range.2 hj, by simpa using e⟩
theorem hsB_no {h : Nat → Int} {m : Nat} {x : Int} (e : ∀ j, j < m → h j ≠ x) : hsB h m x = false := by
  unfold hsB
  rw [List.any_eq_false]
  intro j hj
  simpa using e j (List.mem_range.1 hj)
theorem hsB_iff {h : Nat → Int} {m : Nat} {x : Int} : hsB h m x = false ↔ ∀ j, j < m → h j ≠ x := by
  unfold hsB
  rw [List.any_eq_false]
  exact ⟨fun e j hj => by simpa using e j (List.mem_range.2 hj), fun e j hj => by simpa using e j (List.mem_range.1 hj)⟩
theorem l1HasR_any {B n m cap : Nat} {f : Nat → Int} {T : TypeId} {fr : Nat × Nat} (x : Int) (hmn : m ≤ n) (hn : n ≤ 1000) (w : World) (g1 : w.heap[B]? = some (.cells (arr n f) T fr)) : Calls Tryz.prog 72 #[.slice (some ⟨B, 0, none⟩) m cap, .int .i64 x] w fun e w' => e = .returned (.bool (hsB f m x)) ∧ w = w' := by
  go_enter Tryz.func72, Tryz.ntmps72
  go_wp2_with fail
  go_loop [5] (fun i => ∃ k : Nat, k ≤ m ∧ i = .int .i64 k ∧ ∀ j, j < k → f j ≠ x) (fun i => m - (intOf i).toNat)
  case atStart => exact ⟨0, by omega, rfl, by intro j hj; omega⟩
  case round =>
    obtain ⟨k, hk, rfl, hno⟩ := hrel
    have HNO : Hid _ := hno
    clear hno
    by_cases hlt : k < m
    · have hlt' : (k : Int) < (m : Int) := by omega
      have hc := rowcell g1 (i := k) (by omega)
      by_cases he : f k = x
      · have hed : (f k == x) = true := by simpa using he
        have HH : Hid _ := hsB_yes hlt he
        clear he
        go_wp2_with fail
        go_ret
        exact ⟨ret_bool HH.out.symm, rfl⟩
      · have hed : (f k == x) = false := by simpa using he
        have HE : Hid _ := he
        clear he
        go_wp2_with fail
        go_round
        case rel => exact ⟨k + 1, by omega, by go_num, fun j hj => by
          by_cases e : j = k
          · subst e; exact HE.out
          · exact HNO.out j (by omega)⟩
        case measure => simp [intOf]; omega
    · obtain rfl : k = m := by omega
      go_wp2_with fail
      go_ret
      exact ⟨ret_bool (hsB_no HNO.out).symm, rfl⟩
/-- Are the first i ints of 0 to 5, and each another? -/
def pB (f : Nat → Int) : Nat → Bool
  | 0 => true
  | i + 1 => pB f i && (decide (0 ≤ f i ∧ f i ≤ 5) && !hsB f i (f i))
theorem pB_no {f : Nat → Int} {i : Nat} (h : pB f (i + 1) = false) : ∀ k, i + 1 ≤ k → pB f k = false
  | 0, hk => by omega
  | k + 1, hk => by
    by_cases e : i = k
    · subst e; exact h
    · have := pB_no h k (by omega)
      rw [pB, this]; rfl
theorem l1HasR_at {B n m cap : Nat} {f : Nat → Int} {T : TypeId} {fr : Nat × Nat} {x : Int} {d : Bool} (h : hsB f m x = d) (hmn : m ≤ n) (hn : n ≤ 1000) (w : World) (g1 : w.heap[B]? = some (.cells (arr n f) T fr)) : Calls Tryz.prog 72 #[.slice (some ⟨B, 0, none⟩) m cap, .int .i64 x] w fun e w' => e = .returned (.bool d) ∧ Below w.heap.size w w' := by
  rw [← h]
  exact (l1HasR_any x hmn hn w g1).mono fun _ _ ⟨he, hw⟩ => ⟨he, hw ▸ Below.refl _ _⟩
theorem l1InB (x a b : Int) (w : World) : Calls Tryz.prog 48 #[.int .i64 x, .int .i64 a, .int .i64 b] w fun e w' => e = .returned (.bool (decide (a ≤ x ∧ x ≤ b))) ∧ Below w.heap.size w w' :=
  (l1In_any x a b w).mono fun _ _ ⟨he, hw⟩ => ⟨he, hw ▸ Below.refl _ _⟩
theorem l1In_at {x a b : Int} {d : Bool} (h : decide (a ≤ x ∧ x ≤ b) = d) (w : World) : Calls Tryz.prog 48 #[.int .i64 x, .int .i64 a, .int .i64 b] w fun e w' => e = .returned (.bool d) ∧ Below w.heap.size w w' := by
  rw [← h]
  exact l1InB x a b w
theorem l4Perm_any (f : Nat → Int) (w : World) : Calls Tryz.prog 49 #[.agg (arr 6 f)] w fun e w' => e = .returned (.bool (pB f 6)) ∧ Below w.heap.size w w' := by
  have h1 : (w.alloc (.cells (arr 6 f) 28)).heap[w.heap.size]? = some (.cells (arr 6 f) 28 (0, 0))   := heap_new rfl
  have hbel : Below w.heap.size w (w.alloc (.cells (arr 6 f) 28)) := (Below.refl _ _).alloc (by simp) _
  go_enter Tryz.func49, Tryz.ntmps49
  go_wp2_with fail
  go_loopw [3] (fun i wr => ∃ n : Nat, n ≤ 6 ∧ i = .int .i64 n ∧ pB f n = true ∧ wr.heap[w.heap.size]? = some (.cells (arr 6 f) 28 (0, 0)) ∧ Below w.heap.size w wr) (fun i _ => 6 - (intOf i).toNat)
  case atStart => exact ⟨0, by omega, rfl, rfl, h1, hbel⟩
  case round =>
    clear h1 hbel
    obtain ⟨n, hn, rfl, hok, h1, hbel⟩ := hrel
    have HOK : Hid _ := hok
    clear hok
    by_cases hlt : n < 6
    · have hlt' : (n : Int) < 6 := by omega
      have hn0 : (0 : Int) ≤ n := by omega
      have hn6 : (n : Int) ≤ 6 := by omega
      cases hd : decide (0 ≤ f n ∧ f n ≤ 5) with
      | false =>
        obtain ⟨d, hdd⟩ : ∃ d, d = false := ⟨_, rfl⟩
        have HD : Hid (decide (0 ≤ f n ∧ f n ≤ 5) = d) := by show _ = d; rw [hd, hdd]
        obtain ⟨d2, hd2⟩ : ∃ d2, hsB f n (f n) = d2 := ⟨_, rfl⟩
        have HH : Hid _ := hd2
        have HS : Hid (pB f 6 = false) := pB_no (i := n) (by rw [pB, hd, Bool.false_and, Bool.and_false]) 6 (by omega)
        clear hd hd2
        go_wp2_with fail
        refine wp_region_held 13 (Cls w _) (by kernel_rfl) (by kernel_rfl) (Cls.one h1 hbel) ?_; simp only [List.take_succ_cons, List.take_zero, List.drop_succ_cons, List.drop_zero]
        repeat (first
          | (with_reducible refine wpQuiet_loadI rfl _ _ rfl _ _ rfl (fun _ h => h.r1) aggI undI (by omega) ?_)
          | ((with_reducible refine wpQuiet_call rfl 48 _ _ rfl (.bool d) ?_ ?_ ?_); (exact enters_of Tryz.func48 (by kernel_rfl) rfl); (intro w' h'; exact (l1In_at HD.out w').mono fun _ _ ⟨he, hb⟩ => ⟨he, h'.keep hb⟩))
          | ((with_reducible refine wpQuiet_call rfl 72 _ _ rfl (.bool d2) ?_ ?_ ?_); (exact enters_of Tryz.func72 (by kernel_rfl) rfl); (intro w' h'; exact (l1HasR_at HH.out (by omega) (by omega) w' h'.r1).mono fun _ _ ⟨he, hb⟩ => ⟨he, h'.keep hb⟩))
          | ((with_reducible refine wpQuiet_step (fun K hK => ?_)); go_simp; (first | (refine ⟨_, fun _ _ => rfl, hK _ ?_⟩) | (refine ⟨_, fun _ _ => ⟨rfl, rfl⟩, hK _ ?_⟩) | (refine hK _ ?_)); clear hK K))
        refine wpQuiet_nil ?_
        intro wt hCt
        replace h1 := hCt.r1
        replace hbel := hCt.2
        clear hCt
        try rw [hdd]
        go_wp2_with fail
        go_ret
        exact ⟨ret_bool HS.out.symm, hbel⟩
      | true =>
        obtain ⟨d, hdd⟩ : ∃ d, d = true := ⟨_, rfl⟩
        have HD : Hid (decide (0 ≤ f n ∧ f n ≤ 5) = d) := by show _ = d; rw [hd, hdd]
        cases hd2 : hsB f n (f n) with
        | true =>
          obtain ⟨d2, hdd2⟩ : ∃ d2, d2 = true := ⟨_, rfl⟩
          have HH : Hid (hsB f n (f n) = d2) := by show _ = d2; rw [hd2, hdd2]
          have HS : Hid (pB f 6 = false) := pB_no (i := n) (by rw [pB, hd2, Bool.not_true, Bool.and_false, Bool.and_false]) 6 (by omega)
          clear hd hd2
          go_wp2_with fail
          refine wp_region_held 13 (Cls w _) (by kernel_rfl) (by kernel_rfl) (Cls.one h1 hbel) ?_; simp only [List.take_succ_cons, List.take_zero, List.drop_succ_cons, List.drop_zero]
          repeat (first
            | (with_reducible refine wpQuiet_loadI rfl _ _ rfl _ _ rfl (fun _ h => h.r1) aggI undI (by omega) ?_)
            | ((with_reducible refine wpQuiet_call rfl 48 _ _ rfl (.bool d) ?_ ?_ ?_); (exact enters_of Tryz.func48 (by kernel_rfl) rfl); (intro w' h'; exact (l1In_at HD.out w').mono fun _ _ ⟨he, hb⟩ => ⟨he, h'.keep hb⟩))
            | ((with_reducible refine wpQuiet_call rfl 72 _ _ rfl (.bool d2) ?_ ?_ ?_); (exact enters_of Tryz.func72 (by kernel_rfl) rfl); (intro w' h'; exact (l1HasR_at HH.out (by omega) (by omega) w' h'.r1).mono fun _ _ ⟨he, hb⟩ => ⟨he, h'.keep hb⟩))
            | ((with_reducible refine wpQuiet_step (fun K hK => ?_)); go_simp; (first | (refine ⟨_, fun _ _ => rfl, hK _ ?_⟩) | (refine ⟨_, fun _ _ => ⟨rfl, rfl⟩, hK _ ?_⟩) | (refine hK _ ?_)); clear hK K))
          refine wpQuiet_nil ?_
          intro wt hCt
          replace h1 := hCt.r1
          replace hbel := hCt.2
          clear hCt
          try rw [hdd]
          go_wp2_with fail
          go_ret
          exact ⟨ret_bool HS.out.symm, hbel⟩
        | false =>
          obtain ⟨d2, hdd2⟩ : ∃ d2, d2 = false := ⟨_, rfl⟩
          have HH : Hid (hsB f n (f n) = d2) := by show _ = d2; rw [hd2, hdd2]
          have HS : Hid (pB f (n + 1) = true) := by show pB f (n + 1) = true; rw [pB, HOK.out, hd, hd2]; rfl
          clear hd hd2
          go_wp2_with fail
          refine wp_region_held 13 (Cls w _) (by kernel_rfl) (by kernel_rfl) (Cls.one h1 hbel) ?_; simp only [List.take_succ_cons, List.take_zero, List.drop_succ_cons, List.drop_zero]
          repeat (first
            | (with_reducible refine wpQuiet_loadI rfl _ _ rfl _ _ rfl (fun _ h => h.r1) aggI undI (by omega) ?_)
            | ((with_reducible refine wpQuiet_call rfl 48 _ _ rfl (.bool d) ?_ ?_ ?_); (exact enters_of Tryz.func48 (by kernel_rfl) rfl); (intro w' h'; exact (l1In_at HD.out w').mono fun _ _ ⟨he, hb⟩ => ⟨he, h'.keep hb⟩))
            | ((with_reducible refine wpQuiet_call rfl 72 _ _ rfl (.bool d2) ?_ ?_ ?_); (exact enters_of Tryz.func72 (by kernel_rfl) rfl); (intro w' h'; exact (l1HasR_at HH.out (by omega) (by omega) w' h'.r1).mono fun _ _ ⟨he, hb⟩ => ⟨he, h'.keep hb⟩))
            | ((with_reducible refine wpQuiet_step (fun K hK => ?_)); go_simp; (first | (refine ⟨_, fun _ _ => rfl, hK _ ?_⟩) | (refine ⟨_, fun _ _ => ⟨rfl, rfl⟩, hK _ ?_⟩) | (refine hK _ ?_)); clear hK K))
          refine wpQuiet_nil ?_
          intro wt hCt
          replace h1 := hCt.r1
          replace hbel := hCt.2
          clear hCt
          try rw [hdd]
          go_wp2_with fail
          go_roundw
          case rel => exact ⟨n + 1, by omega, by go_num, HS.out, h1, hbel⟩
          case measure => simp [intOf]; omega
    · obtain rfl : n = 6 := by omega
      go_wp2_with fail
      go_ret
      exact ⟨ret_bool HOK.out.symm, hbel⟩
end Go.Proofs.YtlbgmkengkgnfaaGreat
end

section
/- A rack in another order: the program's and the reference's. -/
namespace Go.Proofs.YtlbgmkengkgnfaaGreat
set_option linter.unusedSimpArgs false
set_option linter.unusedVariables false
set_option maxRecDepth 20000
open Go.RowKit
theorem sizeO : (Tryz.prog.info? 28).map (·.size) = some 6 := by kernel_rfl
theorem aggO : aggB Tryz.prog 28 = true := by kernel_rfl
def ordF (f p : Nat → Int) : Nat → Int := fun q => f ((p (q / 4)).toNat * 4 + q % 4)
/-- Behind n tubes. -/
def oP (f p : Nat → Int) (n : Nat) : Nat → Int := fun q => if q / 4 < n then ordF f p q else 0
theorem oP_step (f p : Nat → Int) {n c : Nat} (hc : p n = c) : arr 24 (updN (oP f p n) (n * 4) 4 fun j => f (c * 4 + j)) = arr 24 (oP f p (n + 1)) := by
  refine arr_congr fun q _ => ?_
  unfold updN oP ordF
  by_cases h : n * 4 ≤ q ∧ q < n * 4 + 4
  · rw [if_pos h, if_pos (by omega), show q / 4 = n by omega, hc, Int.toNat_natCast]
    congr 1; omega
  · rw [if_neg h]
    by_cases h2 : q / 4 < n
    · rw [if_pos h2, if_pos (by omega)]
    · rw [if_neg h2, if_neg (by omega)]
theorem oP_done (f p : Nat → Int) : arr 24 (oP f p 6) = arr 24 (ordF f p) := arr_congr fun q hq => by
  unfold oP
  rw [if_pos (by omega)]
theorem oP_start (f p : Nat → Int) : arr 24 (fun _ => (0 : Int)) = arr 24 (oP f p 0) := arr_congr fun q hq => by
  unfold oP
  rw [if_neg (by omega)]
theorem l4Order_any (f p : Nat → Int) (hp : ∀ i, i < 6 → 0 ≤ p i ∧ p i ≤ 5) (w : World) : Calls Tryz.prog 60 #[.agg (arr 24 f), .agg (arr 6 p)] w fun e w' => e = .returned (.agg (arr 24 (ordF f p))) ∧ Below w.heap.size w w' := by
  have h1 : (((w.alloc (.cells (arr 24 f) 27)).alloc (.cells (arr 6 p) 28)).alloc (.cells (arr 24 fun _ => 0) 27)).heap[w.heap.size]? = some (.cells (arr 24 f) 27 (0, 0)) := by rw [heap_old (by simp <;> omega), heap_old (by simp), heap_new rfl]
  have h2 : (((w.alloc (.cells (arr 24 f) 27)).alloc (.cells (arr 6 p) 28)).alloc (.cells (arr 24 fun _ => 0) 27)).heap[w.heap.size + 1]? = some (.cells (arr 6 p) 28 (0, 0)) := by rw [heap_old (by simp), heap_new (by simp)]
  have h4 : (((w.alloc (.cells (arr 24 f) 27)).alloc (.cells (arr 6 p) 28)).alloc (.cells (arr 24 fun _ => 0) 27)).heap[w.heap.size + 1 + 1]? = some (.cells (arr 24 fun _ => 0) 27 (0, 0)) := heap_new (by simp)
  have hbel : Below w.heap.size w (((w.alloc (.cells (arr 24 f) 27)).alloc (.cells (arr 6 p) 28)).alloc (.cells (arr 24 fun _ => 0) 27)) := (((Below.refl _ _).alloc (by simp) _).alloc (by simp) _).alloc (by simp <;> omega) _
  have tok_h5 : True := trivial
  have tok_r : True := trivial
  have HP : Hid _ := hp
  clear hp
  go_enter Tryz.func60, Tryz.ntmps60
  go_wp2_with first
    | (have _t := tok_r; (with_reducible refine wpList_allocA rfl 27 rfl 24 zero24r ?_; (try simp only [size_al])); clear _t tok_r)
    | (with_reducible refine wpList_build0 rfl 27 rfl 24 zbuild24 ?_)
    | (have _t := tok_h5; with_reducible refine wpList_allocN rfl 27 rfl 24 zero24r ?_; intro Bh5 w1 hBh5 h5 hb1; have hWh5 := Nat.le_trans hbel.size hBh5; have hLh1h5 := Nat.lt_of_lt_of_le (row_lt h1) hBh5; have hLh2h5 := Nat.lt_of_lt_of_le (row_lt h2) hBh5; have hLh4h5 := Nat.lt_of_lt_of_le (row_lt h4) hBh5; replace hbel := hbel.trans (hb1.mono hbel.size); replace h1 := row_keep hb1 h1; replace h2 := row_keep hb1 h2; replace h4 := row_keep hb1 h4; clear hb1 _t tok_h5)
    | (with_reducible refine wpList_storeWN rfl _ _ _ rfl _ rfl rfl h5 size24r hbel hWh5 ?_; intro w1 g3 ho g4; replace h1 := (ho _ (by omega)).trans h1; replace h2 := (ho _ (by omega)).trans h2; replace h4 := (ho _ (by omega)).trans h4; clear h5 hbel; have h5 := g3; have hbel := g4; clear g3 g4 ho)
  rw [oP_start f p] at h5
  go_loopw [6] (fun i wr => ∃ n : Nat, n ≤ 6 ∧ i = .int .i64 n ∧ wr.heap[w.heap.size]? = some (.cells (arr 24 f) 27 (0, 0)) ∧ wr.heap[w.heap.size + 1]? = some (.cells (arr 6 p) 28 (0, 0)) ∧ wr.heap[w.heap.size + 1 + 1]? = some (.cells (arr 24 fun _ => 0) 27 (0, 0)) ∧ wr.heap[Bh5]? = some (.cells (arr 24 (oP f p n)) 27 (0, 0)) ∧ Below w.heap.size w wr) (fun i _ => 6 - (intOf i).toNat)
  case atStart => exact ⟨0, by omega, rfl, h1, h2, h4, h5, hbel⟩
  case round =>
    clear h1 h2 h4 h5 hbel
    obtain ⟨n, hn, rfl, h1, h2, h4, h5, hbel⟩ := hrel
    by_cases hlt : n < 6
    · have hlt' : (n : Int) < 6 := by omega
      obtain ⟨pa, pb⟩ := HP.out n hlt
      obtain ⟨c, hc⟩ : ∃ c : Nat, p n = c := ⟨(p n).toNat, by omega⟩
      have hc6 : c < 6 := by omega
      have hc6' : (c : Int) < 6 := by omega
      have HC : Hid _ := hc
      clear pa pb hc
      go_wp2_with first
        | ((with_reducible refine wpList_loadI rfl _ _ rfl _ _ rfl h2 aggI undI (by omega) ?_); rw [HC.out])
        | ((with_reducible refine wpList_indexI rfl _ _ _ rfl rfl rfl _ Tryz.underlying28 aggI undI size1 (by omega) ?_); rw [HC.out])
        | (with_reducible refine wpList_loadA rfl _ _ rfl _ _ rfl h1 4 agg4 size4 (by omega) ?_)
        | (with_reducible refine wpList_storePN rfl _ _ _ rfl _ _ rfl rfl h5 size4 (by omega) hbel hWh5 ?_; intro w1 g3 ho g4; replace h1 := (ho _ (by omega)).trans h1; replace h2 := (ho _ (by omega)).trans h2; replace h4 := (ho _ (by omega)).trans h4; clear h5 hbel; have h5 := g3; have hbel := g4; clear g3 g4 ho)
      rw [oP_step f p HC.out] at h5
      go_roundw
      case rel => exact ⟨n + 1, by omega, by go_num, h1, h2, h4, h5, hbel⟩
      case measure => simp [intOf]; omega
    · obtain rfl : n = 6 := by omega
      rw [oP_done] at h5
      go_wp2_with first
        | (with_reducible refine wpList_loadW rfl _ _ rfl _ rfl h5 agg24r size24r ?_)
        | (with_reducible refine wpList_storeW rfl _ _ _ rfl _ rfl rfl h4 size24r ?_)
      exact bodyPost_ret_by (results_cellA rfl _ _ _ _ _ _ _ rfl (setRow_heap _ _ _ _ _ _ h4) agg24r size24r) rfl ⟨rfl, below_setRow2 hbel (by omega) _⟩
end Go.Proofs.YtlbgmkengkgnfaaGreat
end

section
/- Renamings: the reference's test. -/
namespace Go.Proofs.YtlbgmkengkgnfaaGreat
set_option linter.unusedSimpArgs false
set_option linter.unusedVariables false
set_option maxRecDepth 20000
open Go.RowKit
theorem l4Names_any (f : Nat → Int) (w : World) : Calls Tryz.prog 30 #[.agg (arr 6 f)] w fun e w' => e = .returned (.bool ((f 0 == 0) && pB f 6)) ∧ Below w.heap.size w w' := by
  have h1 : (w.alloc (.cells (arr 6 f) 28)).heap[w.heap.size]? = some (.cells (arr 6 f) 28 (0, 0))   := heap_new rfl
  have hbel : Below w.heap.size w (w.alloc (.cells (arr 6 f) 28)) := (Below.refl _ _).alloc (by simp) _
  cases hz : f 0 == 0 with
  | true =>
    rw [Bool.true_and]
    go_enter Tryz.func30, Tryz.ntmps30
    go_wp2_with first
      | (with_reducible refine wpList_loadI rfl _ _ rfl _ _ rfl h1 aggI undI (by omega) ?_)
      | (with_reducible refine wpList_loadW rfl _ _ rfl _ rfl h1 aggO sizeO ?_)
      | (with_reducible refine wpList_loadWG rfl _ _ rfl _ rfl h1 aggO sizeO ?_)
      | (go_at_call 49; (with_reducible refine (l4Perm_any f _).mono ?_); rintro e w1 ⟨rfl, hb1⟩; replace hbel := hbel.trans (hb1.mono hbel.size); replace h1 := row_keep hb1 h1; clear hb1)
    go_ret
    exact ⟨rfl, hbel⟩
  | false =>
    rw [Bool.false_and]
    go_enter Tryz.func30, Tryz.ntmps30
    go_wp2_with first
      | (with_reducible refine wpList_loadI rfl _ _ rfl _ _ rfl h1 aggI undI (by omega) ?_)
    go_ret
    exact ⟨rfl, hbel⟩
end Go.Proofs.YtlbgmkengkgnfaaGreat
end

section
/- Orders of six: sorted they are 0 to 5. -/
namespace Go.Proofs.YtlbgmkengkgnfaaGreat
set_option linter.unusedSimpArgs false
set_option linter.unusedVariables false
set_option maxRecDepth 20000
theorem pB_iff {f : Nat → Int} : ∀ n, pB f n = true ↔ ∀ i, i < n → (0 ≤ f i ∧ f i ≤ 5) ∧ ∀ j, j < i → f j ≠ f i
  | 0 => ⟨fun _ i hi => by omega, fun _ => rfl⟩
  | n + 1 => by
    rw [pB, Bool.and_eq_true, Bool.and_eq_true, Bool.not_eq_true', decide_eq_true_iff, hsB_iff, pB_iff n]
    constructor
    · rintro ⟨h1, h2, h3⟩ i hi
      by_cases e : i = n
      · subst e; exact ⟨h2, h3⟩
      · exact h1 i (by omega)
    · intro h
      exact ⟨fun i hi => h i (by omega), (h n (by omega)).1, (h n (by omega)).2⟩
theorem ls6_nodup {f : Nat → Int} : (ls6 f).Nodup ↔ ∀ i, i < 6 → ∀ j, j < i → f j ≠ f i := by
  unfold ls6
  simp only [List.nodup_cons, List.mem_cons, List.not_mem_nil, or_false, not_or, List.nodup_nil, and_true, not_false_eq_true]
  constructor
  · intro h i hi j hj
    rcases (show i = 0 ∨ i = 1 ∨ i = 2 ∨ i = 3 ∨ i = 4 ∨ i = 5 by clear h; omega) with rfl | rfl | rfl | rfl | rfl | rfl
    · exact absurd hj (Nat.not_lt_zero j)
    · obtain rfl : j = 0 := by clear h; omega
      exact h.1.1
    · rcases (show j = 0 ∨ j = 1 by clear h; omega) with rfl | rfl <;> (obtain ⟨⟨a1, a2, a3, a4, a5⟩, ⟨b2, b3, b4, b5⟩, ⟨c3, c4, c5⟩, ⟨d4, d5⟩, e5⟩ := h; assumption)
    · rcases (show j = 0 ∨ j = 1 ∨ j = 2 by clear h; omega) with rfl | rfl | rfl <;> (obtain ⟨⟨a1, a2, a3, a4, a5⟩, ⟨b2, b3, b4, b5⟩, ⟨c3, c4, c5⟩, ⟨d4, d5⟩, e5⟩ := h; assumption)
    · rcases (show j = 0 ∨ j = 1 ∨ j = 2 ∨ j = 3 by clear h; omega) with rfl | rfl | rfl | rfl <;> (obtain ⟨⟨a1, a2, a3, a4, a5⟩, ⟨b2, b3, b4, b5⟩, ⟨c3, c4, c5⟩, ⟨d4, d5⟩, e5⟩ := h; assumption)
    · rcases (show j = 0 ∨ j = 1 ∨ j = 2 ∨ j = 3 ∨ j = 4 by clear h; omega) with rfl | rfl | rfl | rfl | rfl <;> (obtain ⟨⟨a1, a2, a3, a4, a5⟩, ⟨b2, b3, b4, b5⟩, ⟨c3, c4, c5⟩, ⟨d4, d5⟩, e5⟩ := h; assumption)
  · intro h
    have g : ∀ i j, i < 6 → j < i → ¬ f j = f i := fun i j hi hj => h i hi j hj
    exact ⟨⟨h 1 (by omega) 0 (by omega), h 2 (by omega) 0 (by omega), h 3 (by omega) 0 (by omega), h 4 (by omega) 0 (by omega), h 5 (by omega) 0 (by omega)⟩, ⟨h 2 (by omega) 1 (by omega), h 3 (by omega) 1 (by omega), h 4 (by omega) 1 (by omega), h 5 (by omega) 1 (by omega)⟩, ⟨h 3 (by omega) 2 (by omega), h 4 (by omega) 2 (by omega), h 5 (by omega) 2 (by omega)⟩, ⟨h 4 (by omega) 3 (by omega), h 5 (by omega) 3 (by omega)⟩, h 5 (by omega) 4 (by omega)⟩
theorem ls6_mem {f : Nat → Int} {x : Int} : x ∈ ls6 f ↔ ∃ i, i < 6 ∧ f i = x := by
  unfold ls6
  simp only [List.mem_cons, List.not_mem_nil, or_false]
  constructor
  · rintro (h | h | h | h | h | h)
    · exact ⟨0, by omega, h.symm⟩
    · exact ⟨1, by omega, h.symm⟩
    · exact ⟨2, by omega, h.symm⟩
    · exact ⟨3, by omega, h.symm⟩
    · exact ⟨4, by omega, h.symm⟩
    · exact ⟨5, by omega, h.symm⟩
  · rintro ⟨i, hi, rfl⟩
    have hc : i = 0 ∨ i = 1 ∨ i = 2 ∨ i = 3 ∨ i = 4 ∨ i = 5 := by omega
    rcases hc with rfl | rfl | rfl | rfl | rfl | rfl <;> simp
/-- Sorted, an order of six is 0 to 5; and nothing else is. -/
theorem perm_iff {f F : Nat → Int} (h : IsS f F) : (∀ j, j < 6 → F j = (j : Int)) ↔ pB f 6 = true := by
  rw [pB_iff]
  constructor
  · intro hF i hi
    have hn : (ls6 f).Nodup := h.1.nodup_iff.1 (ls6_nodup.2 fun i hi j hj => by rw [hF i hi, hF j (by omega)]; omega)
    refine ⟨?_, fun j hj => ls6_nodup.1 hn i hi j hj⟩
    obtain ⟨k, hk, e⟩ := ls6_mem.1 (h.1.mem_iff.2 (ls6_mem.2 ⟨i, hi, rfl⟩))
    rw [hF k hk] at e
    omega
  · intro hf
    have hn : (ls6 F).Nodup := h.1.nodup_iff.2 (ls6_nodup.2 fun i hi j hj => (hf i hi).2 j hj)
    have hd := ls6_nodup.1 hn
    have hr : ∀ i, i < 6 → 0 ≤ F i ∧ F i ≤ 5 := fun i hi => by
      obtain ⟨k, hk, e⟩ := ls6_mem.1 (h.1.mem_iff.1 (ls6_mem.2 ⟨i, hi, rfl⟩))
      rw [← e]
      exact (hf k hk).1
    have r0 := hr 0 (by omega); have r5 := hr 5 (by omega)
    have s0 := h.2 0 1 (by omega) (by omega); have s1 := h.2 1 2 (by omega) (by omega); have s2 := h.2 2 3 (by omega) (by omega); have s3 := h.2 3 4 (by omega) (by omega); have s4 := h.2 4 5 (by omega) (by omega)
    have d0 := hd 1 (by omega) 0 (by omega); have d1 := hd 2 (by omega) 1 (by omega); have d2 := hd 3 (by omega) 2 (by omega); have d3 := hd 4 (by omega) 3 (by omega); have d4 := hd 5 (by omega) 4 (by omega)
    intro j hj
    have hc : j = 0 ∨ j = 1 ∨ j = 2 ∨ j = 3 ∨ j = 4 ∨ j = 5 := by omega
    rcases hc with rfl | rfl | rfl | rfl | rfl | rfl <;> omega
end Go.Proofs.YtlbgmkengkgnfaaGreat
end

section
/- Counts of runs and of boundaries; bounds: the program's and the reference's. -/
namespace Go.Proofs.YtlbgmkengkgnfaaGreat
set_option linter.unusedSimpArgs false
set_option linter.unusedVariables false
set_option maxRecDepth 20000
open Go.RowKit
/-- The runs of the first n tubes. -/
def rsum (f : Nat → Int) : Nat → Nat
  | 0 => 0
  | n + 1 => rsum f n + rN (tub f n) (nlay (tub f n))
theorem rsum_le (f : Nat → Int) : ∀ n, rsum f n ≤ 4 * n
  | 0 => by simp [rsum]
  | n + 1 => by
    have := rsum_le f n
    have := rN_le (tub f n) (nlay (tub f n))
    have := nlay_le (tub f n)
    unfold rsum
    omega
/-- The boundaries of the first n tubes. -/
def bsum (f : Nat → Int) : Nat → Nat
  | 0 => 0
  | n + 1 => bsum f n + (rN (tub f n) (nlay (tub f n)) - 1)
theorem bsum_le (f : Nat → Int) : ∀ n, bsum f n ≤ 3 * n
  | 0 => by simp [bsum]
  | n + 1 => by
    have := bsum_le f n
    have := rN_le (tub f n) (nlay (tub f n))
    have := nlay_le (tub f n)
    unfold bsum
    omega
variable {P : Program}
theorem wpQuiet_indexI {ops : Array Oper} {C : World → Prop} {rest : List Oper} {o : Oper} {a : Act} {Q : Act → Prop} (hw : Region.wanted o (yielded ops a.tmps) = true) (ty : TypeId) (x y : Operand) (ho : o.op = .index ty x y)
    {N : Nat} {g : Nat → Int} (hx : a.eval x = .agg (arr N g)) {k : Nat} (hy : a.eval y = .int .i64 k) (e : TypeId) (hu : P.underlying ty = some (.array N e)) (hd : aggB P e = false) (hue : (P.underlying e).isSome = true)
    (hi : (P.info? e).map (·.size) = some 1) (hk : k < N) (h : wpQuiet P ops C Q rest (a.put o.dst (.int .i64 (g k)))) : wpQuiet P ops C Q (o :: rest) a := by
  refine wpQuiet_value _ hw (fun w _ => ?_) h
  have hagg : (isAgg e).run P w = .ok false w := by
    unfold aggB at hd
    unfold isAgg
    cases hq : P.underlying e with
    | none => simp [hq] at hue
    | some d =>
      rw [Sem.run_bind, run_underlying hq w]
      cases d <;> simp_all
  have hg := arr_get N g k
  rw [if_pos hk] at hg
  have hr : (Instr.index ty (.agg (arr N g)) (.int .i64 k)).run P w = .ok (.int .i64 (g k)) w := by
    cases hq : P.info? e with
    | none => simp [hq] at hi
    | some i =>
      have hs : i.size = 1 := by simpa [hq] using hi
      simp [Instr.index, asIntOf, Sem.run_bind, run_underlying hu, part, hagg, sizeOf, typeInfo, hq, hs, hk, hg]
  unfold execOp
  simp only [ho, hx, hy, Sem.run_bind, hr, Result.andThen_ok, Sem.run_pure]
/-- Runs less tubes, and the empty ones again, are the boundaries. -/
theorem bsum_eq {f : Nat → Int} (hf : rackB f = true) : ∀ n, n ≤ 6 → (bsum f n : Int) = (rsum f n : Int) - n + tally (fun i => f (i * 4)) n 0
  | 0, _ => by simp [bsum, rsum, tally]
  | n + 1, h => by
    have ih := bsum_eq hf n (by omega)
    have ht := tube_of_rack hf (show n ≤ 5 by omega)
    have hc := cell_of_rack hf (show n < 6 by omega) (k := 0) (by omega)
    rw [tally_succ]
    unfold bsum rsum upd
    have hz : nlay (tub f n) = 0 ↔ f (n * 4) = 0 := by
      unfold nlay tub
      constructor
      · intro h; by_cases h0 : f (n * 4 + 0) = 0
        · exact h0
        · rw [if_neg h0] at h; (repeat' split at h) <;> omega
      · intro h; rw [if_pos (by exact h)]
    by_cases h0 : nlay (tub f n) = 0
    · have h1 := hz.1 h0
      rw [h0, show rN (tub f n) 0 = 0 from rfl, if_pos (by rw [h1]; rfl), show (f (n * 4)).toNat = 0 by rw [h1]; rfl]
      push_cast
      omega
    · have h1 : ¬ f (n * 4) = 0 := fun e => h0 (hz.2 e)
      have h2 := rN_pos (tub f n) (nlay (tub f n)) (by omega)
      have h3 : 0 ≤ f (n * 4) := hc.1
      rw [if_neg (by omega)]
      push_cast
      omega
def cbOf (f : Nat → Int) : Int × Bool := if rackB f = true then ((bsum f 6 : Nat), true) else (0, false)
def crOf (f : Nat → Int) : Int × Bool := if rackB f = true then ((rsum f 6 : Nat), true) else (0, false)
end Go.Proofs.YtlbgmkengkgnfaaGreat
end

section
/- Bounds and spare runs: the program's and the reference's, and the laws. -/
namespace Go.Proofs.YtlbgmkengkgnfaaGreat
set_option linter.unusedSimpArgs false
set_option linter.unusedVariables false
set_option maxRecDepth 20000
open Go.RowKit
/-- What stands above one, of the first n. -/
def esum (g : Nat → Int) : Nat → Nat
  | 0 => 0
  | n + 1 => esum g n + (g (1 + n) - 1).toNat
theorem esum_le {g : Nat → Int} (hg : ∀ j, 0 ≤ g j ∧ g j ≤ 24) : ∀ n, esum g n ≤ 24 * n
  | 0 => by simp [esum]
  | n + 1 => by
    have := esum_le hg n
    have := hg (1 + n)
    unfold esum
    omega
/-- How many of the first n are there. -/
def dsum (g : Nat → Int) : Nat → Nat
  | 0 => 0
  | n + 1 => dsum g n + if 0 < g (1 + n) then 1 else 0
theorem dsum_le (g : Nat → Int) : ∀ n, dsum g n ≤ n
  | 0 => by simp [dsum]
  | n + 1 => by
    have := dsum_le g n
    unfold dsum
    split <;> omega
def botF (f : Nat → Int) : Nat → Int := tally (fun i => f (i * 4)) 6
theorem botF_bd (f : Nat → Int) : ∀ j, 0 ≤ botF f j ∧ botF f j ≤ 24 := fun j => by have := tally_bd (fun i => f (i * 4)) 6 j; unfold botF; omega
def bndF (f : Nat → Int) : Nat := bsum f 6 + esum (botF f) 5
def bndOf (f : Nat → Int) : Int × Bool := if rackB f = true then ((bndF f : Nat), true) else (0, false)
end Go.Proofs.YtlbgmkengkgnfaaGreat
end

section
/- Pours: the program's and the reference's. -/
namespace Go.Proofs.YtlbgmkengkgnfaaGreat
set_option linter.unusedSimpArgs false
set_option linter.unusedVariables false
set_option maxRecDepth 20000
open Go.RowKit
theorem l1Least_any (x y : Int) (w : World) : Calls Tryz.prog 83 #[.int .i64 x, .int .i64 y] w fun e w' => e = .returned (.int .i64 (min x y)) ∧ w = w' := by
  by_cases h : x < y
  · go_enter Tryz.func83, Tryz.ntmps83
    go_wp2
    go_ret
    exact ⟨ret_int (by omega), rfl⟩
  · go_enter Tryz.func83, Tryz.ntmps83
    go_wp2
    go_ret
    exact ⟨ret_int (by omega), rfl⟩
theorem l2Pour_any (f : Nat → Int) (hf : rackB f = true) (n m : Nat) (hn : n ≤ 5) (hm : m ≤ 5) (hnm : n ≠ m) (w : World) : Calls Tryz.prog 62 #[.agg (arr 24 f), .int .i64 n, .int .i64 m] w fun e w' => e = .returned (.tuple #[.agg (arr 24 (pourF f n m)), .int .i64 (mvd f n m : Nat)]) ∧ Below w.heap.size w w' := by
  have h1 : ((w.alloc (.cells (arr 24 f) 27)).alloc (.cells (arr 24 fun _ => 0) 27)).heap[w.heap.size]? = some (.cells (arr 24 f) 27 (0, 0)) := by rw [heap_old (by simp), heap_new rfl]
  have h2 : ((w.alloc (.cells (arr 24 f) 27)).alloc (.cells (arr 24 fun _ => 0) 27)).heap[w.heap.size + 1]? = some (.cells (arr 24 fun _ => 0) 27 (0, 0)) := heap_new (by simp)
  have hbel : Below w.heap.size w ((w.alloc (.cells (arr 24 f) 27)).alloc (.cells (arr 24 fun _ => 0) 27)) := ((Below.refl _ _).alloc (by simp) _).alloc (by simp) _
  have ti := tube_of_rack hf hn
  have tj := tube_of_rack hf hm
  have n1 : (n : Int) < 6 := by omega
  have n2 : (m : Int) < 6 := by omega
  obtain ⟨l1, l2, l3⟩ := mvd_le (j := m) ti
  have hs := tpF_sign ti
  have k1 := nlay_le (tub f n)
  have k2 := nlay_le (tub f m)
  have HMV : Hid (min (tpF (tub f n)).2 (4 - (nlay (tub f m) : Int)) = ((mvd f n m : Nat) : Int)) := by show min _ _ = _; unfold mvd; omega
  obtain ⟨N, hN⟩ : ∃ N, nlay (tub f n) = N := ⟨_, rfl⟩
  obtain ⟨T, hT⟩ : ∃ T, nlay (tub f m) = T := ⟨_, rfl⟩
  obtain ⟨M, hM⟩ : ∃ M, mvd f n m = M := ⟨_, rfl⟩
  have HP : Hid (pourF f n m = pS f n m M ∧ mvd f n m = M) := ⟨by unfold pourF; rw [hM], hM⟩
  have HS : Hid (∀ k, pS f n m (k + 1) = upd (upd (pS f n m k) (n * 4 + (N - 1 - k)) 0) (m * 4 + (T + k)) (tpF (tub f n)).1) := fun k => by rw [← hN, ← hT]; rfl
  have HN : Hid _ := hN
  have HT : Hid _ := hT
  rw [hN] at l1 k1
  rw [hT] at l2 k2
  rw [hM] at l1 l2 l3
  have s1 := hs.2.2.2.2.1
  have s2 : (tpF (tub f n)).2 ≤ 4 := by have := hs.2.2.2.2.2; rw [hN] at this; omega
  clear hN hT hs
  go_enter Tryz.func62, Tryz.ntmps62
  go_wp2_with first
    | (with_reducible refine wpList_allocA rfl 27 rfl 24 zero24r ?_; (try simp only [size_al]))
    | (with_reducible refine wpList_loadA rfl _ _ rfl _ _ rfl h1 4 agg4 size4 (by omega) ?_)
    | (go_at_call 81; (with_reducible refine (l2Top_any (tub f n) ti _).mono ?_); rintro e w1 ⟨rfl, hb1⟩; replace hbel := hbel.trans (hb1.mono hbel.size); replace h1 := row_keep hb1 h1; replace h2 := row_keep hb1 h2; clear hb1)
  refine wp_region_held 12 (Cls w1 []) (by kernel_rfl) (by kernel_rfl) (Cls.zero (Below.refl _ _)) ?_; simp only [List.take_succ_cons, List.take_zero, List.drop_succ_cons, List.drop_zero]
  repeat (first
    | (with_reducible refine wpQuiet_loadA rfl _ _ rfl _ _ rfl (fun _ h => h.kp h1) 4 agg4 size4 (by omega) ?_)
    | ((with_reducible refine wpQuiet_callE rfl 82 _ _ rfl (.int .i64 (nlay (tub f n) : Nat)) (#[.agg (arr 4 (tub f n))]) rfl ?_ ?_ ?_); (exact enters_of Tryz.func82 (by kernel_rfl) rfl); (intro w' h'; with_reducible exact (l2Many_ok (tub f n) ti w').mono fun _ _ ⟨he, hb⟩ => ⟨he, h'.keep hb⟩))
    | ((with_reducible refine wpQuiet_callE rfl 82 _ _ rfl (.int .i64 (nlay (tub f m) : Nat)) (#[.agg (arr 4 (tub f m))]) rfl ?_ ?_ ?_); (exact enters_of Tryz.func82 (by kernel_rfl) rfl); (intro w' h'; with_reducible exact (l2Many_ok (tub f m) tj w').mono fun _ _ ⟨he, hb⟩ => ⟨he, h'.keep hb⟩))
    | ((with_reducible refine wpQuiet_step (fun K hK => ?_)); go_simp; (first | (refine ⟨_, fun _ _ => rfl, hK _ ?_⟩) | (refine ⟨_, fun _ _ => ⟨rfl, rfl⟩, hK _ ?_⟩) | (refine hK _ ?_)); clear hK K))
  refine wpQuiet_nil ?_; intro wt hCt; replace hCt := hCt.2; replace hbel := hbel.trans (hCt.mono hbel.size); replace h1 := row_keep hCt h1; replace h2 := row_keep hCt h2; clear hCt
  rw [HN.out, HT.out]
  have HMV2 := HMV.out
  rw [HT.out, HP.out.2] at HMV2
  have HM2 : Hid _ := HMV2
  clear HMV2
  go_wp2_with first
    | (go_at_call 83; (with_reducible refine (l1Least_any _ _ _).mono ?_); rw [HM2.out]; rintro e w1 ⟨rfl, rfl⟩)
  go_loopw [13] (fun i wr => ∃ k : Nat, k ≤ M ∧ i = .int .i64 k ∧ wr.heap[w.heap.size]? = some (.cells (arr 24 (pS f n m k)) 27 (0, 0)) ∧ wr.heap[w.heap.size + 1]? = some (.cells (arr 24 fun _ => 0) 27 (0, 0)) ∧ Below w.heap.size w wr) (fun i _ => 4 - (intOf i).toNat)
  case atStart => exact ⟨0, by omega, rfl, h1, h2, hbel⟩
  case round =>
    clear h1 h2 hbel
    obtain ⟨k, hk, rfl, h1, h2, hbel⟩ := hrel
    by_cases hlt : k < M
    · have hlt' : (k : Int) < (M : Int) := by omega
      have e1 : N - 1 - k < 4 := by omega
      have e2 : T + k < 4 := by omega
      have e3 : ((N - 1 - k : Nat) : Int) < 4 := by omega
      have e4 : (T : Int) + (k : Int) < 4 := by omega
      have e5 : k + 1 ≤ N := by omega
      have q1 := setRow_heap wr _ _ (arr 24 (upd (pS f n m k) (n * 4 + (N - 1 - k)) 0)) _ _ h1
      go_wp2_with first
        | (with_reducible refine wpList_storeI rfl 3 _ _ rfl _ _ rfl rfl h1 size1 (by omega) ?_)
        | (with_reducible refine wpList_storeI rfl 3 _ _ rfl _ _ rfl rfl q1 size1 (by omega) ?_)
      go_roundw
      case rel =>
        refine ⟨k + 1, by omega, by go_num, ?_, ?_, below_setRow2 (below_setRow2 hbel (by omega) _) (by omega) _⟩
        · rw [setRow_heap _ _ _ _ _ _ q1, HS.out]
        · rw [setRow_other _ _ _ _ (by omega), setRow_other _ _ _ _ (by omega), h2]
      case measure => simp [intOf]; omega
    · obtain rfl : k = M := by omega
      have h3 := h2
      go_wp2_with first
        | (with_reducible refine wpList_loadW rfl _ _ rfl _ rfl h1 agg24r size24r ?_)
        | (with_reducible refine wpList_storeW rfl _ _ _ rfl _ rfl rfl h3 size24r ?_)
      refine bodyPost_ret_by (results_ct _ _ _ _ _ _ _ rfl rfl (setRow_heap _ _ _ _ _ _ h2) agg24r size24r) rfl ⟨?_, below_setRow2 hbel (by omega) _⟩
      rw [HP.out.1, HP.out.2]
      rfl
/-- Is a pour undone by the one back? -/
def undF (f : Nat → Int) (i j : Nat) : Bool := canF (pourF f i j) j i && eqv 24 (pourF (pourF f i j) j i) f
end Go.Proofs.YtlbgmkengkgnfaaGreat
end

section
/- The order of tubes and of racks: the program's comparisons. -/
namespace Go.Proofs.YtlbgmkengkgnfaaGreat
set_option linter.unusedSimpArgs false
set_option linter.unusedVariables false
set_option maxRecDepth 20000
open Go.RowKit
theorem lexC_val (a b : Nat → Int) : ∀ k, lexC a b k = 0 ∨ lexC a b k = -1 ∨ lexC a b k = 1
  | 0 => .inl rfl
  | k + 1 => by
    have := lexC_val a b k
    simp only [lexC]
    split
    · exact this
    · split
      · simp
      · split <;> simp
theorem lexC_shift {a b : Nat → Int} {n : Nat} (h : lexC a b n = 0) : ∀ k, lexC a b (n + k) = lexC (fun j => a (n + j)) (fun j => b (n + j)) k
  | 0 => h
  | k + 1 => by
    have ih := lexC_shift h k
    rw [show n + (k + 1) = (n + k) + 1 from rfl]
    simp only [lexC, ih]
theorem lexC_stop {a b : Nat → Int} {n : Nat} (h : lexC a b n ≠ 0) : ∀ k, lexC a b (n + k) = lexC a b n
  | 0 => rfl
  | k + 1 => by
    have ih := lexC_stop h k
    rw [show n + (k + 1) = (n + k) + 1 from rfl]
    simp only [lexC, ih, if_pos h]
def c3 (x y : Int) : Int := if x < y then -1 else if y < x then 1 else 0
theorem lexC_next {a b : Nat → Int} {n : Nat} (h : lexC a b n = 0) : lexC a b (n + 1) = c3 (a n) (b n) := by
  simp only [lexC, h, c3]
  simp
theorem isNaN_int (x : Int) (w : World) : Calls Tryz.prog 118 #[.int .i64 x] w fun e w' => e = .returned (.bool false) ∧ w = w' := by
  go_enter Tryz.func118, Tryz.ntmps118
  go_wp2_with fail
  go_ret
  simp
theorem cmpI_any (x y : Int) (w : World) : Calls Tryz.prog 103 #[.int .i64 x, .int .i64 y] w fun e w' => e = .returned (.int .i64 (c3 x y)) ∧ w = w' := by
  unfold c3
  by_cases h : x < y
  · rw [if_pos h]
    go_enter Tryz.func103, Tryz.ntmps103
    go_wp2_with first
      | (go_at_call 118; (with_reducible refine (isNaN_int _ _).mono ?_); rintro e w' ⟨rfl, rfl⟩)
    go_ret
    exact ⟨rfl, rfl⟩
  · rw [if_neg h]
    by_cases h2 : y < x
    · rw [if_pos h2]
      go_enter Tryz.func103, Tryz.ntmps103
      go_wp2_with first
        | (go_at_call 118; (with_reducible refine (isNaN_int _ _).mono ?_); rintro e w' ⟨rfl, rfl⟩)
      go_ret
      exact ⟨rfl, rfl⟩
    · rw [if_neg h2]
      go_enter Tryz.func103, Tryz.ntmps103
      go_wp2_with first
        | (go_at_call 118; (with_reducible refine (isNaN_int _ _).mono ?_); rintro e w' ⟨rfl, rfl⟩)
      go_ret
      exact ⟨rfl, rfl⟩
theorem cmpS_any {B1 o1 c1 n1 B2 o2 c2 n2 n : Nat} {f g : Nat → Int} {T1 T2 : TypeId} {fr1 fr2 : Nat × Nat} (w : World) (h1 : w.heap[B1]? = some (.cells (arr n1 f) T1 fr1)) (h2 : w.heap[B2]? = some (.cells (arr n2 g) T2 fr2)) (hl1 : o1 + n ≤ n1) (hl2 : o2 + n ≤ n2) (hm : n ≤ 1000) :
    Calls Tryz.prog 87 #[.slice (some ⟨B1, o1, none⟩) n c1, .slice (some ⟨B2, o2, none⟩) n c2] w fun e w' => e = .returned (.int .i64 (lexC (fun j => f (o1 + j)) (fun j => g (o2 + j)) n)) ∧ w = w' := by
  go_enter Tryz.func87, Tryz.ntmps87
  go_wp2_with fail
  go_loop [11] (fun i => ∃ k : Nat, k ≤ n ∧ i = .int .i64 k ∧ lexC (fun j => f (o1 + j)) (fun j => g (o2 + j)) k = 0) (fun i => n - (intOf i).toNat)
  case atStart => exact ⟨0, by omega, rfl, rfl⟩
  case round =>
    obtain ⟨k, hk, rfl, h0⟩ := hrel
    by_cases hlt : k < n
    · have hlt' : (k : Int) < (n : Int) := by omega
      have hc1 := rowcell h1 (i := o1 + k) (by omega)
      have hc2 := rowcell h2 (i := o2 + k) (by omega)
      have HN : Hid (lexC (fun j => f (o1 + j)) (fun j => g (o2 + j)) (k + 1) = c3 (f (o1 + k)) (g (o2 + k))) := lexC_next h0
      by_cases hz : c3 (f (o1 + k)) (g (o2 + k)) = 0
      · have HZ : Hid _ := hz
        clear hz h0
        go_wp2_with first
          | (go_at_call 103; (with_reducible refine (cmpI_any _ _ _).mono ?_); rw [HZ.out]; rintro e w' ⟨rfl, rfl⟩)
        go_round
        case rel => exact ⟨k + 1, by omega, by go_num, by rw [HN.out]; exact HZ.out⟩
        case measure => simp [intOf]; omega
      · have HS : Hid (lexC (fun j => f (o1 + j)) (fun j => g (o2 + j)) n = c3 (f (o1 + k)) (g (o2 + k))) := by
          have := lexC_stop (a := fun j => f (o1 + j)) (b := fun j => g (o2 + j)) (n := k + 1) (by rw [HN.out]; exact hz) (n - (k + 1))
          rw [show k + 1 + (n - (k + 1)) = n by omega, HN.out] at this
          exact this
        obtain ⟨z, hzz⟩ : ∃ z, c3 (f (o1 + k)) (g (o2 + k)) = z := ⟨_, rfl⟩
        rw [hzz] at hz
        have HZ : Hid _ := hzz
        have hzd : (z != 0) = true := by simpa using hz
        clear hzz h0
        go_wp2_with first
          | (go_at_call 103; (with_reducible refine (cmpI_any _ _ _).mono ?_); rw [HZ.out]; rintro e w' ⟨rfl, rfl⟩)
        go_ret
        exact ⟨ret_int (HZ.out.symm.trans HS.out.symm), rfl⟩
    · obtain rfl : k = n := by omega
      have H0 : Hid _ := h0
      clear h0
      go_wp2_with fail
      go_ret
      exact ⟨ret_int H0.out.symm, rfl⟩
/-- Two tubes compared. -/
theorem cmpTubes_any (f g : Nat → Int) (w : World) : Calls Tryz.prog 67 #[.agg (arr 4 f), .agg (arr 4 g)] w fun e w' => e = .returned (.int .i64 (lexC f g 4)) ∧ Below w.heap.size w w' := by
  have h1 : ((w.alloc (.cells (arr 4 f) 24)).alloc (.cells (arr 4 g) 24)).heap[w.heap.size]? = some (.cells (arr 4 f) 24 (0, 0)) := by rw [heap_old (by simp), heap_new rfl]
  have h2 : ((w.alloc (.cells (arr 4 f) 24)).alloc (.cells (arr 4 g) 24)).heap[w.heap.size + 1]? = some (.cells (arr 4 g) 24 (0, 0)) := heap_new (by simp)
  have hbel : Below w.heap.size w ((w.alloc (.cells (arr 4 f) 24)).alloc (.cells (arr 4 g) 24)) := ((Below.refl _ _).alloc (by simp) _).alloc (by simp) _
  have HZ : Hid (lexC (fun j => f (0 + j)) (fun j => g (0 + j)) 4 = lexC f g 4) := by
    show lexC (fun j => f (0 + j)) (fun j => g (0 + j)) 4 = lexC f g 4
    simp only [Nat.zero_add]
  go_enter Tryz.func67, Tryz.ntmps67
  go_wp2_with fail
  refine wp_region_held 3 (Cls w _) (by kernel_rfl) (by kernel_rfl) (Cls.two h1 h2 hbel) ?_; simp only [List.take_succ_cons, List.take_zero, List.drop_succ_cons, List.drop_zero]
  repeat (first
    | ((with_reducible refine wpQuiet_call rfl 87 _ _ rfl (.int .i64 (lexC f g 4)) ?_ ?_ ?_); (exact enters_of Tryz.func87 (by kernel_rfl) rfl); (intro w' h'; refine (cmpS_any w' h'.r1 h'.r2 (by omega) (by omega) (by omega)).mono fun _ _ ⟨he, hb⟩ => ⟨he.trans (ret_int HZ.out), hb ▸ h'⟩))
    | ((with_reducible refine wpQuiet_step (fun K hK => ?_)); go_simp; (first | (refine ⟨_, fun _ _ => rfl, hK _ ?_⟩) | (refine ⟨_, fun _ _ => ⟨rfl, rfl⟩, hK _ ?_⟩) | (refine hK _ ?_)); clear hK K))
  refine wpQuiet_nil ?_
  intro wt hCt
  replace hbel := hCt.2
  go_wp2_with first
    | fail
  go_ret
  exact ⟨rfl, hbel⟩
/-- Two racks' tubes compared. -/
theorem cmpFunc_any {B1 o1 c1 n1 B2 o2 c2 n2 n : Nat} {f g : Nat → Int} {T1 T2 : TypeId} {fr1 fr2 : Nat × Nat} (w : World) (h1 : w.heap[B1]? = some (.cells (arr n1 f) T1 fr1)) (h2 : w.heap[B2]? = some (.cells (arr n2 g) T2 fr2)) (hl1 : o1 + 4 * n ≤ n1) (hl2 : o2 + 4 * n ≤ n2) (hm : n ≤ 1000) :
    Calls Tryz.prog 79 #[.slice (some ⟨B1, o1, none⟩) n c1, .slice (some ⟨B2, o2, none⟩) n c2, .func (.func 67) #[] #[]] w fun e w' => e = .returned (.int .i64 (lexC (fun j => f (o1 + j)) (fun j => g (o2 + j)) (n * 4))) ∧ Below w.heap.size w w' := by
  have hbel : Below w.heap.size w w := Below.refl _ _
  go_enter Tryz.func79, Tryz.ntmps79
  go_wp2_with fail
  go_loopw [13] (fun i wr => ∃ k : Nat, k ≤ n ∧ i = .int .i64 k ∧ lexC (fun j => f (o1 + j)) (fun j => g (o2 + j)) (k * 4) = 0 ∧ wr.heap[B1]? = some (.cells (arr n1 f) T1 fr1) ∧ wr.heap[B2]? = some (.cells (arr n2 g) T2 fr2) ∧ Below w.heap.size w wr) (fun i _ => n - (intOf i).toNat)
  case atStart => exact ⟨0, by omega, rfl, by rw [Nat.zero_mul]; rfl, h1, h2, hbel⟩
  case round =>
    clear h1 h2 hbel
    obtain ⟨k, hk, rfl, h0, h1, h2, hbel⟩ := hrel
    by_cases hlt : k < n
    · have hlt' : (k : Int) < (n : Int) := by omega
      have hs := lexC_shift h0 4
      have HN : Hid (lexC (fun j => f (o1 + j)) (fun j => g (o2 + j)) ((k + 1) * 4) = lexC (fun l => f (o1 + k * 4 + l)) (fun l => g (o2 + k * 4 + l)) 4) := by
        show lexC (fun j => f (o1 + j)) (fun j => g (o2 + j)) ((k + 1) * 4) = _
        rw [show (k + 1) * 4 = k * 4 + 4 by omega, hs]
        simp only [Nat.add_assoc]
      clear hs
      have tok_h8 : True := trivial
      have tok_h9 : True := trivial
      have hW1 := row_lt h1
      have hW2 := row_lt h2
      by_cases hz : lexC (fun l => f (o1 + k * 4 + l)) (fun l => g (o2 + k * 4 + l)) 4 = 0
      · have HZ : Hid _ := hz
        clear hz h0
        go_wp2_with first
          | (with_reducible refine wpList_loadA rfl _ _ rfl _ _ rfl h1 4 agg4 size4 (by omega) ?_)
          | (with_reducible refine wpList_loadA rfl _ _ rfl _ _ rfl h2 4 agg4 size4 (by omega) ?_)
          | (have _t := tok_h8; with_reducible refine wpList_allocN rfl 24 rfl 4 zero4 ?_; intro Bh8 w1 hBh8 h8 hb1; have hWh8 := Nat.le_trans hbel.size hBh8; have hLh1h8 := Nat.lt_of_lt_of_le (row_lt h1) hBh8; have hLh2h8 := Nat.lt_of_lt_of_le (row_lt h2) hBh8; replace hbel := hbel.trans (hb1.mono hbel.size); replace h1 := row_keep hb1 h1; replace h2 := row_keep hb1 h2; clear hb1 _t tok_h8)
          | (with_reducible refine wpList_storeWN rfl _ _ _ rfl _ rfl rfl h8 size4 hbel hWh8 ?_; intro w1 g3 ho g4; replace h1 := (ho _ (by omega)).trans h1; replace h2 := (ho _ (by omega)).trans h2; clear h8 hbel; have h8 := g3; have hbel := g4; clear g3 g4 ho)
          | (have _t := tok_h9; with_reducible refine wpList_allocN rfl 24 rfl 4 zero4 ?_; intro Bh9 w1 hBh9 h9 hb1; have hWh9 := Nat.le_trans hbel.size hBh9; have hLh1h9 := Nat.lt_of_lt_of_le (row_lt h1) hBh9; have hLh2h9 := Nat.lt_of_lt_of_le (row_lt h2) hBh9; have hLh8h9 := Nat.lt_of_lt_of_le (row_lt h8) hBh9; replace hbel := hbel.trans (hb1.mono hbel.size); replace h1 := row_keep hb1 h1; replace h2 := row_keep hb1 h2; replace h8 := row_keep hb1 h8; clear hb1 _t tok_h9)
          | (with_reducible refine wpList_storeWN rfl _ _ _ rfl _ rfl rfl h9 size4 hbel hWh9 ?_; intro w1 g3 ho g4; replace h1 := (ho _ (by omega)).trans h1; replace h2 := (ho _ (by omega)).trans h2; replace h8 := (ho _ (by omega)).trans h8; clear h9 hbel; have h9 := g3; have hbel := g4; clear g3 g4 ho)
          | (with_reducible refine wpList_loadW rfl _ _ rfl _ rfl h8 agg4 size4 ?_)
          | (with_reducible refine wpList_loadW rfl _ _ rfl _ rfl h9 agg4 size4 ?_)
          | (with_reducible refine (cmpTubes_any _ _ _).mono ?_; rw [HZ.out]; rintro e w1 ⟨rfl, hb1⟩; replace hbel := hbel.trans (hb1.mono hbel.size); replace h1 := row_keep hb1 h1; replace h2 := row_keep hb1 h2; clear hb1)
        go_roundw
        case rel => exact ⟨k + 1, by omega, by go_num, by rw [HN.out]; exact HZ.out, h1, h2, hbel⟩
        case measure => simp [intOf]; omega
      · obtain ⟨z, hzz⟩ : ∃ z, lexC (fun l => f (o1 + k * 4 + l)) (fun l => g (o2 + k * 4 + l)) 4 = z := ⟨_, rfl⟩
        have HS : Hid (lexC (fun j => f (o1 + j)) (fun j => g (o2 + j)) (n * 4) = z) := by
          have := lexC_stop (a := fun j => f (o1 + j)) (b := fun j => g (o2 + j)) (n := (k + 1) * 4) (by rw [HN.out]; exact hz) (n * 4 - (k + 1) * 4)
          rw [show (k + 1) * 4 + (n * 4 - (k + 1) * 4) = n * 4 by omega, HN.out, hzz] at this
          exact this
        rw [hzz] at hz
        have HZ : Hid _ := hzz
        have hzd : (z != 0) = true := by simpa using hz
        clear hzz h0
        go_wp2_with first
          | (with_reducible refine wpList_loadA rfl _ _ rfl _ _ rfl h1 4 agg4 size4 (by omega) ?_)
          | (with_reducible refine wpList_loadA rfl _ _ rfl _ _ rfl h2 4 agg4 size4 (by omega) ?_)
          | (have _t := tok_h8; with_reducible refine wpList_allocN rfl 24 rfl 4 zero4 ?_; intro Bh8 w1 hBh8 h8 hb1; have hWh8 := Nat.le_trans hbel.size hBh8; have hLh1h8 := Nat.lt_of_lt_of_le (row_lt h1) hBh8; have hLh2h8 := Nat.lt_of_lt_of_le (row_lt h2) hBh8; replace hbel := hbel.trans (hb1.mono hbel.size); replace h1 := row_keep hb1 h1; replace h2 := row_keep hb1 h2; clear hb1 _t tok_h8)
          | (with_reducible refine wpList_storeWN rfl _ _ _ rfl _ rfl rfl h8 size4 hbel hWh8 ?_; intro w1 g3 ho g4; replace h1 := (ho _ (by omega)).trans h1; replace h2 := (ho _ (by omega)).trans h2; clear h8 hbel; have h8 := g3; have hbel := g4; clear g3 g4 ho)
          | (have _t := tok_h9; with_reducible refine wpList_allocN rfl 24 rfl 4 zero4 ?_; intro Bh9 w1 hBh9 h9 hb1; have hWh9 := Nat.le_trans hbel.size hBh9; have hLh1h9 := Nat.lt_of_lt_of_le (row_lt h1) hBh9; have hLh2h9 := Nat.lt_of_lt_of_le (row_lt h2) hBh9; have hLh8h9 := Nat.lt_of_lt_of_le (row_lt h8) hBh9; replace hbel := hbel.trans (hb1.mono hbel.size); replace h1 := row_keep hb1 h1; replace h2 := row_keep hb1 h2; replace h8 := row_keep hb1 h8; clear hb1 _t tok_h9)
          | (with_reducible refine wpList_storeWN rfl _ _ _ rfl _ rfl rfl h9 size4 hbel hWh9 ?_; intro w1 g3 ho g4; replace h1 := (ho _ (by omega)).trans h1; replace h2 := (ho _ (by omega)).trans h2; replace h8 := (ho _ (by omega)).trans h8; clear h9 hbel; have h9 := g3; have hbel := g4; clear g3 g4 ho)
          | (with_reducible refine wpList_loadW rfl _ _ rfl _ rfl h8 agg4 size4 ?_)
          | (with_reducible refine wpList_loadW rfl _ _ rfl _ rfl h9 agg4 size4 ?_)
          | (with_reducible refine (cmpTubes_any _ _ _).mono ?_; rw [HZ.out]; rintro e w1 ⟨rfl, hb1⟩; replace hbel := hbel.trans (hb1.mono hbel.size); replace h1 := row_keep hb1 h1; replace h2 := row_keep hb1 h2; clear hb1)
        go_ret
        exact ⟨ret_int HS.out.symm, hbel⟩
    · obtain rfl : k = n := by omega
      have H0 : Hid _ := h0
      clear h0
      go_wp2_with fail
      go_ret
      exact ⟨ret_int H0.out.symm, hbel⟩
theorem cmpRacks_any (f g : Nat → Int) (w : World) : Calls Tryz.prog 57 #[.agg (arr 24 f), .agg (arr 24 g)] w fun e w' => e = .returned (.int .i64 (lexC f g 24)) ∧ Below w.heap.size w w' := by
  have h1 : ((w.alloc (.cells (arr 24 f) 27)).alloc (.cells (arr 24 g) 27)).heap[w.heap.size]? = some (.cells (arr 24 f) 27 (0, 0)) := by rw [heap_old (by simp), heap_new rfl]
  have h2 : ((w.alloc (.cells (arr 24 f) 27)).alloc (.cells (arr 24 g) 27)).heap[w.heap.size + 1]? = some (.cells (arr 24 g) 27 (0, 0)) := heap_new (by simp)
  have hbel : Below w.heap.size w ((w.alloc (.cells (arr 24 f) 27)).alloc (.cells (arr 24 g) 27)) := ((Below.refl _ _).alloc (by simp) _).alloc (by simp) _
  have HZ : Hid (lexC (fun j => f (0 + j)) (fun j => g (0 + j)) (6 * 4) = lexC f g 24) := by
    show lexC (fun j => f (0 + j)) (fun j => g (0 + j)) 24 = lexC f g 24
    simp only [Nat.zero_add]
  go_enter Tryz.func57, Tryz.ntmps57
  go_wp2_with fail
  refine wp_region_held 5 (Cls w _) (by kernel_rfl) (by kernel_rfl) (Cls.two h1 h2 hbel) ?_; simp only [List.take_succ_cons, List.take_zero, List.drop_succ_cons, List.drop_zero]
  repeat (first
    | ((with_reducible refine wpQuiet_call rfl 79 _ _ rfl (.int .i64 (lexC f g 24)) ?_ ?_ ?_); (exact enters_of Tryz.func79 (by kernel_rfl) rfl); (intro w' h'; refine (cmpFunc_any (n := 6) w' h'.r1 h'.r2 (by omega) (by omega) (by omega)).mono fun _ _ ⟨he, hb⟩ => ⟨he.trans (ret_int HZ.out), h'.keep hb⟩))
    | ((with_reducible refine wpQuiet_step (fun K hK => ?_)); go_simp; (first | (refine ⟨_, fun _ _ => rfl, hK _ ?_⟩) | (refine ⟨_, fun _ _ => ⟨rfl, rfl⟩, hK _ ?_⟩) | (refine hK _ ?_)); clear hK K))
  refine wpQuiet_nil ?_
  intro wt hCt
  replace hbel := hCt.2
  go_wp2_with first
    | fail
  go_ret
  exact ⟨rfl, hbel⟩
theorem lexC_neg {a b : Nat → Int} {n : Nat} (h : lexC a b n = 0) (hne : a n ≠ b n) {m : Nat} (hm : n < m) : decide (lexC a b m < 0) = decide (a n < b n) := by
  have h1 := lexC_next h
  have hz : lexC a b (n + 1) ≠ 0 := by
    rw [h1]; unfold c3
    split
    · omega
    · split
      · omega
      · omega
  have h2 := lexC_stop hz (m - (n + 1))
  rw [show n + 1 + (m - (n + 1)) = m by omega] at h2
  rw [h2, h1, Bool.eq_iff_iff, decide_eq_true_iff, decide_eq_true_iff]
  unfold c3
  split
  · omega
  · split <;> omega
theorem l2Before_any (f g : Nat → Int) (w : World) : Calls Tryz.prog 58 #[.agg (arr 24 f), .agg (arr 24 g)] w fun e w' => e = .returned (.bool (decide (lexC f g 24 < 0))) ∧ Below w.heap.size w w' := by
  have h1 : ((w.alloc (.cells (arr 24 f) 27)).alloc (.cells (arr 24 g) 27)).heap[w.heap.size]? = some (.cells (arr 24 f) 27 (0, 0)) := by rw [heap_old (by simp), heap_new rfl]
  have h2 : ((w.alloc (.cells (arr 24 f) 27)).alloc (.cells (arr 24 g) 27)).heap[w.heap.size + 1]? = some (.cells (arr 24 g) 27 (0, 0)) := heap_new (by simp)
  have hbel : Below w.heap.size w ((w.alloc (.cells (arr 24 f) 27)).alloc (.cells (arr 24 g) 27)) := ((Below.refl _ _).alloc (by simp) _).alloc (by simp) _
  go_enter Tryz.func58, Tryz.ntmps58
  go_wp2_with fail
  go_loopw [5] (fun i wr => ∃ k : Nat, k ≤ 6 ∧ i = .int .i64 k ∧ lexC f g (k * 4) = 0 ∧ wr.heap[w.heap.size]? = some (.cells (arr 24 f) 27 (0, 0)) ∧ wr.heap[w.heap.size + 1]? = some (.cells (arr 24 g) 27 (0, 0)) ∧ Below w.heap.size w wr) (fun i _ => 6 - (intOf i).toNat)
  case atStart => exact ⟨0, by omega, rfl, rfl, h1, h2, hbel⟩
  case round =>
    clear h1 h2 hbel
    obtain ⟨k, hk, rfl, h0, h1, h2, hbel⟩ := hrel
    obtain ⟨wo, hwo⟩ : ∃ wo : World, wo = wr := ⟨_, rfl⟩
    rw [← hwo] at h1 h2 hbel ⊢
    clear hwo
    by_cases hlt : k < 6
    · have hlt' : (k : Int) < 6 := by omega
      have hk0 : (0 : Int) ≤ k := by omega
      go_wp2_with fail
      go_loopw [6] (fun i wr => ∃ j : Nat, j ≤ 4 ∧ i = .int .i64 j ∧ lexC f g (k * 4 + j) = 0 ∧ wr.heap[w.heap.size]? = some (.cells (arr 24 f) 27 (0, 0)) ∧ wr.heap[w.heap.size + 1]? = some (.cells (arr 24 g) 27 (0, 0)) ∧ Below w.heap.size w wr) (fun i _ => 4 - (intOf i).toNat)
      case atStart => exact ⟨0, by omega, rfl, h0, h1, h2, hbel⟩
      case round =>
        clear h1 h2 hbel h0
        obtain ⟨j, hj, rfl, h0, h1, h2, hbel⟩ := hrel
        by_cases hjt : j < 4
        · have hjt' : (j : Int) < 4 := by omega
          by_cases he : f (k * 4 + j) = g (k * 4 + j)
          · have HS : Hid (lexC f g (k * 4 + (j + 1)) = 0) := by
              show lexC f g (k * 4 + j + 1) = 0
              rw [lexC_next h0, he]
              simp [c3]
            have hed : (f (k * 4 + j) != g (k * 4 + j)) = false := by simpa using he
            clear he h0
            go_wp2_with fail
            refine wp_region_held 13 (Cls w _) (by kernel_rfl) (by kernel_rfl) (Cls.two h1 h2 hbel) ?_; simp only [List.take_succ_cons, List.take_zero, List.drop_succ_cons, List.drop_zero]
            repeat (first
              | (with_reducible refine wpQuiet_loadI rfl _ _ rfl _ _ rfl (fun _ h => h.r1) aggI undI (by omega) ?_)
              | (with_reducible refine wpQuiet_loadI rfl _ _ rfl _ _ rfl (fun _ h => h.r2) aggI undI (by omega) ?_)
              | ((with_reducible refine wpQuiet_step (fun K hK => ?_)); go_simp; (first | (refine ⟨_, fun _ _ => rfl, hK _ ?_⟩) | (refine ⟨_, fun _ _ => ⟨rfl, rfl⟩, hK _ ?_⟩) | (refine hK _ ?_)); clear hK K))
            refine wpQuiet_nil ?_
            intro wt hCt
            replace h1 := hCt.r1
            replace h2 := hCt.r2
            replace hbel := hCt.2
            clear hCt
            go_wp2_with fail
            go_roundw
            case rel => exact ⟨j + 1, by omega, by go_num, HS.out, h1, h2, hbel⟩
            case measure => simp [intOf]; omega
          · have hed : (f (k * 4 + j) != g (k * 4 + j)) = true := by simpa using he
            have HS : Hid (decide (lexC f g 24 < 0) = decide (f (k * 4 + j) < g (k * 4 + j))) := lexC_neg h0 he (by omega)
            clear he h0
            go_wp2_with fail
            refine wp_region_held 13 (Cls w _) (by kernel_rfl) (by kernel_rfl) (Cls.two h1 h2 hbel) ?_; simp only [List.take_succ_cons, List.take_zero, List.drop_succ_cons, List.drop_zero]
            repeat (first
              | (with_reducible refine wpQuiet_loadI rfl _ _ rfl _ _ rfl (fun _ h => h.r1) aggI undI (by omega) ?_)
              | (with_reducible refine wpQuiet_loadI rfl _ _ rfl _ _ rfl (fun _ h => h.r2) aggI undI (by omega) ?_)
              | ((with_reducible refine wpQuiet_step (fun K hK => ?_)); go_simp; (first | (refine ⟨_, fun _ _ => rfl, hK _ ?_⟩) | (refine ⟨_, fun _ _ => ⟨rfl, rfl⟩, hK _ ?_⟩) | (refine hK _ ?_)); clear hK K))
            refine wpQuiet_nil ?_
            intro wt hCt
            replace h1 := hCt.r1
            replace h2 := hCt.r2
            replace hbel := hCt.2
            clear hCt
            go_wp2_with fail
            refine wp_region_held 13 (Cls w _) (by kernel_rfl) (by kernel_rfl) (Cls.two h1 h2 hbel) ?_; simp only [List.take_succ_cons, List.take_zero, List.drop_succ_cons, List.drop_zero]
            repeat (first
              | (with_reducible refine wpQuiet_loadI rfl _ _ rfl _ _ rfl (fun _ h => h.r1) aggI undI (by omega) ?_)
              | (with_reducible refine wpQuiet_loadI rfl _ _ rfl _ _ rfl (fun _ h => h.r2) aggI undI (by omega) ?_)
              | ((with_reducible refine wpQuiet_step (fun K hK => ?_)); go_simp; (first | (refine ⟨_, fun _ _ => rfl, hK _ ?_⟩) | (refine ⟨_, fun _ _ => ⟨rfl, rfl⟩, hK _ ?_⟩) | (refine hK _ ?_)); clear hK K))
            refine wpQuiet_nil ?_
            intro wt hCt
            replace h1 := hCt.r1
            replace h2 := hCt.r2
            replace hbel := hCt.2
            clear hCt
            go_wp2_with fail
            go_ret
            exact ⟨ret_bool HS.out.symm, hbel⟩
        · obtain rfl : j = 4 := by omega
          have HS : Hid (lexC f g ((k + 1) * 4) = 0) := by show lexC f g ((k + 1) * 4) = 0; rw [show (k + 1) * 4 = k * 4 + 4 by omega]; exact h0
          clear h0
          go_wp2_with fail
          go_roundw
          case rel => exact ⟨k + 1, by omega, by go_num, HS.out, h1, h2, hbel⟩
          case measure => simp [intOf]; omega
    · obtain rfl : k = 6 := by omega
      have H0 : Hid (decide (lexC f g 24 < 0) = false) := by show decide (lexC f g 24 < 0) = false; rw [show lexC f g 24 = 0 from h0]; rfl
      clear h0
      go_wp2_with fail
      go_ret
      exact ⟨ret_bool H0.out.symm, hbel⟩
def lessR (f g : Nat → Int) : Bool × Bool := if rackB f = true ∧ rackB g = true then (decide (lexC f g 24 < 0), true) else (false, false)
end Go.Proofs.YtlbgmkengkgnfaaGreat
end

section
/- First forms: plain laws for the walks. -/
namespace Go.Proofs.YtlbgmkengkgnfaaGreat
set_option linter.unusedSimpArgs false
set_option linter.unusedVariables false
set_option maxRecDepth 20000
theorem ren_rack {f s : Nat → Int} (hf : rackB f = true) (hs : isRen s) : rackB (renF f s) = true := by
  have hc := cellB_of_rack hf
  rw [rackB_iff] at hf ⊢
  intro i hi
  have h := (tubeB_iff f i).1 (hf i hi)
  rw [tubeB_iff]
  intro k hk
  have hb := hc (i * 4 + k) (by omega)
  refine ⟨hs.2.1 _ (by omega), fun h0 hp => ?_⟩
  have hb2 := hc (i * 4 + (k - 1)) (by omega)
  have h2 := (h k hk).2 h0
  unfold renF at hp ⊢
  have hx : 0 < f (i * 4 + k) := by
    rcases Int.lt_or_le 0 (f (i * 4 + k)) with h3 | h3
    · exact h3
    · exfalso
      have e : f (i * 4 + k) = 0 := by omega
      rw [e] at hp
      have := hs.1
      simp only [Int.toNat_zero] at hp
      omega
  intro e
  have e2 : s (f (i * 4 + (k - 1))).toNat = s 0 := by rw [e, hs.1]
  have := hs.2.2 _ _ (by omega) (by omega) e2
  exact h2 hx (by omega)
/-- The number of the first i tubes. -/
def keyP (F : Nat → Int) : Nat → Int
  | 0 => 0
  | i + 1 => keyP F i * 1296 + cod (tub F i)
theorem keyP_key (F : Nat → Int) : keyP F 6 = key F := by
  have e : keyP F 6 = (((((0 * 1296 + cod (tub F 0)) * 1296 + cod (tub F 1)) * 1296 + cod (tub F 2)) * 1296 + cod (tub F 3)) * 1296 + cod (tub F 4)) * 1296 + cod (tub F 5) := rfl
  rw [e, Int.zero_mul, Int.zero_add]
  rfl
theorem lex_key {F G : Nat → Int} (hF : cellB F) (hG : cellB G) : ∀ i, i ≤ 6 → (lexC F G (4 * i) < 0 ↔ keyP F i < keyP G i) ∧ (lexC F G (4 * i) = 0 ↔ keyP F i = keyP G i)
  | 0, _ => ⟨by simp [lexC, keyP], by simp [lexC, keyP]⟩
  | i + 1, h => by
    obtain ⟨h1, h2⟩ := lex_key hF hG i (by omega)
    have cF := tub_cell hF (i := i) (by omega)
    have cG := tub_cell hG (i := i) (by omega)
    have bF := cod_bd cF
    have bG := cod_bd cG
    have hc := lexC_cod cF cG
    show (lexC F G (4 * i + 4) < 0 ↔ keyP F i * 1296 + cod (tub F i) < keyP G i * 1296 + cod (tub G i)) ∧ (lexC F G (4 * i + 4) = 0 ↔ keyP F i * 1296 + cod (tub F i) = keyP G i * 1296 + cod (tub G i))
    by_cases h0 : lexC F G (4 * i) = 0
    · rw [lexC_shift h0 4, show (fun j => F (4 * i + j)) = tub F i from funext fun j => by unfold tub; rw [Nat.mul_comm], show (fun j => G (4 * i + j)) = tub G i from funext fun j => by unfold tub; rw [Nat.mul_comm]]
      have e := h2.1 h0
      constructor
      · rw [hc.1]; constructor <;> intro <;> omega
      · rw [hc.2]; constructor <;> intro <;> omega
    · rw [lexC_stop h0 4]
      have e : keyP F i ≠ keyP G i := fun e => h0 (h2.2 e)
      constructor
      · rw [h1]; constructor <;> intro <;> omega
      · constructor
        · intro h; exact absurd h h0
        · intro h; omega
theorem lex_key24 {F G : Nat → Int} (hF : cellB F) (hG : cellB G) : decide (lexC F G 24 < 0) = decide (key F < key G) := by
  have := (lex_key hF hG 6 (Nat.le_refl _)).1
  rw [keyP_key, keyP_key] at this
  rw [Bool.eq_iff_iff, decide_eq_true_iff, decide_eq_true_iff]
  exact this
theorem nm_at {n j : Nat} (hn : n < 120) (hj : j < 6) : fls 6 (nmL.map fnL) (n * 6 + j) = nmS n j := by
  rw [fls_at _ hj]
  unfold nmS
  rw [List.getD_eq_getElem?_getD, List.getD_eq_getElem?_getD, List.getElem?_map, List.getElem?_eq_getElem (by rw [nmL_len]; exact hn)]
  rfl
theorem nm_arr {F : Nat → Int} (hF : ∀ j, j < 120 * 6 → F j = fls 6 (nmL.map fnL) j) {n : Nat} (hn : n < 120) : arr 6 (fun j => F (n * 6 + j)) = arr 6 (nmS n) :=
  arr_congr fun j hj => (hF _ (by omega)).trans (nm_at hn hj)
theorem nm_ren {n : Nat} (hn : n < 120) : isRen (nmS n) := nmS_all.1 n hn
end Go.Proofs.YtlbgmkengkgnfaaGreat
end
