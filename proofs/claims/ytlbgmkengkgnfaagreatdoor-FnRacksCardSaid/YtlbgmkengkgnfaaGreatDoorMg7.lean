/- A part (number 7) of the proof of the law FnRacks: what each of its sections proves stands in the section's own first remark. No conditions beside those that each theorem states. -/
import Derived.Test.YtlbgmkengkgnfaaGreatDoorMg3
import Derived.Stop.Looks
import Derived.Test.YtlbgmkengkgnfaaGreatDoorMg4
import Derived.Test.YtlbgmkengkgnfaaGreatDoorMg5
section
/- A region that draws its order: pure operations and readers are walked first; what is left is walked as it comes up. -/
namespace Go.Proofs.YtlbgmkengkgnfaaGreatDoor
set_option linter.unusedSimpArgs false
set_option linter.unusedVariables false
set_option maxRecDepth 20000
open Go.RowKit
variable {P : Program}
def setL : Array Bool → List Nat → Array Bool
  | listed, [] => listed
  | listed, k :: ks => setL (listed.setIfInBounds k true) ks
def segLB (md : Region.Mode) (ops : Array Oper) (ok : Nat → Bool) : List Nat → Array Bool → Bool
  | [], _ => true
  | k :: ks, listed => (Region.ready md ops listed).contains k && freeB md ops ok listed k && segLB md ops ok ks (listed.setIfInBounds k true)
theorem wpAnyI_segL {md : Region.Mode} {ops : Array Oper} {hd st : Nat → Bool} {C : World → Prop} {K1 : Act → World → Prop} (hs : Region.noSelect ops = true) (hst : ∀ j, st j = true → ∀ oj, ops[j]? = some oj → Pres P C oj) (fuel : Nat) {w : World} (hw : C w) :
    ∀ (ks : List Nat) (l : List Oper) (listed : Array Bool) (a : Act), ks.map (ops[·]?) = l.map some → segLB md ops (fun j => hd j || st j) ks listed = true →
      wpCalm P ops C (fun a' => wpAnyI P md ops hd C (QN K1) fuel (setL listed ks) a' w) l a → wpAnyI P md ops hd C (QN K1) (fuel + ks.length) listed a w
  | [], [], _, _, _, _, h => h
  | [], _ :: _, _, _, hl, _, _ => by simp at hl
  | _ :: _, [], _, _, hl, _, _ => by simp at hl
  | k :: ks, o :: l, listed, a, hl, hB, h => by
    simp only [List.map_cons, List.cons.injEq] at hl
    have h0 : ops[k]? = some o := hl.1
    simp only [segLB, Bool.and_eq_true] at hB
    obtain ⟨⟨hr, hf⟩, hB'⟩ := hB
    obtain ⟨v, hy, hK⟩ : ∃ v, CalmIn P ops C o v a ∧ wpCalm P ops C (fun a' => wpAnyI P md ops hd C (QN K1) fuel (setL listed (k :: ks)) a' w) l (a.put o.dst v) := by
      unfold wpCalm at h
      by_cases hw : Region.wanted o (yielded ops a.tmps) = true
      · rw [if_pos hw] at h
        obtain ⟨v, h1, h2⟩ := h
        exact ⟨v, .inl ⟨hw, h1⟩, h2⟩
      · rw [if_neg hw] at h
        exact ⟨undef, .inr ⟨by simpa using hw, rfl⟩, h⟩
    refine wpAnyI_first h0 (Region.noSelect_spec hs) (fuel + ks.length) listed a w (fun j oj hoj hne hun hno => ?_) (by simpa using hr) hy hw
      (wpAnyI_segL hs hst fuel hw ks l _ _ hl.2 hB' hK)
    have h1 := List.all_eq_true.1 hf j (List.mem_range.2 (Array.getElem?_eq_some_iff.1 hoj).1)
    simp only [h0, hoj, Bool.or_eq_true, beq_iff_eq, hne, false_or, hun, Bool.false_eq_true, Bool.and_eq_true] at h1
    rcases h1 with h1 | ⟨h1, h2⟩
    · obtain ⟨oj', ho', e, he, hb, heq⟩ := Region.waitsFor_spec h1
      rw [hoj] at ho'; cases ho'
      exact absurd heq (hno e he hb)
    · exact ⟨h1, h2.imp id fun h => hst j h oj hoj⟩
/-- The same by lists of operations; what is left is walked as it comes up. -/
theorem wp_region_fork {id : Nat} {Q : Exit → Act → World → Prop} {a : Act} {w : World} {l : List Oper} (is0 is1 st : List Nat) (m : Nat) (f0 f1 : List Oper → List Oper) (C : World → Prop) (hm : P.follows .mixedOrders = true)
    (hB : (Region.noSelect l.toArray && segLB .any l.toArray (fun _ => true) is0 (allF l.length) && segLB .any l.toArray (fun j => is1.contains j || st.contains j) is1 (setL (allF l.length) is0)
      && (List.range l.length).all (fun i => !is1.contains i || (setL (setL (allF l.length) is0) is1).getD i true) && decide (m + is1.length + is0.length = l.length)) = true)
    (hf0 : is0.map (l.toArray[·]?) = (f0 l).map some) (hf1 : is1.map (l.toArray[·]?) = (f1 l).map some)
    (hst0 : PresAll P C l.toArray st) (hC : C { w with drawn := w.drawn + 1 })
    (h : wpCalm P l.toArray (fun _ => True) (fun a1 => wpCalm P l.toArray C (fun a' => wpAny P .any l.toArray (QN (Q .normal)) m (setL (setL (allF l.length) is0) is1) a' { w with drawn := w.drawn + 1 }) (f1 l) a1) (f0 l) a) : (Code.region id l.toArray true).wp P Q a w := by
  have hst := hst0.at
  simp only [Bool.and_eq_true, decide_eq_true_eq] at hB
  obtain ⟨⟨⟨⟨hs, h1⟩, h2⟩, h3⟩, h5⟩ := hB
  refine Code.wp_mono QN.imp ?_
  refine wp_region_any hm ?_
  have hseg2 : ∀ a1, wpCalm P l.toArray C (fun a' => wpAny P .any l.toArray (QN (Q .normal)) m (setL (setL (allF l.length) is0) is1) a' { w with drawn := w.drawn + 1 }) (f1 l) a1 →
      wpAny P .any l.toArray (QN (Q .normal)) (m + is1.length) (setL (allF l.length) is0) a1 { w with drawn := w.drawn + 1 } := fun a1 ha => by
    refine wpAny_of_I _ _ _ _ (wpAnyI_segL (P := P) (md := .any) (hd := fun j => is1.contains j) (st := fun j => st.contains j) (C := C) (K1 := Q .normal) hs hst m hC is1 (f1 l) (setL (allF l.length) is0) a1 hf1 h2 ?_)
    refine wpCalm_mono ?_ _ _ ha
    intro a' ha'
    refine wpAnyI_of_any _ _ _ _ (fun i hi hs' => ?_) ha'
    have := List.all_eq_true.1 h3 i (List.mem_range.2 (by simpa using hs'))
    have hi' : i ∈ is1 := by simpa using hi
    simpa [hi'] using this
  have := wpAnyI_segL (P := P) (md := .any) (hd := fun _ => false) (st := fun _ => true) (C := fun _ => True) (K1 := Q .normal) hs (fun j _ oj _ => Pres.top oj) (m + is1.length) (w := { w with drawn := w.drawn + 1 }) trivial is0 (f0 l) (allF l.length) a
    hf0 (by simpa using h1) ?_
  · rw [h5] at this
    have := wpAny_of_I _ _ _ _ this
    unfold allF at this
    simpa using this
  · refine wpCalm_mono ?_ _ _ h
    intro a1 ha1
    exact wpAnyI_of_any _ _ _ _ (fun i hi => by simp at hi) (hseg2 a1 ha1)
section
variable {md : Region.Mode} {ops : Array Oper} {K : Act → World → Prop} {fuel : Nat} {listed : Array Bool} {a : Act} {w : World}
theorem wpOp_of_list {i : Nat} {oi : Oper} (ho : ops[i]? = some oi) (h : wpList P ops (QN fun a' w' => wpAny P md ops (QN K) fuel (listed.setIfInBounds i true) a' w') [oi] a w) :
    wpOp P ops (QN K) i (wpAny P md ops (QN K) fuel (listed.setIfInBounds i true)) a w := by
  unfold wpList at h
  unfold wpOp
  simp only [ho]
  split
  · rename_i hw
    simp only [hw, if_true] at h
    rcases h with h | ⟨_, _, _, hl⟩
    · refine .inl ?_
      unfold Oper.wp at *
      generalize (execOp a.eval oi).run P w = r at *
      cases r with
      | ok n w' =>
        cases n <;> simp only [Oper.upon] at h ⊢
        case enter f args =>
          refine h.mono fun e w'' he => ?_
          cases e <;> exact he
        all_goals exact h
      | halt x w' => cases x <;> simp only [Oper.upon] at h ⊢ <;> exact h
    · exact hl.elim
  · rename_i hw
    simp only [hw] at h
    exact h
theorem wpAny_end (hr : Region.ready md ops listed = []) (h : K a w) : wpAny P md ops (QN K) 0 listed a w := ⟨hr, h⟩
theorem wpAny_fork1 (i : Nat) {oi : Oper} (hr : Region.ready md ops listed = [i]) (ho : ops[i]? = some oi) (h : wpList P ops (QN fun a' w' => wpAny P md ops (QN K) fuel (listed.setIfInBounds i true) a' w') [oi] a w) : wpAny P md ops (QN K) (fuel + 1) listed a w :=
  ⟨fun h0 => (by rw [h0] at hr; cases hr), fun j hj => by
    rw [hr] at hj
    simp only [List.mem_singleton] at hj
    subst hj
    exact wpOp_of_list ho h⟩
theorem wpAny_fork2 (i j : Nat) {oi oj : Oper} (hr : Region.ready md ops listed = [i, j]) (ho : ops[i]? = some oi) (ho2 : ops[j]? = some oj) (h : wpList P ops (QN fun a' w' => wpAny P md ops (QN K) fuel (listed.setIfInBounds i true) a' w') [oi] a w)
    (h2 : wpList P ops (QN fun a' w' => wpAny P md ops (QN K) fuel (listed.setIfInBounds j true) a' w') [oj] a w) : wpAny P md ops (QN K) (fuel + 1) listed a w :=
  ⟨fun h0 => (by rw [h0] at hr; cases hr), fun k hk => by
    rw [hr] at hk
    simp only [List.mem_cons, List.not_mem_nil, or_false] at hk
    rcases hk with rfl | rfl
    · exact wpOp_of_list ho h
    · exact wpOp_of_list ho2 h2⟩
theorem wpAny_fork3 (i j k : Nat) {oi oj ok : Oper} (hr : Region.ready md ops listed = [i, j, k]) (ho : ops[i]? = some oi) (ho2 : ops[j]? = some oj) (ho3 : ops[k]? = some ok) (h : wpList P ops (QN fun a' w' => wpAny P md ops (QN K) fuel (listed.setIfInBounds i true) a' w') [oi] a w)
    (h2 : wpList P ops (QN fun a' w' => wpAny P md ops (QN K) fuel (listed.setIfInBounds j true) a' w') [oj] a w) (h3 : wpList P ops (QN fun a' w' => wpAny P md ops (QN K) fuel (listed.setIfInBounds k true) a' w') [ok] a w) : wpAny P md ops (QN K) (fuel + 1) listed a w :=
  ⟨fun h0 => (by rw [h0] at hr; cases hr), fun x hk => by
    rw [hr] at hk
    simp only [List.mem_cons, List.not_mem_nil, or_false] at hk
    rcases hk with rfl | rfl | rfl
    · exact wpOp_of_list ho h
    · exact wpOp_of_list ho2 h2
    · exact wpOp_of_list ho3 h3⟩
end
theorem loadAt_looks (ty : TypeId) (x : Value) : (Instr.loadAt ty x).Looks := by
  unfold Instr.loadAt
  refine Sem.Looks.bind ?_ fun a => ?_
  · unfold Instr.sureAddr
    cases x <;> first | trivial | skip
    rename_i p
    cases p <;> first | trivial | skip
  · unfold loadVar
    refine Sem.Looks.bind ?_ fun b => ?_
    · unfold isAgg
      exact (underlying_looks ty).bind fun d => by cases d <;> trivial
    · cases b
      · exact load_looks _ _
      · exact (sizeOf_looks ty).bind fun n => (loadCells_looks _ n).bind fun c => trivial
theorem Pres.load {o : Oper} {C : World → Prop} (ty : TypeId) (x : Operand) (ho : o.op = .load ty x) : Pres P C o := fun a w K K1 hw h => by
  have e : (execOp a.eval o).run P w = ((Instr.loadAt ty (a.eval x)).run P w).andThen fun v w' => .ok (.value v) w' := by
    unfold execOp
    simp only [ho, Sem.run_bind, Sem.run_pure]
  unfold Oper.wp at *
  rw [e] at h ⊢
  cases hr : (Instr.loadAt ty (a.eval x)).run P w with
  | ok v w' =>
    rw [hr] at h
    have := (loadAt_looks ty (a.eval x)).ok hr
    subst this
    exact ⟨hw, h⟩
  | halt y w' =>
    rw [hr] at h
    cases y <;> simp only [Result.andThen, Oper.upon] at h ⊢ <;> exact h
/-- A new zero row, by name. -/
theorem wpList_allocN {ops : Array Oper} {rest : List Oper} {o : Oper} {a : Act} {w : World} {Q : Exit → Act → World → Prop} (hgd : o.guard = none) (ty : TypeId) (ho : o.op = .alloc ty) (n : Nat)
    (hz : ((P.info? ty).bind (·.zero)).map (·.cells) = some (arr n fun _ => 0))
    (h : ∀ B w', w.heap.size ≤ B → w'.heap[B]? = some (.cells (arr n fun _ => 0) ty (0, 0)) → Below w.heap.size w w' → wpList P ops Q rest (a.put o.dst (.pointer (some ⟨B, 0, none⟩))) w') : wpList P ops Q (o :: rest) a w :=
  wpList_allocA hgd ty ho n hz (h _ _ (Nat.le_refl _) (heap_new rfl) ((Below.refl _ _).alloc (Nat.le_refl _) _))
/-- A whole row is overwritten; behind it the world is a name. -/
theorem wpList_storeWN {ops : Array Oper} {rest : List Oper} {o : Oper} {a : Act} {w : World} {Q : Exit → Act → World → Prop} (hgd : o.guard = none) (ty : TypeId) (x y : Operand) (ho : o.op = .store ty x y)
    (B : Nat) (hx : a.eval x = .pointer (some ⟨B, 0, none⟩)) {n : Nat} {g : Nat → Int} (hy : a.eval y = .agg (arr n g)) {T : TypeId} {f : Nat → Int} (hg : w.heap[B]? = some (.cells (arr n f) T (0, 0)))
    (hi : (P.info? ty).map (·.size) = some n) {k : Nat} {w0 : World} (hb : Below k w0 w) (hk : k ≤ B)
    (h : ∀ w', w'.heap[B]? = some (.cells (arr n g) T (0, 0)) → (∀ B', B' ≠ B → w'.heap[B']? = w.heap[B']?) → Below k w0 w' → wpList P ops Q rest (a.put o.dst undef) w') : wpList P ops Q (o :: rest) a w :=
  wpList_storeW hgd ty x y ho B hx hy hg hi (h _ (setRow_heap _ _ _ _ _ _ hg) (fun B' hB => setRow_other _ _ _ _ hB) (below_setRow2 hb hk _))
/-- A part of a row is overwritten; behind it the world is a name. -/
theorem wpList_storePN {ops : Array Oper} {rest : List Oper} {o : Oper} {a : Act} {w : World} {Q : Exit → Act → World → Prop} (hgd : o.guard = none) (ty : TypeId) (x y : Operand) (ho : o.op = .store ty x y)
    (B off : Nat) (hx : a.eval x = .pointer (some ⟨B, off, none⟩)) {m : Nat} {g : Nat → Int} (hy : a.eval y = .agg (arr m g)) {T : TypeId} {n : Nat} {f : Nat → Int} (hg : w.heap[B]? = some (.cells (arr n f) T (0, 0)))
    (hi : (P.info? ty).map (·.size) = some m) (hle : off + m ≤ n) {k : Nat} {w0 : World} (hb : Below k w0 w) (hk : k ≤ B)
    (h : ∀ w', w'.heap[B]? = some (.cells (arr n (updN f off m g)) T (0, 0)) → (∀ B', B' ≠ B → w'.heap[B']? = w.heap[B']?) → Below k w0 w' → wpList P ops Q rest (a.put o.dst undef) w') : wpList P ops Q (o :: rest) a w :=
  wpList_storeA hgd ty x y ho B off hx hy hg hi hle (h _ (setRow_heap _ _ _ _ _ _ hg) (fun B' hB => setRow_other _ _ _ _ hB) (below_setRow2 hb hk _))
end Go.Proofs.YtlbgmkengkgnfaaGreatDoor
end

section
/- One int of a row is overwritten. -/
namespace Go.Proofs.YtlbgmkengkgnfaaGreatDoor
set_option linter.unusedSimpArgs false
set_option linter.unusedVariables false
set_option maxRecDepth 20000
open Go.RowKit
variable {P : Program} in
/-- One int of a row is overwritten; behind it the world is a name. -/
theorem wpList_storePI {ops : Array Oper} {rest : List Oper} {o : Oper} {a : Act} {w : World} {Q : Exit → Act → World → Prop} (hgd : o.guard = none) (ty : TypeId) (x y : Operand) (ho : o.op = .store ty x y)
    (B off : Nat) (hx : a.eval x = .pointer (some ⟨B, off, none⟩)) {v : Int} (hy : a.eval y = .int .i64 v) {T : TypeId} {n : Nat} {f : Nat → Int} (hg : w.heap[B]? = some (.cells (arr n f) T (0, 0)))
    (hi : (P.info? ty).map (·.size) = some 1) (hle : off < n) {k : Nat} {w0 : World} (hb : Below k w0 w) (hk : k ≤ B)
    (h : ∀ w', w'.heap[B]? = some (.cells (arr n (upd f off v)) T (0, 0)) → (∀ B', B' ≠ B → w'.heap[B']? = w.heap[B']?) → Below k w0 w' → wpList P ops Q rest (a.put o.dst undef) w') : wpList P ops Q (o :: rest) a w :=
  wpList_storeI hgd ty x y ho B off hx hy hg hi hle (h _ (setRow_heap _ _ _ _ _ _ hg) (fun B' hB => setRow_other _ _ _ _ hB) (below_setRow2 hb hk _))
end Go.Proofs.YtlbgmkengkgnfaaGreatDoor
end

section
/- A region that draws its order: every order is walked, pure operations are taken first as they come up; what comes out is told by one relation. -/
namespace Go.Proofs.YtlbgmkengkgnfaaGreatDoor
set_option linter.unusedSimpArgs false
set_option linter.unusedVariables false
set_option maxRecDepth 20000
open Go.RowKit
section
variable {P : Program} {ops : Array Oper} {K : Act → World → Prop} {fuel : Nat} {listed : Array Bool} {a : Act} {w : World}
theorem wpAny_peel {md : Region.Mode} (ks : List Nat) (l : List Oper) (hs : Region.noSelect ops = true) (hl : ks.map (ops[·]?) = l.map some) (hB : segLB md ops (fun _ => true) ks listed = true)
    (h : wpCalm P ops (fun _ => True) (fun a' => wpAny P md ops (QN K) fuel (setL listed ks) a' w) l a) : wpAny P md ops (QN K) (fuel + ks.length) listed a w := by
  refine wpAny_of_I _ _ _ _ (wpAnyI_segL (P := P) (md := md) (hd := fun _ => false) (st := fun _ => true) (C := fun _ => True) (K1 := K) hs (fun j _ oj _ => Pres.top oj) fuel (w := w) trivial ks l listed a hl (by simpa using hB) ?_)
  refine wpCalm_mono ?_ _ _ h
  intro a1 ha1
  exact wpAnyI_of_any _ _ _ _ (fun i hi => by simp at hi) ha1
theorem wpAny_peel2 {md : Region.Mode} (i j : Nat) {oi oj : Oper} (hs : Region.noSelect ops = true) (ho : ops[i]? = some oi) (ho2 : ops[j]? = some oj) (hB : segLB md ops (fun _ => true) [i, j] listed = true)
    (h : wpCalm P ops (fun _ => True) (fun a' => wpAny P md ops (QN K) fuel (setL listed [i, j]) a' w) [oi, oj] a) : wpAny P md ops (QN K) (fuel + 2) listed a w :=
  wpAny_peel [i, j] [oi, oj] hs (by simp [ho, ho2]) hB h
theorem wpAny_peel1 {md : Region.Mode} (i : Nat) {oi : Oper} (hs : Region.noSelect ops = true) (ho : ops[i]? = some oi) (hB : segLB md ops (fun _ => true) [i] listed = true)
    (h : wpCalm P ops (fun _ => True) (fun a' => wpAny P md ops (QN K) fuel (setL listed [i]) a' w) [oi] a) : wpAny P md ops (QN K) (fuel + 1) listed a w :=
  wpAny_peel [i] [oi] hs (by simp [ho]) hB h
theorem wpAny_peel3 {md : Region.Mode} (i j k : Nat) {oi oj ok : Oper} (hs : Region.noSelect ops = true) (ho : ops[i]? = some oi) (ho2 : ops[j]? = some oj) (ho3 : ops[k]? = some ok) (hB : segLB md ops (fun _ => true) [i, j, k] listed = true)
    (h : wpCalm P ops (fun _ => True) (fun a' => wpAny P md ops (QN K) fuel (setL listed [i, j, k]) a' w) [oi, oj, ok] a) : wpAny P md ops (QN K) (fuel + 3) listed a w :=
  wpAny_peel [i, j, k] [oi, oj, ok] hs (by simp [ho, ho2, ho3]) hB h
theorem wp_region_ord {id : Nat} {Q : Exit → Act → World → Prop} {l : List Oper} (n : Nat) (C : World → Prop) (R : Act → World → Prop) (hm : P.follows .mixedOrders = true) (hn : l.length = n) (hC : C { w with drawn := w.drawn + 1 })
    (h : ∀ wt, C wt → wpAny P .any l.toArray (QN R) n (allF n) a wt) (hk : ∀ a' w', R a' w' → Q .normal a' w') : (Code.region id l.toArray true).wp P Q a w := by
  refine Code.wp_mono (Q := QN R) (fun e a' w' hq => ?_) ?_
  · cases e <;> first | exact hk _ _ hq | exact (hq : False).elim
  · refine wp_region_any hm ?_
    subst hn
    have := h _ hC
    unfold allF at this
    simpa using this
end
end Go.Proofs.YtlbgmkengkgnfaaGreatDoor
end

section
/- Counts of runs and of boundaries; bounds: the program's and the reference's. -/
namespace Go.Proofs.YtlbgmkengkgnfaaGreatDoor
set_option linter.unusedSimpArgs false
set_option linter.unusedVariables false
set_option maxRecDepth 20000
open Go.RowKit
/-- The runs of the first n tubes. -/
def rsum (f : Nat → Int) : Nat → Nat
  | 0 => 0
  | n + 1 => rsum f n + rN (tub f n) (nlay (tub f n))
theorem rsum_le (f : Nat → Int) : ∀ n, rsum f n ≤ 4 * n
  | 0 => by simp [rsum]
  | n + 1 => by
    have := rsum_le f n
    have := rN_le (tub f n) (nlay (tub f n))
    have := nlay_le (tub f n)
    unfold rsum
    omega
/-- The boundaries of the first n tubes. -/
def bsum (f : Nat → Int) : Nat → Nat
  | 0 => 0
  | n + 1 => bsum f n + (rN (tub f n) (nlay (tub f n)) - 1)
theorem bsum_le (f : Nat → Int) : ∀ n, bsum f n ≤ 3 * n
  | 0 => by simp [bsum]
  | n + 1 => by
    have := bsum_le f n
    have := rN_le (tub f n) (nlay (tub f n))
    have := nlay_le (tub f n)
    unfold bsum
    omega
variable {P : Program}
theorem wpQuiet_indexI {ops : Array Oper} {C : World → Prop} {rest : List Oper} {o : Oper} {a : Act} {Q : Act → Prop} (hw : Region.wanted o (yielded ops a.tmps) = true) (ty : TypeId) (x y : Operand) (ho : o.op = .index ty x y)
    {N : Nat} {g : Nat → Int} (hx : a.eval x = .agg (arr N g)) {k : Nat} (hy : a.eval y = .int .i64 k) (e : TypeId) (hu : P.underlying ty = some (.array N e)) (hd : aggB P e = false) (hue : (P.underlying e).isSome = true)
    (hi : (P.info? e).map (·.size) = some 1) (hk : k < N) (h : wpQuiet P ops C Q rest (a.put o.dst (.int .i64 (g k)))) : wpQuiet P ops C Q (o :: rest) a := by
  refine wpQuiet_value _ hw (fun w _ => ?_) h
  have hagg : (isAgg e).run P w = .ok false w := by
    unfold aggB at hd
    unfold isAgg
    cases hq : P.underlying e with
    | none => simp [hq] at hue
    | some d =>
      rw [Sem.run_bind, run_underlying hq w]
      cases d <;> simp_all
  have hg := arr_get N g k
  rw [if_pos hk] at hg
  have hr : (Instr.index ty (.agg (arr N g)) (.int .i64 k)).run P w = .ok (.int .i64 (g k)) w := by
    cases hq : P.info? e with
    | none => simp [hq] at hi
    | some i =>
      have hs : i.size = 1 := by simpa [hq] using hi
      simp [Instr.index, asIntOf, Sem.run_bind, run_underlying hu, part, hagg, sizeOf, typeInfo, hq, hs, hk, hg]
  unfold execOp
  simp only [ho, hx, hy, Sem.run_bind, hr, Result.andThen_ok, Sem.run_pure]
/-- Runs less tubes, and the empty ones again, are the boundaries. -/
theorem bsum_eq {f : Nat → Int} (hf : rackB f = true) : ∀ n, n ≤ 6 → (bsum f n : Int) = (rsum f n : Int) - n + tally (fun i => f (i * 4)) n 0
  | 0, _ => by simp [bsum, rsum, tally]
  | n + 1, h => by
    have ih := bsum_eq hf n (by omega)
    have ht := tube_of_rack hf (show n ≤ 5 by omega)
    have hc := cell_of_rack hf (show n < 6 by omega) (k := 0) (by omega)
    rw [tally_succ]
    unfold bsum rsum upd
    have hz : nlay (tub f n) = 0 ↔ f (n * 4) = 0 := by
      unfold nlay tub
      constructor
      · intro h; by_cases h0 : f (n * 4 + 0) = 0
        · exact h0
        · rw [if_neg h0] at h; (repeat' split at h) <;> omega
      · intro h; rw [if_pos (by exact h)]
    by_cases h0 : nlay (tub f n) = 0
    · have h1 := hz.1 h0
      rw [h0, show rN (tub f n) 0 = 0 from rfl, if_pos (by rw [h1]; rfl), show (f (n * 4)).toNat = 0 by rw [h1]; rfl]
      push_cast
      omega
    · have h1 : ¬ f (n * 4) = 0 := fun e => h0 (hz.2 e)
      have h2 := rN_pos (tub f n) (nlay (tub f n)) (by omega)
      have h3 : 0 ≤ f (n * 4) := hc.1
      rw [if_neg (by omega)]
      push_cast
      omega
def cbOf (f : Nat → Int) : Int × Bool := if rackB f = true then ((bsum f 6 : Nat), true) else (0, false)
def crOf (f : Nat → Int) : Int × Bool := if rackB f = true then ((rsum f 6 : Nat), true) else (0, false)
end Go.Proofs.YtlbgmkengkgnfaaGreatDoor
end

section
/- Bounds and spare runs: the program's and the reference's, and the laws. -/
namespace Go.Proofs.YtlbgmkengkgnfaaGreatDoor
set_option linter.unusedSimpArgs false
set_option linter.unusedVariables false
set_option maxRecDepth 20000
open Go.RowKit
/-- What stands above one, of the first n. -/
def esum (g : Nat → Int) : Nat → Nat
  | 0 => 0
  | n + 1 => esum g n + (g (1 + n) - 1).toNat
theorem esum_le {g : Nat → Int} (hg : ∀ j, 0 ≤ g j ∧ g j ≤ 24) : ∀ n, esum g n ≤ 24 * n
  | 0 => by simp [esum]
  | n + 1 => by
    have := esum_le hg n
    have := hg (1 + n)
    unfold esum
    omega
/-- How many of the first n are there. -/
def dsum (g : Nat → Int) : Nat → Nat
  | 0 => 0
  | n + 1 => dsum g n + if 0 < g (1 + n) then 1 else 0
theorem dsum_le (g : Nat → Int) : ∀ n, dsum g n ≤ n
  | 0 => by simp [dsum]
  | n + 1 => by
    have := dsum_le g n
    unfold dsum
    split <;> omega
def botF (f : Nat → Int) : Nat → Int := tally (fun i => f (i * 4)) 6
theorem botF_bd (f : Nat → Int) : ∀ j, 0 ≤ botF f j ∧ botF f j ≤ 24 := fun j => by have := tally_bd (fun i => f (i * 4)) 6 j; unfold botF; omega
def bndF (f : Nat → Int) : Nat := bsum f 6 + esum (botF f) 5
def bndOf (f : Nat → Int) : Int × Bool := if rackB f = true then ((bndF f : Nat), true) else (0, false)
end Go.Proofs.YtlbgmkengkgnfaaGreatDoor
end

section
/- Pours: the program's and the reference's. -/
namespace Go.Proofs.YtlbgmkengkgnfaaGreatDoor
set_option linter.unusedSimpArgs false
set_option linter.unusedVariables false
set_option maxRecDepth 20000
open Go.RowKit
theorem l1Least_any (x y : Int) (w : World) : Calls Tryz.prog 66 #[.int .i64 x, .int .i64 y] w fun e w' => e = .returned (.int .i64 (min x y)) ∧ w = w' := by
  by_cases h : x < y
  · go_enter Tryz.func66, Tryz.ntmps66
    go_wp2
    go_ret
    exact ⟨ret_int (by omega), rfl⟩
  · go_enter Tryz.func66, Tryz.ntmps66
    go_wp2
    go_ret
    exact ⟨ret_int (by omega), rfl⟩
theorem l2Pour_any (f : Nat → Int) (hf : rackB f = true) (n m : Nat) (hn : n ≤ 5) (hm : m ≤ 5) (hnm : n ≠ m) (w : World) : Calls Tryz.prog 49 #[.agg (arr 24 f), .int .i64 n, .int .i64 m] w fun e w' => e = .returned (.tuple #[.agg (arr 24 (pourF f n m)), .int .i64 (mvd f n m : Nat)]) ∧ Below w.heap.size w w' := by
  have h1 : ((w.alloc (.cells (arr 24 f) 27)).alloc (.cells (arr 24 fun _ => 0) 27)).heap[w.heap.size]? = some (.cells (arr 24 f) 27 (0, 0)) := by rw [heap_old (by simp), heap_new rfl]
  have h2 : ((w.alloc (.cells (arr 24 f) 27)).alloc (.cells (arr 24 fun _ => 0) 27)).heap[w.heap.size + 1]? = some (.cells (arr 24 fun _ => 0) 27 (0, 0)) := heap_new (by simp)
  have hbel : Below w.heap.size w ((w.alloc (.cells (arr 24 f) 27)).alloc (.cells (arr 24 fun _ => 0) 27)) := ((Below.refl _ _).alloc (by simp) _).alloc (by simp) _
  have ti := tube_of_rack hf hn
  have tj := tube_of_rack hf hm
  have n1 : (n : Int) < 6 := by omega
  have n2 : (m : Int) < 6 := by omega
  obtain ⟨l1, l2, l3⟩ := mvd_le (j := m) ti
  have hs := tpF_sign ti
  have k1 := nlay_le (tub f n)
  have k2 := nlay_le (tub f m)
  have HMV : Hid (min (tpF (tub f n)).2 (4 - (nlay (tub f m) : Int)) = ((mvd f n m : Nat) : Int)) := by show min _ _ = _; unfold mvd; omega
  obtain ⟨N, hN⟩ : ∃ N, nlay (tub f n) = N := ⟨_, rfl⟩
  obtain ⟨T, hT⟩ : ∃ T, nlay (tub f m) = T := ⟨_, rfl⟩
  obtain ⟨M, hM⟩ : ∃ M, mvd f n m = M := ⟨_, rfl⟩
  have HP : Hid (pourF f n m = pS f n m M ∧ mvd f n m = M) := ⟨by unfold pourF; rw [hM], hM⟩
  have HS : Hid (∀ k, pS f n m (k + 1) = upd (upd (pS f n m k) (n * 4 + (N - 1 - k)) 0) (m * 4 + (T + k)) (tpF (tub f n)).1) := fun k => by rw [← hN, ← hT]; rfl
  have HN : Hid _ := hN
  have HT : Hid _ := hT
  rw [hN] at l1 k1
  rw [hT] at l2 k2
  rw [hM] at l1 l2 l3
  have s1 := hs.2.2.2.2.1
  have s2 : (tpF (tub f n)).2 ≤ 4 := by have := hs.2.2.2.2.2; rw [hN] at this; omega
  clear hN hT hs
  go_enter Tryz.func49, Tryz.ntmps49
  go_wp2_with first
    | (with_reducible refine wpList_allocA rfl 27 rfl 24 zero24r ?_; (try simp only [size_al]))
    | (with_reducible refine wpList_loadA rfl _ _ rfl _ _ rfl h1 4 agg4 size4 (by omega) ?_)
    | (go_at_call 40; (with_reducible refine (l2Top_any (tub f n) ti _).mono ?_); rintro e w1 ⟨rfl, hb1⟩; replace hbel := hbel.trans (hb1.mono hbel.size); replace h1 := row_keep hb1 h1; replace h2 := row_keep hb1 h2; clear hb1)
  refine wp_region_held 12 (Cls w1 []) (by kernel_rfl) (by kernel_rfl) (Cls.zero (Below.refl _ _)) ?_; simp only [List.take_succ_cons, List.take_zero, List.drop_succ_cons, List.drop_zero]
  repeat (first
    | (with_reducible refine wpQuiet_loadA rfl _ _ rfl _ _ rfl (fun _ h => h.kp h1) 4 agg4 size4 (by omega) ?_)
    | ((with_reducible refine wpQuiet_callE rfl 38 _ _ rfl (.int .i64 (nlay (tub f n) : Nat)) (#[.agg (arr 4 (tub f n))]) rfl ?_ ?_ ?_); (exact enters_of Tryz.func38 (by kernel_rfl) rfl); (intro w' h'; with_reducible exact (l2Many_ok (tub f n) ti w').mono fun _ _ ⟨he, hb⟩ => ⟨he, h'.keep hb⟩))
    | ((with_reducible refine wpQuiet_callE rfl 38 _ _ rfl (.int .i64 (nlay (tub f m) : Nat)) (#[.agg (arr 4 (tub f m))]) rfl ?_ ?_ ?_); (exact enters_of Tryz.func38 (by kernel_rfl) rfl); (intro w' h'; with_reducible exact (l2Many_ok (tub f m) tj w').mono fun _ _ ⟨he, hb⟩ => ⟨he, h'.keep hb⟩))
    | ((with_reducible refine wpQuiet_step (fun K hK => ?_)); go_simp; (first | (refine ⟨_, fun _ _ => rfl, hK _ ?_⟩) | (refine ⟨_, fun _ _ => ⟨rfl, rfl⟩, hK _ ?_⟩) | (refine hK _ ?_)); clear hK K))
  refine wpQuiet_nil ?_; intro wt hCt; replace hCt := hCt.2; replace hbel := hbel.trans (hCt.mono hbel.size); replace h1 := row_keep hCt h1; replace h2 := row_keep hCt h2; clear hCt
  rw [HN.out, HT.out]
  have HMV2 := HMV.out
  rw [HT.out, HP.out.2] at HMV2
  have HM2 : Hid _ := HMV2
  clear HMV2
  go_wp2_with first
    | (go_at_call 66; (with_reducible refine (l1Least_any _ _ _).mono ?_); rw [HM2.out]; rintro e w1 ⟨rfl, rfl⟩)
  go_loopw [13] (fun i wr => ∃ k : Nat, k ≤ M ∧ i = .int .i64 k ∧ wr.heap[w.heap.size]? = some (.cells (arr 24 (pS f n m k)) 27 (0, 0)) ∧ wr.heap[w.heap.size + 1]? = some (.cells (arr 24 fun _ => 0) 27 (0, 0)) ∧ Below w.heap.size w wr) (fun i _ => 4 - (intOf i).toNat)
  case atStart => exact ⟨0, by omega, rfl, h1, h2, hbel⟩
  case round =>
    clear h1 h2 hbel
    obtain ⟨k, hk, rfl, h1, h2, hbel⟩ := hrel
    by_cases hlt : k < M
    · have hlt' : (k : Int) < (M : Int) := by omega
      have e1 : N - 1 - k < 4 := by omega
      have e2 : T + k < 4 := by omega
      have e3 : ((N - 1 - k : Nat) : Int) < 4 := by omega
      have e4 : (T : Int) + (k : Int) < 4 := by omega
      have e5 : k + 1 ≤ N := by omega
      have q1 := setRow_heap wr _ _ (arr 24 (upd (pS f n m k) (n * 4 + (N - 1 - k)) 0)) _ _ h1
      go_wp2_with first
        | (with_reducible refine wpList_storeI rfl 3 _ _ rfl _ _ rfl rfl h1 size1 (by omega) ?_)
        | (with_reducible refine wpList_storeI rfl 3 _ _ rfl _ _ rfl rfl q1 size1 (by omega) ?_)
      go_roundw
      case rel =>
        refine ⟨k + 1, by omega, by go_num, ?_, ?_, below_setRow2 (below_setRow2 hbel (by omega) _) (by omega) _⟩
        · rw [setRow_heap _ _ _ _ _ _ q1, HS.out]
        · rw [setRow_other _ _ _ _ (by omega), setRow_other _ _ _ _ (by omega), h2]
      case measure => simp [intOf]; omega
    · obtain rfl : k = M := by omega
      have h3 := h2
      go_wp2_with first
        | (with_reducible refine wpList_loadW rfl _ _ rfl _ rfl h1 agg24r size24r ?_)
        | (with_reducible refine wpList_storeW rfl _ _ _ rfl _ rfl rfl h3 size24r ?_)
      refine bodyPost_ret_by (results_ct _ _ _ _ _ _ _ rfl rfl (setRow_heap _ _ _ _ _ _ h2) agg24r size24r) rfl ⟨?_, below_setRow2 hbel (by omega) _⟩
      rw [HP.out.1, HP.out.2]
      rfl
/-- Is a pour undone by the one back? -/
def undF (f : Nat → Int) (i j : Nat) : Bool := canF (pourF f i j) j i && eqv 24 (pourF (pourF f i j) j i) f
end Go.Proofs.YtlbgmkengkgnfaaGreatDoor
end

section
/- SwapTubes: the program's and the reference's, and the law. -/
namespace Go.Proofs.YtlbgmkengkgnfaaGreatDoor
set_option linter.unusedSimpArgs false
set_option linter.unusedVariables false
set_option maxRecDepth 20000
open Go.RowKit
def swapF (f : Nat → Int) (i k : Nat) : Nat → Int := updN (updN f (i * 4) 4 (fun j => f (k * 4 + j))) (k * 4) 4 (fun j => f (i * 4 + j))
def swapT (f : Nat → Int) (i k : Int) : (Nat → Int) × Bool := if rackB f = true ∧ (0 ≤ i ∧ i ≤ 5) ∧ (0 ≤ k ∧ k ≤ 5) then (swapF f i.toNat k.toNat, true) else (fun _ => 0, false)
theorem swap_bad {f : Nat → Int} {i k : Int} (h : ¬ (rackB f = true ∧ (0 ≤ i ∧ i ≤ 5) ∧ (0 ≤ k ∧ k ≤ 5))) : swapT f i k = (fun _ => 0, false) := if_neg h
theorem implSwap_any (f : Nat → Int) (i k : Int) (w : World) : Calls Tryz.prog 20 #[.agg (arr 24 f), .int .i64 i, .int .i64 k] w fun e w' => e = .returned (.tuple #[.agg (arr 24 (swapT f i k).1), .bool (swapT f i k).2]) ∧ Below w.heap.size w w' := by
  have h1 : ((w.alloc (.cells (arr 24 f) 27)).alloc (.cells (arr 24 fun _ => 0) 27)).heap[w.heap.size]? = some (.cells (arr 24 f) 27 (0, 0)) := by rw [heap_old (by simp), heap_new rfl]
  have h2 : ((w.alloc (.cells (arr 24 f) 27)).alloc (.cells (arr 24 fun _ => 0) 27)).heap[w.heap.size + 1]? = some (.cells (arr 24 fun _ => 0) 27 (0, 0)) := heap_new (by simp)
  have hbel : Below w.heap.size w ((w.alloc (.cells (arr 24 f) 27)).alloc (.cells (arr 24 fun _ => 0) 27)) := ((Below.refl _ _).alloc (by simp) _).alloc (by simp) _
  have h5 : (((w.alloc (.cells (arr 24 f) 27)).alloc (.cells (arr 24 fun _ => 0) 27)).alloc (.cells #[.int .i64 i, .int .i64 k] 3)).heap[w.heap.size + 1 + 1]? = some (.cells #[.int .i64 i, .int .i64 k] 3 (0, 0)) := heap_new (by simp)
  by_cases hok : rackB f = true ∧ (0 ≤ i ∧ i ≤ 5) ∧ (0 ≤ k ∧ k ≤ 5)
  · obtain ⟨hf, hi, hk⟩ := hok
    have HF : Hid _ := hf
    have HI : Hid _ := show (decide (0 ≤ i) && decide (i ≤ 5)) = true by simpa using hi
    have HK : Hid _ := show (decide (0 ≤ k) && decide (k ≤ 5)) = true by simpa using hk
    obtain ⟨n, rfl⟩ : ∃ n : Nat, i = n := ⟨i.toNat, by omega⟩
    obtain ⟨m, rfl⟩ : ∃ m : Nat, k = m := ⟨k.toNat, by omega⟩
    have hn : n ≤ 5 := by omega
    have hm : m ≤ 5 := by omega
    have hn6 : (n : Int) < 6 := by omega
    have hm6 : (m : Int) < 6 := by omega
    have e : swapT f n m = (swapF f n m, true) := if_pos ⟨hf, hi, hk⟩
    rw [e]
    clear hf hi hk e
    go_enter Tryz.func20, Tryz.ntmps20
    go_wp2_with first
      | (with_reducible refine wpList_allocA rfl 27 rfl 24 zero24r ?_; (try simp only [size_al]))
      | (with_reducible refine wpList_loadW rfl _ _ rfl _ rfl h1 agg24r size24r ?_)
      | (with_reducible refine wpList_build0 rfl 27 rfl 24 zbuild24 ?_)
      | (with_reducible refine wpList_storeW rfl _ _ _ rfl _ rfl rfl h2 size24r ?_)
      | (go_at_call 32; (with_reducible refine (isAt_bad f HF.out _ _).mono ?_); rintro e w1 ⟨rfl, hb1⟩; replace hb1 := below_of_alloc hb1; replace hbel := hbel.trans (hb1.mono hbel.size); replace h1 := row_keep hb1 h1; replace h2 := row_keep hb1 h2; clear hb1)
      | (go_at_call 32; (with_reducible refine (isAt_two f HF.out _ _ _ h5).mono ?_); rw [HI.out, HK.out]; rintro e w1 ⟨rfl, hb1⟩; replace hb1 := below_of_alloc hb1; replace hbel := hbel.trans (hb1.mono hbel.size); replace h1 := row_keep hb1 h1; replace h2 := row_keep hb1 h2; clear hb1)
    refine wp_region_fork [0, 1, 2, 3, 4, 6, 7, 8, 10, 13] [5, 9, 11] [] 3 (fun l => l.take 5 ++ (l.drop 6).take 3 ++ (l.drop 10).take 1 ++ (l.drop 13).take 1) (fun l => (l.drop 5).take 1 ++ (l.drop 9).take 1 ++ (l.drop 11).take 1) (Cls w _) (by kernel_rfl) (by kernel_rfl) (by kernel_rfl) (by kernel_rfl) trivial (Cls.two h1 h2 hbel) ?_; try simp only [List.take_succ_cons, List.take_zero, List.drop_succ_cons, List.drop_zero, List.singleton_append, List.cons_append, List.nil_append]
    repeat (first
      | ((with_reducible refine wpCalm_step (fun K hK => ?_)); go_simp; (first | (refine ⟨_, fun _ _ => rfl, hK _ ?_⟩) | (refine hK _ ?_)); clear hK K))
    refine wpCalm_nil ?_
    repeat (first
      | (with_reducible refine wpCalm_loadA rfl _ _ rfl _ _ rfl (fun _ h => h.r1) 4 agg4 size4 (by omega) ?_)
      | ((with_reducible refine wpCalm_step (fun K hK => ?_)); go_simp; (first | (refine ⟨_, fun _ _ => rfl, hK _ ?_⟩) | (refine hK _ ?_)); clear hK K))
    refine wpCalm_nil ?_
    have hCt := Cls.two h1 h2 hbel
    obtain ⟨wt, hwt⟩ : ∃ wt : World, wt = { w1 with drawn := w1.drawn + 1 } := ⟨_, rfl⟩
    rw [← hwt] at hCt ⊢
    clear hwt
    replace h1 := hCt.r1
    replace h2 := hCt.r2
    replace hbel := hCt.2
    refine wpAny_fork1 12 (by kernel_rfl) rfl ?_
    go_wp2_with first
      | (with_reducible refine wpList_storePN rfl _ _ _ rfl _ _ rfl rfl h1 size4 (by omega) hbel (by omega) ?_; intro w1 g3 ho g4; replace h2 := (ho _ (by omega)).trans h2; (try replace hp := (ho _ (by omega)).trans hp); (try replace hq := (ho _ (by omega)).trans hq); clear h1 hbel; have h1 := g3; have hbel := g4; clear g3 g4 ho)
    refine QN.intro ?_
    refine wpAny_fork1 14 (by kernel_rfl) rfl ?_
    go_wp2_with first
      | fail
    refine QN.intro ?_
    refine wpAny_fork1 15 (by kernel_rfl) rfl ?_
    go_wp2_with first
      | (with_reducible refine wpList_storePN rfl _ _ _ rfl _ _ rfl rfl h1 size4 (by omega) hbel (by omega) ?_; intro w1 g3 ho g4; replace h2 := (ho _ (by omega)).trans h2; (try replace hp := (ho _ (by omega)).trans hp); (try replace hq := (ho _ (by omega)).trans hq); clear h1 hbel; have h1 := g3; have hbel := g4; clear g3 g4 ho)
    refine QN.intro ?_
    refine wpAny_end (by kernel_rfl) ?_
    go_wp2_with first
      | (with_reducible refine wpList_loadW rfl _ _ rfl _ rfl h1 agg24r size24r ?_)
      | (with_reducible refine wpList_storeW rfl _ _ _ rfl _ rfl rfl h2 size24r ?_)
    exact bodyPost_ret_by (results_ct _ _ _ _ _ _ _ rfl rfl (setRow_heap _ _ _ _ _ _ h2) agg24r size24r) rfl ⟨rfl, below_setRow2 hbel (by omega) _⟩
  · rw [swap_bad hok]
    cases hf : rackB f with
    | false =>
      have HF : Hid _ := hf
      have HI : Hid (1 = 1) := rfl
      have HK : Hid (1 = 1) := rfl
      clear hf hok
      go_enter Tryz.func20, Tryz.ntmps20
      go_wp2_with first
        | (with_reducible refine wpList_allocA rfl 27 rfl 24 zero24r ?_; (try simp only [size_al]))
        | (with_reducible refine wpList_loadW rfl _ _ rfl _ rfl h1 agg24r size24r ?_)
        | (with_reducible refine wpList_build0 rfl 27 rfl 24 zbuild24 ?_)
        | (with_reducible refine wpList_storeW rfl _ _ _ rfl _ rfl rfl h2 size24r ?_)
        | (go_at_call 32; (with_reducible refine (isAt_bad f HF.out _ _).mono ?_); rintro e w1 ⟨rfl, hb1⟩; replace hb1 := below_of_alloc hb1; replace hbel := hbel.trans (hb1.mono hbel.size); replace h1 := row_keep hb1 h1; replace h2 := row_keep hb1 h2; clear hb1)
        | (go_at_call 32; (with_reducible refine (isAt_two f HF.out _ _ _ h5).mono ?_); rw [HI.out, HK.out]; rintro e w1 ⟨rfl, hb1⟩; replace hb1 := below_of_alloc hb1; replace hbel := hbel.trans (hb1.mono hbel.size); replace h1 := row_keep hb1 h1; replace h2 := row_keep hb1 h2; clear hb1)
      exact bodyPost_ret_by (results_ct _ _ _ _ _ _ _ rfl rfl (setRow_heap _ _ _ _ _ _ h2) agg24r size24r) rfl ⟨rfl, below_setRow2 hbel (by omega) _⟩
    | true =>
      have HF : Hid _ := hf
      by_cases hi : 0 ≤ i ∧ i ≤ 5
      · have HI : Hid _ := show (decide (0 ≤ i) && decide (i ≤ 5)) = true by simpa using hi
        have HK : Hid _ := show (decide (0 ≤ k) && decide (k ≤ 5)) = false by simpa using fun h => fun h2 => hok ⟨hf, hi, h, h2⟩
        clear hf hi hok
        go_enter Tryz.func20, Tryz.ntmps20
        go_wp2_with first
          | (with_reducible refine wpList_allocA rfl 27 rfl 24 zero24r ?_; (try simp only [size_al]))
          | (with_reducible refine wpList_loadW rfl _ _ rfl _ rfl h1 agg24r size24r ?_)
          | (with_reducible refine wpList_build0 rfl 27 rfl 24 zbuild24 ?_)
          | (with_reducible refine wpList_storeW rfl _ _ _ rfl _ rfl rfl h2 size24r ?_)
          | (go_at_call 32; (with_reducible refine (isAt_bad f HF.out _ _).mono ?_); rintro e w1 ⟨rfl, hb1⟩; replace hb1 := below_of_alloc hb1; replace hbel := hbel.trans (hb1.mono hbel.size); replace h1 := row_keep hb1 h1; replace h2 := row_keep hb1 h2; clear hb1)
          | (go_at_call 32; (with_reducible refine (isAt_two f HF.out _ _ _ h5).mono ?_); rw [HI.out, HK.out]; rintro e w1 ⟨rfl, hb1⟩; replace hb1 := below_of_alloc hb1; replace hbel := hbel.trans (hb1.mono hbel.size); replace h1 := row_keep hb1 h1; replace h2 := row_keep hb1 h2; clear hb1)
        exact bodyPost_ret_by (results_ct _ _ _ _ _ _ _ rfl rfl (setRow_heap _ _ _ _ _ _ h2) agg24r size24r) rfl ⟨rfl, below_setRow2 hbel (by omega) _⟩
      · have HI : Hid _ := show (decide (0 ≤ i) && decide (i ≤ 5)) = false by simpa using hi
        obtain ⟨b, hb⟩ : ∃ b, (decide (0 ≤ k) && decide (k ≤ 5)) = b := ⟨_, rfl⟩
        have HK : Hid _ := hb
        clear hf hi hok hb
        go_enter Tryz.func20, Tryz.ntmps20
        go_wp2_with first
          | (with_reducible refine wpList_allocA rfl 27 rfl 24 zero24r ?_; (try simp only [size_al]))
          | (with_reducible refine wpList_loadW rfl _ _ rfl _ rfl h1 agg24r size24r ?_)
          | (with_reducible refine wpList_build0 rfl 27 rfl 24 zbuild24 ?_)
          | (with_reducible refine wpList_storeW rfl _ _ _ rfl _ rfl rfl h2 size24r ?_)
          | (go_at_call 32; (with_reducible refine (isAt_bad f HF.out _ _).mono ?_); rintro e w1 ⟨rfl, hb1⟩; replace hb1 := below_of_alloc hb1; replace hbel := hbel.trans (hb1.mono hbel.size); replace h1 := row_keep hb1 h1; replace h2 := row_keep hb1 h2; clear hb1)
          | (go_at_call 32; (with_reducible refine (isAt_two f HF.out _ _ _ h5).mono ?_); rw [HI.out, HK.out]; rintro e w1 ⟨rfl, hb1⟩; replace hb1 := below_of_alloc hb1; replace hbel := hbel.trans (hb1.mono hbel.size); replace h1 := row_keep hb1 h1; replace h2 := row_keep hb1 h2; clear hb1)
        exact bodyPost_ret_by (results_ct _ _ _ _ _ _ _ rfl rfl (setRow_heap _ _ _ _ _ _ h2) agg24r size24r) rfl ⟨rfl, below_setRow2 hbel (by omega) _⟩
set_option maxHeartbeats 2000000 in
theorem specSwap_any (f : Nat → Int) (i k : Int) (w : World) : Calls Tryz.prog 21 #[.agg (arr 24 f), .int .i64 i, .int .i64 k] w fun e w' => e = .returned (.tuple #[.agg (arr 24 (swapT f i k).1), .bool (swapT f i k).2]) ∧ Below w.heap.size w w' := by
  have h1 : ((w.alloc (.cells (arr 24 f) 27)).alloc (.cells (arr 24 fun _ => 0) 27)).heap[w.heap.size]? = some (.cells (arr 24 f) 27 (0, 0)) := by rw [heap_old (by simp), heap_new rfl]
  have h2 : ((w.alloc (.cells (arr 24 f) 27)).alloc (.cells (arr 24 fun _ => 0) 27)).heap[w.heap.size + 1]? = some (.cells (arr 24 fun _ => 0) 27 (0, 0)) := heap_new (by simp)
  have hbel : Below w.heap.size w ((w.alloc (.cells (arr 24 f) 27)).alloc (.cells (arr 24 fun _ => 0) 27)) := ((Below.refl _ _).alloc (by simp) _).alloc (by simp) _
  by_cases hok : rackB f = true ∧ (0 ≤ i ∧ i ≤ 5) ∧ (0 ≤ k ∧ k ≤ 5)
  · obtain ⟨hf, hi, hk⟩ := hok
    have HF : Hid _ := hf
    have HI : Hid _ := show (decide (0 ≤ i) && decide (i ≤ 5)) = true by simpa using hi
    have HK : Hid _ := show (decide (0 ≤ k) && decide (k ≤ 5)) = true by simpa using hk
    obtain ⟨n, rfl⟩ : ∃ n : Nat, i = n := ⟨i.toNat, by omega⟩
    obtain ⟨m, rfl⟩ : ∃ m : Nat, k = m := ⟨k.toNat, by omega⟩
    have hn : n ≤ 5 := by omega
    have hm : m ≤ 5 := by omega
    have hn6 : (n : Int) < 6 := by omega
    have hm6 : (m : Int) < 6 := by omega
    have e : swapT f n m = (swapF f n m, true) := if_pos ⟨hf, hi, hk⟩
    rw [e]
    clear hf hi hk e
    go_enter Tryz.func21, Tryz.ntmps21
    go_wp2_with first
      | (with_reducible refine wpList_allocA rfl 27 rfl 24 zero24r ?_; (try simp only [size_al]))
      | (with_reducible refine wpList_loadW rfl _ _ rfl _ rfl h1 agg24r size24r ?_)
      | (with_reducible refine wpList_build0 rfl 27 rfl 24 zbuild24 ?_)
      | (with_reducible refine wpList_storeW rfl _ _ _ rfl _ rfl rfl h2 size24r ?_)
      | (go_at_call 34; (with_reducible refine (l2Rack_any _ _).mono ?_); rw [HF.out]; rintro e w1 ⟨rfl, hb1⟩; replace hbel := hbel.trans (hb1.mono hbel.size); replace h1 := row_keep hb1 h1; replace h2 := row_keep hb1 h2; clear hb1)
      | (go_at_call 35; (with_reducible refine (l2Place_any _ _).mono ?_); (first | rw [HI.out] | rw [HK.out]); rintro e w' ⟨rfl, rfl⟩)
    refine wp_region_fork [0, 1, 2, 4, 5, 6] [3] [7, 8, 9] 5 (fun l => l.take 3 ++ (l.drop 4).take 3) (fun l => (l.drop 3).take 1) (Cls w _) (by kernel_rfl) (by kernel_rfl) (by kernel_rfl) (by kernel_rfl) ⟨Pres.load _ _ rfl, Pres.alloc _ rfl 4 zero4, Pres.alloc _ rfl 4 zero4, trivial⟩ (Cls.two h1 h2 hbel) ?_; try simp only [List.take_succ_cons, List.take_zero, List.drop_succ_cons, List.drop_zero, List.singleton_append, List.cons_append, List.nil_append]
    repeat (first
      | ((with_reducible refine wpCalm_step (fun K hK => ?_)); go_simp; (first | (refine ⟨_, fun _ _ => rfl, hK _ ?_⟩) | (refine hK _ ?_)); clear hK K))
    refine wpCalm_nil ?_
    repeat (first
      | (with_reducible refine wpCalm_loadA rfl _ _ rfl _ _ rfl (fun _ h => h.r1) 4 agg4 size4 (by omega) ?_)
      | ((with_reducible refine wpCalm_step (fun K hK => ?_)); go_simp; (first | (refine ⟨_, fun _ _ => rfl, hK _ ?_⟩) | (refine hK _ ?_)); clear hK K))
    refine wpCalm_nil ?_
    have hCt := Cls.two h1 h2 hbel
    obtain ⟨wt, hwt⟩ : ∃ wt : World, wt = { w1 with drawn := w1.drawn + 1 } := ⟨_, rfl⟩
    rw [← hwt] at hCt ⊢
    clear hwt
    replace h1 := hCt.r1
    replace h2 := hCt.r2
    replace hbel := hCt.2
    refine wpAny_fork3 7 8 9 (by kernel_rfl) rfl rfl rfl ?_ ?_ ?_
    · go_wp2_with first
        | (with_reducible refine wpList_loadA rfl _ _ rfl _ _ rfl h1 4 agg4 size4 (by omega) ?_)
      refine QN.intro ?_
      refine wpAny_fork2 8 9 (by kernel_rfl) rfl rfl ?_ ?_
      · go_wp2_with first
          | (with_reducible refine wpList_allocN rfl 24 rfl 4 zero4 ?_; intro p w1 hp0 hp hb1; have hpl := Nat.lt_of_lt_of_le (Array.getElem?_eq_some_iff.1 h2).1 hp0; (try have hpq := Nat.lt_of_lt_of_le (Array.getElem?_eq_some_iff.1 hq).1 hp0); replace hbel := hbel.trans (hb1.mono hbel.size); replace h1 := row_keep hb1 h1; replace h2 := row_keep hb1 h2; (try replace hq := row_keep hb1 hq); clear hb1 hp0)
        refine QN.intro ?_
        refine wpAny_fork1 9 (by kernel_rfl) rfl ?_
        go_wp2_with first
          | (with_reducible refine wpList_allocN rfl 24 rfl 4 zero4 ?_; intro q w1 hq0 hq hb1; have hql := Nat.lt_of_lt_of_le (Array.getElem?_eq_some_iff.1 h2).1 hq0; (try have hpq := Nat.lt_of_lt_of_le (Array.getElem?_eq_some_iff.1 hp).1 hq0); replace hbel := hbel.trans (hb1.mono hbel.size); replace h1 := row_keep hb1 h1; replace h2 := row_keep hb1 h2; (try replace hp := row_keep hb1 hp); clear hb1 hq0)
        refine QN.intro ?_
        refine wpAny_fork1 10 (by kernel_rfl) rfl ?_
        go_wp2_with first
          | (with_reducible refine wpList_storeWN rfl _ _ _ rfl _ rfl rfl hp size4 hbel (by omega) ?_; intro w1 g3 ho g4; replace h1 := (ho _ (by omega)).trans h1; replace h2 := (ho _ (by omega)).trans h2; replace hq := (ho _ (by omega)).trans hq; clear hp hbel; have hp := g3; have hbel := g4; clear g3 g4 ho)
        refine QN.intro ?_
        refine wpAny_fork1 11 (by kernel_rfl) rfl ?_
        go_wp2_with first
          | (with_reducible refine wpList_storeWN rfl _ _ _ rfl _ rfl rfl hq size4 hbel (by omega) ?_; intro w1 g3 ho g4; replace h1 := (ho _ (by omega)).trans h1; replace h2 := (ho _ (by omega)).trans h2; replace hp := (ho _ (by omega)).trans hp; clear hq hbel; have hq := g3; have hbel := g4; clear g3 g4 ho)
        refine QN.intro ?_
        refine wpAny_end (by kernel_rfl) ?_
        go_wp2_with first
          | (with_reducible refine wpList_loadW rfl _ _ rfl _ rfl hq agg4 size4 ?_)
          | (with_reducible refine wpList_loadW rfl _ _ rfl _ rfl hp agg4 size4 ?_)
          | (with_reducible refine wpList_storePN rfl _ _ _ rfl _ _ rfl rfl h1 size4 (by omega) hbel (by omega) ?_; intro w1 g3 ho g4; replace h2 := (ho _ (by omega)).trans h2; (try replace hp := (ho _ (by omega)).trans hp); (try replace hq := (ho _ (by omega)).trans hq); clear h1 hbel; have h1 := g3; have hbel := g4; clear g3 g4 ho)
          | (with_reducible refine wpList_loadW rfl _ _ rfl _ rfl h1 agg24r size24r ?_)
          | (with_reducible refine wpList_storeW rfl _ _ _ rfl _ rfl rfl h2 size24r ?_)
        exact bodyPost_ret_by (results_ct _ _ _ _ _ _ _ rfl rfl (setRow_heap _ _ _ _ _ _ h2) agg24r size24r) rfl ⟨rfl, below_setRow2 hbel (by omega) _⟩
      · go_wp2_with first
          | (with_reducible refine wpList_allocN rfl 24 rfl 4 zero4 ?_; intro q w1 hq0 hq hb1; have hql := Nat.lt_of_lt_of_le (Array.getElem?_eq_some_iff.1 h2).1 hq0; (try have hpq := Nat.lt_of_lt_of_le (Array.getElem?_eq_some_iff.1 hp).1 hq0); replace hbel := hbel.trans (hb1.mono hbel.size); replace h1 := row_keep hb1 h1; replace h2 := row_keep hb1 h2; (try replace hp := row_keep hb1 hp); clear hb1 hq0)
        refine QN.intro ?_
        refine wpAny_fork1 8 (by kernel_rfl) rfl ?_
        go_wp2_with first
          | (with_reducible refine wpList_allocN rfl 24 rfl 4 zero4 ?_; intro p w1 hp0 hp hb1; have hpl := Nat.lt_of_lt_of_le (Array.getElem?_eq_some_iff.1 h2).1 hp0; (try have hpq := Nat.lt_of_lt_of_le (Array.getElem?_eq_some_iff.1 hq).1 hp0); replace hbel := hbel.trans (hb1.mono hbel.size); replace h1 := row_keep hb1 h1; replace h2 := row_keep hb1 h2; (try replace hq := row_keep hb1 hq); clear hb1 hp0)
        refine QN.intro ?_
        refine wpAny_fork1 10 (by kernel_rfl) rfl ?_
        go_wp2_with first
          | (with_reducible refine wpList_storeWN rfl _ _ _ rfl _ rfl rfl hp size4 hbel (by omega) ?_; intro w1 g3 ho g4; replace h1 := (ho _ (by omega)).trans h1; replace h2 := (ho _ (by omega)).trans h2; replace hq := (ho _ (by omega)).trans hq; clear hp hbel; have hp := g3; have hbel := g4; clear g3 g4 ho)
        refine QN.intro ?_
        refine wpAny_fork1 11 (by kernel_rfl) rfl ?_
        go_wp2_with first
          | (with_reducible refine wpList_storeWN rfl _ _ _ rfl _ rfl rfl hq size4 hbel (by omega) ?_; intro w1 g3 ho g4; replace h1 := (ho _ (by omega)).trans h1; replace h2 := (ho _ (by omega)).trans h2; replace hp := (ho _ (by omega)).trans hp; clear hq hbel; have hq := g3; have hbel := g4; clear g3 g4 ho)
        refine QN.intro ?_
        refine wpAny_end (by kernel_rfl) ?_
        go_wp2_with first
          | (with_reducible refine wpList_loadW rfl _ _ rfl _ rfl hq agg4 size4 ?_)
          | (with_reducible refine wpList_loadW rfl _ _ rfl _ rfl hp agg4 size4 ?_)
          | (with_reducible refine wpList_storePN rfl _ _ _ rfl _ _ rfl rfl h1 size4 (by omega) hbel (by omega) ?_; intro w1 g3 ho g4; replace h2 := (ho _ (by omega)).trans h2; (try replace hp := (ho _ (by omega)).trans hp); (try replace hq := (ho _ (by omega)).trans hq); clear h1 hbel; have h1 := g3; have hbel := g4; clear g3 g4 ho)
          | (with_reducible refine wpList_loadW rfl _ _ rfl _ rfl h1 agg24r size24r ?_)
          | (with_reducible refine wpList_storeW rfl _ _ _ rfl _ rfl rfl h2 size24r ?_)
        exact bodyPost_ret_by (results_ct _ _ _ _ _ _ _ rfl rfl (setRow_heap _ _ _ _ _ _ h2) agg24r size24r) rfl ⟨rfl, below_setRow2 hbel (by omega) _⟩
    · go_wp2_with first
        | (with_reducible refine wpList_allocN rfl 24 rfl 4 zero4 ?_; intro p w1 hp0 hp hb1; have hpl := Nat.lt_of_lt_of_le (Array.getElem?_eq_some_iff.1 h2).1 hp0; (try have hpq := Nat.lt_of_lt_of_le (Array.getElem?_eq_some_iff.1 hq).1 hp0); replace hbel := hbel.trans (hb1.mono hbel.size); replace h1 := row_keep hb1 h1; replace h2 := row_keep hb1 h2; (try replace hq := row_keep hb1 hq); clear hb1 hp0)
      refine QN.intro ?_
      refine wpAny_fork2 7 9 (by kernel_rfl) rfl rfl ?_ ?_
      · go_wp2_with first
          | (with_reducible refine wpList_loadA rfl _ _ rfl _ _ rfl h1 4 agg4 size4 (by omega) ?_)
        refine QN.intro ?_
        refine wpAny_fork1 9 (by kernel_rfl) rfl ?_
        go_wp2_with first
          | (with_reducible refine wpList_allocN rfl 24 rfl 4 zero4 ?_; intro q w1 hq0 hq hb1; have hql := Nat.lt_of_lt_of_le (Array.getElem?_eq_some_iff.1 h2).1 hq0; (try have hpq := Nat.lt_of_lt_of_le (Array.getElem?_eq_some_iff.1 hp).1 hq0); replace hbel := hbel.trans (hb1.mono hbel.size); replace h1 := row_keep hb1 h1; replace h2 := row_keep hb1 h2; (try replace hp := row_keep hb1 hp); clear hb1 hq0)
        refine QN.intro ?_
        refine wpAny_fork1 10 (by kernel_rfl) rfl ?_
        go_wp2_with first
          | (with_reducible refine wpList_storeWN rfl _ _ _ rfl _ rfl rfl hp size4 hbel (by omega) ?_; intro w1 g3 ho g4; replace h1 := (ho _ (by omega)).trans h1; replace h2 := (ho _ (by omega)).trans h2; replace hq := (ho _ (by omega)).trans hq; clear hp hbel; have hp := g3; have hbel := g4; clear g3 g4 ho)
        refine QN.intro ?_
        refine wpAny_fork1 11 (by kernel_rfl) rfl ?_
        go_wp2_with first
          | (with_reducible refine wpList_storeWN rfl _ _ _ rfl _ rfl rfl hq size4 hbel (by omega) ?_; intro w1 g3 ho g4; replace h1 := (ho _ (by omega)).trans h1; replace h2 := (ho _ (by omega)).trans h2; replace hp := (ho _ (by omega)).trans hp; clear hq hbel; have hq := g3; have hbel := g4; clear g3 g4 ho)
        refine QN.intro ?_
        refine wpAny_end (by kernel_rfl) ?_
        go_wp2_with first
          | (with_reducible refine wpList_loadW rfl _ _ rfl _ rfl hq agg4 size4 ?_)
          | (with_reducible refine wpList_loadW rfl _ _ rfl _ rfl hp agg4 size4 ?_)
          | (with_reducible refine wpList_storePN rfl _ _ _ rfl _ _ rfl rfl h1 size4 (by omega) hbel (by omega) ?_; intro w1 g3 ho g4; replace h2 := (ho _ (by omega)).trans h2; (try replace hp := (ho _ (by omega)).trans hp); (try replace hq := (ho _ (by omega)).trans hq); clear h1 hbel; have h1 := g3; have hbel := g4; clear g3 g4 ho)
          | (with_reducible refine wpList_loadW rfl _ _ rfl _ rfl h1 agg24r size24r ?_)
          | (with_reducible refine wpList_storeW rfl _ _ _ rfl _ rfl rfl h2 size24r ?_)
        exact bodyPost_ret_by (results_ct _ _ _ _ _ _ _ rfl rfl (setRow_heap _ _ _ _ _ _ h2) agg24r size24r) rfl ⟨rfl, below_setRow2 hbel (by omega) _⟩
      · go_wp2_with first
          | (with_reducible refine wpList_allocN rfl 24 rfl 4 zero4 ?_; intro q w1 hq0 hq hb1; have hql := Nat.lt_of_lt_of_le (Array.getElem?_eq_some_iff.1 h2).1 hq0; (try have hpq := Nat.lt_of_lt_of_le (Array.getElem?_eq_some_iff.1 hp).1 hq0); replace hbel := hbel.trans (hb1.mono hbel.size); replace h1 := row_keep hb1 h1; replace h2 := row_keep hb1 h2; (try replace hp := row_keep hb1 hp); clear hb1 hq0)
        refine QN.intro ?_
        refine wpAny_fork2 7 10 (by kernel_rfl) rfl rfl ?_ ?_
        · go_wp2_with first
            | (with_reducible refine wpList_loadA rfl _ _ rfl _ _ rfl h1 4 agg4 size4 (by omega) ?_)
          refine QN.intro ?_
          refine wpAny_fork1 10 (by kernel_rfl) rfl ?_
          go_wp2_with first
            | (with_reducible refine wpList_storeWN rfl _ _ _ rfl _ rfl rfl hp size4 hbel (by omega) ?_; intro w1 g3 ho g4; replace h1 := (ho _ (by omega)).trans h1; replace h2 := (ho _ (by omega)).trans h2; replace hq := (ho _ (by omega)).trans hq; clear hp hbel; have hp := g3; have hbel := g4; clear g3 g4 ho)
          refine QN.intro ?_
          refine wpAny_fork1 11 (by kernel_rfl) rfl ?_
          go_wp2_with first
            | (with_reducible refine wpList_storeWN rfl _ _ _ rfl _ rfl rfl hq size4 hbel (by omega) ?_; intro w1 g3 ho g4; replace h1 := (ho _ (by omega)).trans h1; replace h2 := (ho _ (by omega)).trans h2; replace hp := (ho _ (by omega)).trans hp; clear hq hbel; have hq := g3; have hbel := g4; clear g3 g4 ho)
          refine QN.intro ?_
          refine wpAny_end (by kernel_rfl) ?_
          go_wp2_with first
            | (with_reducible refine wpList_loadW rfl _ _ rfl _ rfl hq agg4 size4 ?_)
            | (with_reducible refine wpList_loadW rfl _ _ rfl _ rfl hp agg4 size4 ?_)
            | (with_reducible refine wpList_storePN rfl _ _ _ rfl _ _ rfl rfl h1 size4 (by omega) hbel (by omega) ?_; intro w1 g3 ho g4; replace h2 := (ho _ (by omega)).trans h2; (try replace hp := (ho _ (by omega)).trans hp); (try replace hq := (ho _ (by omega)).trans hq); clear h1 hbel; have h1 := g3; have hbel := g4; clear g3 g4 ho)
            | (with_reducible refine wpList_loadW rfl _ _ rfl _ rfl h1 agg24r size24r ?_)
            | (with_reducible refine wpList_storeW rfl _ _ _ rfl _ rfl rfl h2 size24r ?_)
          exact bodyPost_ret_by (results_ct _ _ _ _ _ _ _ rfl rfl (setRow_heap _ _ _ _ _ _ h2) agg24r size24r) rfl ⟨rfl, below_setRow2 hbel (by omega) _⟩
        · go_wp2_with first
            | (with_reducible refine wpList_storeWN rfl _ _ _ rfl _ rfl rfl hp size4 hbel (by omega) ?_; intro w1 g3 ho g4; replace h1 := (ho _ (by omega)).trans h1; replace h2 := (ho _ (by omega)).trans h2; replace hq := (ho _ (by omega)).trans hq; clear hp hbel; have hp := g3; have hbel := g4; clear g3 g4 ho)
          refine QN.intro ?_
          refine wpAny_fork1 7 (by kernel_rfl) rfl ?_
          go_wp2_with first
            | (with_reducible refine wpList_loadA rfl _ _ rfl _ _ rfl h1 4 agg4 size4 (by omega) ?_)
          refine QN.intro ?_
          refine wpAny_fork1 11 (by kernel_rfl) rfl ?_
          go_wp2_with first
            | (with_reducible refine wpList_storeWN rfl _ _ _ rfl _ rfl rfl hq size4 hbel (by omega) ?_; intro w1 g3 ho g4; replace h1 := (ho _ (by omega)).trans h1; replace h2 := (ho _ (by omega)).trans h2; replace hp := (ho _ (by omega)).trans hp; clear hq hbel; have hq := g3; have hbel := g4; clear g3 g4 ho)
          refine QN.intro ?_
          refine wpAny_end (by kernel_rfl) ?_
          go_wp2_with first
            | (with_reducible refine wpList_loadW rfl _ _ rfl _ rfl hq agg4 size4 ?_)
            | (with_reducible refine wpList_loadW rfl _ _ rfl _ rfl hp agg4 size4 ?_)
            | (with_reducible refine wpList_storePN rfl _ _ _ rfl _ _ rfl rfl h1 size4 (by omega) hbel (by omega) ?_; intro w1 g3 ho g4; replace h2 := (ho _ (by omega)).trans h2; (try replace hp := (ho _ (by omega)).trans hp); (try replace hq := (ho _ (by omega)).trans hq); clear h1 hbel; have h1 := g3; have hbel := g4; clear g3 g4 ho)
            | (with_reducible refine wpList_loadW rfl _ _ rfl _ rfl h1 agg24r size24r ?_)
            | (with_reducible refine wpList_storeW rfl _ _ _ rfl _ rfl rfl h2 size24r ?_)
          exact bodyPost_ret_by (results_ct _ _ _ _ _ _ _ rfl rfl (setRow_heap _ _ _ _ _ _ h2) agg24r size24r) rfl ⟨rfl, below_setRow2 hbel (by omega) _⟩
    · go_wp2_with first
        | (with_reducible refine wpList_allocN rfl 24 rfl 4 zero4 ?_; intro q w1 hq0 hq hb1; have hql := Nat.lt_of_lt_of_le (Array.getElem?_eq_some_iff.1 h2).1 hq0; (try have hpq := Nat.lt_of_lt_of_le (Array.getElem?_eq_some_iff.1 hp).1 hq0); replace hbel := hbel.trans (hb1.mono hbel.size); replace h1 := row_keep hb1 h1; replace h2 := row_keep hb1 h2; (try replace hp := row_keep hb1 hp); clear hb1 hq0)
      refine QN.intro ?_
      refine wpAny_fork2 7 8 (by kernel_rfl) rfl rfl ?_ ?_
      · go_wp2_with first
          | (with_reducible refine wpList_loadA rfl _ _ rfl _ _ rfl h1 4 agg4 size4 (by omega) ?_)
        refine QN.intro ?_
        refine wpAny_fork1 8 (by kernel_rfl) rfl ?_
        go_wp2_with first
          | (with_reducible refine wpList_allocN rfl 24 rfl 4 zero4 ?_; intro p w1 hp0 hp hb1; have hpl := Nat.lt_of_lt_of_le (Array.getElem?_eq_some_iff.1 h2).1 hp0; (try have hpq := Nat.lt_of_lt_of_le (Array.getElem?_eq_some_iff.1 hq).1 hp0); replace hbel := hbel.trans (hb1.mono hbel.size); replace h1 := row_keep hb1 h1; replace h2 := row_keep hb1 h2; (try replace hq := row_keep hb1 hq); clear hb1 hp0)
        refine QN.intro ?_
        refine wpAny_fork1 10 (by kernel_rfl) rfl ?_
        go_wp2_with first
          | (with_reducible refine wpList_storeWN rfl _ _ _ rfl _ rfl rfl hp size4 hbel (by omega) ?_; intro w1 g3 ho g4; replace h1 := (ho _ (by omega)).trans h1; replace h2 := (ho _ (by omega)).trans h2; replace hq := (ho _ (by omega)).trans hq; clear hp hbel; have hp := g3; have hbel := g4; clear g3 g4 ho)
        refine QN.intro ?_
        refine wpAny_fork1 11 (by kernel_rfl) rfl ?_
        go_wp2_with first
          | (with_reducible refine wpList_storeWN rfl _ _ _ rfl _ rfl rfl hq size4 hbel (by omega) ?_; intro w1 g3 ho g4; replace h1 := (ho _ (by omega)).trans h1; replace h2 := (ho _ (by omega)).trans h2; replace hp := (ho _ (by omega)).trans hp; clear hq hbel; have hq := g3; have hbel := g4; clear g3 g4 ho)
        refine QN.intro ?_
        refine wpAny_end (by kernel_rfl) ?_
        go_wp2_with first
          | (with_reducible refine wpList_loadW rfl _ _ rfl _ rfl hq agg4 size4 ?_)
          | (with_reducible refine wpList_loadW rfl _ _ rfl _ rfl hp agg4 size4 ?_)
          | (with_reducible refine wpList_storePN rfl _ _ _ rfl _ _ rfl rfl h1 size4 (by omega) hbel (by omega) ?_; intro w1 g3 ho g4; replace h2 := (ho _ (by omega)).trans h2; (try replace hp := (ho _ (by omega)).trans hp); (try replace hq := (ho _ (by omega)).trans hq); clear h1 hbel; have h1 := g3; have hbel := g4; clear g3 g4 ho)
          | (with_reducible refine wpList_loadW rfl _ _ rfl _ rfl h1 agg24r size24r ?_)
          | (with_reducible refine wpList_storeW rfl _ _ _ rfl _ rfl rfl h2 size24r ?_)
        exact bodyPost_ret_by (results_ct _ _ _ _ _ _ _ rfl rfl (setRow_heap _ _ _ _ _ _ h2) agg24r size24r) rfl ⟨rfl, below_setRow2 hbel (by omega) _⟩
      · go_wp2_with first
          | (with_reducible refine wpList_allocN rfl 24 rfl 4 zero4 ?_; intro p w1 hp0 hp hb1; have hpl := Nat.lt_of_lt_of_le (Array.getElem?_eq_some_iff.1 h2).1 hp0; (try have hpq := Nat.lt_of_lt_of_le (Array.getElem?_eq_some_iff.1 hq).1 hp0); replace hbel := hbel.trans (hb1.mono hbel.size); replace h1 := row_keep hb1 h1; replace h2 := row_keep hb1 h2; (try replace hq := row_keep hb1 hq); clear hb1 hp0)
        refine QN.intro ?_
        refine wpAny_fork2 7 10 (by kernel_rfl) rfl rfl ?_ ?_
        · go_wp2_with first
            | (with_reducible refine wpList_loadA rfl _ _ rfl _ _ rfl h1 4 agg4 size4 (by omega) ?_)
          refine QN.intro ?_
          refine wpAny_fork1 10 (by kernel_rfl) rfl ?_
          go_wp2_with first
            | (with_reducible refine wpList_storeWN rfl _ _ _ rfl _ rfl rfl hp size4 hbel (by omega) ?_; intro w1 g3 ho g4; replace h1 := (ho _ (by omega)).trans h1; replace h2 := (ho _ (by omega)).trans h2; replace hq := (ho _ (by omega)).trans hq; clear hp hbel; have hp := g3; have hbel := g4; clear g3 g4 ho)
          refine QN.intro ?_
          refine wpAny_fork1 11 (by kernel_rfl) rfl ?_
          go_wp2_with first
            | (with_reducible refine wpList_storeWN rfl _ _ _ rfl _ rfl rfl hq size4 hbel (by omega) ?_; intro w1 g3 ho g4; replace h1 := (ho _ (by omega)).trans h1; replace h2 := (ho _ (by omega)).trans h2; replace hp := (ho _ (by omega)).trans hp; clear hq hbel; have hq := g3; have hbel := g4; clear g3 g4 ho)
          refine QN.intro ?_
          refine wpAny_end (by kernel_rfl) ?_
          go_wp2_with first
            | (with_reducible refine wpList_loadW rfl _ _ rfl _ rfl hq agg4 size4 ?_)
            | (with_reducible refine wpList_loadW rfl _ _ rfl _ rfl hp agg4 size4 ?_)
            | (with_reducible refine wpList_storePN rfl _ _ _ rfl _ _ rfl rfl h1 size4 (by omega) hbel (by omega) ?_; intro w1 g3 ho g4; replace h2 := (ho _ (by omega)).trans h2; (try replace hp := (ho _ (by omega)).trans hp); (try replace hq := (ho _ (by omega)).trans hq); clear h1 hbel; have h1 := g3; have hbel := g4; clear g3 g4 ho)
            | (with_reducible refine wpList_loadW rfl _ _ rfl _ rfl h1 agg24r size24r ?_)
            | (with_reducible refine wpList_storeW rfl _ _ _ rfl _ rfl rfl h2 size24r ?_)
          exact bodyPost_ret_by (results_ct _ _ _ _ _ _ _ rfl rfl (setRow_heap _ _ _ _ _ _ h2) agg24r size24r) rfl ⟨rfl, below_setRow2 hbel (by omega) _⟩
        · go_wp2_with first
            | (with_reducible refine wpList_storeWN rfl _ _ _ rfl _ rfl rfl hp size4 hbel (by omega) ?_; intro w1 g3 ho g4; replace h1 := (ho _ (by omega)).trans h1; replace h2 := (ho _ (by omega)).trans h2; replace hq := (ho _ (by omega)).trans hq; clear hp hbel; have hp := g3; have hbel := g4; clear g3 g4 ho)
          refine QN.intro ?_
          refine wpAny_fork1 7 (by kernel_rfl) rfl ?_
          go_wp2_with first
            | (with_reducible refine wpList_loadA rfl _ _ rfl _ _ rfl h1 4 agg4 size4 (by omega) ?_)
          refine QN.intro ?_
          refine wpAny_fork1 11 (by kernel_rfl) rfl ?_
          go_wp2_with first
            | (with_reducible refine wpList_storeWN rfl _ _ _ rfl _ rfl rfl hq size4 hbel (by omega) ?_; intro w1 g3 ho g4; replace h1 := (ho _ (by omega)).trans h1; replace h2 := (ho _ (by omega)).trans h2; replace hp := (ho _ (by omega)).trans hp; clear hq hbel; have hq := g3; have hbel := g4; clear g3 g4 ho)
          refine QN.intro ?_
          refine wpAny_end (by kernel_rfl) ?_
          go_wp2_with first
            | (with_reducible refine wpList_loadW rfl _ _ rfl _ rfl hq agg4 size4 ?_)
            | (with_reducible refine wpList_loadW rfl _ _ rfl _ rfl hp agg4 size4 ?_)
            | (with_reducible refine wpList_storePN rfl _ _ _ rfl _ _ rfl rfl h1 size4 (by omega) hbel (by omega) ?_; intro w1 g3 ho g4; replace h2 := (ho _ (by omega)).trans h2; (try replace hp := (ho _ (by omega)).trans hp); (try replace hq := (ho _ (by omega)).trans hq); clear h1 hbel; have h1 := g3; have hbel := g4; clear g3 g4 ho)
            | (with_reducible refine wpList_loadW rfl _ _ rfl _ rfl h1 agg24r size24r ?_)
            | (with_reducible refine wpList_storeW rfl _ _ _ rfl _ rfl rfl h2 size24r ?_)
          exact bodyPost_ret_by (results_ct _ _ _ _ _ _ _ rfl rfl (setRow_heap _ _ _ _ _ _ h2) agg24r size24r) rfl ⟨rfl, below_setRow2 hbel (by omega) _⟩
  · rw [swap_bad hok]
    cases hf : rackB f with
    | false =>
      have HF : Hid _ := hf
      have HI : Hid (1 = 1) := rfl
      have HK : Hid (1 = 1) := rfl
      clear hf hok
      go_enter Tryz.func21, Tryz.ntmps21
      go_wp2_with first
        | (with_reducible refine wpList_allocA rfl 27 rfl 24 zero24r ?_; (try simp only [size_al]))
        | (with_reducible refine wpList_loadW rfl _ _ rfl _ rfl h1 agg24r size24r ?_)
        | (with_reducible refine wpList_build0 rfl 27 rfl 24 zbuild24 ?_)
        | (with_reducible refine wpList_storeW rfl _ _ _ rfl _ rfl rfl h2 size24r ?_)
        | (go_at_call 34; (with_reducible refine (l2Rack_any _ _).mono ?_); rw [HF.out]; rintro e w1 ⟨rfl, hb1⟩; replace hbel := hbel.trans (hb1.mono hbel.size); replace h1 := row_keep hb1 h1; replace h2 := row_keep hb1 h2; clear hb1)
        | (go_at_call 35; (with_reducible refine (l2Place_any _ _).mono ?_); (first | rw [HI.out] | rw [HK.out]); rintro e w' ⟨rfl, rfl⟩)
      exact bodyPost_ret_by (results_ct _ _ _ _ _ _ _ rfl rfl (setRow_heap _ _ _ _ _ _ h2) agg24r size24r) rfl ⟨rfl, below_setRow2 hbel (by omega) _⟩
    | true =>
      have HF : Hid _ := hf
      by_cases hi : 0 ≤ i ∧ i ≤ 5
      · have HI : Hid _ := show (decide (0 ≤ i) && decide (i ≤ 5)) = true by simpa using hi
        have HK : Hid _ := show (decide (0 ≤ k) && decide (k ≤ 5)) = false by simpa using fun h => fun h2 => hok ⟨hf, hi, h, h2⟩
        clear hf hi hok
        go_enter Tryz.func21, Tryz.ntmps21
        go_wp2_with first
          | (with_reducible refine wpList_allocA rfl 27 rfl 24 zero24r ?_; (try simp only [size_al]))
          | (with_reducible refine wpList_loadW rfl _ _ rfl _ rfl h1 agg24r size24r ?_)
          | (with_reducible refine wpList_build0 rfl 27 rfl 24 zbuild24 ?_)
          | (with_reducible refine wpList_storeW rfl _ _ _ rfl _ rfl rfl h2 size24r ?_)
          | (go_at_call 34; (with_reducible refine (l2Rack_any _ _).mono ?_); rw [HF.out]; rintro e w1 ⟨rfl, hb1⟩; replace hbel := hbel.trans (hb1.mono hbel.size); replace h1 := row_keep hb1 h1; replace h2 := row_keep hb1 h2; clear hb1)
          | (go_at_call 35; (with_reducible refine (l2Place_any _ _).mono ?_); (first | rw [HI.out] | rw [HK.out]); rintro e w' ⟨rfl, rfl⟩)
        exact bodyPost_ret_by (results_ct _ _ _ _ _ _ _ rfl rfl (setRow_heap _ _ _ _ _ _ h2) agg24r size24r) rfl ⟨rfl, below_setRow2 hbel (by omega) _⟩
      · have HI : Hid _ := show (decide (0 ≤ i) && decide (i ≤ 5)) = false by simpa using hi
        obtain ⟨b, hb⟩ : ∃ b, (decide (0 ≤ k) && decide (k ≤ 5)) = b := ⟨_, rfl⟩
        have HK : Hid _ := hb
        clear hf hi hok hb
        go_enter Tryz.func21, Tryz.ntmps21
        go_wp2_with first
          | (with_reducible refine wpList_allocA rfl 27 rfl 24 zero24r ?_; (try simp only [size_al]))
          | (with_reducible refine wpList_loadW rfl _ _ rfl _ rfl h1 agg24r size24r ?_)
          | (with_reducible refine wpList_build0 rfl 27 rfl 24 zbuild24 ?_)
          | (with_reducible refine wpList_storeW rfl _ _ _ rfl _ rfl rfl h2 size24r ?_)
          | (go_at_call 34; (with_reducible refine (l2Rack_any _ _).mono ?_); rw [HF.out]; rintro e w1 ⟨rfl, hb1⟩; replace hbel := hbel.trans (hb1.mono hbel.size); replace h1 := row_keep hb1 h1; replace h2 := row_keep hb1 h2; clear hb1)
          | (go_at_call 35; (with_reducible refine (l2Place_any _ _).mono ?_); (first | rw [HI.out] | rw [HK.out]); rintro e w' ⟨rfl, rfl⟩)
        exact bodyPost_ret_by (results_ct _ _ _ _ _ _ _ rfl rfl (setRow_heap _ _ _ _ _ _ h2) agg24r size24r) rfl ⟨rfl, below_setRow2 hbel (by omega) _⟩
end Go.Proofs.YtlbgmkengkgnfaaGreatDoor
end

section
/- The order of tubes and of racks: the program's comparisons. -/
namespace Go.Proofs.YtlbgmkengkgnfaaGreatDoor
set_option linter.unusedSimpArgs false
set_option linter.unusedVariables false
set_option maxRecDepth 20000
open Go.RowKit
theorem lexC_val (a b : Nat → Int) : ∀ k, lexC a b k = 0 ∨ lexC a b k = -1 ∨ lexC a b k = 1
  | 0 => .inl rfl
  | k + 1 => by
    have := lexC_val a b k
    simp only [lexC]
    split
    · exact this
    · split
      · simp
      · split <;> simp
theorem lexC_shift {a b : Nat → Int} {n : Nat} (h : lexC a b n = 0) : ∀ k, lexC a b (n + k) = lexC (fun j => a (n + j)) (fun j => b (n + j)) k
  | 0 => h
  | k + 1 => by
    have ih := lexC_shift h k
    rw [show n + (k + 1) = (n + k) + 1 from rfl]
    simp only [lexC, ih]
theorem lexC_stop {a b : Nat → Int} {n : Nat} (h : lexC a b n ≠ 0) : ∀ k, lexC a b (n + k) = lexC a b n
  | 0 => rfl
  | k + 1 => by
    have ih := lexC_stop h k
    rw [show n + (k + 1) = (n + k) + 1 from rfl]
    simp only [lexC, ih, if_pos h]
def c3 (x y : Int) : Int := if x < y then -1 else if y < x then 1 else 0
theorem lexC_next {a b : Nat → Int} {n : Nat} (h : lexC a b n = 0) : lexC a b (n + 1) = c3 (a n) (b n) := by
  simp only [lexC, h, c3]
  simp
theorem isNaN_int (x : Int) (w : World) : Calls Tryz.prog 91 #[.int .i64 x] w fun e w' => e = .returned (.bool false) ∧ w = w' := by
  go_enter Tryz.func91, Tryz.ntmps91
  go_wp2_with fail
  go_ret
  simp
theorem cmpI_any (x y : Int) (w : World) : Calls Tryz.prog 85 #[.int .i64 x, .int .i64 y] w fun e w' => e = .returned (.int .i64 (c3 x y)) ∧ w = w' := by
  unfold c3
  by_cases h : x < y
  · rw [if_pos h]
    go_enter Tryz.func85, Tryz.ntmps85
    go_wp2_with first
      | (go_at_call 91; (with_reducible refine (isNaN_int _ _).mono ?_); rintro e w' ⟨rfl, rfl⟩)
    go_ret
    exact ⟨rfl, rfl⟩
  · rw [if_neg h]
    by_cases h2 : y < x
    · rw [if_pos h2]
      go_enter Tryz.func85, Tryz.ntmps85
      go_wp2_with first
        | (go_at_call 91; (with_reducible refine (isNaN_int _ _).mono ?_); rintro e w' ⟨rfl, rfl⟩)
      go_ret
      exact ⟨rfl, rfl⟩
    · rw [if_neg h2]
      go_enter Tryz.func85, Tryz.ntmps85
      go_wp2_with first
        | (go_at_call 91; (with_reducible refine (isNaN_int _ _).mono ?_); rintro e w' ⟨rfl, rfl⟩)
      go_ret
      exact ⟨rfl, rfl⟩
theorem cmpS_any {B1 o1 c1 n1 B2 o2 c2 n2 n : Nat} {f g : Nat → Int} {T1 T2 : TypeId} {fr1 fr2 : Nat × Nat} (w : World) (h1 : w.heap[B1]? = some (.cells (arr n1 f) T1 fr1)) (h2 : w.heap[B2]? = some (.cells (arr n2 g) T2 fr2)) (hl1 : o1 + n ≤ n1) (hl2 : o2 + n ≤ n2) (hm : n ≤ 1000) :
    Calls Tryz.prog 78 #[.slice (some ⟨B1, o1, none⟩) n c1, .slice (some ⟨B2, o2, none⟩) n c2] w fun e w' => e = .returned (.int .i64 (lexC (fun j => f (o1 + j)) (fun j => g (o2 + j)) n)) ∧ w = w' := by
  go_enter Tryz.func78, Tryz.ntmps78
  go_wp2_with fail
  go_loop [11] (fun i => ∃ k : Nat, k ≤ n ∧ i = .int .i64 k ∧ lexC (fun j => f (o1 + j)) (fun j => g (o2 + j)) k = 0) (fun i => n - (intOf i).toNat)
  case atStart => exact ⟨0, by omega, rfl, rfl⟩
  case round =>
    obtain ⟨k, hk, rfl, h0⟩ := hrel
    by_cases hlt : k < n
    · have hlt' : (k : Int) < (n : Int) := by omega
      have hc1 := rowcell h1 (i := o1 + k) (by omega)
      have hc2 := rowcell h2 (i := o2 + k) (by omega)
      have HN : Hid (lexC (fun j => f (o1 + j)) (fun j => g (o2 + j)) (k + 1) = c3 (f (o1 + k)) (g (o2 + k))) := lexC_next h0
      by_cases hz : c3 (f (o1 + k)) (g (o2 + k)) = 0
      · have HZ : Hid _ := hz
        clear hz h0
        go_wp2_with first
          | (go_at_call 85; (with_reducible refine (cmpI_any _ _ _).mono ?_); rw [HZ.out]; rintro e w' ⟨rfl, rfl⟩)
        go_round
        case rel => exact ⟨k + 1, by omega, by go_num, by rw [HN.out]; exact HZ.out⟩
        case measure => simp [intOf]; omega
      · have HS : Hid (lexC (fun j => f (o1 + j)) (fun j => g (o2 + j)) n = c3 (f (o1 + k)) (g (o2 + k))) := by
          have := lexC_stop (a := fun j => f (o1 + j)) (b := fun j => g (o2 + j)) (n := k + 1) (by rw [HN.out]; exact hz) (n - (k + 1))
          rw [show k + 1 + (n - (k + 1)) = n by omega, HN.out] at this
          exact this
        obtain ⟨z, hzz⟩ : ∃ z, c3 (f (o1 + k)) (g (o2 + k)) = z := ⟨_, rfl⟩
        rw [hzz] at hz
        have HZ : Hid _ := hzz
        have hzd : (z != 0) = true := by simpa using hz
        clear hzz h0
        go_wp2_with first
          | (go_at_call 85; (with_reducible refine (cmpI_any _ _ _).mono ?_); rw [HZ.out]; rintro e w' ⟨rfl, rfl⟩)
        go_ret
        exact ⟨ret_int (HZ.out.symm.trans HS.out.symm), rfl⟩
    · obtain rfl : k = n := by omega
      have H0 : Hid _ := h0
      clear h0
      go_wp2_with fail
      go_ret
      exact ⟨ret_int H0.out.symm, rfl⟩
/-- Two tubes compared. -/
theorem cmpTubes_any (f g : Nat → Int) (w : World) : Calls Tryz.prog 68 #[.agg (arr 4 f), .agg (arr 4 g)] w fun e w' => e = .returned (.int .i64 (lexC f g 4)) ∧ Below w.heap.size w w' := by
  have h1 : ((w.alloc (.cells (arr 4 f) 24)).alloc (.cells (arr 4 g) 24)).heap[w.heap.size]? = some (.cells (arr 4 f) 24 (0, 0)) := by rw [heap_old (by simp), heap_new rfl]
  have h2 : ((w.alloc (.cells (arr 4 f) 24)).alloc (.cells (arr 4 g) 24)).heap[w.heap.size + 1]? = some (.cells (arr 4 g) 24 (0, 0)) := heap_new (by simp)
  have hbel : Below w.heap.size w ((w.alloc (.cells (arr 4 f) 24)).alloc (.cells (arr 4 g) 24)) := ((Below.refl _ _).alloc (by simp) _).alloc (by simp) _
  have HZ : Hid (lexC (fun j => f (0 + j)) (fun j => g (0 + j)) 4 = lexC f g 4) := by
    show lexC (fun j => f (0 + j)) (fun j => g (0 + j)) 4 = lexC f g 4
    simp only [Nat.zero_add]
  go_enter Tryz.func68, Tryz.ntmps68
  go_wp2_with fail
  refine wp_region_held 3 (Cls w _) (by kernel_rfl) (by kernel_rfl) (Cls.two h1 h2 hbel) ?_; simp only [List.take_succ_cons, List.take_zero, List.drop_succ_cons, List.drop_zero]
  repeat (first
    | ((with_reducible refine wpQuiet_call rfl 78 _ _ rfl (.int .i64 (lexC f g 4)) ?_ ?_ ?_); (exact enters_of Tryz.func78 (by kernel_rfl) rfl); (intro w' h'; refine (cmpS_any w' h'.r1 h'.r2 (by omega) (by omega) (by omega)).mono fun _ _ ⟨he, hb⟩ => ⟨he.trans (ret_int HZ.out), hb ▸ h'⟩))
    | ((with_reducible refine wpQuiet_step (fun K hK => ?_)); go_simp; (first | (refine ⟨_, fun _ _ => rfl, hK _ ?_⟩) | (refine ⟨_, fun _ _ => ⟨rfl, rfl⟩, hK _ ?_⟩) | (refine hK _ ?_)); clear hK K))
  refine wpQuiet_nil ?_
  intro wt hCt
  replace hbel := hCt.2
  go_wp2_with first
    | fail
  go_ret
  exact ⟨rfl, hbel⟩
/-- Two racks' tubes compared. -/
theorem cmpFunc_any {B1 o1 c1 n1 B2 o2 c2 n2 n : Nat} {f g : Nat → Int} {T1 T2 : TypeId} {fr1 fr2 : Nat × Nat} (w : World) (h1 : w.heap[B1]? = some (.cells (arr n1 f) T1 fr1)) (h2 : w.heap[B2]? = some (.cells (arr n2 g) T2 fr2)) (hl1 : o1 + 4 * n ≤ n1) (hl2 : o2 + 4 * n ≤ n2) (hm : n ≤ 1000) :
    Calls Tryz.prog 67 #[.slice (some ⟨B1, o1, none⟩) n c1, .slice (some ⟨B2, o2, none⟩) n c2, .func (.func 68) #[] #[]] w fun e w' => e = .returned (.int .i64 (lexC (fun j => f (o1 + j)) (fun j => g (o2 + j)) (n * 4))) ∧ Below w.heap.size w w' := by
  have hbel : Below w.heap.size w w := Below.refl _ _
  go_enter Tryz.func67, Tryz.ntmps67
  go_wp2_with fail
  go_loopw [13] (fun i wr => ∃ k : Nat, k ≤ n ∧ i = .int .i64 k ∧ lexC (fun j => f (o1 + j)) (fun j => g (o2 + j)) (k * 4) = 0 ∧ wr.heap[B1]? = some (.cells (arr n1 f) T1 fr1) ∧ wr.heap[B2]? = some (.cells (arr n2 g) T2 fr2) ∧ Below w.heap.size w wr) (fun i _ => n - (intOf i).toNat)
  case atStart => exact ⟨0, by omega, rfl, by rw [Nat.zero_mul]; rfl, h1, h2, hbel⟩
  case round =>
    clear h1 h2 hbel
    obtain ⟨k, hk, rfl, h0, h1, h2, hbel⟩ := hrel
    by_cases hlt : k < n
    · have hlt' : (k : Int) < (n : Int) := by omega
      have hs := lexC_shift h0 4
      have HN : Hid (lexC (fun j => f (o1 + j)) (fun j => g (o2 + j)) ((k + 1) * 4) = lexC (fun l => f (o1 + k * 4 + l)) (fun l => g (o2 + k * 4 + l)) 4) := by
        show lexC (fun j => f (o1 + j)) (fun j => g (o2 + j)) ((k + 1) * 4) = _
        rw [show (k + 1) * 4 = k * 4 + 4 by omega, hs]
        simp only [Nat.add_assoc]
      clear hs
      have tok_h8 : True := trivial
      have tok_h9 : True := trivial
      have hW1 := row_lt h1
      have hW2 := row_lt h2
      by_cases hz : lexC (fun l => f (o1 + k * 4 + l)) (fun l => g (o2 + k * 4 + l)) 4 = 0
      · have HZ : Hid _ := hz
        clear hz h0
        go_wp2_with first
          | (with_reducible refine wpList_loadA rfl _ _ rfl _ _ rfl h1 4 agg4 size4 (by omega) ?_)
          | (with_reducible refine wpList_loadA rfl _ _ rfl _ _ rfl h2 4 agg4 size4 (by omega) ?_)
          | (have _t := tok_h8; with_reducible refine wpList_allocN rfl 24 rfl 4 zero4 ?_; intro Bh8 w1 hBh8 h8 hb1; have hWh8 := Nat.le_trans hbel.size hBh8; have hLh1h8 := Nat.lt_of_lt_of_le (row_lt h1) hBh8; have hLh2h8 := Nat.lt_of_lt_of_le (row_lt h2) hBh8; replace hbel := hbel.trans (hb1.mono hbel.size); replace h1 := row_keep hb1 h1; replace h2 := row_keep hb1 h2; clear hb1 _t tok_h8)
          | (with_reducible refine wpList_storeWN rfl _ _ _ rfl _ rfl rfl h8 size4 hbel hWh8 ?_; intro w1 g3 ho g4; replace h1 := (ho _ (by omega)).trans h1; replace h2 := (ho _ (by omega)).trans h2; clear h8 hbel; have h8 := g3; have hbel := g4; clear g3 g4 ho)
          | (have _t := tok_h9; with_reducible refine wpList_allocN rfl 24 rfl 4 zero4 ?_; intro Bh9 w1 hBh9 h9 hb1; have hWh9 := Nat.le_trans hbel.size hBh9; have hLh1h9 := Nat.lt_of_lt_of_le (row_lt h1) hBh9; have hLh2h9 := Nat.lt_of_lt_of_le (row_lt h2) hBh9; have hLh8h9 := Nat.lt_of_lt_of_le (row_lt h8) hBh9; replace hbel := hbel.trans (hb1.mono hbel.size); replace h1 := row_keep hb1 h1; replace h2 := row_keep hb1 h2; replace h8 := row_keep hb1 h8; clear hb1 _t tok_h9)
          | (with_reducible refine wpList_storeWN rfl _ _ _ rfl _ rfl rfl h9 size4 hbel hWh9 ?_; intro w1 g3 ho g4; replace h1 := (ho _ (by omega)).trans h1; replace h2 := (ho _ (by omega)).trans h2; replace h8 := (ho _ (by omega)).trans h8; clear h9 hbel; have h9 := g3; have hbel := g4; clear g3 g4 ho)
          | (with_reducible refine wpList_loadW rfl _ _ rfl _ rfl h8 agg4 size4 ?_)
          | (with_reducible refine wpList_loadW rfl _ _ rfl _ rfl h9 agg4 size4 ?_)
          | (with_reducible refine (cmpTubes_any _ _ _).mono ?_; rw [HZ.out]; rintro e w1 ⟨rfl, hb1⟩; replace hbel := hbel.trans (hb1.mono hbel.size); replace h1 := row_keep hb1 h1; replace h2 := row_keep hb1 h2; clear hb1)
        go_roundw
        case rel => exact ⟨k + 1, by omega, by go_num, by rw [HN.out]; exact HZ.out, h1, h2, hbel⟩
        case measure => simp [intOf]; omega
      · obtain ⟨z, hzz⟩ : ∃ z, lexC (fun l => f (o1 + k * 4 + l)) (fun l => g (o2 + k * 4 + l)) 4 = z := ⟨_, rfl⟩
        have HS : Hid (lexC (fun j => f (o1 + j)) (fun j => g (o2 + j)) (n * 4) = z) := by
          have := lexC_stop (a := fun j => f (o1 + j)) (b := fun j => g (o2 + j)) (n := (k + 1) * 4) (by rw [HN.out]; exact hz) (n * 4 - (k + 1) * 4)
          rw [show (k + 1) * 4 + (n * 4 - (k + 1) * 4) = n * 4 by omega, HN.out, hzz] at this
          exact this
        rw [hzz] at hz
        have HZ : Hid _ := hzz
        have hzd : (z != 0) = true := by simpa using hz
        clear hzz h0
        go_wp2_with first
          | (with_reducible refine wpList_loadA rfl _ _ rfl _ _ rfl h1 4 agg4 size4 (by omega) ?_)
          | (with_reducible refine wpList_loadA rfl _ _ rfl _ _ rfl h2 4 agg4 size4 (by omega) ?_)
          | (have _t := tok_h8; with_reducible refine wpList_allocN rfl 24 rfl 4 zero4 ?_; intro Bh8 w1 hBh8 h8 hb1; have hWh8 := Nat.le_trans hbel.size hBh8; have hLh1h8 := Nat.lt_of_lt_of_le (row_lt h1) hBh8; have hLh2h8 := Nat.lt_of_lt_of_le (row_lt h2) hBh8; replace hbel := hbel.trans (hb1.mono hbel.size); replace h1 := row_keep hb1 h1; replace h2 := row_keep hb1 h2; clear hb1 _t tok_h8)
          | (with_reducible refine wpList_storeWN rfl _ _ _ rfl _ rfl rfl h8 size4 hbel hWh8 ?_; intro w1 g3 ho g4; replace h1 := (ho _ (by omega)).trans h1; replace h2 := (ho _ (by omega)).trans h2; clear h8 hbel; have h8 := g3; have hbel := g4; clear g3 g4 ho)
          | (have _t := tok_h9; with_reducible refine wpList_allocN rfl 24 rfl 4 zero4 ?_; intro Bh9 w1 hBh9 h9 hb1; have hWh9 := Nat.le_trans hbel.size hBh9; have hLh1h9 := Nat.lt_of_lt_of_le (row_lt h1) hBh9; have hLh2h9 := Nat.lt_of_lt_of_le (row_lt h2) hBh9; have hLh8h9 := Nat.lt_of_lt_of_le (row_lt h8) hBh9; replace hbel := hbel.trans (hb1.mono hbel.size); replace h1 := row_keep hb1 h1; replace h2 := row_keep hb1 h2; replace h8 := row_keep hb1 h8; clear hb1 _t tok_h9)
          | (with_reducible refine wpList_storeWN rfl _ _ _ rfl _ rfl rfl h9 size4 hbel hWh9 ?_; intro w1 g3 ho g4; replace h1 := (ho _ (by omega)).trans h1; replace h2 := (ho _ (by omega)).trans h2; replace h8 := (ho _ (by omega)).trans h8; clear h9 hbel; have h9 := g3; have hbel := g4; clear g3 g4 ho)
          | (with_reducible refine wpList_loadW rfl _ _ rfl _ rfl h8 agg4 size4 ?_)
          | (with_reducible refine wpList_loadW rfl _ _ rfl _ rfl h9 agg4 size4 ?_)
          | (with_reducible refine (cmpTubes_any _ _ _).mono ?_; rw [HZ.out]; rintro e w1 ⟨rfl, hb1⟩; replace hbel := hbel.trans (hb1.mono hbel.size); replace h1 := row_keep hb1 h1; replace h2 := row_keep hb1 h2; clear hb1)
        go_ret
        exact ⟨ret_int HS.out.symm, hbel⟩
    · obtain rfl : k = n := by omega
      have H0 : Hid _ := h0
      clear h0
      go_wp2_with fail
      go_ret
      exact ⟨ret_int H0.out.symm, hbel⟩
theorem cmpRacks_any (f g : Nat → Int) (w : World) : Calls Tryz.prog 50 #[.agg (arr 24 f), .agg (arr 24 g)] w fun e w' => e = .returned (.int .i64 (lexC f g 24)) ∧ Below w.heap.size w w' := by
  have h1 : ((w.alloc (.cells (arr 24 f) 27)).alloc (.cells (arr 24 g) 27)).heap[w.heap.size]? = some (.cells (arr 24 f) 27 (0, 0)) := by rw [heap_old (by simp), heap_new rfl]
  have h2 : ((w.alloc (.cells (arr 24 f) 27)).alloc (.cells (arr 24 g) 27)).heap[w.heap.size + 1]? = some (.cells (arr 24 g) 27 (0, 0)) := heap_new (by simp)
  have hbel : Below w.heap.size w ((w.alloc (.cells (arr 24 f) 27)).alloc (.cells (arr 24 g) 27)) := ((Below.refl _ _).alloc (by simp) _).alloc (by simp) _
  have HZ : Hid (lexC (fun j => f (0 + j)) (fun j => g (0 + j)) (6 * 4) = lexC f g 24) := by
    show lexC (fun j => f (0 + j)) (fun j => g (0 + j)) 24 = lexC f g 24
    simp only [Nat.zero_add]
  go_enter Tryz.func50, Tryz.ntmps50
  go_wp2_with fail
  refine wp_region_held 5 (Cls w _) (by kernel_rfl) (by kernel_rfl) (Cls.two h1 h2 hbel) ?_; simp only [List.take_succ_cons, List.take_zero, List.drop_succ_cons, List.drop_zero]
  repeat (first
    | ((with_reducible refine wpQuiet_call rfl 67 _ _ rfl (.int .i64 (lexC f g 24)) ?_ ?_ ?_); (exact enters_of Tryz.func67 (by kernel_rfl) rfl); (intro w' h'; refine (cmpFunc_any (n := 6) w' h'.r1 h'.r2 (by omega) (by omega) (by omega)).mono fun _ _ ⟨he, hb⟩ => ⟨he.trans (ret_int HZ.out), h'.keep hb⟩))
    | ((with_reducible refine wpQuiet_step (fun K hK => ?_)); go_simp; (first | (refine ⟨_, fun _ _ => rfl, hK _ ?_⟩) | (refine ⟨_, fun _ _ => ⟨rfl, rfl⟩, hK _ ?_⟩) | (refine hK _ ?_)); clear hK K))
  refine wpQuiet_nil ?_
  intro wt hCt
  replace hbel := hCt.2
  go_wp2_with first
    | fail
  go_ret
  exact ⟨rfl, hbel⟩
theorem lexC_neg {a b : Nat → Int} {n : Nat} (h : lexC a b n = 0) (hne : a n ≠ b n) {m : Nat} (hm : n < m) : decide (lexC a b m < 0) = decide (a n < b n) := by
  have h1 := lexC_next h
  have hz : lexC a b (n + 1) ≠ 0 := by
    rw [h1]; unfold c3
    split
    · omega
    · split
      · omega
      · omega
  have h2 := lexC_stop hz (m - (n + 1))
  rw [show n + 1 + (m - (n + 1)) = m by omega] at h2
  rw [h2, h1, Bool.eq_iff_iff, decide_eq_true_iff, decide_eq_true_iff]
  unfold c3
  split
  · omega
  · split <;> omega
theorem l2Before_any (f g : Nat → Int) (w : World) : Calls Tryz.prog 51 #[.agg (arr 24 f), .agg (arr 24 g)] w fun e w' => e = .returned (.bool (decide (lexC f g 24 < 0))) ∧ Below w.heap.size w w' := by
  have h1 : ((w.alloc (.cells (arr 24 f) 27)).alloc (.cells (arr 24 g) 27)).heap[w.heap.size]? = some (.cells (arr 24 f) 27 (0, 0)) := by rw [heap_old (by simp), heap_new rfl]
  have h2 : ((w.alloc (.cells (arr 24 f) 27)).alloc (.cells (arr 24 g) 27)).heap[w.heap.size + 1]? = some (.cells (arr 24 g) 27 (0, 0)) := heap_new (by simp)
  have hbel : Below w.heap.size w ((w.alloc (.cells (arr 24 f) 27)).alloc (.cells (arr 24 g) 27)) := ((Below.refl _ _).alloc (by simp) _).alloc (by simp) _
  go_enter Tryz.func51, Tryz.ntmps51
  go_wp2_with fail
  go_loopw [5] (fun i wr => ∃ k : Nat, k ≤ 6 ∧ i = .int .i64 k ∧ lexC f g (k * 4) = 0 ∧ wr.heap[w.heap.size]? = some (.cells (arr 24 f) 27 (0, 0)) ∧ wr.heap[w.heap.size + 1]? = some (.cells (arr 24 g) 27 (0, 0)) ∧ Below w.heap.size w wr) (fun i _ => 6 - (intOf i).toNat)
  case atStart => exact ⟨0, by omega, rfl, rfl, h1, h2, hbel⟩
  case round =>
    clear h1 h2 hbel
    obtain ⟨k, hk, rfl, h0, h1, h2, hbel⟩ := hrel
    obtain ⟨wo, hwo⟩ : ∃ wo : World, wo = wr := ⟨_, rfl⟩
    rw [← hwo] at h1 h2 hbel ⊢
    clear hwo
    by_cases hlt : k < 6
    · have hlt' : (k : Int) < 6 := by omega
      have hk0 : (0 : Int) ≤ k := by omega
      go_wp2_with fail
      go_loopw [6] (fun i wr => ∃ j : Nat, j ≤ 4 ∧ i = .int .i64 j ∧ lexC f g (k * 4 + j) = 0 ∧ wr.heap[w.heap.size]? = some (.cells (arr 24 f) 27 (0, 0)) ∧ wr.heap[w.heap.size + 1]? = some (.cells (arr 24 g) 27 (0, 0)) ∧ Below w.heap.size w wr) (fun i _ => 4 - (intOf i).toNat)
      case atStart => exact ⟨0, by omega, rfl, h0, h1, h2, hbel⟩
      case round =>
        clear h1 h2 hbel h0
        obtain ⟨j, hj, rfl, h0, h1, h2, hbel⟩ := hrel
        by_cases hjt : j < 4
        · have hjt' : (j : Int) < 4 := by omega
          by_cases he : f (k * 4 + j) = g (k * 4 + j)
          · have HS : Hid (lexC f g (k * 4 + (j + 1)) = 0) := by
              show lexC f g (k * 4 + j + 1) = 0
              rw [lexC_next h0, he]
              simp [c3]
            have hed : (f (k * 4 + j) != g (k * 4 + j)) = false := by simpa using he
            clear he h0
            go_wp2_with fail
            refine wp_region_held 13 (Cls w _) (by kernel_rfl) (by kernel_rfl) (Cls.two h1 h2 hbel) ?_; simp only [List.take_succ_cons, List.take_zero, List.drop_succ_cons, List.drop_zero]
            repeat (first
              | (with_reducible refine wpQuiet_loadI rfl _ _ rfl _ _ rfl (fun _ h => h.r1) aggI undI (by omega) ?_)
              | (with_reducible refine wpQuiet_loadI rfl _ _ rfl _ _ rfl (fun _ h => h.r2) aggI undI (by omega) ?_)
              | ((with_reducible refine wpQuiet_step (fun K hK => ?_)); go_simp; (first | (refine ⟨_, fun _ _ => rfl, hK _ ?_⟩) | (refine ⟨_, fun _ _ => ⟨rfl, rfl⟩, hK _ ?_⟩) | (refine hK _ ?_)); clear hK K))
            refine wpQuiet_nil ?_
            intro wt hCt
            replace h1 := hCt.r1
            replace h2 := hCt.r2
            replace hbel := hCt.2
            clear hCt
            go_wp2_with fail
            go_roundw
            case rel => exact ⟨j + 1, by omega, by go_num, HS.out, h1, h2, hbel⟩
            case measure => simp [intOf]; omega
          · have hed : (f (k * 4 + j) != g (k * 4 + j)) = true := by simpa using he
            have HS : Hid (decide (lexC f g 24 < 0) = decide (f (k * 4 + j) < g (k * 4 + j))) := lexC_neg h0 he (by omega)
            clear he h0
            go_wp2_with fail
            refine wp_region_held 13 (Cls w _) (by kernel_rfl) (by kernel_rfl) (Cls.two h1 h2 hbel) ?_; simp only [List.take_succ_cons, List.take_zero, List.drop_succ_cons, List.drop_zero]
            repeat (first
              | (with_reducible refine wpQuiet_loadI rfl _ _ rfl _ _ rfl (fun _ h => h.r1) aggI undI (by omega) ?_)
              | (with_reducible refine wpQuiet_loadI rfl _ _ rfl _ _ rfl (fun _ h => h.r2) aggI undI (by omega) ?_)
              | ((with_reducible refine wpQuiet_step (fun K hK => ?_)); go_simp; (first | (refine ⟨_, fun _ _ => rfl, hK _ ?_⟩) | (refine ⟨_, fun _ _ => ⟨rfl, rfl⟩, hK _ ?_⟩) | (refine hK _ ?_)); clear hK K))
            refine wpQuiet_nil ?_
            intro wt hCt
            replace h1 := hCt.r1
            replace h2 := hCt.r2
            replace hbel := hCt.2
            clear hCt
            go_wp2_with fail
            refine wp_region_held 13 (Cls w _) (by kernel_rfl) (by kernel_rfl) (Cls.two h1 h2 hbel) ?_; simp only [List.take_succ_cons, List.take_zero, List.drop_succ_cons, List.drop_zero]
            repeat (first
              | (with_reducible refine wpQuiet_loadI rfl _ _ rfl _ _ rfl (fun _ h => h.r1) aggI undI (by omega) ?_)
              | (with_reducible refine wpQuiet_loadI rfl _ _ rfl _ _ rfl (fun _ h => h.r2) aggI undI (by omega) ?_)
              | ((with_reducible refine wpQuiet_step (fun K hK => ?_)); go_simp; (first | (refine ⟨_, fun _ _ => rfl, hK _ ?_⟩) | (refine ⟨_, fun _ _ => ⟨rfl, rfl⟩, hK _ ?_⟩) | (refine hK _ ?_)); clear hK K))
            refine wpQuiet_nil ?_
            intro wt hCt
            replace h1 := hCt.r1
            replace h2 := hCt.r2
            replace hbel := hCt.2
            clear hCt
            go_wp2_with fail
            go_ret
            exact ⟨ret_bool HS.out.symm, hbel⟩
        · obtain rfl : j = 4 := by omega
          have HS : Hid (lexC f g ((k + 1) * 4) = 0) := by show lexC f g ((k + 1) * 4) = 0; rw [show (k + 1) * 4 = k * 4 + 4 by omega]; exact h0
          clear h0
          go_wp2_with fail
          go_roundw
          case rel => exact ⟨k + 1, by omega, by go_num, HS.out, h1, h2, hbel⟩
          case measure => simp [intOf]; omega
    · obtain rfl : k = 6 := by omega
      have H0 : Hid (decide (lexC f g 24 < 0) = false) := by show decide (lexC f g 24 < 0) = false; rw [show lexC f g 24 = 0 from h0]; rfl
      clear h0
      go_wp2_with fail
      go_ret
      exact ⟨ret_bool H0.out.symm, hbel⟩
def lessR (f g : Nat → Int) : Bool × Bool := if rackB f = true ∧ rackB g = true then (decide (lexC f g 24 < 0), true) else (false, false)
theorem specLess_any (f g : Nat → Int) (w : World) : Calls Tryz.prog 24 #[.agg (arr 24 f), .agg (arr 24 g)] w fun e w' => e = .returned (.tuple #[.bool (lessR f g).1, .bool (lessR f g).2]) ∧ Below w.heap.size w w' := by
  have h1 : ((w.alloc (.cells (arr 24 f) 27)).alloc (.cells (arr 24 g) 27)).heap[w.heap.size]? = some (.cells (arr 24 f) 27 (0, 0)) := by rw [heap_old (by simp), heap_new rfl]
  have h2 : ((w.alloc (.cells (arr 24 f) 27)).alloc (.cells (arr 24 g) 27)).heap[w.heap.size + 1]? = some (.cells (arr 24 g) 27 (0, 0)) := heap_new (by simp)
  have hbel : Below w.heap.size w ((w.alloc (.cells (arr 24 f) 27)).alloc (.cells (arr 24 g) 27)) := ((Below.refl _ _).alloc (by simp) _).alloc (by simp) _
  cases hf : rackB f with
  | false =>
    rw [show lessR f g = (false, false) from if_neg (by simp [hf])]
    have HF : Hid _ := hf
    have HG : Hid (1 = 1) := rfl
    clear hf
    go_enter Tryz.func24, Tryz.ntmps24
    go_wp2_with first
      | (with_reducible refine wpList_loadW rfl _ _ rfl _ rfl h1 agg24r size24r ?_)
      | (with_reducible refine wpList_loadW rfl _ _ rfl _ rfl h2 agg24r size24r ?_)
      | (with_reducible refine wpList_loadWG rfl _ _ rfl _ rfl h2 agg24r size24r ?_)
      | (go_at_call 34; (with_reducible refine (l2Rack_any f _).mono ?_); rw [HF.out]; rintro e w1 ⟨rfl, hb1⟩; replace hbel := hbel.trans (hb1.mono hbel.size); replace h1 := row_keep hb1 h1; replace h2 := row_keep hb1 h2; clear hb1)
      | (go_at_call 34; (with_reducible refine (l2Rack_any g _).mono ?_); rw [HG.out]; rintro e w1 ⟨rfl, hb1⟩; replace hbel := hbel.trans (hb1.mono hbel.size); replace h1 := row_keep hb1 h1; replace h2 := row_keep hb1 h2; clear hb1)
      | (go_at_call 51; (with_reducible refine (l2Before_any f g _).mono ?_); rintro e w1 ⟨rfl, hb1⟩; replace hbel := hbel.trans (hb1.mono hbel.size); replace h1 := row_keep hb1 h1; replace h2 := row_keep hb1 h2; clear hb1)
    go_ret2
    exact ⟨rfl, hbel⟩
  | true =>
    cases hg : rackB g with
    | false =>
      rw [show lessR f g = (false, false) from if_neg (by simp [hg])]
      have HF : Hid _ := hf
      have HG : Hid _ := hg
      clear hf hg
      go_enter Tryz.func24, Tryz.ntmps24
      go_wp2_with first
        | (with_reducible refine wpList_loadW rfl _ _ rfl _ rfl h1 agg24r size24r ?_)
        | (with_reducible refine wpList_loadW rfl _ _ rfl _ rfl h2 agg24r size24r ?_)
        | (with_reducible refine wpList_loadWG rfl _ _ rfl _ rfl h2 agg24r size24r ?_)
        | (go_at_call 34; (with_reducible refine (l2Rack_any f _).mono ?_); rw [HF.out]; rintro e w1 ⟨rfl, hb1⟩; replace hbel := hbel.trans (hb1.mono hbel.size); replace h1 := row_keep hb1 h1; replace h2 := row_keep hb1 h2; clear hb1)
        | (go_at_call 34; (with_reducible refine (l2Rack_any g _).mono ?_); rw [HG.out]; rintro e w1 ⟨rfl, hb1⟩; replace hbel := hbel.trans (hb1.mono hbel.size); replace h1 := row_keep hb1 h1; replace h2 := row_keep hb1 h2; clear hb1)
        | (go_at_call 51; (with_reducible refine (l2Before_any f g _).mono ?_); rintro e w1 ⟨rfl, hb1⟩; replace hbel := hbel.trans (hb1.mono hbel.size); replace h1 := row_keep hb1 h1; replace h2 := row_keep hb1 h2; clear hb1)
      go_ret2
      exact ⟨rfl, hbel⟩
    | true =>
      rw [show lessR f g = (decide (lexC f g 24 < 0), true) from if_pos ⟨hf, hg⟩]
      have HF : Hid _ := hf
      have HG : Hid _ := hg
      clear hf hg
      go_enter Tryz.func24, Tryz.ntmps24
      go_wp2_with first
        | (with_reducible refine wpList_loadW rfl _ _ rfl _ rfl h1 agg24r size24r ?_)
        | (with_reducible refine wpList_loadW rfl _ _ rfl _ rfl h2 agg24r size24r ?_)
        | (with_reducible refine wpList_loadWG rfl _ _ rfl _ rfl h2 agg24r size24r ?_)
        | (go_at_call 34; (with_reducible refine (l2Rack_any f _).mono ?_); rw [HF.out]; rintro e w1 ⟨rfl, hb1⟩; replace hbel := hbel.trans (hb1.mono hbel.size); replace h1 := row_keep hb1 h1; replace h2 := row_keep hb1 h2; clear hb1)
        | (go_at_call 34; (with_reducible refine (l2Rack_any g _).mono ?_); rw [HG.out]; rintro e w1 ⟨rfl, hb1⟩; replace hbel := hbel.trans (hb1.mono hbel.size); replace h1 := row_keep hb1 h1; replace h2 := row_keep hb1 h2; clear hb1)
        | (go_at_call 51; (with_reducible refine (l2Before_any f g _).mono ?_); rintro e w1 ⟨rfl, hb1⟩; replace hbel := hbel.trans (hb1.mono hbel.size); replace h1 := row_keep hb1 h1; replace h2 := row_keep hb1 h2; clear hb1)
      go_ret2
      exact ⟨rfl, hbel⟩
theorem implLess_any (f g : Nat → Int) (w : World) : Calls Tryz.prog 23 #[.agg (arr 24 f), .agg (arr 24 g)] w fun e w' => e = .returned (.tuple #[.bool (lessR f g).1, .bool (lessR f g).2]) ∧ Below w.heap.size w w' := by
  have h1 : ((w.alloc (.cells (arr 24 f) 27)).alloc (.cells (arr 24 g) 27)).heap[w.heap.size]? = some (.cells (arr 24 f) 27 (0, 0)) := by rw [heap_old (by simp), heap_new rfl]
  have h2 : ((w.alloc (.cells (arr 24 f) 27)).alloc (.cells (arr 24 g) 27)).heap[w.heap.size + 1]? = some (.cells (arr 24 g) 27 (0, 0)) := heap_new (by simp)
  have hbel : Below w.heap.size w ((w.alloc (.cells (arr 24 f) 27)).alloc (.cells (arr 24 g) 27)) := ((Below.refl _ _).alloc (by simp) _).alloc (by simp) _
  cases hf : rackB f with
  | false =>
    rw [show lessR f g = (false, false) from if_neg (by simp [hf])]
    have HF : Hid _ := hf
    have HG : Hid (1 = 1) := rfl
    clear hf
    go_enter Tryz.func23, Tryz.ntmps23
    go_wp2_with first
      | (with_reducible refine wpList_loadW rfl _ _ rfl _ rfl h1 agg24r size24r ?_)
      | (with_reducible refine wpList_loadW rfl _ _ rfl _ rfl h2 agg24r size24r ?_)
      | (with_reducible refine wpList_loadWG rfl _ _ rfl _ rfl h2 agg24r size24r ?_)
      | (go_at_call 27; (with_reducible refine (IsRack_any f _).mono ?_); rw [HF.out]; rintro e w1 ⟨rfl, hb1⟩; replace hbel := hbel.trans (hb1.mono hbel.size); replace h1 := row_keep hb1 h1; replace h2 := row_keep hb1 h2; clear hb1)
      | (go_at_call 27; (with_reducible refine (IsRack_any g _).mono ?_); rw [HG.out]; rintro e w1 ⟨rfl, hb1⟩; replace hbel := hbel.trans (hb1.mono hbel.size); replace h1 := row_keep hb1 h1; replace h2 := row_keep hb1 h2; clear hb1)
      | (go_at_call 50; (with_reducible refine (cmpRacks_any f g _).mono ?_); rintro e w1 ⟨rfl, hb1⟩; replace hbel := hbel.trans (hb1.mono hbel.size); replace h1 := row_keep hb1 h1; replace h2 := row_keep hb1 h2; clear hb1)
    go_ret2
    exact ⟨rfl, hbel⟩
  | true =>
    cases hg : rackB g with
    | false =>
      rw [show lessR f g = (false, false) from if_neg (by simp [hg])]
      have HF : Hid _ := hf
      have HG : Hid _ := hg
      clear hf hg
      go_enter Tryz.func23, Tryz.ntmps23
      go_wp2_with first
        | (with_reducible refine wpList_loadW rfl _ _ rfl _ rfl h1 agg24r size24r ?_)
        | (with_reducible refine wpList_loadW rfl _ _ rfl _ rfl h2 agg24r size24r ?_)
        | (with_reducible refine wpList_loadWG rfl _ _ rfl _ rfl h2 agg24r size24r ?_)
        | (go_at_call 27; (with_reducible refine (IsRack_any f _).mono ?_); rw [HF.out]; rintro e w1 ⟨rfl, hb1⟩; replace hbel := hbel.trans (hb1.mono hbel.size); replace h1 := row_keep hb1 h1; replace h2 := row_keep hb1 h2; clear hb1)
        | (go_at_call 27; (with_reducible refine (IsRack_any g _).mono ?_); rw [HG.out]; rintro e w1 ⟨rfl, hb1⟩; replace hbel := hbel.trans (hb1.mono hbel.size); replace h1 := row_keep hb1 h1; replace h2 := row_keep hb1 h2; clear hb1)
        | (go_at_call 50; (with_reducible refine (cmpRacks_any f g _).mono ?_); rintro e w1 ⟨rfl, hb1⟩; replace hbel := hbel.trans (hb1.mono hbel.size); replace h1 := row_keep hb1 h1; replace h2 := row_keep hb1 h2; clear hb1)
      go_ret2
      exact ⟨rfl, hbel⟩
    | true =>
      rw [show lessR f g = (decide (lexC f g 24 < 0), true) from if_pos ⟨hf, hg⟩]
      have HF : Hid _ := hf
      have HG : Hid _ := hg
      clear hf hg
      go_enter Tryz.func23, Tryz.ntmps23
      go_wp2_with first
        | (with_reducible refine wpList_loadW rfl _ _ rfl _ rfl h1 agg24r size24r ?_)
        | (with_reducible refine wpList_loadW rfl _ _ rfl _ rfl h2 agg24r size24r ?_)
        | (with_reducible refine wpList_loadWG rfl _ _ rfl _ rfl h2 agg24r size24r ?_)
        | (go_at_call 27; (with_reducible refine (IsRack_any f _).mono ?_); rw [HF.out]; rintro e w1 ⟨rfl, hb1⟩; replace hbel := hbel.trans (hb1.mono hbel.size); replace h1 := row_keep hb1 h1; replace h2 := row_keep hb1 h2; clear hb1)
        | (go_at_call 27; (with_reducible refine (IsRack_any g _).mono ?_); rw [HG.out]; rintro e w1 ⟨rfl, hb1⟩; replace hbel := hbel.trans (hb1.mono hbel.size); replace h1 := row_keep hb1 h1; replace h2 := row_keep hb1 h2; clear hb1)
        | (go_at_call 50; (with_reducible refine (cmpRacks_any f g _).mono ?_); rintro e w1 ⟨rfl, hb1⟩; replace hbel := hbel.trans (hb1.mono hbel.size); replace h1 := row_keep hb1 h1; replace h2 := row_keep hb1 h2; clear hb1)
      go_ret2
      exact ⟨rfl, hbel⟩
end Go.Proofs.YtlbgmkengkgnfaaGreatDoor
end

section
/- The law on racks: its plain facts. -/
namespace Go.Proofs.YtlbgmkengkgnfaaGreatDoor
set_option linter.unusedSimpArgs false
set_option linter.unusedVariables false
set_option maxRecDepth 20000
open Go.RowKit
theorem tube_one {g : Nat → Int} (h : tubeB g = true) : ∀ k, k < nlay g → 1 ≤ g k ∧ g k ≤ 5 := fun k h1 => by
  have e := tubeB_layers g
  rw [h, Bool.and_eq_true, List.all_eq_true, List.all_eq_true] at e
  have := e.1 k (List.mem_range.2 h1)
  simpa using this
theorem take_put {f : Nat → Int} {i c : Int} (h : (putLayer f i c).2 = true) :
    (takeLayer (putLayer f i c).1 i).2.2 = true ∧ eqv 24 (takeLayer (putLayer f i c).1 i).1 f = true ∧ (takeLayer (putLayer f i c).1 i).2.1 = c := by
  by_cases hk : rackB f = true ∧ (0 ≤ i ∧ i ≤ 5) ∧ (1 ≤ c ∧ c ≤ 5) ∧ nlay (tub f i.toNat) < 4
  · have e : putLayer f i c = (upd f (i.toNat * 4 + nlay (tub f i.toNat)) c, true) := if_pos hk
    obtain ⟨hf, hi, hc, hn⟩ := hk
    rw [e]
    obtain ⟨n, en⟩ : ∃ n : Nat, n = i.toNat := ⟨_, rfl⟩
    rw [← en] at hn ⊢
    have hn5 : n ≤ 5 := by omega
    obtain ⟨m, em⟩ : ∃ m : Nat, m = nlay (tub f n) := ⟨_, rfl⟩
    rw [← em] at hn ⊢
    have ht := (rackB_iff f).1 hf n (by omega)
    obtain ⟨g, eg⟩ : ∃ g : Nat → Int, g = upd f (n * 4 + m) c := ⟨_, rfl⟩
    rw [← eg]
    have gi : ∀ j, g j = if j = n * 4 + m then c else f j := fun j => by rw [eg]; rfl
    obtain ⟨g1, g2⟩ : tubeB (tub g n) = true ∧ nlay (tub g n) = m + 1 := by
      refine tube_shape (by omega) (fun k hk => ?_) (fun k h1 h2 => ?_)
      · show 1 ≤ g (n * 4 + k) ∧ g (n * 4 + k) ≤ 5
        rw [gi]
        by_cases q : k = m
        · subst q; rw [if_pos rfl]; exact hc
        · rw [if_neg (by omega)]; exact tube_one ht k (by omega)
      · show g (n * 4 + k) = 0
        rw [gi, if_neg (by omega)]; exact tube_zero ht k (by omega) h2
    have hg : rackB g = true := (rackB_iff g).2 fun a ha => by
      by_cases q : a = n
      · subst q; exact g1
      · refine (tubeB_iff g a).2 fun k hk => ?_
        have := (tubeB_iff f a).1 ((rackB_iff f).1 hf a ha) k hk
        unfold okP at this ⊢
        rw [gi, if_neg (by omega), gi, if_neg (by omega)]; exact this
    have e2 : takeLayer g i = (upd g (n * 4 + m) 0, g (n * 4 + m), true) := by
      have e3 : takeLayer g i = (upd g (i.toNat * 4 + (nlay (tub g i.toNat) - 1)) 0, g (i.toNat * 4 + (nlay (tub g i.toNat) - 1)), true) := if_pos ⟨hg, hi, by rw [← en, g2]; omega⟩
      rw [e3, ← en, g2, Nat.add_sub_cancel]
    rw [e2]
    refine ⟨rfl, eqv_iff.2 fun j hj => ?_, by show g (n * 4 + m) = c; rw [gi, if_pos rfl]⟩
    show upd g (n * 4 + m) 0 j = f j
    unfold upd
    by_cases q : j = n * 4 + m
    · rw [if_pos q, q]; exact (tube_zero ht m (by omega) hn).symm
    · rw [if_neg q, gi, if_neg q]
  · rw [putLayer_bad hk] at h; cases h
theorem swapF_at (f : Nat → Int) (i k a b : Nat) (hb : b < 4) : swapF f i k (a * 4 + b) = if a = k then f (i * 4 + b) else if a = i then f (k * 4 + b) else f (a * 4 + b) := by
  unfold swapF updN
  by_cases h1 : a = k
  · rw [if_pos (by omega), if_pos h1]; exact congrArg f (show i * 4 + (a * 4 + b - k * 4) = i * 4 + b by omega)
  · rw [if_neg (by omega), if_neg h1]
    by_cases h2 : a = i
    · rw [if_pos (by omega), if_pos h2]; exact congrArg f (show k * 4 + (a * 4 + b - i * 4) = k * 4 + b by omega)
    · rw [if_neg (by omega), if_neg h2]
theorem swap_swap {f : Nat → Int} {i k : Int} (h : (swapT f i k).2 = true) : (swapT (swapT f i k).1 k i).2 = true ∧ eqv 24 (swapT (swapT f i k).1 k i).1 f = true := by
  by_cases hk : rackB f = true ∧ (0 ≤ i ∧ i ≤ 5) ∧ (0 ≤ k ∧ k ≤ 5)
  · have e : swapT f i k = (swapF f i.toNat k.toNat, true) := if_pos hk
    obtain ⟨hf, hi, hk⟩ := hk
    rw [e]
    have hg : rackB (swapF f i.toNat k.toNat) = true := rackB_true fun a ha b hb => by
      have hh := fun a (ha : a < 6) => (tubeB_iff f a).1 ((rackB_iff f).1 hf a ha) b hb
      unfold okP
      rw [swapF_at _ _ _ _ _ hb, swapF_at _ _ _ _ _ (by omega)]
      by_cases h1 : a = k.toNat
      · rw [if_pos h1, if_pos h1]; exact hh _ (by omega)
      · rw [if_neg h1, if_neg h1]
        by_cases h2 : a = i.toNat
        · rw [if_pos h2, if_pos h2]; exact hh _ (by omega)
        · rw [if_neg h2, if_neg h2]; exact hh _ ha
    have e2 : swapT (swapF f i.toNat k.toNat) k i = (swapF (swapF f i.toNat k.toNat) k.toNat i.toNat, true) := if_pos ⟨hg, hk, hi⟩
    rw [e2]
    refine ⟨rfl, eqv_iff.2 fun j hj => ?_⟩
    have ej : j = j / 4 * 4 + j % 4 := by omega
    have hb : j % 4 < 4 := Nat.mod_lt _ (by omega)
    show swapF (swapF f i.toNat k.toNat) k.toNat i.toNat j = f j
    rw [ej]
    generalize j / 4 = a
    rw [swapF_at _ _ _ _ _ hb]
    by_cases h1 : a = i.toNat
    · rw [if_pos h1, swapF_at _ _ _ _ _ hb, if_pos rfl, h1]
    · rw [if_neg h1]
      by_cases h2 : a = k.toNat
      · rw [if_pos h2, swapF_at _ _ _ _ _ hb]
        by_cases h3 : i.toNat = k.toNat
        · omega
        · rw [if_neg h3, if_pos rfl, h2]
      · rw [if_neg h2, swapF_at _ _ _ _ _ hb, if_neg h2, if_neg h1]
  · rw [swap_bad hk] at h; cases h
theorem lexC_flip (f g : Nat → Int) : ∀ k, lexC g f k = - lexC f g k
  | 0 => rfl
  | k + 1 => by
    have h := lexC_flip f g k
    simp only [lexC]
    rw [h]
    by_cases h0 : lexC f g k = 0
    · simp only [h0, ne_eq, not_true_eq_false, if_false, Int.neg_zero]
      (repeat' split) <;> omega
    · rw [if_pos (show - lexC f g k ≠ 0 by omega), if_pos h0]
theorem lexC_same (f g : Nat → Int) : ∀ k, lexC f g k = 0 ↔ ∀ j, j < k → f j = g j
  | 0 => ⟨fun _ j hj => by omega, fun _ => rfl⟩
  | k + 1 => by
    have h := lexC_same f g k
    simp only [lexC]
    by_cases h0 : lexC f g k = 0
    · simp only [h0, ne_eq, not_true_eq_false, if_false]
      have h' := h.1 h0
      constructor
      · intro e j hj
        by_cases q : j = k
        · subst q
          split at e
          · omega
          · split at e <;> omega
        · exact h' j (by omega)
      · intro e
        have := e k (by omega)
        rw [if_neg (show ¬ f k < g k by omega), if_neg (show ¬ g k < f k by omega)]
    · rw [if_pos h0]
      exact ⟨fun e => absurd e h0, fun e => absurd (h.2 fun j hj => e j (by omega)) h0⟩
theorem less_all {f g : Nat → Int} (h : (lessR f g).2 = true) : (lessR g f).2 = true ∧ ((lessR f g).1 && (lessR g f).1) = false ∧ (!eqv 24 f g) = ((lessR f g).1 || (lessR g f).1) := by
  by_cases hk : rackB f = true ∧ rackB g = true
  · have e1 : lessR f g = (decide (lexC f g 24 < 0), true) := if_pos hk
    have e2 : lessR g f = (decide (lexC g f 24 < 0), true) := if_pos ⟨hk.2, hk.1⟩
    rw [e1, e2, lexC_flip f g 24]
    have hs := lexC_same f g 24
    refine ⟨rfl, ?_, ?_⟩
    · show (decide (lexC f g 24 < 0) && decide (- lexC f g 24 < 0)) = false
      rw [Bool.and_eq_false_iff]
      by_cases q : lexC f g 24 < 0
      · right; simp; omega
      · left; simp; omega
    · show (!eqv 24 f g) = (decide (lexC f g 24 < 0) || decide (- lexC f g 24 < 0))
      by_cases q : lexC f g 24 = 0
      · rw [eqv_iff.2 (hs.1 q), q]; rfl
      · have : eqv 24 f g = false := by
          cases e : eqv 24 f g with
          | false => rfl
          | true => exact absurd (hs.2 (eqv_iff.1 e)) q
        rw [this]
        by_cases q2 : lexC f g 24 < 0
        · simp [q2]
        · simp [q2]; omega
  · rw [show lessR f g = (false, false) from if_neg hk] at h; cases h
/-! ### the runs -/
def rSum (F : Nat → Int) : Nat → Int
  | 0 => 0
  | r + 1 => rSum F r + F (r * 2 + 1)
theorem rSum_congr {F G : Nat → Int} : ∀ n, (∀ j, j < n * 2 → F j = G j) → rSum F n = rSum G n
  | 0, _ => rfl
  | n + 1, h => by
    show rSum F n + F (n * 2 + 1) = rSum G n + G (n * 2 + 1)
    rw [rSum_congr n fun j hj => h j (by omega), h (n * 2 + 1) (by omega)]
theorem rSum_bump {F : Nat → Int} {n : Nat} (hn : 0 < n) (x : Int) : rSum (upd F ((n - 1) * 2 + 1) (F ((n - 1) * 2 + 1) + x)) n = rSum F n + x := by
  obtain ⟨m, rfl⟩ : ∃ m, n = m + 1 := ⟨n - 1, by omega⟩
  show rSum (upd F (m * 2 + 1) (F (m * 2 + 1) + x)) m + upd F (m * 2 + 1) (F (m * 2 + 1) + x) (m * 2 + 1) = rSum F m + F (m * 2 + 1) + x
  rw [rSum_congr (G := F) m fun j hj => by unfold upd; rw [if_neg (by omega)]]
  unfold upd
  rw [if_pos rfl]; omega
theorem rSum_all (g : Nat → Int) : ∀ k, rSum (rF g k) (rN g k) = k
  | 0 => rfl
  | k + 1 => by
    have ih := rSum_all g k
    by_cases h : 0 < k ∧ g k = g (k - 1)
    · obtain ⟨h1, h2⟩ := rN_yes h.1 h.2
      rw [h1, h2, rSum_bump (rN_pos g k h.1), ih]; omega
    · obtain ⟨h1, h2⟩ := rN_no h
      rw [h1, h2]
      show rSum _ (rN g k) + app (rF g k) (rN g k * 2) (fun j => if j = 0 then g k else 1) (rN g k * 2 + 1) = _
      rw [rSum_congr (G := rF g k) _ fun j hj => by unfold app; rw [if_pos hj], ih]
      unfold app
      rw [if_neg (by omega), show rN g k * 2 + 1 - rN g k * 2 = 1 by omega]
      simp
theorem rF_ne (g : Nat → Int) : ∀ k r, 0 < r → r < rN g k → rF g k (r * 2) ≠ rF g k ((r - 1) * 2)
  | 0, r, _, hr => by simp [rN] at hr
  | k + 1, r, h0, hr => by
    have ih := rF_ne g k
    by_cases h : 0 < k ∧ g k = g (k - 1)
    · obtain ⟨h1, h2⟩ := rN_yes h.1 h.2
      rw [h1] at hr
      rw [h2]
      unfold upd
      rw [if_neg (by omega), if_neg (by omega)]
      exact ih r h0 hr
    · obtain ⟨h1, h2⟩ := rN_no h
      rw [h1] at hr
      rw [h2]
      unfold app
      by_cases q : r = rN g k
      · subst q
        rw [if_neg (by omega), if_pos (by omega), Nat.sub_self]
        have hk : 0 < k := by
          rcases Nat.eq_zero_or_pos k with e | e
          · subst e; simp [rN] at h0
          · exact e
        rw [rF_last g k hk]
        exact fun e => h ⟨hk, e⟩
      · rw [if_pos (by omega), if_pos (by omega)]
        exact ih r h0 (by omega)
/-- How far the sum goes at most. -/
theorem rSum_bd {F : Nat → Int} {n : Nat} (h : ∀ r, r < n → 0 ≤ F (r * 2 + 1) ∧ F (r * 2 + 1) ≤ 4) : ∀ m, m ≤ n → 0 ≤ rSum F m ∧ rSum F m ≤ 4 * m
  | 0, _ => ⟨Int.le_refl 0, by show (0 : Int) ≤ _; omega⟩
  | m + 1, hm => by
    have ih := rSum_bd h m (by omega)
    have := h m (by omega)
    show 0 ≤ rSum F m + F (m * 2 + 1) ∧ rSum F m + F (m * 2 + 1) ≤ _
    omega
end Go.Proofs.YtlbgmkengkgnfaaGreatDoor
end
