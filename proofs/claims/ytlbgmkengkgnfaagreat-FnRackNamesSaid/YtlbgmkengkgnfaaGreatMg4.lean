/- A part (number 4) of the proof of the law FnRackNames: what each of its sections proves stands in the section's own first remark. No conditions beside those that each theorem states. -/
import Derived.Test.YtlbgmkengkgnfaaGreatMg3
section
/- Comparing rows, and loading bools, where a region draws its order; rows of bools laid anew. -/
namespace Go.Proofs.YtlbgmkengkgnfaaGreat
set_option linter.unusedSimpArgs false
set_option linter.unusedVariables false
set_option maxRecDepth 20000
open Go.RowKit
variable {P : Program}
section
variable {ops : Array Oper} {C : World → Prop} {Q : Act → Prop} {a : Act} {o : Oper} {rest : List Oper}
theorem wpQuiet_eqlA {t : TypeId} {n k : Nat} (h : EqA P t n k) (hk : k ≤ 10000) (hm : P.eqGuardType P.depth t = false) (hw : Region.wanted o (yielded ops a.tmps) = true) (x y : Operand) (t2 : TypeId) (ho : o.op = .binOp .eql t x y t2)
    {f g : Nat → Int} (hx : a.eval x = .agg (arr n f)) (hy : a.eval y = .agg (arr n g)) (hc : wpQuiet P ops C Q rest (a.put o.dst (.bool (eqv n f g)))) : wpQuiet P ops C Q (o :: rest) a := by
  refine wpQuiet_value _ hw (fun w _ => ?_) hc
  have hr := run_eqlA h hk f g w
  have hg := run_eqGuard_agg (P := P) w .eql t x y (arr n f) (arr n g) hm
  unfold execOp
  simp only [ho, hx, hy, Sem.run_bind, hg, hr, Result.andThen_ok, Sem.run_pure]
theorem wpQuiet_neqA {t : TypeId} {n k : Nat} (h : EqA P t n k) (hk : k ≤ 10000) (hm : P.eqGuardType P.depth t = false) (hw : Region.wanted o (yielded ops a.tmps) = true) (x y : Operand) (t2 : TypeId) (ho : o.op = .binOp .neq t x y t2)
    {f g : Nat → Int} (hx : a.eval x = .agg (arr n f)) (hy : a.eval y = .agg (arr n g)) (hc : wpQuiet P ops C Q rest (a.put o.dst (.bool (!eqv n f g)))) : wpQuiet P ops C Q (o :: rest) a := by
  refine wpQuiet_value _ hw (fun w _ => ?_) hc
  have hr := run_neqA h hk f g w
  have hg := run_eqGuard_agg (P := P) w .neq t x y (arr n f) (arr n g) hm
  unfold execOp
  simp only [ho, hx, hy, Sem.run_bind, hg, hr, Result.andThen_ok, Sem.run_pure]
theorem wpQuiet_loadB (hw : Region.wanted o (yielded ops a.tmps) = true) (ty : TypeId) (x : Operand) (ho : o.op = .load ty x)
    (B off : Nat) (hx : a.eval x = .pointer (some ⟨B, off, none⟩)) {T : TypeId} {fr : Nat × Nat} {n : Nat} {s : Nat → Bool} (hg : ∀ w, C w → w.heap[B]? = some (.cells (brr n s) T fr)) (hd : aggB P ty = false) (hu : (P.underlying ty).isSome = true)
    (hle : off < n) (h : wpQuiet P ops C Q rest (a.put o.dst (.bool (s off)))) : wpQuiet P ops C Q (o :: rest) a := by
  refine wpQuiet_value _ hw (fun w hw => ?_) h
  have hagg : (isAgg ty).run P w = .ok false w := by
    unfold aggB at hd
    unfold isAgg
    cases hq : P.underlying ty with
    | none => simp [hq] at hu
    | some d =>
      rw [Sem.run_bind, run_underlying hq w]
      cases d <;> simp_all
  unfold execOp
  simp only [ho, hx, Instr.loadAt, Instr.sureAddr, loadVar, Sem.run_bind, Sem.run_pure, Result.andThen_ok, hagg]
  simp [browcell (hg w hw) hle]
end
section
variable {ops : Array Oper} {rest : List Oper} {o : Oper} {a : Act} {w : World} {Q : Exit → Act → World → Prop}
theorem wpList_neqA {t : TypeId} {n k : Nat} (h : EqA P t n k) (hk : k ≤ 10000) (hm : P.eqGuardType P.depth t = false) (hw : Region.wanted o (yielded ops a.tmps) = true) (x y : Operand) (t2 : TypeId) (ho : o.op = .binOp .neq t x y t2)
    {f g : Nat → Int} (hx : a.eval x = .agg (arr n f)) (hy : a.eval y = .agg (arr n g)) (hc : wpList P ops Q rest (a.put o.dst (.bool (!eqv n f g))) w) : wpList P ops Q (o :: rest) a w :=
  wpList_step fun K hK => by
    rw [if_pos hw]
    have hr := run_neqA h hk f g w
    have hg := run_eqGuard_agg (P := P) w .neq t x y (arr n f) (arr n g) hm
    unfold Oper.wp execOp
    simp only [ho, hx, hy, Sem.run_bind, hg, hr, Result.andThen_ok, Sem.run_pure]
    exact hK _ _ hc
theorem wpList_storeBN (hgd : o.guard = none) (ty : TypeId) (x y : Operand) (ho : o.op = .store ty x y)
    (B off : Nat) (hx : a.eval x = .pointer (some ⟨B, off, none⟩)) {b : Bool} (hy : a.eval y = .bool b) {T : TypeId} {n : Nat} {s : Nat → Bool} (hg : w.heap[B]? = some (.cells (brr n s) T (0, 0)))
    (hi : (P.info? ty).map (·.size) = some 1) (hle : off < n) {k : Nat} {w0 : World} (hb : Below k w0 w) (hk : k ≤ B)
    (h : ∀ w', w'.heap[B]? = some (.cells (brr n (bup s off b)) T (0, 0)) → (∀ B', B' ≠ B → w'.heap[B']? = w.heap[B']?) → Below k w0 w' → wpList P ops Q rest (a.put o.dst undef) w') : wpList P ops Q (o :: rest) a w :=
  wpList_storeB hgd ty x y ho B off hx hy hg hi hle (h _ (setRow_heap _ _ _ _ _ _ hg) (fun B' hB => setRow_other _ _ _ _ hB) (below_setRow2 hb hk _))
theorem brr_toList (n : Nat) (s : Nat → Bool) (j : Nat) : (brr n s).toList[j]? = if j < n then some (.bool (s j)) else none := by rw [Array.getElem?_toList, brr_get]
theorem run_storeCells_same {B n : Nat} {s : Nat → Bool} {T : TypeId} (hg : w.heap[B]? = some (.cells (brr n s) T (0, 0))) : ∀ (vs : List Value) (i : Nat), (∀ j, j < vs.length → vs[j]? = some (.bool (s (i + j)))) → i + vs.length ≤ n →
    (storeCells ⟨B, 0, none⟩ vs i).run P w = .ok () w
  | [], i, _, _ => rfl
  | v :: vs, i, h, hl => by
    simp only [List.length_cons] at hl
    have hv : v = .bool (s i) := by simpa using h 0 (by simp)
    subst hv
    have hcell : w.cell? ⟨B, i, none⟩ = some (.bool (s i)) := browcell hg (by omega)
    have hfro : w.frozen? ⟨B, i, none⟩ = false := by simp [World.frozen?, hg]
    have hbup : bup s i (s i) = s := funext fun j => by unfold bup; split <;> simp_all
    have hst : (store ((⟨B, 0, none⟩ : Addr).add i) (.bool (s i))).run P w = .ok () w := by
      rw [add_off, Nat.zero_add, run_store P w _ _ _ rfl, hcell]
      simp [hfro, setCell_eq_setRow w B i _ T (0, 0) _ hg, brr_set, hbup, setRow_self w B _ T (0, 0) hg]
    have ih := run_storeCells_same hg vs (i + 1) (fun j hj => by have := h (j + 1) (by simp; omega); simpa [Nat.add_assoc, Nat.add_comm 1 j] using this) (by omega)
    simp only [storeCells, Sem.run_bind, hst, Result.andThen_ok, ih]
/-- A row of bools is overwritten by what it holds. -/
theorem wpList_storeSB (hgd : o.guard = none) (ty : TypeId) (x y : Operand) (ho : o.op = .store ty x y)
    (B : Nat) (hx : a.eval x = .pointer (some ⟨B, 0, none⟩)) {n : Nat} {s : Nat → Bool} (hy : a.eval y = .agg (brr n s)) {T : TypeId} (hg : w.heap[B]? = some (.cells (brr n s) T (0, 0)))
    (hi : (P.info? ty).map (·.size) = some n) (h : wpList P ops Q rest (a.put o.dst undef) w) : wpList P ops Q (o :: rest) a w :=
  wpList_plain hgd fun _ hK => by
    have hs : (storeVar ty ⟨B, 0, none⟩ (.agg (brr n s))).run P w = .ok () w := by
      cases hq : P.info? ty with
      | none => simp [hq] at hi
      | some i =>
        have hs : i.size = n := by simpa [hq] using hi
        have hr := run_storeCells_same (P := P) hg (brr n s).toList 0 (fun j hj => by
          rw [brr_toList, if_pos (by simpa [brr_size] using hj), Nat.zero_add]) (by simp [brr_size])
        simp [storeVar, sizeOf, typeInfo, hq, Value.cells, hs, brr_size, hr]
    unfold Oper.wp execOp
    simp only [ho, hx, hy, Instr.storeAt, Instr.sureAddr, Sem.run_bind, Sem.run_pure, Result.andThen_ok, hs]
    exact hK _ _ h
theorem wpList_build0B (hgd : o.guard = none) (ty : TypeId) (ho : o.op = .build ty #[]) (n : Nat)
    (hz : P.built ty [] = some (brr n fun _ => false))
    (h : wpList P ops Q rest (a.put o.dst (.agg (brr n fun _ => false))) w) : wpList P ops Q (o :: rest) a w :=
  wpList_build hgd ty #[] ho (by simp [hz]) (by simpa [hz] using h)
end
end Go.Proofs.YtlbgmkengkgnfaaGreat
end

section
/- Matching equal tubes, the first free one each: plain laws. -/
namespace Go.Proofs.YtlbgmkengkgnfaaGreat
set_option linter.unusedSimpArgs false
set_option linter.unusedVariables false
set_option maxRecDepth 20000
theorem countP_upd {p : Nat → Bool} {k0 : Nat} {b : Bool} (hp : p k0 = false) : ∀ l : List Nat, l.Nodup → k0 ∈ l → (l.countP fun k => if k = k0 then b else p k) = l.countP p + (if b then 1 else 0)
  | [], _, h => by cases h
  | x :: l, hn, h => by
    rw [List.nodup_cons] at hn
    rw [List.countP_cons, List.countP_cons]
    by_cases e : x = k0
    · subst e
      have hc : (l.countP fun k => if k = x then b else p k) = l.countP p := List.countP_congr fun k hk => by
        have : k ≠ x := fun e => hn.1 (e ▸ hk)
        simp [this]
      rw [hc]
      simp [hp]
    · have hm : k0 ∈ l := by
        rcases List.mem_cons.1 h with h | h
        · exact absurd h.symm e
        · exact h
      have ih := countP_upd (b := b) hp l hn.2 hm
      rw [ih]
      simp only [e, if_false]
      omega
/-- The first free tube of A that is B's i-th. -/
def kf (A B : Nat → Int) (u : Nat → Bool) (i : Nat) : Nat := ((List.range 6).find? fun k => !u k && A k == B i).getD 6
def grS (A B : Nat → Int) : Nat → (Nat → Int) × (Nat → Bool)
  | 0 => (fun _ => 0, fun _ => false)
  | i + 1 => (upd (grS A B i).1 i (kf A B (grS A B i).2 i), bup (grS A B i).2 (kf A B (grS A B i).2 i) true)
theorem kf_spec {A B : Nat → Int} {u : Nat → Bool} {i : Nat} (h : ∃ k, k < 6 ∧ u k = false ∧ A k = B i) : kf A B u i < 6 ∧ u (kf A B u i) = false ∧ A (kf A B u i) = B i ∧ ∀ k, k < kf A B u i → u k = true ∨ (u k = false ∧ A k ≠ B i) := by
  obtain ⟨k, hk, h1, h2⟩ := h
  have hs : ((List.range 6).find? fun k => !u k && A k == B i).isSome = true := by
    rw [List.find?_isSome]
    exact ⟨k, List.mem_range.2 hk, by simp [h1, h2]⟩
  obtain ⟨z, hz⟩ := Option.isSome_iff_exists.1 hs
  have e : kf A B u i = z := by unfold kf; rw [hz]; rfl
  have hp := List.find?_some hz
  have hm := List.mem_of_find?_eq_some hz
  simp only [Bool.and_eq_true, Bool.not_eq_true', beq_iff_eq] at hp
  rw [e]
  refine ⟨List.mem_range.1 hm, hp.1, hp.2, fun k hk => ?_⟩
  obtain ⟨_, l1, l2, hl, hno⟩ := List.find?_eq_some_iff_append.1 hz
  have hka : k ∈ l1 := by
    have hlen : (l1 ++ z :: l2).length = 6 := by rw [← hl]; simp
    have hzi : (List.range 6)[l1.length]? = some z := by rw [hl]; simp
    have hzl : z = l1.length := by
      rw [List.getElem?_range (by simp at hlen; omega)] at hzi
      simpa using hzi.symm
    have hkk : (List.range 6)[k]? = some k := List.getElem?_range (by have := List.mem_range.1 hm; omega)
    rw [hl, List.getElem?_append_left (by omega)] at hkk
    exact List.mem_of_getElem? hkk
  have := hno k hka
  simp only [Bool.not_eq_true', Bool.and_eq_false_iff, Bool.not_eq_false'] at this
  cases hu : u k with
  | true => exact .inl rfl
  | false =>
    refine .inr ⟨rfl, fun he => ?_⟩
    simp [hu, he] at this
def grI (A B : Nat → Int) (i : Nat) : Prop := ∀ c, ((List.range 6).countP fun k => (grS A B i).2 k && A k == c) = ((List.range i).countP fun j => B j == c)
theorem cdl_range (f : Nat → Int) : cdl f = (List.range 6).map fun k => cod (tub f k) := rfl
theorem gr_ex {A B : Nat → Int} (hAB : ∀ c, ((List.range 6).countP fun k => A k == c) = ((List.range 6).countP fun k => B k == c)) {i : Nat} (hi : i < 6) (hI : grI A B i) : ∃ k, k < 6 ∧ (grS A B i).2 k = false ∧ A k = B i := by
  by_cases hx : ∃ k, k < 6 ∧ (grS A B i).2 k = false ∧ A k = B i
  · exact hx
  · exfalso
    have h1 := hI (B i)
    have h2 : ((List.range 6).countP fun k => (grS A B i).2 k && A k == B i) = ((List.range 6).countP fun k => A k == B i) := List.countP_congr fun k hk => by
      have hk' := List.mem_range.1 hk
      cases hu : (grS A B i).2 k with
      | true => simp
      | false =>
        have : A k ≠ B i := fun e => hx ⟨k, hk', hu, e⟩
        simp [this]
    have h3 : ((List.range (i + 1)).countP fun j => B j == B i) = ((List.range i).countP fun j => B j == B i) + 1 := by
      rw [List.range_succ, List.countP_append]; simp
    have h4 : ((List.range (i + 1)).countP fun j => B j == B i) ≤ ((List.range 6).countP fun j => B j == B i) := (List.range_sublist.2 (by omega)).countP_le
    have h5 := hAB (B i)
    omega
theorem grI_step {A B : Nat → Int} {i : Nat} (hI : grI A B i) (h : ∃ k, k < 6 ∧ (grS A B i).2 k = false ∧ A k = B i) : grI A B (i + 1) := by
  intro c
  obtain ⟨h1, h2, h3, _⟩ := kf_spec h
  rw [List.range_succ (n := i), List.countP_append, ← hI c]
  show ((List.range 6).countP fun k => bup (grS A B i).2 (kf A B (grS A B i).2 i) true k && A k == c) = _
  generalize kf A B (grS A B i).2 i = k0 at h1 h2 h3
  have e : (fun k => bup (grS A B i).2 k0 true k && A k == c) = fun k => if k = k0 then (B i == c) else ((grS A B i).2 k && A k == c) := funext fun k => by
    unfold bup
    by_cases hk : k = k0
    · subst hk; simp [h3]
    · simp [hk]
  rw [e, countP_upd (p := fun k => (grS A B i).2 k && A k == c) (by simp [h2]) _ List.nodup_range (List.mem_range.2 h1)]
  simp [List.countP_cons]
theorem gr_all {A B : Nat → Int} (hAB : ∀ c, ((List.range 6).countP fun k => A k == c) = ((List.range 6).countP fun k => B k == c)) : ∀ i, i ≤ 6 → grI A B i
  | 0, _ => fun c => by simp [grS]
  | i + 1, h => grI_step (gr_all hAB i (by omega)) (gr_ex hAB (by omega) (gr_all hAB i (by omega)))
/-- A place is found for each. -/
theorem gr_kf {A B : Nat → Int} (hAB : ∀ c, ((List.range 6).countP fun k => A k == c) = ((List.range 6).countP fun k => B k == c)) {i : Nat} (hi : i < 6) : kf A B (grS A B i).2 i < 6 ∧ (grS A B i).2 (kf A B (grS A B i).2 i) = false ∧ A (kf A B (grS A B i).2 i) = B i ∧ ∀ k, k < kf A B (grS A B i).2 i → (grS A B i).2 k = true ∨ ((grS A B i).2 k = false ∧ A k ≠ B i) :=
  kf_spec (gr_ex hAB hi (gr_all hAB i (by omega)))
theorem gr_perm {a b : Nat → Int} (h : (cdl a).Perm (cdl b)) : ∀ c, ((List.range 6).countP fun k => cod (tub a k) == c) = ((List.range 6).countP fun k => cod (tub b k) == c) := fun c => by
  have := h.countP_eq fun x => x == c
  rw [cdl_range, cdl_range, List.countP_map, List.countP_map] at this
  exact this
end Go.Proofs.YtlbgmkengkgnfaaGreat
end
