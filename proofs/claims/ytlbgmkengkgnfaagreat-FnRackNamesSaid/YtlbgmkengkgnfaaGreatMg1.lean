/- A part (number 1) of the proof of the law FnRackNames: what each of its sections proves stands in the section's own first remark. No conditions beside those that each theorem states. -/
import Derived.Test.YtlbgmkengkgnfaaGreatRows
import Derived.WalkKit
import Derived.ProofKit
import Derived.OpenShut
section
/- Rows of int64 cells as functions of the index; the frame of a law's proof. -/
namespace Go.Proofs.YtlbgmkengkgnfaaGreat
set_option linter.unusedSimpArgs false
set_option linter.unusedVariables false
set_option maxRecDepth 20000
open Go.RowKit Go.ChangeShapes Go.WideShapes Go.ChangeAt

/-- A row of n int64 cells that hold f 0, f 1, .. -/
def arr (n : Nat) (f : Nat → Int) : Array Value := Array.ofFn (n := n) fun j => .int .i64 (f j)
theorem arr_size (n : Nat) (f : Nat → Int) : (arr n f).size = n := by simp [arr]
theorem arr_get (n : Nat) (f : Nat → Int) (i : Nat) : (arr n f)[i]? = if i < n then some (.int .i64 (f i)) else none := by
  simp [arr, Array.getElem?_ofFn]
theorem arr_congr {n : Nat} {f g : Nat → Int} (h : ∀ j, j < n → f j = g j) : arr n f = arr n g := by
  refine Array.ext_getElem? fun i => ?_
  rw [arr_get, arr_get]
  by_cases hi : i < n
  · rw [if_pos hi, if_pos hi, h i hi]
  · rw [if_neg hi, if_neg hi]
def upd (f : Nat → Int) (i : Nat) (x : Int) : Nat → Int := fun j => if j = i then x else f j
theorem upd_same (f : Nat → Int) (i : Nat) (x : Int) : upd f i x i = x := by simp [upd]
theorem upd_other (f : Nat → Int) (i : Nat) (x : Int) (j : Nat) (h : j ≠ i) : upd f i x j = f j := by simp [upd, h]
theorem arr_set (n : Nat) (f : Nat → Int) (i : Nat) (x : Int) : (arr n f).setIfInBounds i (.int .i64 x) = arr n (upd f i x) := by
  refine Array.ext_getElem? fun j => ?_
  rw [Array.getElem?_setIfInBounds, arr_get, arr_get, arr_size]
  unfold upd
  by_cases hj : i = j
  · subst hj; simp
  · have hj2 : ¬ j = i := fun h => hj h.symm
    simp only [hj, hj2, if_false]
/-- m cells of f from place o on replaced by g's. -/
def updN (f : Nat → Int) (o m : Nat) (g : Nat → Int) : Nat → Int := fun j => if o ≤ j ∧ j < o + m then g (j - o) else f j

theorem ret_int {k : IntKind} {a b : Int} (h : a = b) : Ending.returned (.int k a) = .returned (.int k b) := by rw [h]
theorem ret_bool {a b : Bool} (h : a = b) : Ending.returned (.bool a) = .returned (.bool b) := by rw [h]
/-- Within an int64. -/
def I64 (x : Int) : Prop := -9223372036854775808 ≤ x ∧ x ≤ 9223372036854775807

/-! ### arguments that are structs and arrays of ints -/
/-- Type t is made of ints alone (struct and array, its cells all covered). -/
def flatI (P : Program) : Nat → TypeId → Bool
  | 0, _ => false
  | n + 1, t => match P.underlying t with
    | some (.int .i64) => true
    | some (.struct fs) => fs.toList.all (fun f => flatI P n f.type) && (List.range (P.cellsOf t)).all fun j => fs.toList.any fun f => decide (f.offset ≤ j ∧ j < f.offset + P.cellsOf f.type)
    | some (.array k e) => flatI P n e && decide (P.cellsOf t = k * P.cellsOf e)
    | _ => false

theorem bounds_of_wf {n : Int} (h : (Lit.int .i64 n).wf = true) : I64 n := by
  simp [Lit.wf, IntKind.min, IntKind.max, IntKind.signed, IntKind.bits] at h
  exact h

section
variable {H : Type} {enc : TypeId × Value → H} {P : Program} {w : World} {base : Nat} {spare : Nat → Bool} {held : Bool}

theorem trod_flat (n : Nat) : ∀ (t : TypeId) (fuel : Nat) (cs : List Value) (x : DataW H × List MemPlace), flatI P n t = true → DataW.trod enc P w base spare held fuel t cs = some x →
    ∀ (j : Nat) (v : Value), cs[j]? = some v → ∃ i : Int, v = .int .i64 i ∧ I64 i := by
  induction n with
  | zero => intro t fuel cs x h; simp [flatI] at h
  | succ n ih =>
    intro t fuel cs x h ht j v hv
    unfold flatI at h
    split at h
    · rename_i hu
      obtain ⟨m, h1, _, hw⟩ := DataW.trod_int hu ht
      subst h1
      match j, hv with
      | 0, hv => simp at hv; exact ⟨m, hv.symm, bounds_of_wf hw⟩
    · rename_i fs hu
      obtain ⟨xs, m, _, _, hl, hlen, hf⟩ := DataW.trod_struct hu ht
      simp only [Bool.and_eq_true, List.all_eq_true, List.mem_range, List.any_eq_true, decide_eq_true_eq] at h
      have hj : j < P.cellsOf t := by
        have := (List.getElem?_eq_some_iff.1 hv).1
        omega
      obtain ⟨f, hfm, hlo, hhi⟩ := h.2 j hj
      obtain ⟨k, hk, hke⟩ := List.getElem_of_mem hfm
      have hk2 : fs[k]? = some f := by
        rw [← Array.getElem?_toList, List.getElem?_eq_getElem hk, hke]
      have h2 := hf k f hk2
      have hks : k < xs.length := by rw [hlen]; simpa using hk
      rw [List.getElem?_eq_getElem hks] at h2
      refine ih f.type m _ _ (h.1 f hfm) h2 (j - f.offset) v ?_
      rw [List.getElem?_take, if_pos (by omega), List.getElem?_drop]
      rw [← hv]
      congr 1
      omega
    · rename_i k e hu
      obtain ⟨xs, m, _, _, hl, hlen, hf⟩ := DataW.trod_array hu ht
      simp only [Bool.and_eq_true, decide_eq_true_eq] at h
      have hj : j < k * P.cellsOf e := by
        have := (List.getElem?_eq_some_iff.1 hv).1
        omega
      have he : 0 < P.cellsOf e := by
        rcases Nat.eq_zero_or_pos (P.cellsOf e) with h0 | h0
        · rw [h0] at hj; omega
        · exact h0
      have hq : j / P.cellsOf e < k := by
        rw [Nat.div_lt_iff_lt_mul he]; exact hj
      have h2 := hf (j / P.cellsOf e) hq
      rw [List.getElem?_eq_getElem (by omega)] at h2
      have hdm := Nat.div_add_mod j (P.cellsOf e)
      have hml := Nat.mod_lt j he
      refine ih e m _ _ h.1 h2 (j % P.cellsOf e) v ?_
      rw [List.getElem?_take, if_pos hml, List.getElem?_drop]
      rw [← hv]
      congr 1
      rw [Nat.mul_comm] at hdm
      exact hdm
    · simp at h

/-- An argument of such a type is a row of ints. -/
theorem open_flat {r : Reach} {b0 : Nat} {t : TypeId} {n N : Nat} {v : Value} {d : DataW H} {p : List MemPlace} (hfl : flatI P n t = true) (hC : P.cellsOf t = N)
    (hagg : (match P.underlying t with | some (.struct _) | some (.array _ _) => true | _ => false) = true)
    (hv : Value.okWide P w r b0 t v) (h : DataW.Trod enc P w base spare held t v d p) : ∃ f : Nat → Int, v = .agg (arr N f) ∧ ∀ j, I64 (f j) := by
  have hcs : ∃ cs, v = .agg cs ∧ cs.size = P.cellsOf t := by
    unfold Value.okWide at hv
    split at hv
    · obtain ⟨cs, h1, h2, _⟩ := hv; exact ⟨cs, h1, h2⟩
    · obtain ⟨cs, h1, h2, _⟩ := hv; exact ⟨cs, h1, h2⟩
    · split at hagg <;> simp_all
  obtain ⟨cs, rfl, hsz⟩ := hcs
  obtain ⟨fuel, hf⟩ := h
  have hall := trod_flat n t fuel _ _ hfl hf
  simp only [Value.cells] at hall
  refine ⟨fun j => match cs[j]? with | some (.int _ i) => if j < N then i else 0 | _ => 0, ?_, ?_⟩
  · congr 1
    refine Array.ext_getElem? fun i => ?_
    rw [arr_get]
    by_cases hi : i < N
    · rw [if_pos hi]
      have hi2 : i < cs.size := by omega
      obtain ⟨m, hm, _⟩ := hall i cs[i] (by simp [hi2])
      have e : cs[i]? = some (.int .i64 m) := by rw [Array.getElem?_eq_getElem hi2, hm]
      simp [e, hi]
    · rw [if_neg hi]; simp; omega
  · intro j
    by_cases hj : j < cs.size
    · obtain ⟨m, hm, hb⟩ := hall j cs[j] (by simp [hj])
      have e : cs[j]? = some (.int .i64 m) := by rw [Array.getElem?_eq_getElem hj, hm]
      simp only [e]
      split
      · exact hb
      · exact ⟨by omega, by omega⟩
    · have e : cs[j]? = none := by simp; omega
      simp only [e]
      exact ⟨by omega, by omega⟩

theorem trodAll_stays {W W' : World} (hl : laidOutB P = true) : ∀ (ts : List TypeId) (vs : List Value) (ds : List (DataW H)) (ps : List MemPlace),
    (ts.all fun t => P.readableRec t && decide (t < P.types.size)) = true →
    DataW.TrodAll enc P W 0 (fun _ => true) true ts vs ds ps → Below W.heap.size W W' → (∀ x ∈ ps, x.block < W.heap.size) →
    DataW.TrodAll enc P W' 0 (fun b => decide (b < W.heap.size)) true ts vs ds ps := by
  intro ts
  induction ts with
  | nil =>
    intro vs ds ps _ h _ _
    obtain ⟨rfl, rfl, rfl⟩ := trodAll_nil h
    exact trodAll_mk0
  | cons t ts ih =>
    intro vs ds ps hr h hb hlt
    obtain ⟨v, vs', d, ds', p, q, rfl, rfl, rfl, hd, hrest⟩ := trodAll_cons h
    simp only [List.all_cons, Bool.and_eq_true, decide_eq_true_eq] at hr
    exact ⟨p, q, Below.trod hl hr.1.1 hr.1.2 hd hb (fun x hx => hlt x (by simp [hx])), ih vs' ds' q (by simpa using hr.2) hrest hb (fun x hx => hlt x (by simp [hx])), rfl⟩

/-- A law's post, from what its walk shows. -/
theorem law_post {f : Func} {s : ChangeSpec} {W W' : World} {args : Array Value} {ds : List (DataW H)} {before : List MemPlace} {tb : TypeId} (hvs : s.vars = [])
    (hl : laidOutB P = true) (hread : (f.params.toList.all fun t => P.readableRec t && decide (t < P.types.size)) = true) (hrt : f.resultTypes = #[tb]) (htb : P.underlying tb = some .bool)
    (hW : DataW.Whole enc P f.params.toList s.vars false W args.toList ds [] before) (hs : (s.fn H ds).results = [.lit (.bool true)] ∧ (s.fn H ds).args = ds ∧ (s.fn H ds).vars = [])
    (hb : Below W.heap.size W W') : s.post enc P f false true false false W args (.bool true) W' := by
  have hW2 := hW
  obtain ⟨p, q, hA, hV, rfl, _, _⟩ := hW
  rw [hvs] at hV
  have hq : q = [] := by simpa [DataW.TrodVars] using hV
  subst hq
  have hlt : ∀ x ∈ p, x.block < W.heap.size := fun x hx => hW2.lt x (by simp [hx])
  refine ⟨ds, [], p ++ [], [], p, [], hW2, ?_, ?_, ?_, hb.frame _, fun h => by cases h⟩
  · simp only [List.append_nil, hs.1, hrt]
    exact trodAll_mk1 (shut_bool htb true)
  · simp only [List.append_nil, hs.2.1]
    exact trodAll_stays hl _ _ _ _ hread hA hb hlt
  · simp only [List.append_nil, hs.2.2, hvs]
    rfl
end
attribute [irreducible] arr
end Go.Proofs.YtlbgmkengkgnfaaGreat
end

section
/- Tubes and racks as functions of the place. -/
namespace Go.Proofs.YtlbgmkengkgnfaaGreat
set_option linter.unusedSimpArgs false
set_option linter.unusedVariables false
set_option maxRecDepth 20000
/-- Tube i of a rack. -/
@[reducible] def tub (f : Nat → Int) (i : Nat) : Nat → Int := fun j => f (i * 4 + j)
def tubeB (g : Nat → Int) : Bool := decide ((0 ≤ g 0 ∧ g 0 ≤ 5) ∧ (0 ≤ g 1 ∧ g 1 ≤ 5) ∧ (0 ≤ g 2 ∧ g 2 ≤ 5) ∧ (0 ≤ g 3 ∧ g 3 ≤ 5) ∧ (g 0 = 0 → g 1 = 0) ∧ (g 1 = 0 → g 2 = 0) ∧ (g 2 = 0 → g 3 = 0))
def rackB (f : Nat → Int) : Bool := (List.range 6).all fun i => tubeB (tub f i)
theorem rackB_all (f : Nat → Int) : ((List.range 6).all fun k => tubeB fun j => f (k * 4 + j)) = rackB f := rfl
theorem rackB_iff (f : Nat → Int) : rackB f = true ↔ ∀ i, i < 6 → tubeB (tub f i) = true := by simp [rackB]
def okP (f : Nat → Int) (i k : Nat) : Prop := (0 ≤ f (i * 4 + k) ∧ f (i * 4 + k) ≤ 5) ∧ (0 < k → 0 < f (i * 4 + k) → f (i * 4 + (k - 1)) ≠ 0)
theorem tubeB_iff (f : Nat → Int) (i : Nat) : tubeB (tub f i) = true ↔ ∀ k, k < 4 → okP f i k := by
  unfold tubeB tub okP
  rw [decide_eq_true_iff]
  constructor
  · rintro ⟨h0, h1, h2, h3, h4, h5, h6⟩ k hk
    match k, hk with
    | 0, _ => exact ⟨h0, fun h => by omega⟩
    | 1, _ => exact ⟨h1, fun _ h e => by simp at e; have := h4 e; omega⟩
    | 2, _ => exact ⟨h2, fun _ h e => by simp at e; have := h5 e; omega⟩
    | 3, _ => exact ⟨h3, fun _ h e => by simp at e; have := h6 e; omega⟩
  · intro h
    have h0 := h 0 (by omega)
    have h1 := h 1 (by omega)
    have h2 := h 2 (by omega)
    have h3 := h 3 (by omega)
    simp at h1 h2 h3
    refine ⟨h0.1, h1.1, h2.1, h3.1, fun e => ?_, fun e => ?_, fun e => ?_⟩
    · have := h1.2; by_cases e2 : 0 < f (i * 4 + 1)
      · exact absurd e (this e2)
      · omega
    · have := h2.2; by_cases e2 : 0 < f (i * 4 + 2)
      · exact absurd e (this e2)
      · omega
    · have := h3.2; by_cases e2 : 0 < f (i * 4 + 3)
      · exact absurd e (this e2)
      · omega
theorem rackB_true {f : Nat → Int} (h : ∀ i, i < 6 → ∀ k, k < 4 → okP f i k) : rackB f = true := (rackB_iff f).2 fun i hi => (tubeB_iff f i).2 (h i hi)
theorem rackB_false {f : Nat → Int} {i k : Nat} (hi : i < 6) (hk : k < 4) (h : ¬ okP f i k) : rackB f = false := by
  cases e : rackB f with
  | false => rfl
  | true => exact absurd ((tubeB_iff f i).1 ((rackB_iff f).1 e i hi) k hk) h

/-- The first place below n at which p holds, or -1. -/
def idx (p : Nat → Bool) (n : Nat) : Int := match (List.range n).find? p with | some k => (k : Int) | none => -1
theorem idx_found {p : Nat → Bool} {n k : Nat} (hk : k < n) (h : p k = true) (hb : ∀ j, j < k → p j = false) : idx p n = k := by
  have e : (List.range n).find? p = some k := by
    rw [List.find?_range_eq_some]
    exact ⟨h, by simpa using hk, fun j hj => by simp [hb j hj]⟩
  unfold idx
  rw [e]
theorem idx_none {p : Nat → Bool} {n : Nat} (hb : ∀ j, j < n → p j = false) : idx p n = -1 := by
  have e : (List.range n).find? p = none := by
    rw [List.find?_eq_none]
    intro x hx
    simp at hx
    simp [hb x hx]
  unfold idx
  rw [e]
theorem idx_cases (p : Nat → Bool) (n : Nat) : (idx p n = -1 ∧ ∀ j, j < n → p j = false) ∨ ∃ k, k < n ∧ idx p n = k ∧ p k = true ∧ ∀ j, j < k → p j = false := by
  cases e : (List.range n).find? p with
  | none =>
    left
    rw [List.find?_eq_none] at e
    have hb : ∀ j, j < n → p j = false := fun j hj => by simpa using e j (by simpa using hj)
    exact ⟨idx_none hb, hb⟩
  | some k =>
    right
    rw [List.find?_range_eq_some] at e
    obtain ⟨h1, h2, h3⟩ := e
    have hb : ∀ j, j < k → p j = false := fun j hj => by simpa using h3 j hj
    have hk : k < n := by simpa using h2
    exact ⟨k, hk, idx_found hk h1 hb, h1, hb⟩
theorem idx_any (p : Nat → Bool) (n : Nat) : decide (0 ≤ idx p n) = (List.range n).any p := by
  rcases idx_cases p n with ⟨h, hb⟩ | ⟨k, hk, h, hp, _⟩
  · rw [h]
    have : (List.range n).any p = false := by
      rw [List.any_eq_false]
      intro x hx
      simp at hx
      simp [hb x hx]
    rw [this]
    rfl
  · rw [h]
    have : (List.range n).any p = true := by
      rw [List.any_eq_true]
      exact ⟨k, by simpa using hk, hp⟩
    rw [this]
    simp
/-- How many layers from the bottom on are not empty. -/
def nlay (g : Nat → Int) : Nat := if g 0 = 0 then 0 else if g 1 = 0 then 1 else if g 2 = 0 then 2 else if g 3 = 0 then 3 else 4
theorem nlay_le (g : Nat → Int) : nlay g ≤ 4 := by unfold nlay; (repeat' split) <;> omega
theorem nlay_idx (g : Nat → Int) : idx (fun k => g k == 0) 4 = if nlay g < 4 then (nlay g : Int) else -1 := by
  unfold nlay
  by_cases h0 : g 0 = 0
  · rw [idx_found (k := 0) (by omega) (by simp [h0]) (by intro j hj; omega)]; simp [h0]
  by_cases h1 : g 1 = 0
  · rw [idx_found (k := 1) (by omega) (by simp [h1]) (by intro j hj; have : j = 0 := by omega
                                                         subst this; simp [h0])]; simp [h0, h1]
  by_cases h2 : g 2 = 0
  · rw [idx_found (k := 2) (by omega) (by simp [h2]) (by intro j hj; have : j = 0 ∨ j = 1 := by omega
                                                         rcases this with e | e <;> subst e <;> simp [h0, h1])]; simp [h0, h1, h2]
  by_cases h3 : g 3 = 0
  · rw [idx_found (k := 3) (by omega) (by simp [h3]) (by intro j hj; have : j = 0 ∨ j = 1 ∨ j = 2 := by omega
                                                         rcases this with e | e | e <;> subst e <;> simp [h0, h1, h2])]; simp [h0, h1, h2, h3]
  · rw [idx_none (by intro j hj; have : j = 0 ∨ j = 1 ∨ j = 2 ∨ j = 3 := by omega
                     rcases this with e | e | e | e <;> subst e <;> simp [h0, h1, h2, h3])]; simp [h0, h1, h2, h3]
/-- The program's test of a tube. -/
theorem tubeB_layers (g : Nat → Int) : (((List.range (nlay g)).all fun k => (decide (1 ≤ g k) && decide (g k ≤ 5))) && ((List.range (4 - nlay g)).all fun k => g (nlay g + k) == 0)) = tubeB g := by
  rw [Bool.eq_iff_iff]
  unfold nlay tubeB
  by_cases h0 : g 0 = 0 <;> by_cases h1 : g 1 = 0 <;> by_cases h2 : g 2 = 0 <;> by_cases h3 : g 3 = 0 <;> simp [h0, h1, h2, h3, List.range_succ] <;> omega

/-- How many of the first n places p holds at. -/
def cnt (p : Nat → Bool) : Nat → Nat
  | 0 => 0
  | k + 1 => cnt p k + if p k then 1 else 0
theorem cnt_le (p : Nat → Bool) (n : Nat) : cnt p n ≤ n := by
  induction n with
  | zero => simp [cnt]
  | succ n ih => unfold cnt; split <;> omega
theorem cnt_yes {p : Nat → Bool} {k : Nat} (h : p k = true) : cnt p (k + 1) = cnt p k + 1 := by simp [cnt, h]
theorem cnt_no {p : Nat → Bool} {k : Nat} (h : p k = false) : cnt p (k + 1) = cnt p k := by simp [cnt, h]
theorem cnt_layers (g : Nat → Int) (h : tubeB g = true) : cnt (fun k => decide (0 < g k)) 4 = nlay g := by
  unfold tubeB at h
  rw [decide_eq_true_iff] at h
  unfold nlay
  by_cases h0 : g 0 = 0 <;> by_cases h1 : g 1 = 0 <;> by_cases h2 : g 2 = 0 <;> by_cases h3 : g 3 = 0 <;> simp [cnt, h0, h1, h2, h3] <;> grind
end Go.Proofs.YtlbgmkengkgnfaaGreat
end
