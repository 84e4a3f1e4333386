/- A part (number 9) of the proof of the law FnRackNames: what each of its sections proves stands in the section's own first remark. No conditions beside those that each theorem states. -/
import Derived.Test.YtlbgmkengkgnfaaGreatMg5
import Derived.Test.YtlbgmkengkgnfaaGreatMg6
import Derived.Test.YtlbgmkengkgnfaaGreatMg2
section
/- The reference's draws of numbers and racks. -/
namespace Go.Proofs.YtlbgmkengkgnfaaGreat
set_option linter.unusedSimpArgs false
set_option linter.unusedVariables false
set_option maxRecDepth 20000
open Go.RowKit
/-- A reader at a place; nothing that was there has turned but the reader. -/
structure DD (w0 W : World) (B K : Nat) (p : Option Addr) (n c i : Nat) : Prop where
  cur : Cur W B p n c i
  byt : By W K p n c
  grown : w0.grownBy W (some B)
  hK : K ≤ B
  hB : B < w0.heap.size
theorem cur_belowK {w w' : World} {B K : Nat} {p : Option Addr} {n c i : Nat} (h : Cur w B p n c i) (hb : Below K w w') (hK : B < K) : Cur w' B p n c i := by
  obtain ⟨h1, h2, h3, h4, s, h5, h6⟩ := h
  exact ⟨Nat.lt_of_lt_of_le h1 hb.size, fun j => (hb.frozen (p := ⟨B, j, none⟩) hK).trans (h2 j), (hb.cell (p := ⟨B, 0, none⟩) hK).trans h3, (hb.cell (p := ⟨B, 1, none⟩) hK).trans h4, s, (hb.cell (p := ⟨B, 2, none⟩) hK).trans h5, h6⟩
theorem by_belowK {w w' : World} {K K2 : Nat} {p : Option Addr} {n c : Nat} (h : By w K p n c) (hb : Below K2 w w') (hK : K ≤ K2) : By w' K p n c := by
  obtain ⟨h1, h2, h3⟩ := h
  refine ⟨h1, h2, fun j hj => ?_⟩
  obtain ⟨a, x, e, ha, hc, hx⟩ := h3 j hj
  exact ⟨a, x, e, ha, (hb.cell (by rw [add_blk]; omega)).trans hc, hx⟩
theorem grown_of_below {K : Nat} {w0 w w' : World} {r : Option Nat} (h : w0.grownBy w r) (hb : Below K w w') (hK : w0.heap.size ≤ K) : w0.grownBy w' r :=
  ⟨hb.os.trans h.os, hb.tape.trans h.tape, hb.output.trans h.output, Nat.le_trans h.size hb.size, fun k hk hne => (hb.block k (by omega)).trans (h.block k hk hne)⟩
section
variable {w0 W W' : World} {B K : Nat} {p : Option Addr} {n c i i' : Nat}
theorem DD.lt (h : DD w0 W B K p n c i) : B < W.heap.size := h.cur.1
theorem DD.size (h : DD w0 W B K p n c i) : w0.heap.size ≤ W.heap.size := h.grown.size
theorem DD.belowK {K2 : Nat} (h : DD w0 W B K p n c i) (hb : Below K2 W W') (hK2 : w0.heap.size ≤ K2) : DD w0 W' B K p n c i :=
  ⟨cur_belowK h.cur hb (by have := h.hB; omega), by_belowK h.byt hb (by have := h.hB; have := h.hK; omega), grown_of_below h.grown hb hK2, h.hK, h.hB⟩
theorem DD.below (h : DD w0 W B K p n c i) (hb : Below W.heap.size W W') : DD w0 W' B K p n c i := h.belowK hb h.size
theorem DD.call (h : DD w0 W B K p n c i) (hC : Cur W' B p n c i') (hg : W.grownBy W' (some B)) : DD w0 W' B K p n c i' :=
  ⟨hC, h.byt.grown hg h.hK (by have := h.lt; have := h.hK; omega), grown_trans h.grown hg, h.hK, h.hB⟩
theorem DD.self (hC : Cur W B p n c i) (hBy : By W K p n c) (hK : K ≤ B) : DD W W B K p n c i := ⟨hC, hBy, ⟨rfl, rfl, rfl, Nat.le_refl _, fun _ _ _ => rfl⟩, hK, hC.1⟩
theorem DD.re (h : DD w0 W B K p n c i) : DD W W B K p n c i := DD.self h.cur h.byt h.hK
theorem row_grown {g : Nat} {o : Obj} (h : W.heap[g]? = some o) (hg : W.grownBy W' (some B)) (hne : g ≠ B) : W'.heap[g]? = some o := (hg.block g (row_lt h) (fun e => by injection e with e; exact hne e)).trans h
end
theorem arr4_lit (g : Nat → Int) : arr 4 g = #[.int .i64 (g 0), .int .i64 (g 1), .int .i64 (g 2), .int .i64 (g 3)] := by
  refine Array.ext_getElem? fun i => ?_
  rw [arr_get]
  match i with
  | 0 => rfl
  | 1 => rfl
  | 2 => rfl
  | 3 => rfl
  | i + 4 => rw [if_neg (by omega)]; rfl
def one1 (j : Nat) : Int := if j = 1 then 1 else 0
theorem one1_lit : Value.agg #[.int .i64 0, .int .i64 1, .int .i64 0, .int .i64 0] = .agg (arr 4 one1) := by rw [arr4_lit]; rfl
def RetD (w0 W : World) (B K : Nat) (p : Option Addr) (n c i m : Nat) (R : Value → Prop) (e : Ending) (W' : World) : Prop := ∃ (v : Value) (i' : Nat), e = .returned v ∧ R v ∧ i' ≤ i + m ∧ DD w0 W' B K p n c i' ∧ W.grownBy W' (some B)
theorem pick_d {w0 W : World} {B K : Nat} {p : Option Addr} {n c i : Nat} (m : Nat) (hm0 : 1 ≤ m) (hm : m ≤ 60000) (z : Int) (hz : z = (m : Int)) (hi : i ≤ 900000) (hD : DD w0 W B K p n c i) :
    Calls Tryz.prog 42 #[.pointer (some ⟨B, 0, none⟩), .int .i64 z] W fun e W' => ∃ r i' : Nat, e = .returned (.int .i64 r) ∧ r < m ∧ i' ≤ i + 2 ∧ DD w0 W' B K p n c i' ∧ W.grownBy W' (some B) := by
  subst hz
  refine (pick_any m hm0 hm W hD.hK hi hD.cur hD.byt).mono ?_
  rintro e w1 ⟨r, i1, rfl, hr, hi1, hC, hg⟩
  exact ⟨r, i1, rfl, hr, hi1, hD.call hC hg, hg⟩
theorem one_d {w0 W : World} {B K : Nat} {p : Option Addr} {n c i : Nat} (m : Nat) (hm0 : 1 ≤ m) (hm : m ≤ 60000) (z : Int) (hz : z = (m : Int)) (hi : i ≤ 900000) (hD : DD w0 W B K p n c i) :
    Calls Tryz.prog 43 #[.pointer (some ⟨B, 0, none⟩), .int .i64 z] W fun e W' => ∃ (b : Bool) (i' : Nat), e = .returned (.bool b) ∧ i' ≤ i + 2 ∧ DD w0 W' B K p n c i' ∧ W.grownBy W' (some B) := by
  have HP : Hid _ := fun (_u : Unit) => pick_d m hm0 hm z hz hi hD
  clear hD hz
  go_enter Tryz.func43, Tryz.ntmps43
  go_wp2_with first
    | (go_at_call 42; (with_reducible refine (HP.out ()).mono ?_); rintro e w1 ⟨r, i1, rfl, hr, hi1, hD1, hg1⟩; have HD1 : Hid (DD w0 w1 B K p n c i1) := hD1; clear hD1)
  all_goals (go_ret; exact ⟨_, i1, rfl, hi1, HD1.out, hg1⟩)
theorem among_d {w0 W : World} {B K : Nat} {p : Option Addr} {n c i : Nat} {g : Nat} {l : List Int} {T : TypeId} {fr : Nat × Nat} (h0 : 0 < l.length) (hl : l.length ≤ 60000) (hs : W.heap[g]? = some (.cells (l.map (Value.int .i64)).toArray T fr)) (hgB : g ≠ B) (hi : i ≤ 900000) (hD : DD w0 W B K p n c i) :
    Calls Tryz.prog 44 #[.pointer (some ⟨B, 0, none⟩), .slice (some ⟨g, 0, none⟩) l.length l.length] W fun e W' => ∃ (x : Int) (i' : Nat), e = .returned (.int .i64 x) ∧ x ∈ l ∧ i' ≤ i + 2 ∧ DD w0 W' B K p n c i' ∧ W.grownBy W' (some B) := by
  have HP : Hid _ := fun (_u : Unit) => pick_d l.length h0 hl (l.length : Int) rfl hi hD
  have HS : Hid (W.heap[g]? = some (.cells (l.map (Value.int .i64)).toArray T fr)) := hs
  clear hD hs
  go_enter Tryz.func44, Tryz.ntmps44
  go_wp2_with first
    | (go_at_call 42; (with_reducible refine (HP.out ()).mono ?_); rintro e w1 ⟨r, i1, rfl, hr, hi1, hD1, hg1⟩; have HD1 : Hid (DD w0 w1 B K p n c i1) := hD1; clear hD1; have hx : l[r]? = some l[r] := List.getElem?_eq_getElem hr; have hc : w1.cell? ⟨g, r, none⟩ = some (.int .i64 l[r]) := by (rw [cell_of_row w1 g r _ _ _ (row_grown HS.out hg1 hgB)]; simp [hx]))
  go_ret
  exact ⟨l[r], i1, rfl, List.getElem_mem hr, hi1, HD1.out, hg1⟩
theorem amongl_d {w0 W : World} {B K : Nat} {p : Option Addr} {n c i : Nat} (l : List Int) (h0 : 0 < l.length) (hl : l.length ≤ 60000) (hi : i ≤ 900000) (hD : DD w0 W B K p n c i) :
    Calls Tryz.prog 44 #[.pointer (some ⟨B, 0, none⟩), .slice (some ⟨W.heap.size, 0, none⟩) l.length l.length] (W.alloc (.cells (l.map (Value.int .i64)).toArray 3)) fun e W' => ∃ (x : Int) (i' : Nat), e = .returned (.int .i64 x) ∧ x ∈ l ∧ i' ≤ i + 2 ∧ DD w0 W' B K p n c i' ∧ W.grownBy W' (some B) := by
  have hb1 : Below W.heap.size W (W.alloc (.cells (l.map (Value.int .i64)).toArray 3)) := (Below.refl _ _).alloc (Nat.le_refl _) _
  refine (among_d h0 hl (heap_alloc_new _ _) (by have := hD.lt; omega) hi (hD.below hb1)).mono ?_
  rintro e w1 ⟨x, i1, rfl, hx, hi1, hD1, hg1⟩
  exact ⟨x, i1, rfl, hx, hi1, hD1, grown_trans ⟨hb1.os, hb1.tape, hb1.output, hb1.size, fun j hj _ => hb1.block j hj⟩ hg1⟩
theorem amongc_d {w0 W : World} {B K : Nat} {p : Option Addr} {n c i : Nat} (l : List Int) {cs : Array Value} {m : Nat} (hcs : (l.map (Value.int .i64)).toArray = cs) (hm : l.length = m) (h0 : 0 < m) (hl : m ≤ 60000) (hi : i ≤ 900000) (hD : DD w0 W B K p n c i) :
    Calls Tryz.prog 44 #[.pointer (some ⟨B, 0, none⟩), .slice (some ⟨W.heap.size, 0, none⟩) m m] (W.alloc (.cells cs 3)) fun e W' => ∃ (x : Int) (i' : Nat), e = .returned (.int .i64 x) ∧ x ∈ l ∧ i' ≤ i + 2 ∧ DD w0 W' B K p n c i' ∧ W.grownBy W' (some B) := by
  subst hcs hm
  exact amongl_d l h0 hl hi hD
theorem amongr_d {w0 W : World} {B K : Nat} {p : Option Addr} {n c i : Nat} {g : Nat} (l : List Int) {cs : Array Value} {m : Nat} {T : TypeId} {fr : Nat × Nat} (hcs : (l.map (Value.int .i64)).toArray = cs) (hm : l.length = m) (h0 : 0 < m) (hl : m ≤ 60000) (hs : W.heap[g]? = some (.cells cs T fr)) (hgB : g ≠ B) (hi : i ≤ 900000) (hD : DD w0 W B K p n c i) :
    Calls Tryz.prog 44 #[.pointer (some ⟨B, 0, none⟩), .slice (some ⟨g, 0, none⟩) m m] W fun e W' => ∃ (x : Int) (i' : Nat), e = .returned (.int .i64 x) ∧ x ∈ l ∧ i' ≤ i + 2 ∧ DD w0 W' B K p n c i' ∧ W.grownBy W' (some B) := by
  subst hcs hm
  exact among_d h0 hl hs hgB hi hD
end Go.Proofs.YtlbgmkengkgnfaaGreat
end
