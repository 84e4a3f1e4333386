/- The reference's draws of texts. -/
import Derived.Test.YthljicikedlkbaaDoorCur
import Derived.Test.YthljicikedlkbaaDoorSt
namespace Go.Proofs.YthljicikedlkbaaDoor
set_option linter.unusedSimpArgs false
set_option linter.unusedVariables false
set_option maxRecDepth 20000
open Go.RowKit
theorem one_any {K B : Nat} {p : Option Addr} {n c i : Nat} (m : Nat) (hm0 : 1 ≤ m) (hm : m ≤ 60000) (w : World) (hK : K ≤ B) (hi : i ≤ 900000) (hC : Cur w B p n c i) (hB : By w K p n c) :
    Calls Tryd.prog 50 #[.pointer (some ⟨B, 0, none⟩), .int .i64 m] w fun e w' => ∃ (b : Bool) (i' : Nat), e = .returned (.bool b) ∧ i' ≤ i + 2 ∧ Cur w' B p n c i' ∧ w.grownBy w' (some B) := by
  have HP : Hid _ := fun (u : Unit) => pick_any m hm0 hm w hK hi hC hB
  clear hC hB
  go_enter Tryd.func50, Tryd.ntmps50
  go_wp2_with first
    | (go_at_call 49; (with_reducible refine (HP.out ()).mono ?_); rintro e w1 ⟨r, i1, rfl, hr, hi1, hC1, hg1⟩; have HC1 : Hid (Cur w1 B p n c i1) := hC1; clear hC1)
  all_goals (go_ret; exact ⟨_, i1, rfl, hi1, HC1.out, hg1⟩)
theorem of_any {K B : Nat} {p : Option Addr} {n c i : Nat} {bL : Nat} {v : Value} {l : List ByteArray} (h0 : 0 < l.length) (hl : l.length ≤ 60000) (w : World) (hS : St w bL v l) (hbL : B < bL) (hK : K ≤ B) (hi : i ≤ 900000) (hC : Cur w B p n c i) (hB : By w K p n c) :
    Calls Tryd.prog 48 #[.pointer (some ⟨B, 0, none⟩), v] w fun e w' => ∃ (k i' : Nat) (x : ByteArray), e = .returned (.string x) ∧ l[k]? = some x ∧ i' ≤ i + 2 ∧ Cur w' B p n c i' ∧ w.grownBy w' (some B) := by
  have HP : Hid _ := fun (u : Unit) => pick_any l.length h0 hl w hK hi hC hB
  clear hC hB
  rcases hS with ⟨rfl, rfl⟩ | ⟨g, cap, rfl, h2, h3, h4, h6, h5⟩
  · simp at h0
  have H5 : Hid _ := h5
  clear h5 h6
  go_enter Tryd.func48, Tryd.ntmps48
  go_wp2_with first
    | (go_at_call 49; (with_reducible refine (HP.out ()).mono ?_); rintro e w1 ⟨r, i1, rfl, hr, hi1, hC1, hg1⟩; have HC1 : Hid (Cur w1 B p n c i1) := hC1; clear hC1; have hx : l[r]? = some l[r] := List.getElem?_eq_getElem hr; have hc : w1.cell? ⟨g, r, none⟩ = some (.string l[r]) := (World.cell?_of_block (a := ⟨g, r, none⟩) (hg1.block g h3 (fun e => by injection e; omega))).trans (H5.out r _ hx))
  go_ret
  exact ⟨r, i1, l[r], rfl, hx, hi1, HC1.out, hg1⟩
theorem Cur.below {w w' : World} {B : Nat} {p : Option Addr} {n c i : Nat} (h : Cur w B p n c i) (hb : Below w.heap.size w w') : Cur w' B p n c i := by
  obtain ⟨h1, h2, h3, h4, s, h5, h6⟩ := h
  exact ⟨Nat.lt_of_lt_of_le h1 hb.size, fun j => (hb.frozen (p := ⟨B, j, none⟩) h1).trans (h2 j), (hb.cell (p := ⟨B, 0, none⟩) h1).trans h3, (hb.cell (p := ⟨B, 1, none⟩) h1).trans h4, s, (hb.cell (p := ⟨B, 2, none⟩) h1).trans h5, h6⟩
theorem By.below {w w' : World} {K : Nat} {p : Option Addr} {n c : Nat} (h : By w K p n c) (hb : Below w.heap.size w w') (hK : K ≤ w.heap.size) : By w' K p n c := by
  obtain ⟨h1, h2, h3⟩ := h
  refine ⟨h1, h2, fun j hj => ?_⟩
  obtain ⟨a, x, e, ha, hc, hx⟩ := h3 j hj
  exact ⟨a, x, e, ha, (hb.cell (by rw [add_blk]; omega)).trans hc, hx⟩
def any9 : List ByteArray := [⟨#[]⟩, ⟨#[97]⟩, ⟨#[97, 44, 98]⟩, ⟨#[115, 111, 109, 101, 32, 119, 111, 114, 100, 115]⟩, ⟨#[120, 35, 121]⟩, ⟨#[45, 49, 50]⟩, ⟨#[0, 255]⟩, ⟨#[44, 44]⟩, ⟨#[48]⟩]
theorem small_of {l : List ByteArray} {k m : Nat} {x : ByteArray} (h : l[k]? = some x) (hl : l.all (fun y => decide (y.size ≤ m)) = true) : x.size ≤ m :=
  of_decide_eq_true (List.all_eq_true.1 hl x (List.mem_of_getElem? h))
def RetT (w : World) (B : Nat) (p : Option Addr) (n c i : Nat) (m : Nat) (e : Ending) (w' : World) : Prop := ∃ (x : ByteArray) (i' : Nat), e = .returned (.string x) ∧ x.size ≤ m ∧ i' ≤ i + 2 ∧ Cur w' B p n c i' ∧ w.grownBy w' (some B)
theorem ofl_any {K B : Nat} {p : Option Addr} {n c i : Nat} (l : List ByteArray) (m : Nat) (hm : l.all (fun y => decide (y.size ≤ m)) = true) (h0 : 0 < l.length) (hl : l.length ≤ 60000) (w : World) (hK : K ≤ B) (hi : i ≤ 900000) (hC : Cur w B p n c i) (hB : By w K p n c) :
    Calls Tryd.prog 48 #[.pointer (some ⟨B, 0, none⟩), .slice (some ⟨w.heap.size, 0, none⟩) l.length l.length] (w.alloc (.cells (l.map Value.string).toArray 9)) (RetT w B p n c i m) := by
  have hb1 : Below w.heap.size w (w.alloc (.cells (l.map Value.string).toArray 9)) := (Below.refl _ _).alloc (Nat.le_refl _) _
  refine (of_any h0 hl _ (St.made (l := l) (Nat.le_refl _)) hC.1 hK hi (hC.below hb1) (hB.below hb1 (by have := hC.1; omega))).mono ?_
  rintro e w1 ⟨k, i1, x, rfl, hx, hi1, hC1, hg1⟩
  refine ⟨x, i1, rfl, small_of hx hm, hi1, hC1, ?_⟩
  exact grown_trans ⟨hb1.os, hb1.tape, hb1.output, hb1.size, fun j hj _ => hb1.block j hj⟩ hg1
theorem any1_any {K B : Nat} {p : Option Addr} {n c i : Nat} (w : World) (hK : K ≤ B) (hi : i ≤ 900000) (hC : Cur w B p n c i) (hB : By w K p n c) :
    Calls Tryd.prog 47 #[.pointer (some ⟨B, 0, none⟩)] w (RetT w B p n c i 10) := by
  have HP : Hid _ := fun (u : Unit) => ofl_any any9 10 (by decide) (by decide) (by decide) w hK hi hC hB
  clear hC hB
  go_enter Tryd.func47, Tryd.ntmps47
  go_wp2_with first
    | (go_at_call 48; refine Calls.mono (HP.out ()) ?_; rintro e w1 ⟨x, i1, rfl, hx, hi1, hC1, hg1⟩)
  go_ret
  exact ⟨x, i1, rfl, hx, hi1, hC1, hg1⟩
end Go.Proofs.YthljicikedlkbaaDoor
