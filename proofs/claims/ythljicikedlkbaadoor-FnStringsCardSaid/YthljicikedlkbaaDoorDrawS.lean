/- The draws that the law on strings asks for. -/
import Derived.Test.YthljicikedlkbaaDoorDraws
import Derived.Test.YthljicikedlkbaaDoorFmt
namespace Go.Proofs.YthljicikedlkbaaDoor
set_option linter.unusedSimpArgs false
set_option linter.unusedVariables false
set_option maxRecDepth 20000
open Go.RowKit
theorem pickL_any {K B : Nat} {p : Option Addr} {n c i : Nat} (m : Nat) (hm0 : 1 ≤ m) (hm : m ≤ 60000) (w : World) (hK : K ≤ B) (hi : i ≤ 900000) (hC : Cur w B p n c i) (hB : By w K p n c) (z : Int) (hz : z = (m : Int)) :
    Calls Tryd.prog 49 #[.pointer (some ⟨B, 0, none⟩), .int .i64 z] w (RetN w B p n c i m) := by rw [hz]; exact pick_any m hm0 hm w hK hi hC hB
theorem draw_app {p : Option Addr} {n c : Nat} (w : World) (hB : By w w.heap.size p n c) :
    Calls Tryd.prog 33 #[.slice p n c] w fun e w' => ∃ x : ByteArray, e = .returned (.string x) ∧ x.size ≤ 5000 ∧ Below w.heap.size w w' := by
  have hb0 : Below w.heap.size w (w.alloc (.cells #[.slice p n c, .int .i64 0, .int .u64 0] 57)) := (Below.refl _ _).alloc (Nat.le_refl _) _
  have HC : Hid (Cur (w.alloc (.cells #[.slice p n c, .int .i64 0, .int .u64 0] 57)) w.heap.size p n c 0) := cur_new w
  have HB : Hid (By (w.alloc (.cells #[.slice p n c, .int .i64 0, .int .u64 0] 57)) w.heap.size p n c) := hB.below hb0 (Nat.le_refl _)
  clear hB
  obtain ⟨ii, hi, hz, hsz0, hby⟩ := info_parts u8_info
  go_enter Tryd.func33, Tryd.ntmps33
  go_wp2_with first
    | (go_at_call 50; refine Calls.mono (one_any 20 (by omega) (by omega) _ (Nat.le_refl _) (by omega) HC.out HB.out) ?_; rintro e w2 ⟨b2, i3, rfl, hi3, hC3, hg3⟩; have HC3 : Hid (Cur w2 w.heap.size p n c i3) := hC3; have HB3 : Hid (By w2 w.heap.size p n c) := HB.out.grown hg3 (Nat.le_refl _) hb0.size; have hb3 := grown_below hg3 (Nat.le_refl _) hb0; clear hC3)
    | (go_at_call 49; refine Calls.mono (pick_any 10 (by omega) (by omega) _ (Nat.le_refl _) (by omega) HC3.out HB3.out) ?_; rintro e w5 ⟨r5, i5, rfl, hr5, hi5, hC5, hg5⟩; have hb5 := grown_below hg5 (Nat.le_refl _) hb3; clear hC5)
    | ((with_reducible refine wpList_make_full w5 rfl _ _ 33 rfl w5.heap.size 5 ii (.int .u8 0) 1 Tryd.underlying33 hi hz hsz0 .i64 .i64 (3990 + (r5 : Int)) (3990 + (r5 : Int)) (3990 + r5) rfl rfl (by omega) (by omega) (by rw [hby]; omega) (by unfold maxLen; omega) (Nat.le_refl _) ?_); intro w6 hown6 hg6; have hcv := blank_text hown6; have hb56 := below_grown hg6 (Nat.le_refl _) (fun k hk => by cases hk); generalize hmm : 3990 + r5 = mm at *)
    | (go_at_call 47; (with_reducible refine (any1_any _ (Nat.le_refl _) (by omega) HC3.out HB3.out).mono ?_); rintro e w7 ⟨x, i7, rfl, hx, hi7, hC7, hg7⟩; have hb7 := grown_below hg7 (Nat.le_refl _) hb3)
  all_goals go_ret
  · exact ⟨blanks mm, rfl, by rw [blanks_size]; omega, hb5.trans (hb56.mono hb5.size)⟩
  · exact ⟨x, rfl, by omega, hb7⟩
theorem itoa_len2 (n : Int) : (Lib.itoa n).length ≤ n.natAbs + 2 := by
  unfold Lib.itoa
  split
  · rw [List.length_cons]; have := dec_len n.natAbs; omega
  · have := dec_len n.toNat; omega
theorem draw_parse {p : Option Addr} {n c : Nat} (w : World) (hB : By w w.heap.size p n c) :
    Calls Tryd.prog 32 #[.slice p n c] w fun e w' => ∃ x : ByteArray, e = .returned (.string x) ∧ x.size ≤ 5000 ∧ Below w.heap.size w w' := by
  have hb0 : Below w.heap.size w (w.alloc (.cells #[.slice p n c, .int .i64 0, .int .u64 0] 57)) := (Below.refl _ _).alloc (Nat.le_refl _) _
  have HC : Hid (Cur (w.alloc (.cells #[.slice p n c, .int .i64 0, .int .u64 0] 57)) w.heap.size p n c 0) := cur_new w
  have HB : Hid (By (w.alloc (.cells #[.slice p n c, .int .i64 0, .int .u64 0] 57)) w.heap.size p n c) := hB.below hb0 (Nat.le_refl _)
  clear hB
  go_enter Tryd.func32, Tryd.ntmps32
  go_wp2_with first
    | (go_at_call 50; refine Calls.mono (one_any 2 (by omega) (by omega) _ (Nat.le_refl _) (by omega) HC.out HB.out) ?_; rintro e w2 ⟨b2, i3, rfl, hi3, hC3, hg3⟩; have HC3 : Hid (Cur w2 w.heap.size p n c i3) := hC3; have HB3 : Hid (By w2 w.heap.size p n c) := HB.out.grown hg3 (Nat.le_refl _) hb0.size; have hb3 := grown_below hg3 (Nat.le_refl _) hb0; clear hC3)
    | (go_at_call 49; refine Calls.mono (pick_any 2000 (by omega) (by omega) _ (Nat.le_refl _) (by omega) HC3.out HB3.out) ?_; rintro e w5 ⟨r5, i5, rfl, hr5, hi5, hC5, hg5⟩; have hb5 := grown_below hg5 (Nat.le_refl _) hb3; clear hC5; have hwr : IntKind.i64.wrap ((r5 : Int) - 1000) = (r5 : Int) - 1000 := IntWalk.i64_in _ (by omega))
    | (go_at_call 36; (with_reducible refine (num_any _ (by omega) (by omega) _).mono ?_); rintro e w7 ⟨rfl, hb7⟩)
    | (go_at_call 48; refine Calls.mono (ofl_any [⟨#[]⟩, ⟨#[45]⟩, ⟨#[45, 48]⟩, ⟨#[48, 48]⟩, ⟨#[48, 49]⟩, ⟨#[45, 45, 49]⟩, ⟨#[49, 120]⟩, ⟨#[57, 57, 57, 57, 57, 57]⟩, ⟨#[49, 48, 48, 48, 48, 48, 48]⟩, ⟨#[45, 57, 57, 57, 57, 57, 57]⟩, ⟨#[49, 56, 52, 52, 54, 55, 52, 52, 48, 55, 51, 55, 48, 57, 53, 53, 49, 54, 49, 55]⟩] 20 (by decide) (by decide) (by decide) w2 (Nat.le_refl _) (by omega) HC3.out HB3.out) ?_; rintro e w8 ⟨y, i8, rfl, hy, hi8, hC8, hg8⟩)
  all_goals go_ret
  · exact ⟨y, rfl, by omega, grown_below hg8 (Nat.le_refl _) hb3⟩
  · exact ⟨_, rfl, by show (Lib.itoa ((r5 : Int) - 1000)).toArray.size ≤ 5000; rw [List.size_toArray]; have := itoa_len2 ((r5 : Int) - 1000); omega, hb5.trans (hb7.mono hb5.size)⟩
theorem among_any {K B : Nat} {p : Option Addr} {n c i : Nat} {g : Nat} {l : List Int} (h0 : 0 < l.length) (hl : l.length ≤ 60000) (w : World) (hg : g < w.heap.size) (hgB : g ≠ B) (hc : ∀ j x, l[j]? = some x → w.cell? ⟨g, j, none⟩ = some (.int .i64 x)) (hK : K ≤ B) (hi : i ≤ 900000) (hC : Cur w B p n c i) (hB : By w K p n c) :
    Calls Tryd.prog 54 #[.pointer (some ⟨B, 0, none⟩), .slice (some ⟨g, 0, none⟩) l.length l.length] w fun e w' => ∃ x : Int, e = .returned (.int .i64 x) ∧ w.grownBy w' (some B) := by
  have HP : Hid _ := fun (u : Unit) => pick_any l.length h0 hl w hK hi hC hB
  clear hC hB
  have H5 : Hid _ := hc
  clear hc
  go_enter Tryd.func54, Tryd.ntmps54
  go_wp2_with first
    | (go_at_call 49; (with_reducible refine (HP.out ()).mono ?_); rintro e w1 ⟨r, i1, rfl, hr, hi1, hC1, hg1⟩; have hx : l[r]? = some l[r] := List.getElem?_eq_getElem hr; have hc : w1.cell? ⟨g, r, none⟩ = some (.int .i64 l[r]) := (World.cell?_of_block (a := ⟨g, r, none⟩) (hg1.block g hg (fun e => by injection e with e; exact hgB e))).trans (H5.out r _ hx))
  go_ret
  exact ⟨l[r], rfl, hg1⟩
theorem amongl_any {K B : Nat} {p : Option Addr} {n c i : Nat} (l : List Int) (h0 : 0 < l.length) (hl : l.length ≤ 60000) (w : World) (hK : K ≤ B) (hi : i ≤ 900000) (hC : Cur w B p n c i) (hB : By w K p n c) :
    Calls Tryd.prog 54 #[.pointer (some ⟨B, 0, none⟩), .slice (some ⟨w.heap.size, 0, none⟩) l.length l.length] (w.alloc (.cells (l.map (Value.int .i64)).toArray 3)) fun e w' => ∃ x : Int, e = .returned (.int .i64 x) ∧ w.grownBy w' (some B) := by
  have hb1 : Below w.heap.size w (w.alloc (.cells (l.map (Value.int .i64)).toArray 3)) := (Below.refl _ _).alloc (Nat.le_refl _) _
  refine (among_any h0 hl _ (by simp) (by have := hC.1; omega) (fun j x hx => by simp only [World.cell?, heap_alloc_new, Option.bind_some]; simp [hx]) hK hi (hC.below hb1) (hB.below hb1 (by have := hC.1; omega))).mono ?_
  rintro e w1 ⟨x, rfl, hg1⟩
  exact ⟨x, rfl, grown_trans ⟨hb1.os, hb1.tape, hb1.output, hb1.size, fun j hj _ => hb1.block j hj⟩ hg1⟩
theorem draw_fmt {p : Option Addr} {n c : Nat} (w : World) (hB : By w w.heap.size p n c) :
    Calls Tryd.prog 31 #[.slice p n c] w fun e w' => ∃ x : Int, e = .returned (.int .i64 x) ∧ Below w.heap.size w w' := by
  have hb0 : Below w.heap.size w (w.alloc (.cells #[.slice p n c, .int .i64 0, .int .u64 0] 57)) := (Below.refl _ _).alloc (Nat.le_refl _) _
  have HC : Hid (Cur (w.alloc (.cells #[.slice p n c, .int .i64 0, .int .u64 0] 57)) w.heap.size p n c 0) := cur_new w
  have HB : Hid (By (w.alloc (.cells #[.slice p n c, .int .i64 0, .int .u64 0] 57)) w.heap.size p n c) := hB.below hb0 (Nat.le_refl _)
  clear hB
  go_enter Tryd.func31, Tryd.ntmps31
  go_wp2_with first
    | (go_at_call 49; refine Calls.mono (pick_any 1000 (by omega) (by omega) _ (Nat.le_refl _) (by omega) HC.out HB.out) ?_; rintro e w5 ⟨r5, i5, rfl, hr5, hi5, hC5, hg5⟩; have hb5 := grown_below hg5 (Nat.le_refl _) hb0; have HC5 : Hid (Cur w5 w.heap.size p n c i5) := hC5; have HB5 : Hid (By w5 w.heap.size p n c) := HB.out.grown hg5 (Nat.le_refl _) hb0.size; clear hC5; have hwr : IntKind.i64.wrap ((r5 : Int) - 500) = (r5 : Int) - 500 := IntWalk.i64_in _ (by omega))
    | (go_at_call 54; refine Calls.mono (amongl_any [0, 1, -1, 10, 999999, -999999, 1000000, -1000000, (r5 : Int) - 500] (by show 0 < 9; omega) (by show 9 ≤ 60000; omega) w5 (Nat.le_refl _) (by omega) HC5.out HB5.out) ?_; rintro e w8 ⟨y, rfl, hg8⟩)
  go_ret
  exact ⟨y, rfl, grown_below hg8 (Nat.le_refl _) hb5⟩
end Go.Proofs.YthljicikedlkbaaDoor
