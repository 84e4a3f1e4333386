/- A part (number 12) of the proof of the law FnRacks: what each of its sections proves stands in the section's own first remark. No conditions beside those that each theorem states. -/
import Derived.Laws.DeepStrings4
import Derived.Test.YtlbgmkengkgnfaaGreatDoorMg9
import Derived.Test.YtlbgmkengkgnfaaGreatDoorMg11
section
/- A spoilt text: the reference's draw. -/
namespace Go.Proofs.YtlbgmkengkgnfaaGreatDoor
set_option linter.unusedSimpArgs false
set_option linter.unusedVariables false
set_option maxRecDepth 20000
open Go.RowKit
theorem adds (a b : ByteArray) (ha : a.size ≤ 1000) (hb : b.size ≤ 1000) : ∃ X : ByteArray, (∀ w, (Op.stringOp .add a b).run Tryz.prog w = .ok (.string X) w) ∧ X.size ≤ a.size + b.size :=
  ⟨a ++ b, fun w => run_string_add_sum w _ _ (by omega), by rw [ByteArray.size_append]; omega⟩
theorem dN (w : World) (m : Nat) : Below w.heap.size w (w.drewN m) := ⟨rfl, rfl, rfl, Nat.le_refl _, fun _ _ => rfl⟩
set_option maxHeartbeats 2000000 in
theorem spoilt_d {w0 W : World} {B K : Nat} {p : Option Addr} {n c i : Nat} (hi : i ≤ 700000) (hD : DD w0 W B K p n c i) (t : ByteArray) (ht0 : 0 < t.size) (ht : t.size ≤ 100) :
    Calls Tryz.prog 56 #[.pointer (some ⟨B, 0, none⟩), .string t, .string ⟨#[46, 97, 98, 101, 47, 102, 32]⟩] W fun e W' => ∃ (x : ByteArray) (i' : Nat), e = .returned (.string x) ∧ x.size ≤ 1000 ∧ i' ≤ i + 6 ∧ DD w0 W' B K p n c i' ∧ W.grownBy W' (some B) := by
  have HD : Hid _ := hD
  clear hD
  have tk_a : True := trivial
  have tk_b : True := trivial
  have tk_c : True := trivial
  have hne : t.toList.isEmpty = false := by
    rw [ByteArray.toList_eq]
    cases h : t.data.toList with
    | nil => exact absurd (show t.size = 0 by show t.data.size = 0; rw [← Array.length_toList, h]; rfl) (by omega)
    | cons x l => rfl
  go_enter Tryz.func56, Tryz.ntmps56
  go_wp2_with first
    | (go_at_call 48; have _t := tk_a; (with_reducible refine Calls.mono (pick_d t.size (by omega) (by omega) _ rfl (by omega) HD.out) ?_); rintro e w1 ⟨r, i1, rfl, hr, hi1, hD1, hg1⟩; have HD1 : Hid _ := hD1; clear hD1 _t tk_a)
    | (go_at_call 48; have _t := tk_b; (with_reducible refine Calls.mono (pick_d 7 (by omega) (by omega) _ (by omega) (by omega) HD1.out) ?_); rintro e w1 ⟨q, i2, rfl, hq, hi2, hD1, hg2⟩; have HD2 : Hid _ := hD1; clear hD1 _t tk_b)
  go_wp2_with first
    | (go_at_call 48; have _t := tk_c; (with_reducible refine Calls.mono (pick_d 3 (by omega) (by omega) _ (by omega) (by omega) HD2.out) ?_); rintro e w1 ⟨m, i3, rfl, hm, hi3, hD1, hg3⟩; have HD3 : Hid _ := hD1; clear hD1 _t tk_c)
  all_goals (try go_quiet (fail))
  all_goals (try go_wp2)
  all_goals go_ret
  all_goals first
    | exact ⟨_, i3, rfl, (by simp only [ByteArray.size_append, ByteArray.size_extract]; omega), by omega, HD3.out, grown_trans (grown_trans hg1 hg2) hg3⟩
    | exact ⟨_, i3, rfl, (by simp only [ByteArray.size_append, ByteArray.size_extract]; omega), by omega, HD3.out.below (dN w1 _), grown_trans (grown_trans hg1 hg2) (grown_trans hg3 ⟨rfl, rfl, rfl, Nat.le_refl _, fun _ _ _ => rfl⟩)⟩
end Go.Proofs.YtlbgmkengkgnfaaGreatDoor
end
