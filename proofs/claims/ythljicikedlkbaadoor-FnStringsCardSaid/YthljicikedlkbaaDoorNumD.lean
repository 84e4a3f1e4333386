/- The reference's text of a number. -/
import Derived.Lib.ItoaNum
import Derived.Laws.DeepStrings4
import Derived.Test.YthljicikedlkbaaDoorFloat
namespace Go.Proofs.YthljicikedlkbaaDoor
set_option linter.unusedSimpArgs false
set_option linter.unusedVariables false
set_option maxRecDepth 20000
open Go.RowKit
def dgt (m : Nat) : UInt8 := UInt8.ofNat (48 + m)
theorem dig_ext (m : Nat) (hm : m < 10) : (⟨#[48, 49, 50, 51, 52, 53, 54, 55, 56, 57]⟩ : ByteArray).extract m (m + 1) = ⟨#[dgt m]⟩ := by
  have hc : m = 0 ∨ m = 1 ∨ m = 2 ∨ m = 3 ∨ m = 4 ∨ m = 5 ∨ m = 6 ∨ m = 7 ∨ m = 8 ∨ m = 9 := by omega
  rcases hc with rfl | rfl | rfl | rfl | rfl | rfl | rfl | rfl | rfl | rfl <;> rfl
theorem dig_slice (m : Nat) (hm : m < 10) (w : World) : (Instr.sliceAt 9 (.string ⟨#[48, 49, 50, 51, 52, 53, 54, 55, 56, 57]⟩) (some (.int .i64 m)) (some (.int .i64 ((m : Int) + 1))) none).run Tryd.prog w = .ok (.string ⟨#[dgt m]⟩) w := by
  have h := run_slice_string (P := Tryd.prog) w 9 ⟨#[48, 49, 50, 51, 52, 53, 54, 55, 56, 57]⟩ .i64 .i64 (m : Int) ((m : Int) + 1) Tryd.underlying9 (by omega) (by omega) (by show (m : Int) + 1 ≤ 10; omega)
  rw [run_sliceAt_string (h := Tryd.underlying9), h, show ((m : Int) + 1).toNat = m + 1 by omega, Int.toNat_natCast, dig_ext m hm]
theorem dig_sliceI (x : Int) (m : Nat) (hx : x = m) (hm : m < 10) (w : World) : (Instr.sliceAt 9 (.string ⟨#[48, 49, 50, 51, 52, 53, 54, 55, 56, 57]⟩) (some (.int .i64 x)) (some (.int .i64 (x + 1))) none).run Tryd.prog w = .ok (.string ⟨#[dgt m]⟩) w := by rw [hx]; exact dig_slice m hm w
theorem dec_small {u : Nat} (h : u < 10) : Lib.decDigits u = [dgt u] := by rw [Lib.decDigits, dif_pos h]; rfl
theorem dec_big {u : Nat} (h : ¬ u < 10) : Lib.decDigits u = Lib.decDigits (u / 10) ++ [dgt (u % 10)] := by rw [Lib.decDigits, dif_neg h]; rfl
attribute [irreducible] dgt
def strOf (l : List UInt8) : Value := .string ⟨l.toArray⟩
theorem str_app (a b : List UInt8) : (⟨a.toArray⟩ : ByteArray) ++ ⟨b.toArray⟩ = ⟨(a ++ b).toArray⟩ := by
  apply ByteArray.ext
  simp
theorem dec_len (u : Nat) : (Lib.decDigits u).length ≤ u + 1 := by
  induction u using Nat.strongRecOn with
  | _ u ih =>
    by_cases h : u < 10
    · rw [dec_small h]; simp
    · rw [dec_big h]; have := ih (u / 10) (by omega); simp; omega
theorem str_add (x y : List UInt8) (hx : x.length ≤ 8388608000) (hy : y.length ≤ 8388608000) (w : World) : (Op.stringOp .add ⟨x.toArray⟩ ⟨y.toArray⟩).run Tryd.prog w = .ok (.string ⟨(x ++ y).toArray⟩) w := by
  rw [run_string_add_sum w _ _ (by simp [ByteArray.size]; omega), ByteArray.mk_append_mk]
theorem num_pos : ∀ (u : Nat), u < 1000000000 → ∀ (w : World), Calls Tryd.prog 36 #[.int .i64 u] w fun e w' => e = .returned (.string ⟨(Lib.decDigits u).toArray⟩) ∧ Below w.heap.size w w' := by
  intro u
  induction u using Nat.strongRecOn with
  | _ u ih =>
    intro hu w
    have hbel := Below.refl w.heap.size w
    have hneg : ¬ (u : Int) < 0 := by omega
    by_cases hs : u < 10
    · have hs' : (u : Int) < 10 := by omega
      have HD : Hid _ := dec_small hs
      have hsl := dig_slice u hs
      go_enter Tryd.func36, Tryd.ntmps36
      go_wp2_with fail
      go_ret
      refine ⟨?_, hbel⟩
      rw [HD.out]
      rfl
    · have hs' : ¬ (u : Int) < 10 := by omega
      have HD : Hid _ := dec_big hs
      have hsl := dig_sliceI ((u : Int) % 10) (u % 10) rfl (Nat.mod_lt _ (by omega))
      have hadd : ∀ w, (Op.stringOp .add ⟨(Lib.decDigits (u / 10)).toArray⟩ ⟨#[dgt (u % 10)]⟩).run Tryd.prog w = .ok (.string ⟨(Lib.decDigits u).toArray⟩) w := fun w => by
        rw [HD.out]
        exact str_add (Lib.decDigits (u / 10)) [dgt (u % 10)] (by have := dec_len (u / 10); omega) (by show 1 ≤ _; omega) w
      have HI : Hid _ := ih (u / 10) (by omega) (by omega)
      clear ih
      have hw1 : IntKind.i64.wrap ((u : Int) / 10) = ((u / 10 : Nat) : Int) := IntWalk.i64_in _ (by omega)
      have hw2 : ((u : Int)).tmod 10 = (u : Int) % 10 := Int.tmod_eq_emod_of_nonneg (by omega)
      have hw3 : IntKind.i64.wrap ((u : Int) % 10 + 1) = (u : Int) % 10 + 1 := IntWalk.i64_in _ (by omega)
      go_enter Tryd.func36, Tryd.ntmps36
      go_wp2_with fail
      refine wp_region_held 11 (Cls w _) (by kernel_rfl) (by kernel_rfl) (Cls.zero hbel) ?_; simp only [List.take_succ_cons, List.take_zero, List.drop_succ_cons, List.drop_zero]
      repeat (first
        | rw [hw1]
        | rw [hw2]
        | rw [hw3]
        | ((with_reducible refine wpQuiet_callE rfl 36 _ _ rfl (.string ⟨(Lib.decDigits (u / 10)).toArray⟩) (#[.int .i64 ((u / 10 : Nat) : Int)]) rfl ?_ ?_ ?_); (exact enters_of Tryd.func36 (by kernel_rfl) rfl); (intro w' h'; with_reducible exact (HI.out w').mono fun _ _ ⟨he, hb⟩ => ⟨he, h'.keep hb⟩))
        | ((with_reducible refine wpQuiet_step (fun K hK => ?_)); go_simp; (first | (refine ⟨_, fun _ _ => rfl, hK _ ?_⟩) | (refine ⟨_, fun _ _ => ⟨rfl, rfl⟩, hK _ ?_⟩) | (refine hK _ ?_)); clear hK K))
      apply wpQuiet_nil
      intro w2 hq2
      go_wp2_with fail
      go_ret
      exact ⟨rfl, hq2.2⟩
theorem num_neg : ∀ (v : Nat), 1 ≤ v → v < 1000000000 → ∀ (w : World), Calls Tryd.prog 36 #[.int .i64 (-(v : Int))] w fun e w' => e = .returned (.string ⟨(45 :: Lib.decDigits v).toArray⟩) ∧ Below w.heap.size w w' := by
  intro v
  induction v using Nat.strongRecOn with
  | _ v ih =>
    intro hv1 hv w
    have hbel := Below.refl w.heap.size w
    have hneg : -(v : Int) < 0 := by omega
    by_cases hs : v < 10
    · have hs' : -(10 : Int) < -(v : Int) := by omega
      have HP : Hid (∀ w, Calls Tryd.prog 36 #[.int .i64 (v : Int)] w fun e w' => e = .returned (.string ⟨(Lib.decDigits v).toArray⟩) ∧ Below w.heap.size w w') := num_pos v hv
      have hadd : ∀ w, (Op.stringOp .add ⟨#[45]⟩ ⟨(Lib.decDigits v).toArray⟩).run Tryd.prog w = .ok (.string ⟨(45 :: Lib.decDigits v).toArray⟩) w := fun w =>
        str_add [45] (Lib.decDigits v) (by show 1 ≤ _; omega) (by have := dec_len v; omega) w
      go_enter Tryd.func36, Tryd.ntmps36
      go_wp2_with first
        | (go_at_call 36; (with_reducible refine (HP.out _).mono ?_); rintro e w1 ⟨rfl, hb1⟩; replace hbel := hbel.trans (hb1.mono hbel.size); clear hb1)
      go_ret
      exact ⟨rfl, hbel⟩
    · have hs' : ¬ -(10 : Int) < -(v : Int) := by omega
      have HD : Hid _ := dec_big hs
      have HI : Hid (∀ w, Calls Tryd.prog 36 #[.int .i64 (-((v : Int) / 10))] w fun e w' => e = .returned (.string ⟨(45 :: Lib.decDigits (v / 10)).toArray⟩) ∧ Below w.heap.size w w') := ih (v / 10) (by omega) (by omega) (by omega)
      have HP : Hid (∀ w, Calls Tryd.prog 36 #[.int .i64 ((v : Int) % 10)] w fun e w' => e = .returned (.string ⟨(Lib.decDigits (v % 10)).toArray⟩) ∧ Below w.heap.size w w') := num_pos (v % 10) (by omega)
      have hadd : ∀ w, (Op.stringOp .add ⟨(45 :: Lib.decDigits (v / 10)).toArray⟩ ⟨(Lib.decDigits (v % 10)).toArray⟩).run Tryd.prog w = .ok (.string ⟨(45 :: Lib.decDigits v).toArray⟩) w := fun w => by
        rw [HD.out, dec_small (Nat.mod_lt _ (by omega))]
        exact str_add (45 :: Lib.decDigits (v / 10)) [dgt (v % 10)] (by have := dec_len (v / 10); simp; omega) (by show 1 ≤ _; omega) w
      clear ih
      have hw1 : (-(v : Int)).tdiv 10 = -((v / 10 : Nat) : Int) := by rw [Int.neg_tdiv]; rfl
      have hw2 : (-(v : Int)).tmod 10 = -((v % 10 : Nat) : Int) := by rw [Int.neg_tmod]; rfl
      go_enter Tryd.func36, Tryd.ntmps36
      go_wp2_with first
        | (go_at_call 36; (with_reducible refine (HI.out _).mono ?_); rintro e w1 ⟨rfl, hb1⟩; replace hbel := hbel.trans (hb1.mono hbel.size); clear hb1)
        | (go_at_call 36; (with_reducible refine (HP.out _).mono ?_); rintro e w1 ⟨rfl, hb1⟩; replace hbel := hbel.trans (hb1.mono hbel.size); clear hb1)
      go_ret
      exact ⟨rfl, hbel⟩
end Go.Proofs.YthljicikedlkbaaDoor
