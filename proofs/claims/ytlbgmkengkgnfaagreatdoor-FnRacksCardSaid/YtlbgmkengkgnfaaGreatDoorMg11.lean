/- A part (number 11) of the proof of the law FnRacks: what each of its sections proves stands in the section's own first remark. No conditions beside those that each theorem states. -/
import Derived.Lib.ItoaNum
import Derived.Laws.DeepStrings4
import Derived.Test.YtlbgmkengkgnfaaGreatDoorMg3
section
/- The reference's text of a number. -/
namespace Go.Proofs.YtlbgmkengkgnfaaGreatDoor
set_option linter.unusedSimpArgs false
set_option linter.unusedVariables false
set_option maxRecDepth 20000
open Go.RowKit
def dgt (m : Nat) : UInt8 := UInt8.ofNat (48 + m)
theorem dig_ext (m : Nat) (hm : m < 10) : (⟨#[48, 49, 50, 51, 52, 53, 54, 55, 56, 57]⟩ : ByteArray).extract m (m + 1) = ⟨#[dgt m]⟩ := by
  have hc : m = 0 ∨ m = 1 ∨ m = 2 ∨ m = 3 ∨ m = 4 ∨ m = 5 ∨ m = 6 ∨ m = 7 ∨ m = 8 ∨ m = 9 := by omega
  rcases hc with rfl | rfl | rfl | rfl | rfl | rfl | rfl | rfl | rfl | rfl <;> rfl
theorem dig_slice (m : Nat) (hm : m < 10) (w : World) : (Instr.sliceAt 9 (.string ⟨#[48, 49, 50, 51, 52, 53, 54, 55, 56, 57]⟩) (some (.int .i64 m)) (some (.int .i64 ((m : Int) + 1))) none).run Tryz.prog w = .ok (.string ⟨#[dgt m]⟩) w := by
  have h := run_slice_string (P := Tryz.prog) w 9 ⟨#[48, 49, 50, 51, 52, 53, 54, 55, 56, 57]⟩ .i64 .i64 (m : Int) ((m : Int) + 1) Tryz.underlying9 (by omega) (by omega) (by show (m : Int) + 1 ≤ 10; omega)
  rw [run_sliceAt_string (h := Tryz.underlying9), h, show ((m : Int) + 1).toNat = m + 1 by omega, Int.toNat_natCast, dig_ext m hm]
theorem dig_sliceI (x : Int) (m : Nat) (hx : x = m) (hm : m < 10) (w : World) : (Instr.sliceAt 9 (.string ⟨#[48, 49, 50, 51, 52, 53, 54, 55, 56, 57]⟩) (some (.int .i64 x)) (some (.int .i64 (x + 1))) none).run Tryz.prog w = .ok (.string ⟨#[dgt m]⟩) w := by rw [hx]; exact dig_slice m hm w
theorem dec_small {u : Nat} (h : u < 10) : Lib.decDigits u = [dgt u] := by rw [Lib.decDigits, dif_pos h]; rfl
theorem dec_big {u : Nat} (h : ¬ u < 10) : Lib.decDigits u = Lib.decDigits (u / 10) ++ [dgt (u % 10)] := by rw [Lib.decDigits, dif_neg h]; rfl
attribute [irreducible] dgt
def strOf (l : List UInt8) : Value := .string ⟨l.toArray⟩
theorem str_app (a b : List UInt8) : (⟨a.toArray⟩ : ByteArray) ++ ⟨b.toArray⟩ = ⟨(a ++ b).toArray⟩ := by
  apply ByteArray.ext
  simp
theorem dec_len (u : Nat) : (Lib.decDigits u).length ≤ u + 1 := by
  induction u using Nat.strongRecOn with
  | _ u ih =>
    by_cases h : u < 10
    · rw [dec_small h]; simp
    · rw [dec_big h]; have := ih (u / 10) (by omega); simp; omega
theorem str_add (x y : List UInt8) (hx : x.length ≤ 8388608000) (hy : y.length ≤ 8388608000) (w : World) : (Op.stringOp .add ⟨x.toArray⟩ ⟨y.toArray⟩).run Tryz.prog w = .ok (.string ⟨(x ++ y).toArray⟩) w := by
  rw [run_string_add_sum w _ _ (by simp [ByteArray.size]; omega), ByteArray.mk_append_mk]
end Go.Proofs.YtlbgmkengkgnfaaGreatDoor
end
