/- A part (number 15) of the proof of the law FnRacks: what each of its sections proves stands in the section's own first remark. No conditions beside those that each theorem states. -/
import Derived.Lib.IndexAny
import Derived.Test.YtlbgmkengkgnfaaGreatDoorMg1
section
/- Whether a byte stands in a text: the reference's. -/
namespace Go.Proofs.YtlbgmkengkgnfaaGreatDoor
set_option linter.unusedSimpArgs false
set_option linter.unusedVariables false
set_option maxRecDepth 20000
open Go.RowKit
theorem size_list (s : ByteArray) : s.size = s.data.toList.length := by rw [Array.length_toList]; rfl
theorem str_eta (s : ByteArray) : (⟨s.data.toList.toArray⟩ : ByteArray) = s := by obtain ⟨⟨l⟩⟩ := s; rfl
/-- The byte stands in the text. -/
def hasB (l : List UInt8) (b : UInt8) : Bool := l.contains b
theorem has_nil (b : UInt8) : hasB [] b = false := rfl
theorem has_snoc (s : ByteArray) (k : Nat) (h : k < s.size) (b : UInt8) (hb : ¬ s[k] = b) (hn : hasB (s.data.toList.take k) b = false) : hasB (s.data.toList.take (k + 1)) b = false := by
  unfold hasB at *
  rw [take_snoc s k h, List.contains_append, hn]
  simpa [eq_comm] using hb
theorem has_at (s : ByteArray) (k : Nat) (h : k < s.size) (b : UInt8) (e : s[k] = b) : hasB s.data.toList b = true := by
  unfold hasB
  rw [List.contains_iff_mem, ← e]
  simp [ByteArray.getElem_eq_getElem_data]
attribute [irreducible] hasB
theorem byte_int {a b : UInt8} (h : (a.toNat : Int) = (b.toNat : Int)) : a = b := UInt8.toNat_inj.1 (by omega)
theorem has_ix (l : List UInt8) (c : UInt8) : decide (0 ≤ Lib.indexByte l c) = hasB l c := by unfold hasB; exact (Lib.contains_iff_indexByte l c).symm
end Go.Proofs.YtlbgmkengkgnfaaGreatDoor
end
