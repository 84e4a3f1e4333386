/- Whether a byte stands in a text: the reference's. -/
import Derived.Lib.IndexAny
import Derived.Test.YthljicikedlkbaaDoorStrs
namespace Go.Proofs.YthljicikedlkbaaDoor
set_option linter.unusedSimpArgs false
set_option linter.unusedVariables false
set_option maxRecDepth 20000
open Go.RowKit
theorem size_list (s : ByteArray) : s.size = s.data.toList.length := by rw [Array.length_toList]; rfl
theorem str_eta (s : ByteArray) : (⟨s.data.toList.toArray⟩ : ByteArray) = s := by obtain ⟨⟨l⟩⟩ := s; rfl
/-- The byte stands in the text. -/
def hasB (l : List UInt8) (b : UInt8) : Bool := l.contains b
theorem has_nil (b : UInt8) : hasB [] b = false := rfl
theorem has_snoc (s : ByteArray) (k : Nat) (h : k < s.size) (b : UInt8) (hb : ¬ s[k] = b) (hn : hasB (s.data.toList.take k) b = false) : hasB (s.data.toList.take (k + 1)) b = false := by
  unfold hasB at *
  rw [take_snoc s k h, List.contains_append, hn]
  simpa [eq_comm] using hb
theorem has_at (s : ByteArray) (k : Nat) (h : k < s.size) (b : UInt8) (e : s[k] = b) : hasB s.data.toList b = true := by
  unfold hasB
  rw [List.contains_iff_mem, ← e]
  simp [ByteArray.getElem_eq_getElem_data]
attribute [irreducible] hasB
theorem byte_int {a b : UInt8} (h : (a.toNat : Int) = (b.toNat : Int)) : a = b := UInt8.toNat_inj.1 (by omega)
theorem stands_any (s : ByteArray) (hs : s.size ≤ maxLen) (b : UInt8) (w : World) : Calls Tryd.prog 42 #[.string s, .int .u8 (b.toNat : Int)] w fun e w' => e = .returned (.bool (hasB s.data.toList b)) ∧ Below w.heap.size w w' := by
  unfold maxLen at hs
  have hbel := Below.refl w.heap.size w
  go_enter Tryd.func42, Tryd.ntmps42
  go_wp2
  go_loop [5] (fun i => ∃ k : Nat, k ≤ s.size ∧ i = .int .i64 k ∧ hasB (s.data.toList.take k) b = false) (fun i => s.size - (intOf i).toNat)
  case atStart => exact ⟨0, Nat.zero_le _, rfl, by rw [List.take_zero]; exact has_nil b⟩
  case round =>
    obtain ⟨k, hk, rfl, hno⟩ := hrel
    by_cases hlt : k < s.size
    · by_cases hb : s[k] = b
      · have HC : Hid _ := has_at s k hlt b hb
        have hb' : (s[k].toNat : Int) = (b.toNat : Int) := by rw [hb]
        go_wp2
        go_ret
        exact ⟨by rw [HC.out]; rfl, hbel⟩
      · have HS : Hid _ := has_snoc s k hlt b hb hno
        have hb' : ¬ (s[k].toNat : Int) = (b.toNat : Int) := fun e => hb (byte_int e)
        clear hno
        go_wp2
        go_round
        case rel => exact ⟨k + 1, by omega, by go_num, HS.out⟩
        case measure => simp [intOf]; omega
    · have HC : Hid _ := (show hasB s.data.toList b = false by rw [List.take_of_length_le (by simp; omega)] at hno; exact hno)
      go_wp2
      go_ret
      exact ⟨by rw [HC.out]; rfl, hbel⟩
theorem has_ix (l : List UInt8) (c : UInt8) : decide (0 ≤ Lib.indexByte l c) = hasB l c := by unfold hasB; exact (Lib.contains_iff_indexByte l c).symm
end Go.Proofs.YthljicikedlkbaaDoor
