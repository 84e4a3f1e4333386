/- The walks of the laws on constants, on strings' order and on the checksum. -/
import Derived.Test.YtlbgmkengkgnfaaDoorArr
namespace Go.Proofs.YtlbgmkengkgnfaaDoor
set_option linter.unusedSimpArgs false
set_option linter.unusedVariables false
set_option maxRecDepth 20000
open Go.RowKit
def sumStep (h : Int) (c : UInt8) : Int := (41 * h + c.toNat + 1) % 999979
def sumOf (l : List UInt8) : Int := l.foldl sumStep 7
theorem sumFold_bd (l : List UInt8) : ∀ h : Int, 0 ≤ h ∧ h < 999979 → 0 ≤ l.foldl sumStep h ∧ l.foldl sumStep h < 999979 := by
  induction l with
  | nil => intro h hh; simpa using hh
  | cons c l ih => intro h hh; exact ih _ (by unfold sumStep; omega)
theorem sumOf_bd (l : List UInt8) : 0 ≤ sumOf l ∧ sumOf l < 999979 := sumFold_bd l 7 (by omega)
theorem take_snoc (s : ByteArray) (k : Nat) (h : k < s.size) : s.data.toList.take (k + 1) = s.data.toList.take k ++ [s[k]] := by
  rw [List.take_succ_eq_append_getElem (by simpa using h)]; rfl
theorem sumOf_snoc (s : ByteArray) (k : Nat) (h : k < s.size) : sumOf (s.data.toList.take (k + 1)) = (41 * sumOf (s.data.toList.take k) + s[k].toNat + 1) % 999979 := by
  rw [take_snoc s k h]; simp [sumOf, sumStep]
theorem byte_le (b : UInt8) : (b.toNat : Int) ≤ 255 := by have := b.toNat_lt; omega
theorem bytes_conv {P : Program} (w : World) (src dst e : TypeId) (s : ByteArray) (hs : P.underlying src = some .string) (hd : P.underlying dst = some (.slice e)) (he : P.underlying e = some (.int .u8)) :
    ∃ (C : Array Value) (cap : Nat), (convert src dst (.string s)).run P w = .ok (.slice (some ⟨w.heap.size, 0, none⟩) s.size cap) (w.drew.alloc (.cells C e (C.size, C.size + 1))) ∧
      (∀ (j : Nat) (h : j < s.size), C[j]? = some (.int .u8 (s[j].toNat : Int))) :=
  ⟨_, _, run_bytes_of_string w src dst e s hs hd he, fun j h => bytesRow_at s _ j h⟩
end Go.Proofs.YtlbgmkengkgnfaaDoor
