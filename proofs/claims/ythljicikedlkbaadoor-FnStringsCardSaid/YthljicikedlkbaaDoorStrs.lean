/- The walks of the laws on constants, on strings' order and on the checksum. -/
import Derived.Test.YthljicikedlkbaaDoorArr
namespace Go.Proofs.YthljicikedlkbaaDoor
set_option linter.unusedSimpArgs false
set_option linter.unusedVariables false
set_option maxRecDepth 20000
open Go.RowKit
def sumStep (h : Int) (c : UInt8) : Int := (41 * h + c.toNat + 1) % 999979
def sumOf (l : List UInt8) : Int := l.foldl sumStep 7
theorem sumFold_bd (l : List UInt8) : ∀ h : Int, 0 ≤ h ∧ h < 999979 → 0 ≤ l.foldl sumStep h ∧ l.foldl sumStep h < 999979 := by
  induction l with
  | nil => intro h hh; simpa using hh
  | cons c l ih => intro h hh; exact ih _ (by unfold sumStep; omega)
theorem sumOf_bd (l : List UInt8) : 0 ≤ sumOf l ∧ sumOf l < 999979 := sumFold_bd l 7 (by omega)
theorem take_snoc (s : ByteArray) (k : Nat) (h : k < s.size) : s.data.toList.take (k + 1) = s.data.toList.take k ++ [s[k]] := by
  rw [List.take_succ_eq_append_getElem (by simpa using h)]; rfl
theorem sumOf_snoc (s : ByteArray) (k : Nat) (h : k < s.size) : sumOf (s.data.toList.take (k + 1)) = (41 * sumOf (s.data.toList.take k) + s[k].toNat + 1) % 999979 := by
  rw [take_snoc s k h]; simp [sumOf, sumStep]
theorem byte_le (b : UInt8) : (b.toNat : Int) ≤ 255 := by have := b.toNat_lt; omega
theorem bytes_conv {P : Program} (w : World) (src dst e : TypeId) (s : ByteArray) (hs : P.underlying src = some .string) (hd : P.underlying dst = some (.slice e)) (he : P.underlying e = some (.int .u8)) :
    ∃ (C : Array Value) (cap : Nat), (convert src dst (.string s)).run P w = .ok (.slice (some ⟨w.heap.size, 0, none⟩) s.size cap) (w.drew.alloc (.cells C e (C.size, C.size + 1))) ∧
      (∀ (j : Nat) (h : j < s.size), C[j]? = some (.int .u8 (s[j].toNat : Int))) :=
  ⟨_, _, run_bytes_of_string w src dst e s hs hd he, fun j h => bytesRow_at s _ j h⟩
theorem l1Sum_any (s : ByteArray) (hs : s.size ≤ maxLen) (w : World) : Calls Tryd.prog 57 #[.string s] w fun e w' => e = .returned (.int .i64 (sumOf s.data.toList)) ∧ Below w.heap.size w w' := by
  unfold maxLen at hs
  go_enter Tryd.func57, Tryd.ntmps57
  go_wp2
  go_loop [3, 4] (fun n i => ∃ k : Nat, k ≤ s.size ∧ i = .int .i64 k ∧ n = .int .i64 (sumOf (s.data.toList.take k))) (fun _ i => s.size - (intOf i).toNat)
  case atStart => exact ⟨0, Nat.zero_le _, rfl, rfl⟩
  case round =>
    obtain ⟨k, hk, rfl, rfl⟩ := hrel
    have hd := sumOf_bd (s.data.toList.take k)
    by_cases hlt : k < s.size
    · have hb := byte_le s[k]
      have HS : Hid _ := sumOf_snoc s k hlt
      go_wp2
      go_round
      case rel => exact ⟨k + 1, by omega, by go_num, by rw [HS.out]⟩
      case measure => simp [intOf]; omega
    · go_wp2
      go_ret
      exact ⟨ret_int (by rw [List.take_of_length_le (by simp; omega)]), Below.refl _ _⟩
theorem checksum_any (s : ByteArray) (hs : s.size ≤ maxLen) (w : World) : Calls Tryd.prog 45 #[.string s] w fun e w' => e = .returned (.int .i64 (sumOf s.data.toList)) ∧ Below w.heap.size w w' := by
  unfold maxLen at hs
  obtain ⟨C, cap, hconv, hC⟩ := bytes_conv (P := Tryd.prog) w 9 33 5 s Tryd.underlying9 Tryd.underlying33 Tryd.underlying5
  go_enter Tryd.func45, Tryd.ntmps45
  go_wp2
  go_loop [3, 9] (fun n i => ∃ k : Nat, k ≤ s.size ∧ i = .int .i64 k ∧ n = .int .i64 (sumOf (s.data.toList.take k))) (fun _ i => s.size - (intOf i).toNat)
  case atStart => exact ⟨0, Nat.zero_le _, rfl, rfl⟩
  case round =>
    obtain ⟨k, hk, rfl, rfl⟩ := hrel
    have hd := sumOf_bd (s.data.toList.take k)
    by_cases hlt : k < s.size
    · have hb := byte_le s[k]
      have HS : Hid _ := sumOf_snoc s k hlt
      have hc := (World.cell?_alloc_mark w C 5 (C.size, C.size + 1) k).trans (hC k hlt)
      go_wp2
      go_round
      case rel => exact ⟨k + 1, by omega, by go_num, by rw [HS.out]⟩
      case measure => simp [intOf]; omega
    · go_wp2
      go_ret
      exact ⟨ret_int (by rw [List.take_of_length_le (by simp; omega)]), ((Below.refl _ _).drew).alloc (Nat.le_refl _) _⟩
end Go.Proofs.YthljicikedlkbaaDoor
