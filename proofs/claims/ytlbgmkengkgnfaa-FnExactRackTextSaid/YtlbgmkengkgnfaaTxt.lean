/- The text of a rack: plain law. -/
import Derived.Test.YtlbgmkengkgnfaaJoin
import Derived.Test.YtlbgmkengkgnfaaRackD
namespace Go.Proofs.Ytlbgmkengkgnfaa
set_option linter.unusedSimpArgs false
set_option linter.unusedVariables false
set_option maxRecDepth 20000
open Go.RowKit
/-- The sign of a color. -/
def sgn (c : Int) : UInt8 := if c = 0 then 46 else UInt8.ofNat (96 + c.toNat)
theorem sgn_slice (c : Int) (h0 : 0 ≤ c) (h1 : c ≤ 5) (w : World) : (Instr.sliceAt 9 (.string ⟨#[46, 97, 98, 99, 100, 101]⟩) (some (.int .i64 c)) (some (.int .i64 (c + 1))) none).run Try.prog w = .ok (.string ⟨#[sgn c]⟩) w := by
  have h := run_slice_string (P := Try.prog) w 9 ⟨#[46, 97, 98, 99, 100, 101]⟩ .i64 .i64 c (c + 1) Try.underlying9 h0 (by omega) (by show c + 1 ≤ 6; omega)
  rw [run_sliceAt_string (h := Try.underlying9), h]
  have hc : c = 0 ∨ c = 1 ∨ c = 2 ∨ c = 3 ∨ c = 4 ∨ c = 5 := by omega
  rcases hc with rfl | rfl | rfl | rfl | rfl | rfl <;> rfl
/-- The signs of a tube's first k layers. -/
def tp (f : Nat → Int) (i : Nat) : Nat → List UInt8
  | 0 => []
  | k + 1 => tp f i k ++ [sgn (f (i * 4 + k))]
/-- The texts of the first i tubes. -/
def tps (f : Nat → Int) (i : Nat) : List ByteArray := (List.range i).map fun j => ⟨(tp f j 4).toArray⟩
/-- The text of the first i tubes. -/
def tx (f : Nat → Int) : Nat → List UInt8
  | 0 => []
  | i + 1 => tx f i ++ (if i = 0 then [] else [47]) ++ tp f i 4
theorem tps_len (f : Nat → Int) (i : Nat) : (tps f i).length = i := by simp [tps]
theorem tps_succ (f : Nat → Int) (i : Nat) : tps f (i + 1) = tps f i ++ [⟨(tp f i 4).toArray⟩] := by unfold tps; rw [List.range_succ, List.map_append]; rfl
theorem tps_jn (f : Nat → Int) : ∀ i, jn (tps f i) 47 = tx f i
  | 0 => jn_zero [] 47
  | i + 1 => by
    have h : (tps f (i + 1))[i]? = some ⟨(tp f i 4).toArray⟩ := by
      rw [tps_succ, List.getElem?_append_right (by rw [tps_len]; exact Nat.le_refl _), tps_len, Nat.sub_self]; rfl
    have := jn_step (tps f (i + 1)) 47 i _ h
    rw [List.take_of_length_le (by rw [tps_len]; exact Nat.le_refl _)] at this
    rw [this, tx]
    have ht : (tps f (i + 1)).take i = tps f i := by rw [tps_succ, List.take_left' (tps_len f i)]
    rw [ht, tps_jn f i]
    by_cases e : i = 0
    · subst e; rfl
    · rw [if_neg e, if_neg e]
theorem tp_len (f : Nat → Int) (i : Nat) : ∀ k, (tp f i k).length = k
  | 0 => rfl
  | k + 1 => by rw [tp, List.length_append, tp_len f i k]; rfl
theorem tx_len (f : Nat → Int) : ∀ i, (tx f i).length ≤ 5 * i
  | 0 => Nat.le_refl _
  | i + 1 => by
    rw [tx, List.length_append, List.length_append, tp_len]
    have := tx_len f i
    split <;> simp <;> omega
theorem tx_succ (f : Nat → Int) (i : Nat) : tx f (i + 1) = tx f i ++ (if i = 0 then [] else [47]) ++ tp f i 4 := rfl
theorem tx_zero (f : Nat → Int) : tx f 0 = [] := rfl
attribute [irreducible] tx
end Go.Proofs.Ytlbgmkengkgnfaa
