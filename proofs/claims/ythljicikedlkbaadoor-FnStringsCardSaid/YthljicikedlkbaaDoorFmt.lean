/- Text of a number: the program's FormatInt and the reference's. -/
import Derived.Lib.AppendIntMem
import Derived.Test.YthljicikedlkbaaDoorNumD
import Derived.Test.YthljicikedlkbaaDoorShelf
namespace Go.Proofs.YthljicikedlkbaaDoor
set_option linter.unusedSimpArgs false
set_option linter.unusedVariables false
set_option maxRecDepth 20000
open Go.RowKit
open Go.Sort (grow)
def powName : String := "internal/strconv.uint64pow10"
/-- The library's table of powers of ten lies as it was laid. -/
def Tab (w : World) : Prop := Lib.TabIs Tryd.prog w powName .u64 Lib.pow10Tab
theorem Tab.keep {w w' : World} (h : Tab w) (hb : Below w.heap.size w w') : Tab w' := Lib.tabBelow_of_tabIs h w' hb
theorem itoa_any (n : Int) (h0 : -9223372036854775808 ≤ n) (h1 : n ≤ 9223372036854775807) (w : World) (ht : Tab w) : Calls Tryd.prog 38 #[.int .i64 n] w fun e w' => e = .returned (.string ⟨(Lib.itoa n).toArray⟩) ∧ Below w.heap.size w w' :=
  (Tryd.strconv_Itoa n h0 h1 w ht).mono fun _ _ ⟨he, k, os, hw⟩ => ⟨he, by rw [hw]; exact Lib.below_grow _ w (Nat.le_refl _) k os⟩
theorem num_any (n : Int) (h0 : -1000000000 < n) (h1 : n < 1000000000) (w : World) : Calls Tryd.prog 36 #[.int .i64 n] w fun e w' => e = .returned (.string ⟨(Lib.itoa n).toArray⟩) ∧ Below w.heap.size w w' := by
  by_cases h : n < 0
  · have e : n = -((n.natAbs : Nat) : Int) := by omega
    have e2 : Lib.itoa n = 45 :: Lib.decDigits n.natAbs := by unfold Lib.itoa; rw [if_pos h]
    have := num_neg n.natAbs (by omega) (by omega) w
    rw [← e] at this
    rw [e2]
    exact this
  · have e : n = ((n.toNat : Nat) : Int) := by omega
    have e2 : Lib.itoa n = Lib.decDigits n.toNat := by unfold Lib.itoa; rw [if_neg h]
    have := num_pos n.toNat (by omega) w
    rw [← e] at this
    rw [e2]
    exact this
theorem inX (x a b : Int) (w : World) : Calls Tryd.prog 35 #[.int .i64 x, .int .i64 a, .int .i64 b] w fun e w' => e = .returned (.bool (decide (a ≤ x ∧ x ≤ b))) ∧ w = w' := by
  by_cases h1 : a ≤ x <;> by_cases h2 : x ≤ b <;> (go_enter Tryd.func35, Tryd.ntmps35; go_wp2; go_ret; simp [h1, h2])
theorem withinX (x a b : Int) (w : World) : Calls Tryd.prog 37 #[.int .i64 x, .int .i64 a, .int .i64 b] w fun e w' => e = .returned (.bool (decide (a ≤ x ∧ x ≤ b))) ∧ w = w' := by
  by_cases h1 : a ≤ x <;> by_cases h2 : x ≤ b <;> (go_enter Tryd.func37, Tryd.ntmps37; go_wp2; go_ret; simp [h1, h2])
def inM (n : Int) : Bool := decide (-999999 ≤ n ∧ n ≤ 999999)
/-- What FormatInt gives. -/
def fmtS (n : Int) : List UInt8 := if inM n then Lib.itoa n else []
theorem inM_bd {n : Int} (h : inM n = true) : -999999 ≤ n ∧ n ≤ 999999 := of_decide_eq_true h
attribute [irreducible] inM
theorem specFmt (n : Int) (w : World) : Calls Tryd.prog 10 #[.int .i64 n] w fun e w' => e = .returned (.tuple #[.string ⟨(fmtS n).toArray⟩, .bool (inM n)]) ∧ Below w.heap.size w w' := by
  have hbel := Below.refl w.heap.size w
  by_cases h : inM n = true
  · have HB : Hid _ := (show decide (-999999 ≤ n ∧ n ≤ 999999) = true by have := h; unfold inM at this; exact this)
    have HV : Hid _ := h
    have HN : Hid _ := num_any n (by have := inM_bd h; omega) (by have := inM_bd h; omega)
    go_enter Tryd.func10, Tryd.ntmps10
    go_wp2_with first
      | (go_at_call 35; (with_reducible refine (inX _ _ _ _).mono ?_); rw [HB.out]; rintro e w' ⟨rfl, rfl⟩)
      | (go_at_call 36; (with_reducible refine (HN.out _).mono ?_); rintro e w1 ⟨rfl, hb1⟩; replace hbel := hbel.trans (hb1.mono hbel.size); clear hb1)
    go_ret2
    exact ⟨by rw [fmtS, if_pos HV.out, HV.out]; rfl, hbel⟩
  · have h' : inM n = false := by simpa using h
    have HB : Hid _ := (show decide (-999999 ≤ n ∧ n ≤ 999999) = false by have := h'; unfold inM at this; exact this)
    have HV : Hid _ := h'
    go_enter Tryd.func10, Tryd.ntmps10
    go_wp2_with first
      | (go_at_call 35; (with_reducible refine (inX _ _ _ _).mono ?_); rw [HB.out]; rintro e w' ⟨rfl, rfl⟩)
    go_ret2
    exact ⟨by rw [fmtS, if_neg (by rw [HV.out]; decide), HV.out]; rfl, hbel⟩
theorem implFmt (n : Int) (w : World) (ht : Tab w) : Calls Tryd.prog 11 #[.int .i64 n] w fun e w' => e = .returned (.tuple #[.string ⟨(fmtS n).toArray⟩, .bool (inM n)]) ∧ Below w.heap.size w w' := by
  have hbel := Below.refl w.heap.size w
  by_cases h : inM n = true
  · have HB : Hid _ := (show decide (-999999 ≤ n ∧ n ≤ 999999) = true by have := h; unfold inM at this; exact this)
    have HV : Hid _ := h
    have HN : Hid _ := itoa_any n (by have := inM_bd h; omega) (by have := inM_bd h; omega)
    have HT : Hid (Tab w) := ht
    go_enter Tryd.func11, Tryd.ntmps11
    go_wp2_with first
      | (go_at_call 37; (with_reducible refine (withinX _ _ _ _).mono ?_); rw [HB.out]; rintro e w' ⟨rfl, rfl⟩)
      | (go_at_call 38; (with_reducible refine (HN.out _ HT.out).mono ?_); rintro e w1 ⟨rfl, hb1⟩; replace hbel := hbel.trans (hb1.mono hbel.size); clear hb1)
    go_ret2
    exact ⟨by rw [fmtS, if_pos HV.out, HV.out]; rfl, hbel⟩
  · have h' : inM n = false := by simpa using h
    have HB : Hid _ := (show decide (-999999 ≤ n ∧ n ≤ 999999) = false by have := h'; unfold inM at this; exact this)
    have HV : Hid _ := h'
    go_enter Tryd.func11, Tryd.ntmps11
    go_wp2_with first
      | (go_at_call 37; (with_reducible refine (withinX _ _ _ _).mono ?_); rw [HB.out]; rintro e w' ⟨rfl, rfl⟩)
    go_ret2
    exact ⟨by rw [fmtS, if_neg (by rw [HV.out]; decide), HV.out]; rfl, hbel⟩
theorem FnExactFormatInt_walk (n : Int) (_hn : I64 n) (w : World) (ht : Tab w) : Calls Tryd.prog 3 #[.int .i64 n] w fun e w' => e = .returned (.bool true) ∧ Below w.heap.size w w' := by
  have hbel := Below.refl w.heap.size w
  go_enter Tryd.func3, Tryd.ntmps3
  go_wp2_with first
    | (go_at_call 10; (with_reducible refine (specFmt _ _).mono ?_); rintro e w1 ⟨rfl, hb1⟩; replace hbel := hbel.trans (hb1.mono hbel.size); clear hb1)
    | (go_at_call 11; (with_reducible refine (implFmt _ _ (ht.keep hbel)).mono ?_); rintro e w1 ⟨rfl, hb1⟩; replace hbel := hbel.trans (hb1.mono hbel.size); clear hb1)
  go_ret
  exact ⟨rfl, hbel⟩
end Go.Proofs.YthljicikedlkbaaDoor
