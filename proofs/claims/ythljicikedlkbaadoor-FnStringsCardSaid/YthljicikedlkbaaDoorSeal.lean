/- A text with its checksum: the program's AppendChecksum and the reference's. -/
import Derived.Lib.IndexAny
import Derived.Lib.IndexBytes
import Derived.Test.YthljicikedlkbaaDoorHas
import Derived.Test.YthljicikedlkbaaDoorFmt
import Derived.Test.YthljicikedlkbaaDoorShelfS
namespace Go.Proofs.YthljicikedlkbaaDoor
set_option linter.unusedSimpArgs false
set_option linter.unusedVariables false
set_option maxRecDepth 20000
open Go.RowKit
/-- The text with its checksum. -/
def sealL (s : ByteArray) : List UInt8 := s.data.toList ++ [35] ++ Lib.itoa (sumOf s.data.toList)
theorem itoa_len (n : Int) (h0 : 0 ≤ n) (h1 : n < 999979) : (Lib.itoa n).length ≤ 1000000 := by
  unfold Lib.itoa
  rw [if_neg (by omega)]
  have := dec_len n.toNat
  omega
theorem seal_add1 (s : ByteArray) (hs : s.size ≤ 8000000) (w : World) : (Op.stringOp .add s ⟨#[35]⟩).run Tryd.prog w = .ok (.string ⟨(s.data.toList ++ [35]).toArray⟩) w := by
  have := str_add s.data.toList [35] (by rw [← size_list]; omega) (by show 1 ≤ _; omega) w
  rw [str_eta] at this
  exact this
theorem seal_add2 (s : ByteArray) (hs : s.size ≤ 8000000) (w : World) : (Op.stringOp .add ⟨(s.data.toList ++ [35]).toArray⟩ ⟨(Lib.itoa (sumOf s.data.toList)).toArray⟩).run Tryd.prog w = .ok (.string ⟨(sealL s).toArray⟩) w :=
  str_add (s.data.toList ++ [35]) (Lib.itoa (sumOf s.data.toList)) (by rw [List.length_append, ← size_list]; show _ + 1 ≤ _; omega) (by have := sumOf_bd s.data.toList; have := itoa_len (sumOf s.data.toList) this.1 this.2; omega) w
theorem seal_len (s : ByteArray) (hs : s.size ≤ 8000000) : (sealL s).length ≤ 10000000 := by
  unfold sealL
  have := sumOf_bd s.data.toList
  have := itoa_len (sumOf s.data.toList) this.1 this.2
  rw [List.length_append, List.length_append, ← size_list]
  show _ + 1 + _ ≤ _
  omega
attribute [irreducible] sealL
theorem specSeal (s : ByteArray) (hs : s.size ≤ 8000000) (w : World) : Calls Tryd.prog 43 #[.string s] w fun e w' => e = .returned (.string ⟨(sealL s).toArray⟩) ∧ Below w.heap.size w w' := by
  have hbel := Below.refl w.heap.size w
  have hsz : s.size ≤ maxLen := by unfold maxLen; omega
  have H1 := seal_add1 s hs
  have H2 := seal_add2 s hs
  have HS : Hid _ := l1Sum_any s hsz
  have HN : Hid _ := num_any (sumOf s.data.toList) (by have := sumOf_bd s.data.toList; omega) (by have := sumOf_bd s.data.toList; omega)
  go_enter Tryd.func43, Tryd.ntmps43
  go_wp2_with first
    | (go_at_call 57; (with_reducible refine (HS.out _).mono ?_); rintro e w1 ⟨rfl, hb1⟩; replace hbel := hbel.trans (hb1.mono hbel.size); clear hb1)
    | (go_at_call 36; (with_reducible refine (HN.out _).mono ?_); rintro e w1 ⟨rfl, hb1⟩; replace hbel := hbel.trans (hb1.mono hbel.size); clear hb1)
  go_ret
  exact ⟨rfl, hbel⟩
/-- What AppendChecksum gives: whether there is a text, and the text. -/
def apB (s : ByteArray) : Bool := !(decide (4000 < s.size) || hasB s.data.toList 35 || decide (4000 < (sealL s).length))
def apS (s : ByteArray) : List UInt8 := if apB s then sealL s else []
theorem ap_long {s : ByteArray} (h : 4000 < s.size) : apB s = false := by unfold apB; rw [decide_eq_true h]; rfl
theorem ap_has {s : ByteArray} (h : hasB s.data.toList 35 = true) : apB s = false := by unfold apB; rw [h, Bool.or_true, Bool.true_or]; rfl
theorem ap_big {s : ByteArray} (h : 4000 < (sealL s).length) : apB s = false := by unfold apB; rw [decide_eq_true h, Bool.or_true]; rfl
theorem ap_good {s : ByteArray} (h1 : ¬ 4000 < s.size) (h2 : hasB s.data.toList 35 = false) (h3 : ¬ 4000 < (sealL s).length) : apB s = true := by unfold apB; rw [h2, decide_eq_false h1, decide_eq_false h3]; rfl
theorem apS_no {s : ByteArray} (h : apB s = false) : apS s = [] := by unfold apS; rw [h]; rfl
theorem apS_yes {s : ByteArray} (h : apB s = true) : apS s = sealL s := by unfold apS; rw [h]; rfl
attribute [irreducible] apB apS
theorem specApp (s : ByteArray) (hs : s.size ≤ 8000000) (w : World) : Calls Tryd.prog 17 #[.string s] w fun e w' => e = .returned (.tuple #[.string ⟨(apS s).toArray⟩, .bool (apB s)]) ∧ Below w.heap.size w w' := by
  have hbel := Below.refl w.heap.size w
  have hsz : s.size ≤ maxLen := by unfold maxLen; omega
  have HH : Hid (∀ w, Calls Tryd.prog 42 #[.string s, .int .u8 35] w fun e w' => e = .returned (.bool (hasB s.data.toList 35)) ∧ Below w.heap.size w w') := fun w => stands_any s hsz 35 w
  have HS : Hid _ := specSeal s hs
  have hln := seal_len s hs
  by_cases h1 : 4000 < s.size
  · have HB : Hid _ := ap_long h1
    have HV : Hid _ := apS_no (ap_long h1)
    have h1' : (4000 : Int) < (s.size : Int) := by omega
    go_enter Tryd.func17, Tryd.ntmps17
    go_wp2_with first
      | (go_at_call 42; (with_reducible refine (HH.out _).mono ?_); rintro e w1 ⟨rfl, hb1⟩; replace hbel := hbel.trans (hb1.mono hbel.size); clear hb1)
      | (go_at_call 43; (with_reducible refine (HS.out _).mono ?_); rintro e w1 ⟨rfl, hb1⟩; replace hbel := hbel.trans (hb1.mono hbel.size); clear hb1)
    go_ret2
    exact ⟨by rw [HB.out, HV.out]; rfl, hbel⟩
  · have h1' : (s.size : Int) ≤ 4000 := by omega
    by_cases h2 : hasB s.data.toList 35 = true
    · have HB : Hid _ := ap_has h2
      have HV : Hid _ := apS_no (ap_has h2)
      have H2 : Hid _ := h2
      clear h2
      go_enter Tryd.func17, Tryd.ntmps17
      go_wp2_with first
        | (go_at_call 42; (with_reducible refine (HH.out _).mono ?_); rw [H2.out]; rintro e w1 ⟨rfl, hb1⟩; replace hbel := hbel.trans (hb1.mono hbel.size); clear hb1)
        | (go_at_call 43; (with_reducible refine (HS.out _).mono ?_); rintro e w1 ⟨rfl, hb1⟩; replace hbel := hbel.trans (hb1.mono hbel.size); clear hb1)
      go_ret2
      exact ⟨by rw [HB.out, HV.out]; rfl, hbel⟩
    · have h2' : hasB s.data.toList 35 = false := by simpa using h2
      have H2 : Hid _ := h2'
      by_cases h3 : 4000 < (sealL s).length
      · have HB : Hid _ := ap_big h3
        have HV : Hid _ := apS_no (ap_big h3)
        have h3' : (4000 : Int) < ((sealL s).length : Int) := by omega
        clear h2 h2' h3
        go_enter Tryd.func17, Tryd.ntmps17
        go_wp2_with first
          | (go_at_call 42; (with_reducible refine (HH.out _).mono ?_); rw [H2.out]; rintro e w1 ⟨rfl, hb1⟩; replace hbel := hbel.trans (hb1.mono hbel.size); clear hb1)
          | (go_at_call 43; (with_reducible refine (HS.out _).mono ?_); rintro e w1 ⟨rfl, hb1⟩; replace hbel := hbel.trans (hb1.mono hbel.size); clear hb1)
        go_ret2
        exact ⟨by rw [HB.out, HV.out]; rfl, hbel⟩
      · have HB : Hid _ := ap_good h1 h2' h3
        have HV : Hid _ := apS_yes (ap_good h1 h2' h3)
        have h3' : ((sealL s).length : Int) ≤ 4000 := by omega
        clear h2 h2' h3
        go_enter Tryd.func17, Tryd.ntmps17
        go_wp2_with first
          | (go_at_call 42; (with_reducible refine (HH.out _).mono ?_); rw [H2.out]; rintro e w1 ⟨rfl, hb1⟩; replace hbel := hbel.trans (hb1.mono hbel.size); clear hb1)
          | (go_at_call 43; (with_reducible refine (HS.out _).mono ?_); rintro e w1 ⟨rfl, hb1⟩; replace hbel := hbel.trans (hb1.mono hbel.size); clear hb1)
        go_ret2
        exact ⟨by rw [HB.out, HV.out]; rfl, hbel⟩
theorem contains_any (s : ByteArray) (w : World) : Calls Tryd.prog 44 #[.string s, .string ⟨#[35]⟩] w fun e w' => e = .returned (.bool (hasB s.data.toList 35)) ∧ Below w.heap.size w w' :=
  (Tryd.strings_Contains_one s 35 w).mono fun _ _ ⟨he, hw⟩ => ⟨by rw [he, has_ix], by rw [hw]; exact Below.refl _ _⟩
theorem implApp (s : ByteArray) (hs : s.size ≤ 8000000) (w : World) (ht : Tab w) : Calls Tryd.prog 18 #[.string s] w fun e w' => e = .returned (.tuple #[.string ⟨(apS s).toArray⟩, .bool (apB s)]) ∧ Below w.heap.size w w' := by
  have hbel := Below.refl w.heap.size w
  have hsz : s.size ≤ maxLen := by unfold maxLen; omega
  have HH : Hid _ := contains_any s
  have HC : Hid _ := checksum_any s hsz
  have HI : Hid _ := itoa_any (sumOf s.data.toList) (by have := sumOf_bd s.data.toList; omega) (by have := sumOf_bd s.data.toList; omega)
  have hln := seal_len s hs
  have H1 := seal_add1 s hs
  have H2 := seal_add2 s hs
  have HT : Hid (Tab w) := ht
  clear ht
  by_cases h1 : 4000 < s.size
  · have HB : Hid _ := ap_long h1
    have HV : Hid _ := apS_no (ap_long h1)
    have h1' : (4000 : Int) < (s.size : Int) := by omega
    go_enter Tryd.func18, Tryd.ntmps18
    go_wp2_with first
      | (go_at_call 44; (with_reducible refine (HH.out _).mono ?_); rintro e w1 ⟨rfl, hb1⟩; replace hbel := hbel.trans (hb1.mono hbel.size); clear hb1)
    go_ret2
    exact ⟨by rw [HB.out, HV.out]; rfl, hbel⟩
  · have h1' : (s.size : Int) ≤ 4000 := by omega
    by_cases h2 : hasB s.data.toList 35 = true
    · have HB : Hid _ := ap_has h2
      have HV : Hid _ := apS_no (ap_has h2)
      have HX : Hid _ := h2
      clear h2
      go_enter Tryd.func18, Tryd.ntmps18
      go_wp2_with first
        | (go_at_call 44; (with_reducible refine (HH.out _).mono ?_); rw [HX.out]; rintro e w1 ⟨rfl, hb1⟩; replace hbel := hbel.trans (hb1.mono hbel.size); clear hb1)
      go_ret2
      exact ⟨by rw [HB.out, HV.out]; rfl, hbel⟩
    · have h2' : hasB s.data.toList 35 = false := by simpa using h2
      have HX : Hid _ := h2'
      by_cases h3 : 4000 < (sealL s).length
      · have HB : Hid _ := ap_big h3
        have HV : Hid _ := apS_no (ap_big h3)
        have h3' : (4000 : Int) < ((sealL s).length : Int) := by omega
        clear h2 h2' h3
        go_enter Tryd.func18, Tryd.ntmps18
        go_wp2_with first
          | (go_at_call 44; (with_reducible refine (HH.out _).mono ?_); rw [HX.out]; rintro e w1 ⟨rfl, hb1⟩; replace hbel := hbel.trans (hb1.mono hbel.size); clear hb1)
          | (go_at_call 45; (with_reducible refine (HC.out _).mono ?_); rintro e w1 ⟨rfl, hb1⟩; replace hbel := hbel.trans (hb1.mono hbel.size); clear hb1)
          | (go_at_call 38; (with_reducible refine (HI.out _ (HT.out.keep hbel)).mono ?_); rintro e w1 ⟨rfl, hb1⟩; replace hbel := hbel.trans (hb1.mono hbel.size); clear hb1)
        go_ret2
        exact ⟨by rw [HB.out, HV.out]; rfl, hbel⟩
      · have HB : Hid _ := ap_good h1 h2' h3
        have HV : Hid _ := apS_yes (ap_good h1 h2' h3)
        have h3' : ((sealL s).length : Int) ≤ 4000 := by omega
        clear h2 h2' h3
        go_enter Tryd.func18, Tryd.ntmps18
        go_wp2_with first
          | (go_at_call 44; (with_reducible refine (HH.out _).mono ?_); rw [HX.out]; rintro e w1 ⟨rfl, hb1⟩; replace hbel := hbel.trans (hb1.mono hbel.size); clear hb1)
          | (go_at_call 45; (with_reducible refine (HC.out _).mono ?_); rintro e w1 ⟨rfl, hb1⟩; replace hbel := hbel.trans (hb1.mono hbel.size); clear hb1)
          | (go_at_call 38; (with_reducible refine (HI.out _ (HT.out.keep hbel)).mono ?_); rintro e w1 ⟨rfl, hb1⟩; replace hbel := hbel.trans (hb1.mono hbel.size); clear hb1)
        go_ret2
        exact ⟨by rw [HB.out, HV.out]; rfl, hbel⟩
theorem FnExactAppendChecksum_walk (s : ByteArray) (_hs : s.size ≤ maxLen) (w : World) (ht : Tab w) : Calls Tryd.prog 5 #[.string s] w fun e w' => e = .returned (.bool true) ∧ Below w.heap.size w w' := by
  have hbel := Below.refl w.heap.size w
  by_cases hb : s.size ≤ 1048576
  · have hb' : (s.size : Int) ≤ 1048576 := by omega
    have HS : Hid _ := specApp s (by omega)
    have HI : Hid _ := implApp s (by omega)
    have HT : Hid (Tab w) := ht
    clear ht
    go_enter Tryd.func5, Tryd.ntmps5
    go_wp2_with first
      | (go_at_call 17; (with_reducible refine (HS.out _).mono ?_); rintro e w1 ⟨rfl, hb1⟩; replace hbel := hbel.trans (hb1.mono hbel.size); clear hb1)
      | (go_at_call 18; (with_reducible refine (HI.out _ (HT.out.keep hbel)).mono ?_); rintro e w1 ⟨rfl, hb1⟩; replace hbel := hbel.trans (hb1.mono hbel.size); clear hb1)
    go_ret
    exact ⟨rfl, hbel⟩
  · have hb' : (1048576 : Int) < (s.size : Int) := by omega
    go_enter Tryd.func5, Tryd.ntmps5
    go_wp2
    go_ret
    exact ⟨rfl, hbel⟩
end Go.Proofs.YthljicikedlkbaaDoor
