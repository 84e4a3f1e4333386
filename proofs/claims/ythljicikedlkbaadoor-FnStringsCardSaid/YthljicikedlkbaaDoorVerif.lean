/- A text without its checksum: the program's VerifyChecksum and the reference's. -/
import Derived.Lib.IndexLaws
import Derived.Lib.CutLaws
import Derived.Shelf.Vars
import Derived.Test.YthljicikedlkbaaDoorTx
import Derived.Test.YthljicikedlkbaaDoorSeal
namespace Go.Proofs.YthljicikedlkbaaDoor
set_option linter.unusedSimpArgs false
set_option linter.unusedVariables false
set_option maxRecDepth 20000
open Go.RowKit
theorem splitTo_zero (s : ByteArray) (b : UInt8) : splitTo s b 0 = ([], 0) := by unfold splitTo; rfl
theorem get_at (s : ByteArray) (k : Nat) (h : k < s.size) (b : UInt8) : s.data.toList[k]? = some b ↔ s[k] = b := by
  rw [at_get s k h]; simp
theorem splitTo_none (s : ByteArray) (b : UInt8) : ∀ k, k ≤ s.size → (∀ j, j < k → s.data.toList[j]? ≠ some b) → splitTo s b k = ([], 0)
  | 0, _, _ => splitTo_zero s b
  | k + 1, hk, h => by
    rw [splitTo_miss s b k (by omega) (fun e => h k (by omega) ((get_at s k (by omega) b).2 e))]
    exact splitTo_none s b k (by omega) fun j hj => h j (by omega)
theorem splitTo_head (s : ByteArray) (b : UInt8) (x : ByteArray) (k : Nat) : ∀ n, k + n ≤ s.size → (splitTo s b k).1[0]? = some x → (splitTo s b (k + n)).1[0]? = some x
  | 0, _, h => h
  | n + 1, hk, h => by
    have ih := splitTo_head s b x k n (by omega) h
    by_cases e : s[k + n] = b
    · rw [show k + (n + 1) = k + n + 1 by omega, splitTo_hit s b (k + n) (by omega) e]
      simp only
      rw [List.getElem?_append_left]
      · exact ih
      · exact (List.getElem?_eq_some_iff.1 ih).1
    · rw [show k + (n + 1) = k + n + 1 by omega, splitTo_miss s b (k + n) (by omega) e]
      exact ih
/-- The text ahead of the first byte b. -/
def cutH (s : ByteArray) (b : UInt8) : ByteArray := ⟨(Lib.cut s.data.toList [b]).1.toArray⟩
theorem take_extract (s : ByteArray) (i : Nat) : (⟨(s.data.toList.take i).toArray⟩ : ByteArray) = s.extract 0 i := by
  have h := Lib.extract_from_zero s i
  rw [← h]
theorem parts_head (s : ByteArray) (b : UInt8) : (partsB s b)[0]? = some (cutH s b) := by
  unfold partsB cutH Lib.cut
  rw [Lib.index_one]
  have hge := Lib.indexByte_ge s.data.toList b
  by_cases h : Lib.indexByte s.data.toList b = -1
  · have hn := Lib.indexByte_none h
    rw [splitTo_none s b s.size (Nat.le_refl _) fun j _ => hn j, if_neg (by omega)]
    simp only [List.nil_append, List.getElem?_cons_zero, Option.some.injEq]
    rw [str_eta, ← take_extract, List.take_of_length_le (by rw [← size_list]; exact Nat.le_refl _), str_eta]
  · obtain ⟨i, hi⟩ : ∃ i : Nat, Lib.indexByte s.data.toList b = i := ⟨(Lib.indexByte s.data.toList b).toNat, by omega⟩
    obtain ⟨h1, h2⟩ := Lib.indexByte_some hi
    have hlt : i < s.size := by rw [size_list]; exact (List.getElem?_eq_some_iff.1 h1).1
    have e0 := splitTo_none s b i (by omega) h2
    have e1 := splitTo_hit s b i hlt ((get_at s i hlt b).1 h1)
    rw [e0] at e1
    have e2 := splitTo_head s b (s.extract 0 i) (i + 1) (s.size - (i + 1)) (by omega) (by rw [e1]; rfl)
    rw [show i + 1 + (s.size - (i + 1)) = s.size by omega] at e2
    rw [if_pos (by omega), hi, Int.toNat_natCast]
    simp only
    rw [take_extract, List.getElem?_append_left (List.getElem?_eq_some_iff.1 e2).1, e2]
theorem cutH_size (s : ByteArray) (b : UInt8) : (cutH s b).size ≤ s.size := by
  unfold cutH Lib.cut
  show (Array.size _) ≤ _
  rw [size_list s]
  split
  · simp; omega
  · simp
theorem cutH_has (s : ByteArray) (b : UInt8) : hasB (cutH s b).data.toList b = false := by
  unfold cutH Lib.cut
  rw [Lib.index_one]
  have hge := Lib.indexByte_ge s.data.toList b
  by_cases h : Lib.indexByte s.data.toList b = -1
  · rw [if_neg (by omega), ← has_ix]
    simp [h]
  · obtain ⟨i, hi⟩ : ∃ i : Nat, Lib.indexByte s.data.toList b = i := ⟨(Lib.indexByte s.data.toList b).toNat, by omega⟩
    obtain ⟨h1, h2⟩ := Lib.indexByte_some hi
    rw [if_pos (by omega), hi, Int.toNat_natCast]
    unfold hasB
    simp only [List.toList_toArray]
    rw [Bool.eq_false_iff]
    intro hc
    rw [List.contains_iff_mem] at hc
    obtain ⟨j, hj⟩ := List.getElem?_of_mem hc
    rw [List.getElem?_take] at hj
    split at hj
    · exact h2 j (by assumption) hj
    · cases hj
attribute [irreducible] cutH
/-- What VerifyChecksum gives. -/
def vfB (s : ByteArray) : Bool := decide (s.size ≤ 4000) && decide ((⟨(sealL (cutH s 35)).toArray⟩ : ByteArray) = s)
def vfS (s : ByteArray) : ByteArray := if vfB s then cutH s 35 else ⟨#[]⟩
theorem vfS_no {s : ByteArray} (h : vfB s = false) : vfS s = ⟨#[]⟩ := by unfold vfS; rw [h]; rfl
theorem vfS_yes {s : ByteArray} (h : vfB s = true) : vfS s = cutH s 35 := by unfold vfS; rw [h]; rfl
theorem vf_long {s : ByteArray} (h : 4000 < s.size) : vfB s = false := by unfold vfB; rw [decide_eq_false (by omega)]; rfl
theorem vf_ne {s : ByteArray} (h : ¬ (⟨(sealL (cutH s 35)).toArray⟩ : ByteArray) = s) : vfB s = false := by unfold vfB; rw [decide_eq_false h, Bool.and_false]
theorem vf_ok {s : ByteArray} (h0 : s.size ≤ 4000) (h : (⟨(sealL (cutH s 35)).toArray⟩ : ByteArray) = s) : vfB s = true := by unfold vfB; rw [decide_eq_true h, decide_eq_true h0]; rfl
theorem ap_cut_ok {s : ByteArray} (h0 : s.size ≤ 4000) (h : (⟨(sealL (cutH s 35)).toArray⟩ : ByteArray) = s) : apB (cutH s 35) = true :=
  ap_good (by have := cutH_size s 35; omega) (cutH_has s 35) (by have e := congrArg ByteArray.size h; have e2 : (sealL (cutH s 35)).length = s.size := e; omega)
theorem ap_cut_len {s : ByteArray} (h0 : ¬ s.size ≤ 4000) (h : apB (cutH s 35) = true) : ¬ (⟨(sealL (cutH s 35)).toArray⟩ : ByteArray) = s := fun h2 => by
  have e := congrArg ByteArray.size h2
  have e2 : (sealL (cutH s 35)).length = s.size := e
  rw [ap_big (by omega)] at h
  cases h
attribute [irreducible] vfB vfS
theorem cut_any (s : ByteArray) (hs : s.size ≤ 4000000) (m : Int) (w : World) (hm : w.cell? ⟨0, 0, none⟩ = some (.int .i64 m)) :
    Calls Tryd.prog 46 #[.string s, .string ⟨#[35]⟩] w fun e w' => ∃ x y, e = .returned (.tuple #[.string (cutH s 35), .string x, .bool y]) ∧ Below w.heap.size w w' :=
  (Tryd.strings_Cut s ⟨#[35]⟩ m w (by omega) hm).mono fun _ _ ⟨he, n, hw⟩ => ⟨_, _, by unfold cutH; exact he, by rw [hw]; exact ⟨rfl, rfl, rfl, Nat.le_refl _, fun _ _ => rfl⟩⟩
theorem seal_ne {l : List UInt8} {s : ByteArray} (h : ¬ (⟨l.toArray⟩ : ByteArray) = s) : (l == s.toList) = false := by
  rw [beq_eq_false_iff_ne, ByteArray.toList_eq]
  intro e
  exact h (by rw [e])
theorem specVer (s : ByteArray) (hs : s.size ≤ 4000000) (w : World) : Calls Tryd.prog 19 #[.string s] w fun e w' => e = .returned (.tuple #[.string (vfS s), .bool (vfB s)]) ∧ Below w.heap.size w w' := by
  have hbel := Below.refl w.heap.size w
  by_cases h1 : 4000 < s.size
  · have HB : Hid _ := vf_long h1
    have HV : Hid _ := vfS_no (vf_long h1)
    have h1' : (4000 : Int) < (s.size : Int) := by omega
    go_enter Tryd.func19, Tryd.ntmps19
    go_wp2
    go_ret2
    exact ⟨by rw [HB.out, HV.out]; rfl, hbel⟩
  · have h1' : (s.size : Int) ≤ 4000 := by omega
    have HP : Hid (∀ w, Calls Tryd.prog 39 #[.string s, .int .u8 35] w fun e w' => ∃ v, e = .returned v ∧ Tx w' w.heap.size v (partsB s 35) ∧ Below w.heap.size w w') := fun w => split_any s hs 35 w
    have HS : Hid _ := specSeal (cutH s 35) (by have := cutH_size s 35; omega)
    have HH : Hid _ := parts_head s 35
    by_cases hE : (⟨(sealL (cutH s 35)).toArray⟩ : ByteArray) = s
    · have HB : Hid _ := vf_ok (by omega) hE
      have HV : Hid _ := vfS_yes (vf_ok (by omega) hE)
      go_enter Tryd.func19, Tryd.ntmps19
      go_wp2_with first
        | (go_at_call 39; (with_reducible refine (HP.out _).mono ?_); rintro e w1 ⟨v, rfl, hT, hb1⟩; replace hbel := hbel.trans (hb1.mono hbel.size); obtain ⟨g, cap, hv, hc0, hlen, hcap⟩ := Tx.first hT HH.out; subst hv; clear hb1 hT)
        | (go_at_call 43; (with_reducible refine (HS.out _).mono ?_); rintro e w1 ⟨rfl, hb1⟩; replace hbel := hbel.trans (hb1.mono hbel.size); clear hb1)
      go_ret2
      exact ⟨by rw [HB.out, HV.out]; rfl, hbel⟩
    · have hN := seal_ne hE
      have HB : Hid _ := vf_ne hE
      have HV : Hid _ := vfS_no (vf_ne hE)
      go_enter Tryd.func19, Tryd.ntmps19
      go_wp2_with first
        | (go_at_call 39; (with_reducible refine (HP.out _).mono ?_); rintro e w1 ⟨v, rfl, hT, hb1⟩; replace hbel := hbel.trans (hb1.mono hbel.size); obtain ⟨g, cap, hv, hc0, hlen, hcap⟩ := Tx.first hT HH.out; subst hv; clear hb1 hT)
        | (go_at_call 43; (with_reducible refine (HS.out _).mono ?_); rintro e w1 ⟨rfl, hb1⟩; replace hbel := hbel.trans (hb1.mono hbel.size); clear hb1)
      all_goals go_ret2
      all_goals exact ⟨by rw [HB.out, HV.out]; rfl, hbel⟩
theorem cell_in {w : World} {a : Addr} {v : Value} (h : w.cell? a = some v) : a.block < w.heap.size := by
  by_cases hb : a.block < w.heap.size
  · exact hb
  · simp [World.cell?, Array.getElem?_eq_none (Nat.le_of_not_lt hb)] at h
def MaxC (w : World) : Prop := ∃ m, w.cell? ⟨0, 0, none⟩ = some (.int .i64 m)
theorem MaxC.keep {w w' : World} (h : MaxC w) (hb : Below w.heap.size w w') : MaxC w' := by
  obtain ⟨m, hm⟩ := h
  exact ⟨m, (hb.cell (cell_in hm)).trans hm⟩
theorem implVer (s : ByteArray) (hs : s.size ≤ 4000000) (w : World) (ht : Tab w) (hx : MaxC w) : Calls Tryd.prog 20 #[.string s] w fun e w' => e = .returned (.tuple #[.string (vfS s), .bool (vfB s)]) ∧ Below w.heap.size w w' := by
  have hbel := Below.refl w.heap.size w
  obtain ⟨m, hm⟩ := hx
  have HC : Hid _ := cut_any s hs m
  have HM : Hid (w.cell? ⟨0, 0, none⟩ = some (.int .i64 m)) := hm
  have HI : Hid _ := implApp (cutH s 35) (by have := cutH_size s 35; omega)
  have HT : Hid (Tab w) := ht
  clear ht hm
  by_cases hE : (⟨(sealL (cutH s 35)).toArray⟩ : ByteArray) = s
  · by_cases h0 : s.size ≤ 4000
    · have hok := ap_cut_ok h0 hE
      have HA : Hid (apB (cutH s 35) = true) := hok
      have HP : Hid (apS (cutH s 35) = sealL (cutH s 35)) := apS_yes hok
      have HB : Hid _ := vf_ok h0 hE
      have HV : Hid _ := vfS_yes (vf_ok h0 hE)
      clear hok
      go_enter Tryd.func20, Tryd.ntmps20
      go_wp2_with first
        | (go_at_call 46; (with_reducible refine (HC.out _ HM.out).mono ?_); rintro e w1 ⟨x, y, rfl, hb1⟩; replace hbel := hbel.trans (hb1.mono hbel.size); clear hb1)
        | (go_at_call 18; (with_reducible refine (HI.out _ (HT.out.keep hbel)).mono ?_); rw [HA.out, HP.out]; rintro e w1 ⟨rfl, hb1⟩; replace hbel := hbel.trans (hb1.mono hbel.size); clear hb1)
      go_ret2
      exact ⟨by rw [HB.out, HV.out]; rfl, hbel⟩
    · have hno : apB (cutH s 35) = false := by
        cases h : apB (cutH s 35) with
        | false => rfl
        | true => exact absurd hE (ap_cut_len h0 h)
      have HA : Hid (apB (cutH s 35) = false) := hno
      have HB : Hid _ := vf_long (s := s) (by omega)
      have HV : Hid _ := vfS_no (vf_long (s := s) (by omega))
      clear hno hE
      go_enter Tryd.func20, Tryd.ntmps20
      go_wp2_with first
        | (go_at_call 46; (with_reducible refine (HC.out _ HM.out).mono ?_); rintro e w1 ⟨x, y, rfl, hb1⟩; replace hbel := hbel.trans (hb1.mono hbel.size); clear hb1)
        | (go_at_call 18; (with_reducible refine (HI.out _ (HT.out.keep hbel)).mono ?_); rw [HA.out]; rintro e w1 ⟨rfl, hb1⟩; replace hbel := hbel.trans (hb1.mono hbel.size); clear hb1)
      go_ret2
      exact ⟨by rw [HB.out, HV.out]; rfl, hbel⟩
  · have hN := seal_ne hE
    have HB : Hid _ := vf_ne hE
    have HV : Hid _ := vfS_no (vf_ne hE)
    cases hok : apB (cutH s 35) with
    | true =>
      have HA : Hid (apB (cutH s 35) = true) := hok
      have HP : Hid (apS (cutH s 35) = sealL (cutH s 35)) := apS_yes hok
      clear hok
      go_enter Tryd.func20, Tryd.ntmps20
      go_wp2_with first
        | (go_at_call 46; (with_reducible refine (HC.out _ HM.out).mono ?_); rintro e w1 ⟨x, y, rfl, hb1⟩; replace hbel := hbel.trans (hb1.mono hbel.size); clear hb1)
        | (go_at_call 18; (with_reducible refine (HI.out _ (HT.out.keep hbel)).mono ?_); rw [HA.out, HP.out]; rintro e w1 ⟨rfl, hb1⟩; replace hbel := hbel.trans (hb1.mono hbel.size); clear hb1)
      go_ret2
      exact ⟨by rw [HB.out, HV.out]; rfl, hbel⟩
    | false =>
      have HA : Hid (apB (cutH s 35) = false) := hok
      clear hok
      go_enter Tryd.func20, Tryd.ntmps20
      go_wp2_with first
        | (go_at_call 46; (with_reducible refine (HC.out _ HM.out).mono ?_); rintro e w1 ⟨x, y, rfl, hb1⟩; replace hbel := hbel.trans (hb1.mono hbel.size); clear hb1)
        | (go_at_call 18; (with_reducible refine (HI.out _ (HT.out.keep hbel)).mono ?_); rw [HA.out]; rintro e w1 ⟨rfl, hb1⟩; replace hbel := hbel.trans (hb1.mono hbel.size); clear hb1)
      go_ret2
      exact ⟨by rw [HB.out, HV.out]; rfl, hbel⟩
theorem max_of {w : World} (h : w.ShapedOpen Tryd.prog) : MaxC w :=
  cell_of_shapedOpen_int (g := 0) (t := 3) (zero := #[.int .i64 0]) h (of_decide_eq_true (by kernel_rfl)) (by kernel_rfl) rfl (by kernel_rfl) (by kernel_rfl) Tryd.underlying3
theorem FnExactVerifyChecksum_walk (s : ByteArray) (_hs : s.size ≤ maxLen) (w : World) (ht : Tab w) (hsh : w.ShapedOpen Tryd.prog) : Calls Tryd.prog 6 #[.string s] w fun e w' => e = .returned (.bool true) ∧ Below w.heap.size w w' := by
  have hbel := Below.refl w.heap.size w
  by_cases hb : s.size ≤ 1048576
  · have hb' : (s.size : Int) ≤ 1048576 := by omega
    have HS : Hid _ := specVer s (by omega)
    have HI : Hid _ := implVer s (by omega)
    have HT : Hid (Tab w) := ht
    have HM : Hid (MaxC w) := max_of hsh
    clear ht hsh
    go_enter Tryd.func6, Tryd.ntmps6
    go_wp2_with first
      | (go_at_call 19; (with_reducible refine (HS.out _).mono ?_); rintro e w1 ⟨rfl, hb1⟩; replace hbel := hbel.trans (hb1.mono hbel.size); clear hb1)
      | (go_at_call 20; (with_reducible refine (HI.out _ (HT.out.keep hbel) (HM.out.keep hbel)).mono ?_); rintro e w1 ⟨rfl, hb1⟩; replace hbel := hbel.trans (hb1.mono hbel.size); clear hb1)
    go_ret
    exact ⟨rfl, hbel⟩
  · have hb' : (1048576 : Int) < (s.size : Int) := by omega
    go_enter Tryd.func6, Tryd.ntmps6
    go_wp2
    go_ret
    exact ⟨rfl, hbel⟩
end Go.Proofs.YthljicikedlkbaaDoor
