/- The law on splitting and joining: its walk. -/
import Derived.Test.YthljicikedlkbaaDoorDraws
import Derived.Test.YthljicikedlkbaaDoorSJp
import Derived.Test.YthljicikedlkbaaDoorByOf
namespace Go.Proofs.YthljicikedlkbaaDoor
set_option linter.unusedSimpArgs false
set_option linter.unusedVariables false
set_option maxRecDepth 20000
open Go.RowKit
theorem vBig_any (p : Option Addr) (n c : Nat) (w : World) : Calls Tryd.prog 21 #[.slice p n c] w fun e w' => e = .returned (.bool (decide ((65536 : Int) < (n : Int)))) ∧ w = w' := by
  go_enter Tryd.func21, Tryd.ntmps21
  go_wp2
  go_ret
  exact ⟨rfl, rfl⟩
def ltB (a b : ByteArray) : Bool := Op.bytesLess a.toList b.toList
theorem lt_asym (a b : ByteArray) (h : ltB a b = true) : ltB b a = false := by
  unfold ltB at *
  generalize a.toList = l at *
  generalize b.toList = m at *
  induction l generalizing m with
  | nil => cases m <;> simp_all [Op.bytesLess]
  | cons x l ih =>
    cases m with
    | nil => simp [Op.bytesLess] at h
    | cons y m =>
      simp only [Op.bytesLess] at h ⊢
      have hxy : (x < y) ↔ x.toNat < y.toNat := UInt8.lt_iff_toNat_lt
      have hyx : (y < x) ↔ y.toNat < x.toNat := UInt8.lt_iff_toNat_lt
      by_cases e : x = y
      · subst e
        have hn : ¬ x < x := fun hh => by have := hxy.1 hh; omega
        rw [decide_eq_false hn, Bool.false_or, beq_self_eq_true, Bool.true_and] at h ⊢
        exact ih m h
      · have e2 : ¬ y = x := fun hh => e hh.symm
        rw [beq_eq_false_iff_ne.2 e, Bool.false_and, Bool.or_false] at h
        rw [beq_eq_false_iff_ne.2 e2, Bool.false_and, Bool.or_false]
        have h1 := hxy.1 (of_decide_eq_true h)
        exact decide_eq_false fun hh => by have := hyx.1 hh; omega
theorem lessI {a b : ByteArray} {q : Bool} (h : ltB a b = q) (w : World) : Calls Tryd.prog 27 #[.string a, .string b] w fun e w' => e = .returned (.bool q) ∧ w = w' := by
  go_enter Tryd.func27, Tryd.ntmps27
  go_wp2
  go_ret
  exact ⟨by rw [← h]; rfl, rfl⟩
theorem lessR {a b : ByteArray} {q : Bool} (h : ltB a b = q) (w : World) : Calls Tryd.prog 28 #[.string a, .string b] w fun e w' => e = .returned (.bool q) ∧ w = w' := by
  go_enter Tryd.func28, Tryd.ntmps28
  go_wp2
  go_ret
  exact ⟨by rw [← h]; rfl, rfl⟩
theorem tail_seen (s sep : ByteArray) (h : s.size ≤ 10) : (¬ sep.size = 1 → spB s sep = false ∧ spL s sep = []) ∧ (sep.size = 1 → spB s sep = true ∧ jB (spL s sep) sep = true ∧ jS (spL s sep) sep = s.data.toList ∧ (spL s sep).length ≤ 4000000 ∧ ∀ x, x ∈ spL s sep → x.size ≤ 4000000) := by
  refine ⟨fun h1 => sp_no fun e => h1 e.1, fun h1 => ?_⟩
  obtain ⟨e1, e2⟩ := sp_yes (s := s) (sep := sep) ⟨h1, by omega⟩
  rw [e2]
  obtain ⟨e3, e4⟩ := back_ok s sep h1 (by omega)
  exact ⟨e1, e3, e4, by have := parts_len s (sep[0]'(by omega)); omega, part_small s _ (by omega)⟩
set_option maxHeartbeats 2000000 in
theorem FnSplitJoin_any {p : Option Addr} {n c : Nat} (w : World) (hB : n ≤ 65536 → By w w.heap.size p n c) (hM : MaxS w) (hn : n ≤ 9223372036854775807) : Calls Tryd.prog 7 #[.slice p n c] w fun e w' => e = .returned (.bool true) ∧ Below w.heap.size w w' := by
  have hbel := Below.refl w.heap.size w
  by_cases hbig : n ≤ 65536
  · have hbig' : (n : Int) ≤ 65536 := by omega
    have HB : Hid (By w w.heap.size p n c) := hB hbig
    have HM : Hid (MaxS w) := hM
    clear hB hM hbig
    have tok_j : True := trivial
    go_enter Tryd.func7, Tryd.ntmps7
    go_wp2_with first
      | (go_at_call 21; (with_reducible refine (vBig_any _ _ _ _).mono ?_); rintro e w' ⟨rfl, rfl⟩)
      | (go_at_call 22; (with_reducible refine (draw_split _ (By.up (HB.out.below hbel (Nat.le_refl _)) hbel.size)).mono ?_); rintro e w1 ⟨s, sep, rfl, hs, hsep, hb1⟩; have HT : Hid _ := tail_seen s sep hs; replace hbel := hbel.trans (hb1.mono hbel.size); clear hb1)
      | (go_at_call 13; (with_reducible refine (implSplit _ _ _ (HM.out.keep hbel)).mono ?_); rintro e w1 ⟨vL, rfl, hSL, hb1⟩; replace hbel := hbel.trans (hb1.mono hbel.size); clear hb1)
      | (go_at_call 23; (with_reducible refine (draw_join _ (By.up (HB.out.below hbel (Nat.le_refl _)) hbel.size)).mono ?_); rintro e w1 ⟨vK, lK, mark, rfl, hSK, hlK, hzK, hmk, hb1⟩; replace hSL := hSL.keep hb1; replace hbel := hbel.trans (hb1.mono hbel.size); have HZK : Hid (∀ x, x ∈ lK → x.size ≤ 5000) := hzK; clear hb1 hzK)
      | (have _t := tok_j; (go_at_call 24; (with_reducible refine (implJoin lK mark _ _ _ hSK (by omega) (fun x hx => by have := HZK.out x hx; omega) (by omega)).mono ?_); (rintro e w1 ⟨rfl, hb1⟩; replace hSL := hSL.keep hb1; replace hSK := hSK.keep hb1; replace hbel := hbel.trans (hb1.mono hbel.size); clear hb1 _t tok_j)))
      | (go_at_call 25; (with_reducible refine (specJoin lK mark _ _ _ hSK (by omega) (fun x hx => by have := HZK.out x hx; omega) (by omega)).mono ?_); rintro e w1 ⟨rfl, hb1⟩; replace hSL := hSL.keep hb1; replace hbel := hbel.trans (hb1.mono hbel.size); clear hb1)
      | (go_at_call 26; (with_reducible refine (draw_less _ (By.up (HB.out.below hbel (Nat.le_refl _)) hbel.size)).mono ?_); rintro e w1 ⟨x, y, rfl, hb1⟩; replace hSL := hSL.keep hb1; replace hbel := hbel.trans (hb1.mono hbel.size); clear hb1)
    have HA : Hid _ := lt_asym x y
    by_cases h1 : sep.size = 1
    · have h1' : (sep.size : Int) = 1 := by omega
      obtain ⟨e1, e2, e3, e4, e5⟩ := HT.out.2 h1
      have HE2 : Hid _ := e2
      have HE3 : Hid _ := e3
      have HE5 : Hid _ := e5
      have hse : (s.data.toList == s.toList) = true := by rw [ByteArray.toList_eq]; exact beq_self_eq_true _
      clear e2 e3 e5 HT
      cases hxy : ltB x y with
      | true =>
        have HX : Hid _ := hxy
        have HY : Hid _ := HA.out hxy
        clear hxy
        go_wp2_with first
          | (go_at_call 27; (with_reducible refine (lessI HX.out _).mono ?_); rintro e w' ⟨rfl, rfl⟩)
          | (go_at_call 27; (with_reducible refine (lessI HY.out _).mono ?_); rintro e w' ⟨rfl, rfl⟩)
          | (go_at_call 28; (with_reducible refine (lessR HX.out _).mono ?_); rintro e w' ⟨rfl, rfl⟩)
          | (go_at_call 24; (with_reducible refine (implJoin (spL s sep) sep _ _ _ hSL e4 HE5.out (by omega)).mono ?_); (rw [HE2.out, HE3.out]; rintro e w1 ⟨rfl, hb1⟩; replace hbel := hbel.trans (hb1.mono hbel.size); clear hb1))
        go_ret
        exact ⟨rfl, hbel⟩
      | false =>
        have HX : Hid _ := hxy
        clear hxy
        go_wp2_with first
          | (go_at_call 27; (with_reducible refine (lessI HX.out _).mono ?_); rintro e w' ⟨rfl, rfl⟩)
          | (go_at_call 28; (with_reducible refine (lessR HX.out _).mono ?_); rintro e w' ⟨rfl, rfl⟩)
          | (go_at_call 24; (with_reducible refine (implJoin (spL s sep) sep _ _ _ hSL e4 HE5.out (by omega)).mono ?_); (rw [HE2.out, HE3.out]; rintro e w1 ⟨rfl, hb1⟩; replace hbel := hbel.trans (hb1.mono hbel.size); clear hb1))
        go_ret
        exact ⟨rfl, hbel⟩
    · have h1' : ¬ (sep.size : Int) = 1 := by omega
      have hne : ((sep.size : Int) != 1) = true := bne_iff_ne.2 h1'
      obtain ⟨e1, e2⟩ := HT.out.1 h1
      rw [e2] at hSL
      obtain ⟨a1, c1, hv, _⟩ := hSL.shape
      have hv : vL = .slice a1 0 c1 := hv
      subst hv
      clear e2 HT hSL
      cases hxy : ltB x y with
      | true =>
        have HX : Hid _ := hxy
        have HY : Hid _ := HA.out hxy
        clear hxy
        go_wp2_with first
          | (go_at_call 27; (with_reducible refine (lessI HX.out _).mono ?_); rintro e w' ⟨rfl, rfl⟩)
          | (go_at_call 27; (with_reducible refine (lessI HY.out _).mono ?_); rintro e w' ⟨rfl, rfl⟩)
          | (go_at_call 28; (with_reducible refine (lessR HX.out _).mono ?_); rintro e w' ⟨rfl, rfl⟩)
        go_ret
        exact ⟨rfl, hbel⟩
      | false =>
        have HX : Hid _ := hxy
        clear hxy
        go_wp2_with first
          | (go_at_call 27; (with_reducible refine (lessI HX.out _).mono ?_); rintro e w' ⟨rfl, rfl⟩)
          | (go_at_call 28; (with_reducible refine (lessR HX.out _).mono ?_); rintro e w' ⟨rfl, rfl⟩)
        go_ret
        exact ⟨rfl, hbel⟩
  · have hbig' : (65536 : Int) < (n : Int) := by omega
    go_enter Tryd.func7, Tryd.ntmps7
    go_wp2_with first
      | (go_at_call 21; (with_reducible refine (vBig_any _ _ _ _).mono ?_); rintro e w' ⟨rfl, rfl⟩)
    go_ret
    exact ⟨rfl, hbel⟩
open Go.ChangeShapes Go.WideShapes Go.ChangeAt in
theorem FnSplitJoin_walk {H : Type} {enc : TypeId × Value → H} {W : World} {base : Nat} {spare : Nat → Bool} {held : Bool} {v : Value} {d : DataW H} {ps : List MemPlace} (hv : Value.okWide Tryd.prog W .any base 33 v)
    (h : DataW.Trod enc Tryd.prog W 0 spare held 33 v d ps) (w : World) (hw : w = W) (hsh : w.ShapedOpen Tryd.prog) : Calls Tryd.prog 7 #[v] w fun e w' => e = .returned (.bool true) ∧ Below w.heap.size w w' := by
  subst hw
  obtain ⟨p, n, c, rfl, hn, hB⟩ := by_of hv h
  exact FnSplitJoin_any w hB (maxS_of hsh) hn
end Go.Proofs.YthljicikedlkbaaDoor
