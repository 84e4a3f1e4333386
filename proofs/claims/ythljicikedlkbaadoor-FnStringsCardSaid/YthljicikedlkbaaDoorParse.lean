/- Reading a number: the program's, and the law. -/
import Derived.Lib.AtoiErrMem
import Derived.Test.YthljicikedlkbaaDoorRead
import Derived.Test.YthljicikedlkbaaDoorShelfA
namespace Go.Proofs.YthljicikedlkbaaDoor
set_option linter.unusedSimpArgs false
set_option linter.unusedVariables false
set_option maxRecDepth 20000
open Go.RowKit
/-- strconv's two errors lie as they were laid. -/
def Errs (w : World) : Prop := (∃ te pe, w.cell? ⟨1, 0, none⟩ = some (.iface te pe)) ∧ (∃ te pe, w.cell? ⟨2, 0, none⟩ = some (.iface te pe))
theorem cell_in2 {w : World} {a : Addr} {v : Value} (h : w.cell? a = some v) : a.block < w.heap.size := by
  by_cases hb : a.block < w.heap.size
  · exact hb
  · simp [World.cell?, Array.getElem?_eq_none (Nat.le_of_not_lt hb)] at h
theorem Errs.keep {w w' : World} (h : Errs w) (hb : Below w.heap.size w w') : Errs w' := by
  obtain ⟨⟨a, b, h1⟩, c, d, h2⟩ := h
  exact ⟨⟨a, b, (hb.cell (cell_in2 h1)).trans h1⟩, c, d, (hb.cell (cell_in2 h2)).trans h2⟩
theorem atoi_ok (s : ByteArray) (hs : s.size ≤ 4000000) (v : Int) (h : Lib.atoiAll s.data.toList = .ok v) (w : World) : Calls Tryd.prog 53 #[.string s] w fun e w' => e = .returned (.tuple #[.int .i64 v, .nilIface]) ∧ Below w.heap.size w w' :=
  (Tryd.strconv_Atoi_ok s (by omega) v h w).mono fun _ _ ⟨he, hw⟩ => ⟨he, by
    rcases hw with rfl | ⟨t, rfl⟩
    · exact Below.refl _ _
    · exact Lib.bytesWorld_below _ _ _⟩
theorem atoi_bad (s : ByteArray) (hs : s.size ≤ 4000000) (h : ∀ v, Lib.atoiAll s.data.toList ≠ .ok v) (w : World) (hE : Errs w) :
    Calls Tryd.prog 53 #[.string s] w fun e w' => ∃ v t p, e = .returned (.tuple #[.int .i64 v, .iface t p]) ∧ Below w.heap.size w w' := by
  obtain ⟨⟨a, b, h1⟩, c, d, h2⟩ := hE
  cases hq : Lib.atoiAll s.data.toList with
  | ok v => exact absurd hq (h v)
  | range => exact (Tryd.strconv_Atoi_range s (by omega) hq _ w h2 (.inr ⟨_, _, rfl⟩)).mono fun _ _ ⟨N, he, _, _, hb⟩ => ⟨_, _, _, he, hb⟩
  | _ => exact (Tryd.strconv_Atoi_syntax s (by omega) hq _ w h1 (.inr ⟨_, _, rfl⟩)).mono fun _ _ ⟨N, he, _, _, hb⟩ => ⟨_, _, _, he, hb⟩
theorem atoi_of {s : ByteArray} {n : Int} (hn : -999999 ≤ n ∧ n ≤ 999999) (e : s = itoaS n) : Lib.atoiAll s.data.toList = .ok n := by
  rw [e, itoaS_list]; exact atoi_itoa hn.1 hn.2
theorem implParse (s : ByteArray) (hs : s.size ≤ 4000000) (w : World) (ht : Tab w) (hE : Errs w) : Calls Tryd.prog 30 #[.string s] w (RetRead s w) := by
  have hbel := Below.refl w.heap.size w
  have HT : Hid (Tab w) := ht
  have HE : Hid (Errs w) := hE
  clear ht hE
  by_cases hok : ∃ v, Lib.atoiAll s.data.toList = .ok v
  · obtain ⟨v, hv⟩ := hok
    have HA : Hid _ := atoi_ok s hs v hv
    have hbd := atoi_bd hv
    have HI : Hid _ := itoa_any v hbd.1 hbd.2
    clear hbd
    by_cases hq : s = itoaS v
    · have hq' : (Lib.itoa v == s.toList) = true := by rw [str_beq]; exact decide_eq_true hq
      by_cases hr : -999999 ≤ v ∧ v ≤ 999999
      · have HB : Hid _ := (show decide (-999999 ≤ v ∧ v ≤ 999999) = true from decide_eq_true hr)
        have HR : Hid (Reads s v true) := .inl ⟨rfl, hr, hq⟩
        clear hq hr hv
        go_enter Tryd.func30, Tryd.ntmps30
        go_wp2_with first
          | (go_at_call 53; (with_reducible refine (HA.out _).mono ?_); rintro e w1 ⟨rfl, hb1⟩; replace hbel := hbel.trans (hb1.mono hbel.size); clear hb1)
          | (go_at_call 38; (with_reducible refine (HI.out _ (HT.out.keep hbel)).mono ?_); rintro e w1 ⟨rfl, hb1⟩; replace hbel := hbel.trans (hb1.mono hbel.size); clear hb1)
          | (go_at_call 37; (with_reducible refine (withinX _ _ _ _).mono ?_); rw [HB.out]; rintro e w' ⟨rfl, rfl⟩)
        go_ret2
        exact ⟨_, _, rfl, HR.out, hbel⟩
      · have HB : Hid _ := (show decide (-999999 ≤ v ∧ v ≤ 999999) = false from decide_eq_false hr)
        have HR : Hid (Reads s 0 false) := reads_no fun n hn e => by
          have := (atoi_of hn e).symm.trans hv
          injection this with this
          subst this
          exact hr hn
        clear hq hr hv
        go_enter Tryd.func30, Tryd.ntmps30
        go_wp2_with first
          | (go_at_call 53; (with_reducible refine (HA.out _).mono ?_); rintro e w1 ⟨rfl, hb1⟩; replace hbel := hbel.trans (hb1.mono hbel.size); clear hb1)
          | (go_at_call 38; (with_reducible refine (HI.out _ (HT.out.keep hbel)).mono ?_); rintro e w1 ⟨rfl, hb1⟩; replace hbel := hbel.trans (hb1.mono hbel.size); clear hb1)
          | (go_at_call 37; (with_reducible refine (withinX _ _ _ _).mono ?_); rw [HB.out]; rintro e w' ⟨rfl, rfl⟩)
        go_ret2
        exact ⟨_, _, rfl, HR.out, hbel⟩
    · have hq' : (Lib.itoa v == s.toList) = false := by rw [str_beq]; exact decide_eq_false hq
      have HR : Hid (Reads s 0 false) := reads_no fun n hn e => by
        have := (atoi_of hn e).symm.trans hv
        injection this with this
        subst this
        exact hq e
      clear hq hv
      go_enter Tryd.func30, Tryd.ntmps30
      go_wp2_with first
        | (go_at_call 53; (with_reducible refine (HA.out _).mono ?_); rintro e w1 ⟨rfl, hb1⟩; replace hbel := hbel.trans (hb1.mono hbel.size); clear hb1)
        | (go_at_call 38; (with_reducible refine (HI.out _ (HT.out.keep hbel)).mono ?_); rintro e w1 ⟨rfl, hb1⟩; replace hbel := hbel.trans (hb1.mono hbel.size); clear hb1)
      go_ret2
      exact ⟨_, _, rfl, HR.out, hbel⟩
  · have HA : Hid _ := atoi_bad s hs fun v hv => hok ⟨v, hv⟩
    have HR : Hid (Reads s 0 false) := reads_no fun n hn e => hok ⟨n, atoi_of hn e⟩
    clear hok
    go_enter Tryd.func30, Tryd.ntmps30
    go_wp2_with first
      | (go_at_call 53; (with_reducible refine (HA.out _ HE.out).mono ?_); rintro e w1 ⟨v, t, p, rfl, hb1⟩; replace hbel := hbel.trans (hb1.mono hbel.size); clear hb1)
    go_ret2
    exact ⟨_, _, rfl, HR.out, hbel⟩
theorem specParse (s : ByteArray) (hs : s.size ≤ 4000000) (w : World) : Calls Tryd.prog 29 #[.string s] w (RetRead s w) := by
  have HS : Hid _ := read_any s hs
  have hbel := Below.refl w.heap.size w
  go_enter Tryd.func29, Tryd.ntmps29
  go_wp2_with first
    | (go_at_call 52; (with_reducible refine (HS.out _).mono ?_); rintro e w1 ⟨v, b, rfl, hR, hb1⟩; have HR : Hid (Reads s v b) := hR; clear hR; replace hbel := hbel.trans (hb1.mono hbel.size); clear hb1)
  go_ret2
  exact ⟨_, _, rfl, HR.out, hbel⟩
theorem FnExactParseInt_walk (s : ByteArray) (_hs : s.size ≤ maxLen) (w : World) (ht : Tab w) (hE : Errs w) : Calls Tryd.prog 8 #[.string s] w fun e w' => e = .returned (.bool true) ∧ Below w.heap.size w w' := by
  have hbel := Below.refl w.heap.size w
  by_cases hb : s.size ≤ 1048576
  · have hb' : (s.size : Int) ≤ 1048576 := by omega
    have HS : Hid _ := specParse s (by omega)
    have HI : Hid _ := implParse s (by omega)
    have HT : Hid (Tab w) := ht
    have HE : Hid (Errs w) := hE
    clear ht hE
    go_enter Tryd.func8, Tryd.ntmps8
    go_wp2_with first
      | (go_at_call 29; (with_reducible refine (HS.out _).mono ?_); rintro e w1 ⟨v, b, rfl, hR, hb1⟩; have HR : Hid (Reads s v b) := hR; clear hR; replace hbel := hbel.trans (hb1.mono hbel.size); clear hb1)
      | (go_at_call 30; (with_reducible refine (HI.out _ (HT.out.keep hbel) (HE.out.keep hbel)).mono ?_); rintro e w2 ⟨v2, b2, rfl, hR2, hb2⟩; obtain ⟨e1, e2⟩ := Reads.same HR.out hR2; subst e1 e2; clear hR2; replace hbel := hbel.trans (hb2.mono hbel.size); clear hb2)
    go_ret
    exact ⟨rfl, hbel⟩
  · have hb' : (1048576 : Int) < (s.size : Int) := by omega
    go_enter Tryd.func8, Tryd.ntmps8
    go_wp2
    go_ret
    exact ⟨rfl, hbel⟩
end Go.Proofs.YthljicikedlkbaaDoor
