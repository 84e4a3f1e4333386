/- The law on strings: its walk. -/
import Derived.Deep.QuietTactic
import Derived.Test.YthljicikedlkbaaDoorDrawS
import Derived.Test.YthljicikedlkbaaDoorOneCh
import Derived.Test.YthljicikedlkbaaDoorErrs
import Derived.Test.YthljicikedlkbaaDoorByOf
import Derived.Test.YthljicikedlkbaaDoorStLaw
namespace Go.Proofs.YthljicikedlkbaaDoor
set_option linter.unusedSimpArgs false
set_option linter.unusedVariables false
set_option maxRecDepth 20000
open Go.RowKit
theorem vBig_is (p : Option Addr) (n c : Nat) (w : World) : Calls Tryd.prog 21 #[.slice p n c] w fun e w' => e = .returned (.bool (decide ((65536 : Int) < (n : Int)))) ∧ w = w' := by
  go_enter Tryd.func21, Tryd.ntmps21
  go_wp2
  go_ret
  exact ⟨rfl, rfl⟩
theorem vAt_fix {p : Option Addr} {n c : Nat} (i : Nat) (hi : i ≤ 100) (w : World) (hB : By w w.heap.size p n c) : ∃ x : Int, 0 ≤ x ∧ x ≤ 255 ∧ ∀ w', Below w.heap.size w w' → Calls Tryd.prog 34 #[.slice p n c, .int .i64 (i : Int)] w' fun e w2 => e = .returned (.int .i64 x) ∧ Below w'.heap.size w' w2 := by
  obtain ⟨h1, h2, h3⟩ := hB
  by_cases h : i < n
  · have h' : (i : Int) < (n : Int) := by omega
    obtain ⟨a, x, rfl, ha, hc, hx0, hx1⟩ := h3 i h
    refine ⟨x, hx0, hx1, fun w' hb => ?_⟩
    have hc2 := (hb.cell (p := a.add i) (by rw [add_blk]; exact ha)).trans hc
    have hbel := Below.refl w'.heap.size w'
    clear h3 hc hb
    go_enter Tryd.func34, Tryd.ntmps34
    go_wp2
    go_ret
    exact ⟨rfl, hbel⟩
  · have h' : ¬ (i : Int) < (n : Int) := by omega
    refine ⟨((i : Int) * 7 + (n : Int)) % 256, by omega, by omega, fun w' hb => ?_⟩
    have hbel := Below.refl w'.heap.size w'
    clear h3 hb
    go_enter Tryd.func34, Tryd.ntmps34
    go_wp2
    go_ret
    exact ⟨rfl, hbel⟩
theorem xor_u8 (a d : Nat) (ha : a < 256) (hd : d < 256) : bits .xor .u8 (a : Int) (d : Int) = ((a ^^^ d : Nat) : Int) := by
  have hx : a ^^^ d < 256 := Nat.xor_lt_two_pow (n := 8) ha hd
  have h1 : a % 2 ^ IntKind.u8.bits = a := Nat.mod_eq_of_lt ha
  have h2 : d % 2 ^ IntKind.u8.bits = d := Nat.mod_eq_of_lt hd
  simp only [bits, BitVec.ofInt_natCast, BitVec.toNat_xor, BitVec.toNat_ofNat, h1, h2]
  have h3 : IntKind.u8.wrap (((a ^^^ d : Nat)) : Int) = (((a ^^^ d : Nat)) : Int) % 256 := by unfold IntKind.wrap; rfl
  rw [h3]
  omega
theorem xor_ne (a d : Nat) (hd : 0 < d) : a ^^^ d ≠ a := fun e => by
  have h : a ^^^ (a ^^^ d) = d := by rw [← Nat.xor_assoc, Nat.xor_self, Nat.zero_xor]
  rw [e, Nat.xor_self] at h
  omega
/-- The bytes of a text, in a row of their own. -/
structure Row8 (w : World) (g : Nat) (l : List UInt8) : Prop where
  lt : g < w.heap.size
  fz : ∀ j, j < l.length → w.frozen? ⟨g, j, none⟩ = false
  at' : ∀ (j : Nat) (h : j < l.length), w.cell? ⟨g, j, none⟩ = some (.int .u8 (l[j].toNat : Int))
theorem Row8.keep {w w' : World} {g : Nat} {l : List UInt8} (h : Row8 w g l) (hb : Below w.heap.size w w') : Row8 w' g l :=
  ⟨Nat.lt_of_lt_of_le h.lt hb.size, fun j hj => (hb.frozen (p := ⟨g, j, none⟩) h.lt).trans (h.fz j hj), fun j hj => (hb.cell (p := ⟨g, j, none⟩) h.lt).trans (h.at' j hj)⟩
theorem row8_of (w : World) (l : List UInt8) : ∃ (C : Array Value) (cap : Nat), (convert 9 33 (.string ⟨l.toArray⟩)).run Tryd.prog w = .ok (.slice (some ⟨w.heap.size, 0, none⟩) l.length cap) (w.drew.alloc (.cells C 5 (C.size, C.size + 1))) ∧
    Row8 (w.drew.alloc (.cells C 5 (C.size, C.size + 1))) w.heap.size l := by
  obtain ⟨C, cap, h1, h2⟩ := bytes_conv (P := Tryd.prog) w 9 33 5 ⟨l.toArray⟩ Tryd.underlying9 Tryd.underlying33 Tryd.underlying5
  have hz : (⟨l.toArray⟩ : ByteArray).size = l.length := List.size_toArray
  have hh : (w.drew.alloc (.cells C 5 (C.size, C.size + 1))).heap[w.heap.size]? = some (.cells C 5 (C.size, C.size + 1)) := heap_alloc_new w.drew _
  have h3 : ∀ (j : Nat) (h : j < l.length), C[j]? = some (.int .u8 (l[j].toNat : Int)) := fun j h => h2 j (by rw [hz]; exact h)
  refine ⟨C, cap, by rw [h1, hz], ⟨?_, fun j hj => ?_, fun j hj => ?_⟩⟩
  · show w.heap.size < (w.drew.alloc _).heap.size
    simp
  · have := (Array.getElem?_eq_some_iff.1 (h3 j hj)).1
    unfold World.frozen?
    simp only
    rw [hh]
    simp
    omega
  · simp only [World.cell?, hh, Option.bind_some]
    rw [h3 j hj]
    simp
theorem row8_text {w : World} {g cap : Nat} {l : List UInt8} (h : Row8 w g l) : (convert 33 9 (.slice (some ⟨g, 0, none⟩) l.length cap)).run Tryd.prog w = .ok (.string ⟨l.toArray⟩) w :=
  run_convert_bytes_back (P := Tryd.prog) w 33 9 5 ⟨g, 0, none⟩ cap l Tryd.underlying33 Tryd.underlying5 Tryd.underlying9 (fun j hj => by rw [add_off, Nat.zero_add]; exact h.at' j hj)
theorem of8 {r : Nat} (h : r < 256) : (UInt8.ofNat r).toNat = r := by simp; omega
theorem row8_set {w : World} {g k r : Nat} {l : List UInt8} (h : Row8 w g l) (hk : k < l.length) (hr : r < 256) : Row8 (w.setCell ⟨g, k, none⟩ (.int .u8 (r : Int))) g (l.set k (UInt8.ofNat r)) := by
  refine ⟨?_, fun j hj => ?_, fun j hj => ?_⟩
  · simp only [World.setCell, Array.size_modify]; exact h.lt
  · rw [List.length_set] at hj
    rw [World.frozen?_setCell]; exact h.fz j hj
  · rw [List.length_set] at hj
    rw [List.getElem_set]
    by_cases e : k = j
    · subst e
      rw [if_pos rfl]
      rw [of8 hr]
      exact World.cell?_setCell_same _ _ _ (h.at' k hk)
    · rw [if_neg e, World.cell?_setCell_other _ _ _ _ (fun e2 => e (by injection e2))]
      exact h.at' j hj
/-- What FormatInt gives is read again. -/
theorem fmt_back (n : Int) {v : Int} {b : Bool} (h : inM n = true) (hR : Reads ⟨(fmtS n).toArray⟩ v b) : v = n ∧ b = true := by
  have h2 : Reads ⟨(fmtS n).toArray⟩ n true := .inl ⟨rfl, inM_bd h, by unfold fmtS; rw [h]; rfl⟩
  exact hR.same h2
set_option maxHeartbeats 4000000 in
theorem FnStrings_any {p : Option Addr} {n c : Nat} (w : World) (hB : n ≤ 65536 → By w w.heap.size p n c) (hM : MaxC w) (hT : Tab w) (hE : Errs w) (hn : n ≤ 9223372036854775807) : Calls Tryd.prog 9 #[.slice p n c] w fun e w' => e = .returned (.bool true) ∧ Below w.heap.size w w' := by
  have hbel := Below.refl w.heap.size w
  by_cases hbig : n ≤ 65536
  · have hbig' : (n : Int) ≤ 65536 := by omega
    have HB : Hid (By w w.heap.size p n c) := hB hbig
    have HM : Hid (MaxC w) := hM
    have HT : Hid (Tab w) := hT
    have HE : Hid (Errs w) := hE
    obtain ⟨x9, a0, a1, hv9⟩ := vAt_fix 9 (by omega) w HB.out
    obtain ⟨x10, c0, c1, hv10⟩ := vAt_fix 10 (by omega) w HB.out
    have HV9 : Hid (∀ w', Below w.heap.size w w' → Calls Tryd.prog 34 #[.slice p n c, .int .i64 9] w' fun e w2 => e = .returned (.int .i64 x9) ∧ Below w'.heap.size w' w2) := hv9
    have HV10 : Hid (∀ w', Below w.heap.size w w' → Calls Tryd.prog 34 #[.slice p n c, .int .i64 10] w' fun e w2 => e = .returned (.int .i64 x10) ∧ Below w'.heap.size w' w2) := hv10
    clear hB hM hbig hT hE hv9 hv10
    go_enter Tryd.func9, Tryd.ntmps9
    go_wp2_with first
      | (go_at_call 21; (with_reducible refine (vBig_is _ _ _ _).mono ?_); rintro e w' ⟨rfl, rfl⟩)
      | (go_at_call 31; (with_reducible refine (draw_fmt _ (By.up (HB.out.below hbel (Nat.le_refl _)) hbel.size)).mono ?_); rintro e w1 ⟨m, rfl, hb1⟩; replace hbel := hbel.trans (hb1.mono hbel.size); clear hb1)
      | (go_at_call 11; (with_reducible refine (implFmt _ _ (HT.out.keep hbel)).mono ?_); rintro e w1 ⟨rfl, hb1⟩; replace hbel := hbel.trans (hb1.mono hbel.size); clear hb1)
      | (go_at_call 10; (with_reducible refine (specFmt _ _).mono ?_); rintro e w1 ⟨rfl, hb1⟩; replace hbel := hbel.trans (hb1.mono hbel.size); clear hb1)
      | (go_at_call 32; (with_reducible refine (draw_parse _ (By.up (HB.out.below hbel (Nat.le_refl _)) hbel.size)).mono ?_); rintro e w1 ⟨t, rfl, ht, hb1⟩; replace hbel := hbel.trans (hb1.mono hbel.size); clear hb1)
      | (go_at_call 29; (with_reducible refine (specParse t (by omega) _).mono ?_); rintro e w1 ⟨v, b, rfl, hR2, hb1⟩; obtain ⟨e1, e2⟩ := Reads.same HR.out hR2; subst e1 e2; clear hR2; replace hbel := hbel.trans (hb1.mono hbel.size); clear hb1)
      | (go_at_call 30; (with_reducible refine (implParse t (by omega) _ (HT.out.keep hbel) (HE.out.keep hbel)).mono ?_); rintro e w1 ⟨v, b, rfl, hR, hb1⟩; have HR : Hid (Reads t v b) := hR; clear hR; replace hbel := hbel.trans (hb1.mono hbel.size); clear hb1)
      | (go_at_call 33; (with_reducible refine (draw_app _ (By.up (HB.out.below hbel (Nat.le_refl _)) hbel.size)).mono ?_); rintro e w1 ⟨x, rfl, hx, hb1⟩; replace hbel := hbel.trans (hb1.mono hbel.size); clear hb1)
      | (go_at_call 18; (with_reducible refine (implApp x (by omega) _ (HT.out.keep hbel)).mono ?_); rintro e w1 ⟨rfl, hb1⟩; replace hbel := hbel.trans (hb1.mono hbel.size); clear hb1)
      | (go_at_call 17; (with_reducible refine (specApp x (by omega) _).mono ?_); rintro e w1 ⟨rfl, hb1⟩; replace hbel := hbel.trans (hb1.mono hbel.size); clear hb1)
    have hfz : (⟨(fmtS m).toArray⟩ : ByteArray).size ≤ 4000000 := by
      show (fmtS m).toArray.size ≤ 4000000
      rw [List.size_toArray]
      unfold fmtS
      cases hm : inM m with
      | true => have := inM_bd hm; have := itoa_len2 m; rw [if_pos rfl]; omega
      | false => simp
    have HFZ : Hid _ := hfz
    clear hfz
    cases hp : apB x with
    | false =>
      have hap : apS x = [] := apS_no hp
      clear hp
      cases hm : inM m with
      | true =>
        have HFB : Hid _ := fun v b => fmt_back m (v := v) (b := b) hm
        clear hm
        go_wp2_with first
          | (go_at_call 30; (with_reducible refine (implParse _ HFZ.out _ (HT.out.keep hbel) (HE.out.keep hbel)).mono ?_); rintro e w1 ⟨v2, b2, rfl, hR3, hb1⟩; obtain ⟨e1, e2⟩ := HFB.out _ _ hR3; subst e1 e2; clear hR3; replace hbel := hbel.trans (hb1.mono hbel.size); clear hb1)
        go_ret
        exact ⟨rfl, hbel⟩
      | false =>
        clear hm
        go_wp2_with first
          | (go_at_call 30; (with_reducible refine (implParse _ HFZ.out _ (HT.out.keep hbel) (HE.out.keep hbel)).mono ?_); rintro e w1 ⟨v2, b2, rfl, hR3, hb1⟩; clear hR3; replace hbel := hbel.trans (hb1.mono hbel.size); clear hb1)
        go_ret
        exact ⟨rfl, hbel⟩
    | true =>
      have hap : apS x = sealL x := apS_yes hp
      obtain ⟨hv, hvs, h35, hlen⟩ := seal_back hp
      have hpos : 0 < (sealL x).length := by rw [seal_length]; omega
      obtain ⟨k, hk, hklt⟩ : ∃ k : Nat, x9 % ((sealL x).length : Int) = (k : Int) ∧ k < (sealL x).length := ⟨_, (nat_mod x9 _ hpos a0).1.symm, (nat_mod x9 _ hpos a0).2⟩
      obtain ⟨d, hd, hd1, hd2⟩ : ∃ d : Nat, 1 + x10 % 255 = (d : Int) ∧ 1 ≤ d ∧ d ≤ 255 := ⟨(1 + x10 % 255).toNat, by omega, by omega, by omega⟩
      have hxor := xor_u8 (sealL x)[k].toNat d (sealL x)[k].toNat_lt (by omega)
      have hrlt : (sealL x)[k].toNat ^^^ d < 256 := Nat.xor_lt_two_pow (n := 8) (sealL x)[k].toNat_lt (by omega)
      have hrne : (sealL x)[k].toNat ^^^ d ≠ (sealL x)[k].toNat := xor_ne _ _ hd1
      have hbad : vfB ⟨((sealL x).set k (UInt8.ofNat ((sealL x)[k].toNat ^^^ d))).toArray⟩ = false := by
        refine changed_bad h35 (k := k) ?_ ?_ fun j hj => ?_
        · show (sealL x).length = (List.toArray _).size
          rw [List.size_toArray, List.length_set]
        · show _ ≠ ((sealL x).set k (UInt8.ofNat ((sealL x)[k].toNat ^^^ d)))[k]?
          rw [List.getElem?_set_self hklt, List.getElem?_eq_getElem hklt]
          intro e
          have e2 := congrArg UInt8.toNat (Option.some.inj e)
          rw [of8 hrlt] at e2
          exact hrne e2.symm
        · show _ = ((sealL x).set k (UInt8.ofNat ((sealL x)[k].toNat ^^^ d)))[j]?
          rw [List.getElem?_set_ne (Ne.symm hj)]
      have hyz : (⟨(sealL x).toArray⟩ : ByteArray).size ≤ 4000000 := by show (sealL x).toArray.size ≤ _; rw [List.size_toArray]; omega
      have HYZ : Hid _ := hyz
      clear hyz h35 hrne
      have hlen' : (0 : Int) < ((sealL x).length : Int) := by omega
      have hp' : Hid (apB x = true) := hp
      have hklt' : (k : Int) < ((sealL x).length : Int) := by omega
      have HX : Hid _ := hxor
      have hsz8 : (⟨((sealL x).set k (UInt8.ofNat ((sealL x)[k].toNat ^^^ d))).toArray⟩ : ByteArray).size ≤ 4000000 := by show (List.toArray _).size ≤ _; rw [List.size_toArray, List.length_set]; omega
      generalize hL2 : (sealL x).set k (UInt8.ofNat ((sealL x)[k].toNat ^^^ d)) = L2 at hbad hsz8
      have HL2 : Hid _ := hL2
      clear hL2
      have HBAD : Hid _ := hbad
      have HSZ : Hid _ := hsz8
      clear hsz8
      have HVV : Hid _ := hv
      have HVS : Hid _ := hvs
      clear hbad hv hvs hpos
      have tok_v : True := trivial
      cases hm : inM m with
      | true =>
        have HFB : Hid _ := fun v b => fmt_back m (v := v) (b := b) hm
        clear hm
        go_wp2_with first
          | (go_at_call 30; (with_reducible refine (implParse _ HFZ.out _ (HT.out.keep hbel) (HE.out.keep hbel)).mono ?_); rintro e w1 ⟨v2, b2, rfl, hR3, hb1⟩; (try (obtain ⟨e1, e2⟩ := HFB.out _ _ hR3; subst e1 e2)); clear hR3; replace hbel := hbel.trans (hb1.mono hbel.size); clear hb1)
          | (have _t := tok_v; (go_at_call 20; (with_reducible refine (implVer ⟨(sealL x).toArray⟩ HYZ.out _ (HT.out.keep hbel) (HM.out.keep hbel)).mono ?_); (rw [HVV.out, HVS.out]; rintro e w9 ⟨rfl, hb1⟩; replace hbel := hbel.trans (hb1.mono hbel.size); obtain ⟨C, cap, hcv, hrow⟩ := row8_of w9 (sealL x); have HROW : Hid (Row8 ((w9.alloc (.cells C 5 (C.size, C.size + 1))).drew) w9.heap.size (sealL x)) := hrow; have hNz := hbel.size; have hbel9 : Below w.heap.size w ((w9.alloc (.cells C 5 (C.size, C.size + 1))).drew) := (hbel.alloc hbel.size _).drew; clear hbel; clear hb1 hrow _t tok_v)))
          | (go_at_call 34; (with_reducible refine (HV9.out _ hbel9).mono ?_); rintro e w11 ⟨rfl, hb11⟩; have hb12 := hbel9.trans (hb11.mono hbel9.size); have HR11 : Hid (Row8 w11 w9.heap.size (sealL x)) := HROW.out.keep hb11; have HV11 : Hid (∀ w', Cls w11 [] w' → Calls Tryd.prog 34 #[.slice p n c, .int .i64 10] w' fun e w2 => e = .returned (.int .i64 x10) ∧ Below w'.heap.size w' w2) := fun w' h => HV10.out w' (hb12.trans (h.2.mono hb12.size)); have HL11 : Hid (∀ w', Cls w11 [] w' → w'.cell? ⟨w9.heap.size, k, none⟩ = some (.int .u8 ((sealL x)[k].toNat : Int))) := fun w' h => (HR11.out.keep h.2).at' k hklt)
        refine wp_region_held 13 (Cls w11 []) (by kernel_rfl) (by kernel_rfl) (Cls.zero (Below.refl _ _)) ?_; simp only [List.take_succ_cons, List.take_zero, List.drop_succ_cons, List.drop_zero]
        repeat (first
          | ((with_reducible refine wpQuiet_callE rfl 34 _ _ rfl (.int .i64 x10) (#[.slice p n c, .int .i64 10]) rfl ?_ ?_ ?_); (exact enters_of Tryd.func34 (by kernel_rfl) rfl); (intro w' h'; with_reducible exact (HV11.out w' h').mono fun _ _ ⟨he, hb⟩ => ⟨he, h'.keep hb⟩))
          | (with_reducible refine wpQuiet_loadC rfl _ _ rfl ⟨w9.heap.size, k, none⟩ (.int .u8 ((sealL x)[k].toNat : Int)) rfl HL11.out (by kernel_rfl) (by kernel_rfl) ?_)
          | ((with_reducible refine wpQuiet_step (fun K hK => ?_)); go_simp; (first | (refine ⟨_, fun _ _ => rfl, hK _ ?_⟩) | (refine ⟨_, fun _ _ => ⟨rfl, rfl⟩, hK _ ?_⟩) | (refine hK _ ?_)); clear hK K))
        refine wpQuiet_nil ?_
        intro wt hCt
        have hbt := hCt.2
        clear hCt
        have hR12 := HR11.out.keep hbt
        have hb13 := hb12.trans (hbt.mono hb12.size)
        have hct := hR12.at' k hklt
        have hft := hR12.fz k hklt
        have hcv2 := row8_text (cap := cap) (row8_set hR12 hklt hrlt)
        rw [List.length_set, HL2.out] at hcv2
        have hbS := hb13.setCell (p := ⟨w9.heap.size, k, none⟩) hNz (.int .u8 (((sealL x)[k].toNat ^^^ d : Nat) : Int))
        clear hbt hb13 hb12 hb11 hbel9 hR12
        go_wp2_with first
          | (go_at_call 20; (with_reducible refine (implVer ⟨L2.toArray⟩ HSZ.out _ (HT.out.keep hbS) (HM.out.keep hbS)).mono ?_); (rw [HBAD.out]; rintro e w20 ⟨rfl, hb20⟩; replace hbS := hbS.trans (hb20.mono hbS.size)))
        go_ret
        exact ⟨rfl, hbS⟩
      | false =>
        clear hm
        go_wp2_with first
          | (go_at_call 30; (with_reducible refine (implParse _ HFZ.out _ (HT.out.keep hbel) (HE.out.keep hbel)).mono ?_); rintro e w1 ⟨v2, b2, rfl, hR3, hb1⟩; (try (obtain ⟨e1, e2⟩ := HFB.out _ _ hR3; subst e1 e2)); clear hR3; replace hbel := hbel.trans (hb1.mono hbel.size); clear hb1)
          | (have _t := tok_v; (go_at_call 20; (with_reducible refine (implVer ⟨(sealL x).toArray⟩ HYZ.out _ (HT.out.keep hbel) (HM.out.keep hbel)).mono ?_); (rw [HVV.out, HVS.out]; rintro e w9 ⟨rfl, hb1⟩; replace hbel := hbel.trans (hb1.mono hbel.size); obtain ⟨C, cap, hcv, hrow⟩ := row8_of w9 (sealL x); have HROW : Hid (Row8 ((w9.alloc (.cells C 5 (C.size, C.size + 1))).drew) w9.heap.size (sealL x)) := hrow; have hNz := hbel.size; have hbel9 : Below w.heap.size w ((w9.alloc (.cells C 5 (C.size, C.size + 1))).drew) := (hbel.alloc hbel.size _).drew; clear hbel; clear hb1 hrow _t tok_v)))
          | (go_at_call 34; (with_reducible refine (HV9.out _ hbel9).mono ?_); rintro e w11 ⟨rfl, hb11⟩; have hb12 := hbel9.trans (hb11.mono hbel9.size); have HR11 : Hid (Row8 w11 w9.heap.size (sealL x)) := HROW.out.keep hb11; have HV11 : Hid (∀ w', Cls w11 [] w' → Calls Tryd.prog 34 #[.slice p n c, .int .i64 10] w' fun e w2 => e = .returned (.int .i64 x10) ∧ Below w'.heap.size w' w2) := fun w' h => HV10.out w' (hb12.trans (h.2.mono hb12.size)); have HL11 : Hid (∀ w', Cls w11 [] w' → w'.cell? ⟨w9.heap.size, k, none⟩ = some (.int .u8 ((sealL x)[k].toNat : Int))) := fun w' h => (HR11.out.keep h.2).at' k hklt)
        refine wp_region_held 13 (Cls w11 []) (by kernel_rfl) (by kernel_rfl) (Cls.zero (Below.refl _ _)) ?_; simp only [List.take_succ_cons, List.take_zero, List.drop_succ_cons, List.drop_zero]
        repeat (first
          | ((with_reducible refine wpQuiet_callE rfl 34 _ _ rfl (.int .i64 x10) (#[.slice p n c, .int .i64 10]) rfl ?_ ?_ ?_); (exact enters_of Tryd.func34 (by kernel_rfl) rfl); (intro w' h'; with_reducible exact (HV11.out w' h').mono fun _ _ ⟨he, hb⟩ => ⟨he, h'.keep hb⟩))
          | (with_reducible refine wpQuiet_loadC rfl _ _ rfl ⟨w9.heap.size, k, none⟩ (.int .u8 ((sealL x)[k].toNat : Int)) rfl HL11.out (by kernel_rfl) (by kernel_rfl) ?_)
          | ((with_reducible refine wpQuiet_step (fun K hK => ?_)); go_simp; (first | (refine ⟨_, fun _ _ => rfl, hK _ ?_⟩) | (refine ⟨_, fun _ _ => ⟨rfl, rfl⟩, hK _ ?_⟩) | (refine hK _ ?_)); clear hK K))
        refine wpQuiet_nil ?_
        intro wt hCt
        have hbt := hCt.2
        clear hCt
        have hR12 := HR11.out.keep hbt
        have hb13 := hb12.trans (hbt.mono hb12.size)
        have hct := hR12.at' k hklt
        have hft := hR12.fz k hklt
        have hcv2 := row8_text (cap := cap) (row8_set hR12 hklt hrlt)
        rw [List.length_set, HL2.out] at hcv2
        have hbS := hb13.setCell (p := ⟨w9.heap.size, k, none⟩) hNz (.int .u8 (((sealL x)[k].toNat ^^^ d : Nat) : Int))
        clear hbt hb13 hb12 hb11 hbel9 hR12
        go_wp2_with first
          | (go_at_call 20; (with_reducible refine (implVer ⟨L2.toArray⟩ HSZ.out _ (HT.out.keep hbS) (HM.out.keep hbS)).mono ?_); (rw [HBAD.out]; rintro e w20 ⟨rfl, hb20⟩; replace hbS := hbS.trans (hb20.mono hbS.size)))
        go_ret
        exact ⟨rfl, hbS⟩
  · have hbig' : (65536 : Int) < (n : Int) := by omega
    go_enter Tryd.func9, Tryd.ntmps9
    go_wp2_with first
      | (go_at_call 21; (with_reducible refine (vBig_is _ _ _ _).mono ?_); rintro e w' ⟨rfl, rfl⟩)
    go_ret
    exact ⟨rfl, hbel⟩
open Go.ChangeShapes Go.WideShapes Go.ChangeAt in
theorem FnStrings_walk {H : Type} {enc : TypeId × Value → H} {W : World} {base : Nat} {spare : Nat → Bool} {held : Bool} {v : Value} {d : DataW H} {ps : List MemPlace} (hv : Value.okWide Tryd.prog W .any base 33 v)
    (h : DataW.Trod enc Tryd.prog W 0 spare held 33 v d ps) (w : World) (hw : w = W) (hT : Tab w) (hE : Errs w) (hsh : w.ShapedOpen Tryd.prog) : Calls Tryd.prog 9 #[v] w fun e w' => e = .returned (.bool true) ∧ Below w.heap.size w w' := by
  subst hw
  obtain ⟨p, n, c, rfl, hn, hB⟩ := by_of hv h
  exact FnStrings_any w hB (max_of hsh) hT hE hn
end Go.Proofs.YthljicikedlkbaaDoor
