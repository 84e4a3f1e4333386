/- Reading a rack's text: the program's walk, and the law. -/
import Derived.Test.YtlbgmkengkgnfaaDoorPr
import Derived.Test.YtlbgmkengkgnfaaDoorMem2
namespace Go.Proofs.YtlbgmkengkgnfaaDoor
set_option linter.unusedSimpArgs false
set_option linter.unusedVariables false
set_option maxRecDepth 20000
open Go.RowKit
theorem geo {b : UInt8} (h : 97 ≤ b.toNat ∧ b.toNat ≤ 101) : sgB b = (b.toNat : Int) - 97 + 1 := by
  unfold sgB
  rw [if_neg (fun e => by rw [e] at h; have : (46 : UInt8).toNat = 46 := rfl; omega), if_pos h]; omega
theorem dot {b : UInt8} (h : b.toNat = 46) : sgB b = 0 := by
  have : b = 46 := UInt8.toNat_inj.1 (by rw [h]; rfl)
  rw [this]; rfl
theorem nosg {b : UInt8} (h : ¬ (97 ≤ b.toNat ∧ b.toNat ≤ 101)) (h2 : ¬ b.toNat = 46) : sgB b = -1 := by
  unfold sgB
  rw [if_neg (fun e => h2 (by rw [e]; rfl)), if_neg h]
theorem split47 (s : ByteArray) (hs : s.size ≤ 4000000) {l : List ByteArray} (hl : partsB s 47 = l) (w : World) (hm : MaxS w) : Calls Tryd.prog 12 #[.string s, .string ⟨#[47]⟩] w fun e w' => ∃ (a : Option Addr) (c : Nat), e = .returned (.slice a l.length c) ∧
    (0 < l.length → ∃ g, a = some ⟨g, 0, none⟩ ∧ g < w'.heap.size ∧ l.length ≤ c ∧ ∀ (j : Nat) (x : ByteArray), l[j]? = some x → w'.cell? ⟨g, j, none⟩ = some (.string x)) ∧ Below w.heap.size w w' := by
  subst hl
  refine (splits_any s ⟨#[47]⟩ hs rfl w hm).mono ?_
  rintro e w1 ⟨v, rfl, hT, hb1⟩
  have hT2 : St w1 w.heap.size v (partsB s 47) := hT
  obtain ⟨a, c, rfl, H⟩ := hT2.shape
  refine ⟨a, c, rfl, fun hp => ?_, hb1⟩
  obtain ⟨g, h1, _, h3, h4, _, h6⟩ := H hp
  exact ⟨g, h1, h3, h4, h6⟩
set_option maxHeartbeats 1000000 in
theorem parseRack_any (s : ByteArray) (hs : s.size ≤ 4000000) (w : World) (hm : MaxS w) : Calls Tryd.prog 8 #[.string s] w (RetR (prF s) (prB s) w) := by
  have h2 : (w.alloc (.cells (arr 24 fun _ => 0) 25)).heap[w.heap.size]? = some (.cells (arr 24 fun _ => 0) 25 (0, 0)) := heap_new (by simp)
  have hbel : Below w.heap.size w (w.alloc (.cells (arr 24 fun _ => 0) 25)) := (Below.refl _ _).alloc (by simp) _
  have hm2 := hm.keep hbel
  have hno := fun (h : ¬ (partsB s 47).length = 6) => pn_len h
  have hns := fun (i : Nat) (hi : i < 6) (x : ByteArray) (hx : (partsB s 47)[i]? = some x) (h : ¬ x.size = 4) => pn_size hi hx h
  have hng := fun (i k : Nat) (hi : i < 6) (hk : k < 4) (x : ByteArray) (hx : (partsB s 47)[i]? = some x) (h : sgB (bt x k) < 0) => pn_sign hi hk hx h
  have hend := fun h6 h4 ho => parts_end (s := s) h6 h4 ho
  have hpr := fun h1 h2 h3 => pr_yes (s := s) h1 h2 h3
  have hrk := fun h => gd_rack (s := s) h
  have HSP := fun (l : List ByteArray) (hl : partsB s 47 = l) => split47 s hs hl _ hm2
  obtain ⟨l, hl⟩ : ∃ l, partsB s 47 = l := ⟨_, rfl⟩
  replace HSP := HSP l hl
  rw [hl] at hno hns hng hend
  have HSP2 : Hid _ := fun (_u : Unit) => HSP
  have tok_r : True := trivial
  have tok_h5 : True := trivial
  clear hm hm2 hl HSP
  by_cases h6 : l.length = 6
  · have h6' : (l.length : Int) = 6 := by omega
    have hne : ((l.length : Int) != 6) = false := by rw [h6']; rfl
    have HNS : Hid _ := hns
    have HNG : Hid _ := hng
    have HEND : Hid _ := hend h6
    have HPR : Hid _ := hpr
    have HRK : Hid _ := hrk
    clear hno hns hng hend hpr hrk
    go_enter Tryd.func8, Tryd.ntmps8
    go_wp2_with first
      | (have _t := tok_r; (with_reducible refine wpList_allocA rfl 25 rfl 24 zero24r ?_; (try simp only [size_al])); clear _t tok_r)
      | (go_at_call 12; (with_reducible refine (HSP2.out ()).mono ?_); (rintro e w1 ⟨a1, c1, rfl, H1, hb1⟩; obtain ⟨g1, rfl, q1, d1, K1⟩ := H1 (by omega); replace hbel := hbel.trans (hb1.mono hbel.size); replace h2 := row_keep hb1 h2; clear hb1 H1; have HK1 : Hid _ := K1; clear K1; obtain ⟨wb, hwb⟩ : ∃ x : World, x = w1 := ⟨_, rfl⟩; rw [← hwb] at hbel h2 HK1 q1 ⊢; clear hwb; have hbw := hbel; clear hbel; have hbel := Below.refl wb.heap.size wb))
      | (have _t := tok_h5; with_reducible refine wpList_allocN rfl 25 rfl 24 zero24r ?_; intro Bh5 w1 hBh5 h5 hb1; have hWh5 := Nat.le_trans hbel.size hBh5; replace hbel := hbel.trans (hb1.mono hbel.size); clear hb1 _t tok_h5)
    go_loopw [18] (fun i wr => ∃ n : Nat, n ≤ 6 ∧ i = .int .i64 n ∧ Hid (∀ (j : Nat) (x : ByteArray), j < n → l[j]? = some x → x.size = 4) ∧ Hid (okN l (n * 4)) ∧ wr.heap[Bh5]? = some (.cells (arr 24 (lO l (n * 4))) 25 (0, 0)) ∧ Below wb.heap.size wb wr) (fun i _ => 6 - (intOf i).toNat)
    case atStart => exact ⟨0, by omega, rfl, fun j x hj => by omega, okN_zero l, by rw [Nat.zero_mul, lO_zero]; exact h5, hbel⟩
    case round =>
      clear h5 hbel
      obtain ⟨n, hn, rfl, HSZ, HOK, h5, hbel⟩ := hrel
      obtain ⟨wo, hwo⟩ : ∃ wo : World, wo = wr := ⟨_, rfl⟩
      subst hwo
      by_cases hlt : n < 6
      · have hlt' : (n : Int) < 6 := by omega
        have hx0 : l[n]? = some (l[n]'(by omega)) := List.getElem?_eq_getElem (by omega)
        generalize l[n]'(by omega) = x at hx0
        have hcx := (hbel.cell (p := ⟨g1, n, none⟩) q1).trans (HK1.out n x hx0)
        have HX : Hid (l[n]? = some x) := hx0
        clear hx0
        by_cases hx4 : x.size = 4
        · have hx4' : (x.size : Int) = 4 := by omega
          have hnx : ((x.size : Int) != 4) = false := by rw [hx4']; rfl
          have HSZ2 : Hid (∀ (j : Nat) (y : ByteArray), j < n + 1 → l[j]? = some y → y.size = 4) := fun j y hj hy => by
            by_cases e : j = n
            · subst e; have := HX.out; rw [this] at hy; cases hy; exact hx4
            · exact HSZ.out j y (by omega) hy
          obtain ⟨C, cap, hcv, hC⟩ := bytes_conv (P := Tryd.prog) wo 9 35 5 x Tryd.underlying9 Tryd.underlying35 Tryd.underlying5
          have hB5 := row_lt h5
          have h5c : (wo.drew.alloc (.cells C 5 (C.size, C.size + 1))).heap[Bh5]? = some (.cells (arr 24 (lO l (n * 4))) 25 (0, 0)) := row_alloc (w := wo.drew) h5
          have hcc : (wo.drew.alloc (.cells C 5 (C.size, C.size + 1))).heap[wo.heap.size]? = some (.cells C 5 (C.size, C.size + 1)) := heap_alloc_new wo.drew _
          have hbw2 : Below wb.heap.size wb (wo.drew.alloc (.cells C 5 (C.size, C.size + 1))) := (hbel.trans (Below.refl _ _).drew).alloc hbel.size _
          have hC4 : ∀ k, k < 4 → C[k]? = some (.int .u8 ((bt x k).toNat : Int)) := fun k hk => by rw [hC k (by omega), bt_at]
          clear hC
          have HC4 : Hid _ := hC4
          clear hC4
          go_wp2_with fail
          go_loopw [30] (fun j wr => ∃ k : Nat, k ≤ 4 ∧ j = .int .i64 k ∧ Hid (okN l (n * 4 + k)) ∧ wr.heap[wo.heap.size]? = some (.cells C 5 (C.size, C.size + 1)) ∧ wr.heap[Bh5]? = some (.cells (arr 24 (lO l (n * 4 + k))) 25 (0, 0)) ∧ Below wb.heap.size wb wr) (fun j _ => 4 - (intOf j).toNat)
          case atStart => exact ⟨0, by omega, rfl, HOK.out, hcc, h5c, hbw2⟩
          case round =>
            clear h5c hcc hbw2 h5 hbel
            obtain ⟨k, hk, rfl, HOK2, hcc, h5, hbel⟩ := hrel
            by_cases hkt : k < 4
            · have hkt' : (k : Int) < 4 := by omega
              have hck : wr.cell? ⟨wo.heap.size, k, none⟩ = some (.int .u8 ((bt x k).toNat : Int)) := by
                rw [cell_of_row wr wo.heap.size k _ _ _ hcc]; exact HC4.out k hkt
              have hbt := (bt x k).toNat_lt
              have HST : Hid _ := lO_step l n k hkt HX.out
              have HSD : Hid _ := lO_dot l n k hkt HX.out
              have HIX : Hid _ := HNG.out n k hlt hkt x HX.out
              by_cases hg : 97 ≤ (bt x k).toNat ∧ (bt x k).toNat ≤ 101
              · have HS : Hid _ := geo hg
                have HOK3 : Hid _ := okN_step hkt HX.out HOK2.out (by rw [geo hg]; omega)
                obtain ⟨b, hb⟩ : ∃ b, (bt x k).toNat = b := ⟨_, rfl⟩
                have HBT : Hid _ := hb
                rw [hb] at hck hg hbt
                clear hb
                have hg1 : (97 : Int) ≤ (b : Int) := by omega
                have hg2 : (b : Int) < 102 := by omega
                go_wp2_with first
                  | (with_reducible refine wpList_storeI rfl 3 _ _ rfl _ _ rfl rfl h5 size1 (by omega) ?_)
                go_roundw
                case rel => exact ⟨k + 1, by omega, by go_num, HOK3.out, by rw [setRow_other _ _ _ _ (by omega)]; exact hcc, by rw [show n * 4 + (k + 1) = n * 4 + k + 1 from rfl, HST.out, HS.out, HBT.out]; exact setRow_heap _ _ _ _ _ _ h5, below_setRow2 hbel (by omega) _⟩
                case measure => simp [intOf]; omega
              · by_cases hd : (bt x k).toNat = 46
                · have HS : Hid _ := dot hd
                  have HOK3 : Hid _ := okN_step hkt HX.out HOK2.out (by rw [dot hd]; omega)
                  rw [hd] at hck hg hbt
                  clear hd hg
                  go_wp2_with fail
                  go_roundw
                  case rel => exact ⟨k + 1, by omega, by go_num, HOK3.out, hcc, by rw [show n * 4 + (k + 1) = n * 4 + k + 1 from rfl, HSD.out HS.out]; exact h5, hbel⟩
                  case measure => simp [intOf]; omega
                · have HE : Hid _ := HIX.out (by rw [nosg hg hd]; omega)
                  obtain ⟨b, hb⟩ : ∃ b, (bt x k).toNat = b := ⟨_, rfl⟩
                  rw [hb] at hck hg hbt hd
                  clear hb
                  have hd' : ((b : Int) != 46) = true := by rw [bne_iff_ne]; omega
                  have h2 := row_kept hbel h2 (row_lt h2)
                  replace hbel := hbw.trans (hbel.mono hbw.size)
                  by_cases hg1 : 97 ≤ b
                  · have hg1' : (97 : Int) ≤ (b : Int) := by omega
                    have hg2 : ¬ (b : Int) < 102 := by omega
                    go_wp2_with first
                      | (with_reducible refine wpList_build0 rfl 25 rfl 24 zbuild24 ?_)
                      | (with_reducible refine wpList_storeW rfl _ _ _ rfl _ rfl rfl h2 size24r ?_)
                    exact bodyPost_ret_by (results_ct _ _ _ _ _ _ _ rfl rfl (setRow_heap _ _ _ _ _ _ h2) agg24r size24r) rfl ⟨by (rw [HE.out.1, HE.out.2]; rfl), below_setRow2 hbel (by omega) _⟩
                  · have hg1' : ¬ (97 : Int) ≤ (b : Int) := by omega
                    go_wp2_with first
                      | (with_reducible refine wpList_build0 rfl 25 rfl 24 zbuild24 ?_)
                      | (with_reducible refine wpList_storeW rfl _ _ _ rfl _ rfl rfl h2 size24r ?_)
                    exact bodyPost_ret_by (results_ct _ _ _ _ _ _ _ rfl rfl (setRow_heap _ _ _ _ _ _ h2) agg24r size24r) rfl ⟨by (rw [HE.out.1, HE.out.2]; rfl), below_setRow2 hbel (by omega) _⟩
            · obtain rfl : k = 4 := by omega
              go_wp2_with fail
              go_roundw
              case rel => exact ⟨n + 1, by omega, by go_num, HSZ2.out, by rw [show (n + 1) * 4 = n * 4 + 4 by omega]; exact HOK2.out, by rw [show (n + 1) * 4 = n * 4 + 4 by omega]; exact h5, hbel⟩
              case measure => simp [intOf]; omega
        · have HE : Hid _ := HNS.out n hlt x HX.out hx4
          have hnx : ((x.size : Int) != 4) = true := by rw [bne_iff_ne]; omega
          have h2 := row_kept hbel h2 (row_lt h2)
          replace hbel := hbw.trans (hbel.mono hbw.size)
          go_wp2_with first
            | (with_reducible refine wpList_build0 rfl 25 rfl 24 zbuild24 ?_)
            | (with_reducible refine wpList_storeW rfl _ _ _ rfl _ rfl rfl h2 size24r ?_)
          exact bodyPost_ret_by (results_ct _ _ _ _ _ _ _ rfl rfl (setRow_heap _ _ _ _ _ _ h2) agg24r size24r) rfl ⟨by (rw [HE.out.1, HE.out.2]; rfl), below_setRow2 hbel (by omega) _⟩
      · obtain rfl : n = 6 := by omega
        obtain ⟨hz, hgd, harr⟩ := HEND.out (fun i x hx => HSZ.out i x (by have := (List.getElem?_eq_some_iff.1 hx).1; omega) hx) HOK.out
        rw [show 6 * 4 = 24 from rfl, harr] at h5
        cases hrb : rackB (prO s 29) with
        | false =>
          have HE : Hid _ := HRK.out hrb
          have HF : Hid _ := hrb
          clear hrb hgd harr hz
          have h2 := row_kept hbel h2 (row_lt h2)
          replace hbel := hbw.trans (hbel.mono hbw.size)
          go_wp2_with first
            | (with_reducible refine wpList_loadW rfl _ _ rfl _ rfl h5 agg24r size24r ?_)
            | (go_at_call 13; (with_reducible refine (IsRack_any _ _).mono ?_); rw [HF.out]; rintro e w1 ⟨rfl, hb1⟩; replace hbel := hbel.trans (hb1.mono hbel.size); replace h2 := row_keep hb1 h2; replace h5 := row_keep hb1 h5; clear hb1)
            | (with_reducible refine wpList_build0 rfl 25 rfl 24 zbuild24 ?_)
            | (with_reducible refine wpList_storeW rfl _ _ _ rfl _ rfl rfl h2 size24r ?_)
          exact bodyPost_ret_by (results_ct _ _ _ _ _ _ _ rfl rfl (setRow_heap _ _ _ _ _ _ h2) agg24r size24r) rfl ⟨by (rw [HE.out.1, HE.out.2]; rfl), below_setRow2 hbel (by omega) _⟩
        | true =>
          have HE : Hid _ := HPR.out hz hgd hrb
          have HF : Hid _ := hrb
          clear hrb hgd harr hz
          have h2 := row_kept hbel h2 (row_lt h2)
          replace hbel := hbw.trans (hbel.mono hbw.size)
          go_wp2_with first
            | (with_reducible refine wpList_loadW rfl _ _ rfl _ rfl h5 agg24r size24r ?_)
            | (go_at_call 13; (with_reducible refine (IsRack_any _ _).mono ?_); rw [HF.out]; rintro e w1 ⟨rfl, hb1⟩; replace hbel := hbel.trans (hb1.mono hbel.size); replace h2 := row_keep hb1 h2; replace h5 := row_keep hb1 h5; clear hb1)
            | (with_reducible refine wpList_storeW rfl _ _ _ rfl _ rfl rfl h2 size24r ?_)
          exact bodyPost_ret_by (results_ct _ _ _ _ _ _ _ rfl rfl (setRow_heap _ _ _ _ _ _ h2) agg24r size24r) rfl ⟨by (rw [HE.out.1, HE.out.2]; rfl), below_setRow2 hbel (by omega) _⟩
  · have HE : Hid _ := hno h6
    have hne : ((l.length : Int) != 6) = true := by rw [bne_iff_ne]; omega
    clear h6 hns hng hend hpr hno hrk
    go_enter Tryd.func8, Tryd.ntmps8
    go_wp2_with first
      | (have _t := tok_r; (with_reducible refine wpList_allocA rfl 25 rfl 24 zero24r ?_; (try simp only [size_al])); clear _t tok_r)
      | (go_at_call 12; (with_reducible refine (HSP2.out ()).mono ?_); (rintro e w1 ⟨a1, c1, rfl, _, hb1⟩; replace hbel := hbel.trans (hb1.mono hbel.size); replace h2 := row_keep hb1 h2; clear hb1))
      | (with_reducible refine wpList_build0 rfl 25 rfl 24 zbuild24 ?_)
      | (with_reducible refine wpList_storeW rfl _ _ _ rfl _ rfl rfl h2 size24r ?_)
    exact bodyPost_ret_by (results_ct _ _ _ _ _ _ _ rfl rfl (setRow_heap _ _ _ _ _ _ h2) agg24r size24r) rfl ⟨by (rw [HE.out.1, HE.out.2]; rfl), below_setRow2 hbel (by omega) _⟩
theorem implPR_any (s : ByteArray) (hs : s.size ≤ 4000000) (w : World) (hm : MaxS w) : Calls Tryd.prog 5 #[.string s] w (RetR (prF s) (prB s) w) := by
  have h2 : (w.alloc (.cells (arr 24 fun _ => 0) 25)).heap[w.heap.size]? = some (.cells (arr 24 fun _ => 0) 25 (0, 0)) := heap_new (by simp)
  have hbel : Below w.heap.size w (w.alloc (.cells (arr 24 fun _ => 0) 25)) := (Below.refl _ _).alloc (by simp) _
  have hm2 := hm.keep hbel
  generalize hB : prB s = b at *
  generalize hF : prF s = F at *
  have HS : Hid _ := fun (_u : Unit) => (show Calls Tryd.prog 8 #[.string s] _ (RetR F b _) from hB ▸ hF ▸ parseRack_any s hs _ hm2)
  clear hB hF hm hm2
  go_enter Tryd.func5, Tryd.ntmps5
  go_wp2_with first
    | (with_reducible refine wpList_allocA rfl 25 rfl 24 zero24r ?_; (try simp only [size_al]))
    | (go_at_call 8; (with_reducible refine (HS.out ()).mono ?_); rintro e w1 ⟨rfl, hb1⟩; replace hbel := hbel.trans (hb1.mono hbel.size); replace h2 := row_keep hb1 h2; clear hb1)
    | (with_reducible refine wpList_storeW rfl _ _ _ rfl _ rfl rfl h2 size24r ?_)
  exact bodyPost_ret_by (results_ct _ _ _ _ _ _ _ rfl rfl (setRow_heap _ _ _ _ _ _ h2) agg24r size24r) rfl ⟨rfl, below_setRow2 hbel (by omega) _⟩
theorem FnExactParseRack_walk (s : ByteArray) (_hs : s.size ≤ maxLen) (w : World) (hsh : w.ShapedOpen Tryd.prog) : Calls Tryd.prog 3 #[.string s] w fun e w' => e = .returned (.bool true) ∧ Below w.heap.size w w' := by
  have hbel := Below.refl w.heap.size w
  have HM : Hid (MaxS w) := maxS_of hsh
  clear hsh
  by_cases hb : s.size ≤ 1048576
  · have hb' : (s.size : Int) ≤ 1048576 := by omega
    generalize hB : prB s = b at *
    generalize hF : prF s = F at *
    have HS : Hid (∀ w, Calls Tryd.prog 4 #[.string s] w (RetR F b w)) := fun w => by rw [← hB, ← hF]; exact specPR_any s (by omega) w
    have HI : Hid (∀ w, MaxS w → Calls Tryd.prog 5 #[.string s] w (RetR F b w)) := fun w hm => by rw [← hB, ← hF]; exact implPR_any s (by omega) w hm
    clear hB hF
    have tok_hA0 : True := trivial
    have tok_hB0 : True := trivial
    go_enter Tryd.func3, Tryd.ntmps3
    go_wp2_with first
      | (go_at_call 4; (with_reducible refine (HS.out _).mono ?_); (rintro e w1 ⟨rfl, hb1⟩; replace hbel := hbel.trans (hb1.mono hbel.size); clear hb1))
      | (go_at_call 5; (with_reducible refine (HI.out _ (HM.out.keep hbel)).mono ?_); (rintro e w1 ⟨rfl, hb1⟩; replace hbel := hbel.trans (hb1.mono hbel.size); (try replace hA0 := row_keep hb1 hA0); clear hb1))
      | (with_reducible refine wpList_allocA rfl 25 rfl 24 zero24r ?_; (try simp only [size_al]))
      | (go_at_call 6; (with_reducible refine (eqRack_same _ _).mono ?_); (rintro e w1 ⟨rfl, hb1⟩; replace hbel := hbel.trans (hb1.mono hbel.size); (try replace hA0 := row_keep hb1 hA0); (try replace hB0 := row_keep hb1 hB0); clear hb1))
      | (have _t := tok_hA0; with_reducible refine wpList_storeN rfl _ _ _ rfl rfl rfl size24r ?_; intro w1 hA0 hb1; replace hbel := hbel.trans (hb1.mono hbel.size); clear hb1 _t tok_hA0)
      | (have _t := tok_hB0; with_reducible refine wpList_storeN rfl _ _ _ rfl rfl rfl size24r ?_; intro w1 hB0 hb1; replace hbel := hbel.trans (hb1.mono hbel.size); replace hA0 := row_keep hb1 hA0; clear hb1 _t tok_hB0)
      | (with_reducible refine wpList_loadWG rfl _ _ rfl _ rfl hA0 agg24r size24r ?_)
      | (with_reducible refine wpList_loadWG rfl _ _ rfl _ rfl hB0 agg24r size24r ?_)
    go_ret
    exact ⟨rfl, hbel⟩
  · have hb' : (1048576 : Int) < (s.size : Int) := by omega
    go_enter Tryd.func3, Tryd.ntmps3
    go_wp2
    go_ret
    exact ⟨rfl, hbel⟩
end Go.Proofs.YtlbgmkengkgnfaaDoor
