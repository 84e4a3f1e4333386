/- The candidate with a rank: walks. -/
import Derived.Test.YtbiplciklmagoaaCand
import Derived.Test.YtbiplciklmagoaaPut
import Derived.Test.YtbiplciklmagoaaViewOf
namespace Go.Proofs.Ytbiplciklmagoaa
set_option linter.unusedSimpArgs false
set_option linter.unusedVariables false
set_option maxRecDepth 20000
open Go.RowKit
theorem cdT_zero {v : Nat → Int} {n : Nat} {s : CdS} (h : v (6 + n) = 0) : cdT v n s = s := if_pos h
theorem cdT_pos {v : Nat → Int} {n m : Nat} {s : CdS} (h : v (6 + n) = ((m + 1 : Nat) : Int)) : cdT v n s = ⟨(cdK n s m).l, (cdK n s m).r, upd (cdK n s m).F (n * 4 + m) (v n)⟩ := by
  have e : (v (6 + n) - 1).toNat = m := by omega
  unfold cdT
  rw [if_neg (by omega), e]
theorem cdK_I {v : Nat → Int} (hv : ∀ i, i < 6 → vok v i) {n m k : Nat} {s : CdS} (hn : n < 6) (hI : CdI s (hrem v n)) (h : v (6 + n) = ((m + 1 : Nat) : Int)) (hk : k ≤ m) : CdI (cdK n s k) (hrem v (n + 1) + (m - k)) := by
  refine CdI.steps n k ?_
  have := hrem_step hv hn (by omega)
  rw [show hrem v (n + 1) + (m - k) + k = hrem v n by omega]
  exact hI
set_option maxHeartbeats 2000000 in
theorem l7Made_any (v : Nat → Int) (hx : ∀ j, I64 (v j)) (hf : viewB v = true) (r : Nat) (hr : r < mul (lfN v) 6) (w : World) : Calls Try.prog 61 #[.agg (arr 18 v), .int .i64 r] w fun e w' => e = .returned (.agg (arr 24 (candR v r))) ∧ Below w.heap.size w w' := by
  have h1 : ((w.alloc (.cells (arr 18 v) 48)).alloc (.cells (arr 24 fun _ => 0) 28)).heap[w.heap.size]? = some (.cells (arr 18 v) 48 (0, 0)) := by rw [heap_old (by simp), heap_new rfl]
  have h2 : ((w.alloc (.cells (arr 18 v) 48)).alloc (.cells (arr 24 fun _ => 0) 28)).heap[w.heap.size + 1]? = some (.cells (arr 24 fun _ => 0) 28 (0, 0)) := heap_new (by simp)
  have hbel : Below w.heap.size w ((w.alloc (.cells (arr 18 v) 48)).alloc (.cells (arr 24 fun _ => 0) 28)) := ((Below.refl _ _).alloc (by simp) _).alloc (by simp) _
  have hz2 : w.heap.size + 1 < ((w.alloc (.cells (arr 18 v) 48)).alloc (.cells (arr 24 fun _ => 0) 28)).heap.size := by simp
  have HV : Hid (∀ i, i < 6 → vok v i) := (viewB_iff.1 hf).1
  have HX : Hid _ := lfN_lft hx hf
  have HI : Hid (∀ n, n ≤ 6 → CdI (cdR v (cd0 v r) n) (hrem v n)) := CdI.tubes (viewB_iff.1 hf).1 (cd_start hx hf hr)
  have HM : Hid (∀ n, n ≤ 6 → hrem v n ≤ 18) := fun n hn => by
    have a := hsum_mono (viewB_iff.1 hf).1 0 n (by omega) hn
    have b := (lfN_lft hx hf).2.2.2
    have c : hsum v 0 = 0 := rfl
    unfold hrem at *
    omega
  have tok_r : True := trivial
  have tok_a : True := trivial
  have tok_b : True := trivial
  go_enter Try.func61, Try.ntmps61
  go_wp2_with first
    | (with_reducible refine wpList_build0 rfl 28 rfl 24 zbuild24 ?_)
    | (have _t := tok_r; (with_reducible refine wpList_allocA rfl 28 rfl 24 zero24r ?_; (try simp only [size_al])); clear _t tok_r)
    | (have _t := tok_a; with_reducible refine wpList_allocN rfl 28 rfl 24 zero24r ?_; intro B3 w1 hB3 h3 hb1; have hL3 := Nat.lt_of_lt_of_le hz2 hB3; replace hbel := hbel.trans (hb1.mono hbel.size); replace h1 := row_keep hb1 h1; replace h2 := row_keep hb1 h2; clear hb1 _t tok_a)
    | (with_reducible refine wpList_storeWN rfl _ _ _ rfl _ rfl rfl h3 size24r hbel (by omega) ?_; intro w1 g3 ho g4; replace h1 := (ho _ (by omega)).trans h1; replace h2 := (ho _ (by omega)).trans h2; clear h3 hbel; have h3 := g3; have hbel := g4; clear g3 g4 ho)
    | (with_reducible refine wpList_loadW rfl _ _ rfl _ rfl h1 agg18r size18r ?_)
    | (go_at_call 93; (with_reducible refine (l7Hidden_any v HV.out _).mono ?_); rintro e w1 ⟨rfl, hb1⟩; replace hbel := hbel.trans (hb1.mono hbel.size); replace h1 := row_keep hb1 h1; replace h2 := row_keep hb1 h2; replace h3 := row_keep hb1 h3; clear hb1)
    | (have _t := tok_b; with_reducible refine wpList_allocN rfl 43 rfl 6 v6z ?_; intro B4 w1 hB4 h4 hb1; have hL4 := Nat.lt_of_lt_of_le (row_lt h3) hB4; replace hbel := hbel.trans (hb1.mono hbel.size); replace h1 := row_keep hb1 h1; replace h2 := row_keep hb1 h2; replace h3 := row_keep hb1 h3; clear hb1 _t tok_b)
    | (with_reducible refine wpList_storeWN rfl _ _ _ rfl _ rfl rfl h4 v6s hbel (by omega) ?_; intro w1 g3 ho g4; replace h1 := (ho _ (by omega)).trans h1; replace h2 := (ho _ (by omega)).trans h2; replace h3 := (ho _ (by omega)).trans h3; clear h4 hbel; have h4 := g3; have hbel := g4; clear g3 g4 ho)
  rw [HX.out.1] at h4
  go_loopw [1, 8] (fun rk i wr => ∃ n : Nat, n ≤ 6 ∧ i = .int .i64 n ∧ rk = .int .i64 ((cdR v (cd0 v r) n).r : Nat) ∧ wr.heap[w.heap.size]? = some (.cells (arr 18 v) 48 (0, 0)) ∧ wr.heap[w.heap.size + 1]? = some (.cells (arr 24 fun _ => 0) 28 (0, 0)) ∧
    wr.heap[B3]? = some (.cells (arr 24 (cdR v (cd0 v r) n).F) 28 (0, 0)) ∧ wr.heap[B4]? = some (.cells (arr 6 (nf (cdR v (cd0 v r) n).l)) 43 (0, 0)) ∧ Below w.heap.size w wr) (fun _ i _ => 6 - (intOf i).toNat)
  case atStart => exact ⟨0, by omega, rfl, rfl, h1, h2, h3, h4, hbel⟩
  case round =>
    clear h1 h2 h3 h4 hbel
    obtain ⟨n, hn, rfl, rfl, h1, h2, h3, h4, hbel⟩ := hrel
    by_cases hlt : n < 6
    · have hlt' : (n : Int) < 6 := by omega
      obtain ⟨S, hS⟩ : ∃ S, cdR v (cd0 v r) n = S := ⟨_, rfl⟩
      have HSI : Hid _ := HI.out n hn
      have HSM := HM.out n hn
      rw [hS] at HSI h3 h4 ⊢
      have HNX : Hid (cdR v (cd0 v r) (n + 1) = cdT v n S) := by show cdR v (cd0 v r) (n + 1) = _; rw [cdR, hS]
      have hvk := HV.out n hlt
      obtain ⟨⟨hm0, hm4⟩, ⟨ht0, ht5⟩, hvz⟩ := hvk
      clear hS
      by_cases h0 : v (6 + n) = 0
      · have HZ : Hid _ := h0
        have HSZ : Hid (cdR v (cd0 v r) (n + 1) = S ∧ hrem v (n + 1) = hrem v n) := ⟨by rw [HNX.out, cdT_zero h0], hrem_zero h0⟩
        clear h0 ht0 ht5 hvz hm4
        go_wp2_with fail
        obtain ⟨wo, hwo⟩ : ∃ wo : World, wo = wr := ⟨_, rfl⟩
        rw [← hwo] at h1 h2 h3 h4 hbel
        go_loopw [1, 9] (fun rk i wq => i = .int .i64 0 ∧ rk = .int .i64 (S.r : Nat) ∧ wq.heap[w.heap.size]? = some (.cells (arr 18 v) 48 (0, 0)) ∧ wq.heap[w.heap.size + 1]? = some (.cells (arr 24 fun _ => 0) 28 (0, 0)) ∧ wq.heap[B3]? = some (.cells (arr 24 S.F) 28 (0, 0)) ∧ wq.heap[B4]? = some (.cells (arr 6 (nf S.l)) 43 (0, 0)) ∧ Below w.heap.size w wq) (fun _ i _ => 0)
        case atStart => exact ⟨rfl, rfl, hwo ▸ h1, hwo ▸ h2, hwo ▸ h3, hwo ▸ h4, hwo ▸ hbel⟩
        case round =>
          clear h1 h2 h3 h4 hbel hwo
          obtain ⟨rfl, rfl, h1, h2, h3, h4, hbel⟩ := hrel
          go_wp2_with first
            | ((with_reducible refine wpList_loadI rfl _ _ rfl _ _ rfl h1 aggI undI (by omega) ?_); rw [HZ.out])
          go_roundw
          case rel => exact ⟨n + 1, by omega, by go_num, by rw [HSZ.out.1], h1, h2, by rw [HSZ.out.1]; exact h3, by rw [HSZ.out.1]; exact h4, hbel⟩
          case measure => simp [intOf]; omega
      · obtain ⟨m, hm⟩ : ∃ m : Nat, v (6 + n) = ((m + 1 : Nat) : Int) := ⟨(v (6 + n) - 1).toNat, by omega⟩
        have hm3 : m ≤ 3 := by omega
        have HM1 : Hid (v (6 + n) = (m : Int) + 1) := by show _ = _; omega
        have HCT : Hid _ := cdT_pos (s := S) hm
        have HKI : Hid (∀ k, k ≤ m → CdI (cdK n S k) (hrem v (n + 1) + (m - k))) := fun k hk => cdK_I HV.out hlt HSI.out hm hk
        have HM0 : Hid (hrem v (n + 1) + m ≤ 18) := by have := hrem_step HV.out hlt h0; rw [hm] at this; show _ ≤ _; omega
        clear hm h0 ht0 ht5 hvz hm4
        go_wp2_with fail
        obtain ⟨wo, hwo⟩ : ∃ wo : World, wo = wr := ⟨_, rfl⟩
        rw [← hwo] at h1 h2 h3 h4 hbel
        go_loopw [1, 9] (fun rk i wq => ∃ k : Nat, k ≤ m ∧ i = .int .i64 k ∧ rk = .int .i64 ((cdK n S k).r : Nat) ∧ wq.heap[w.heap.size]? = some (.cells (arr 18 v) 48 (0, 0)) ∧ wq.heap[w.heap.size + 1]? = some (.cells (arr 24 fun _ => 0) 28 (0, 0)) ∧ wq.heap[B3]? = some (.cells (arr 24 (cdK n S k).F) 28 (0, 0)) ∧ wq.heap[B4]? = some (.cells (arr 6 (nf (cdK n S k).l)) 43 (0, 0)) ∧ Below w.heap.size w wq) (fun _ i _ => 4 - (intOf i).toNat)
        case atStart => exact ⟨0, by omega, rfl, rfl, hwo ▸ h1, hwo ▸ h2, hwo ▸ h3, hwo ▸ h4, hwo ▸ hbel⟩
        case round =>
          clear h1 h2 h3 h4 hbel hwo
          obtain ⟨k, hk, rfl, rfl, h1, h2, h3, h4, hbel⟩ := hrel
          by_cases hkm : k < m
          · have hkm' : (k : Int) < (m : Int) := by omega
            have hk4 : (k : Int) < 4 := by omega
            obtain ⟨S2, hS2⟩ : ∃ S2, cdK n S k = S2 := ⟨_, rfl⟩
            have hI2 := HKI.out k hk
            have hM0 := HM0.out
            rw [hS2] at hI2 h3 h4 ⊢
            have HCK : Hid (cdK n S (k + 1) = cd1 n k S2) := by show cdK n S (k + 1) = _; rw [cdK, hS2]
            have hp := pkc_spec hI2.1 (by rw [hI2.2.1]; omega) hI2.2.2
            have HPS : Hid _ := pkc_some hI2.1 (by rw [hI2.2.1]; omega) hI2.2.2
            obtain ⟨P, hP⟩ : ∃ P, pkc S2.l S2.r = P := ⟨_, rfl⟩
            rw [hP] at hp
            have HP : Hid _ := hP
            have HAP : Hid _ := hp.2.2
            have hp1 := hp.1
            have hp5 := hp.2.1
            have HI2 : Hid _ := hI2
            have hsm : sm S2.l 6 ≤ 18 := by have := hI2.2.1; omega
            have HRB : Hid (S2.r ≤ 101559956668416) := by have := mul_small hsm; have := hI2.2.2; show _ ≤ _; omega
            have HSM2 : Hid _ := hsm
            clear hS2 hI2 hM0 hp hP hsm
            go_wp2_with first
              | ((with_reducible refine wpList_loadI rfl _ _ rfl _ _ rfl h1 aggI undI (by omega) ?_); rw [HM1.out])
            obtain ⟨wo2, hwo2⟩ : ∃ wo2 : World, wo2 = wr := ⟨_, rfl⟩
            rw [← hwo2] at h1 h2 h3 h4 hbel
            go_loopw [1, 10] (fun rk i wp => ∃ c : Nat, 1 ≤ c ∧ c ≤ P ∧ i = .int .i64 c ∧ rk = .int .i64 (S2.r - asc S2.l 6 c : Nat) ∧ wp.heap[w.heap.size]? = some (.cells (arr 18 v) 48 (0, 0)) ∧ wp.heap[w.heap.size + 1]? = some (.cells (arr 24 fun _ => 0) 28 (0, 0)) ∧ wp.heap[B3]? = some (.cells (arr 24 S2.F) 28 (0, 0)) ∧ wp.heap[B4]? = some (.cells (arr 6 (nf S2.l)) 43 (0, 0)) ∧ Below w.heap.size w wp) (fun _ i _ => 6 - (intOf i).toNat)
            case atStart => exact ⟨1, by omega, by omega, rfl, by rw [asc_one HI2.out.1]; rfl, hwo2 ▸ h1, hwo2 ▸ h2, hwo2 ▸ h3, hwo2 ▸ h4, hwo2 ▸ hbel⟩
            case round =>
              clear h1 h2 h3 h4 hbel hwo2
              obtain ⟨c, hc1, hcP, rfl, rfl, h1, h2, h3, h4, hbel⟩ := hrel
              have hc6 : c < 6 := by omega
              have hc6' : (c : Int) < 6 := by omega
              have hrb := HRB.out
              obtain ⟨x, hx2⟩ : ∃ x, S2.l c = x := ⟨_, rfl⟩
              have HXC : Hid (nf S2.l c = (x : Int)) := by show ((S2.l c : Nat) : Int) = _; rw [hx2]
              have hasc : asc S2.l 6 (c + 1) = asc S2.l 6 c + if 0 < S2.l c then mul (dec S2.l c) 6 else 0 := rfl
              rw [hx2] at hasc
              have hle := asc_le S2.l 6 hcP
              have hap := HAP.out
              obtain ⟨q, hq⟩ : ∃ q, S2.r - asc S2.l 6 c = q := ⟨_, rfl⟩
              have hqb : q ≤ 101559956668416 := by omega
              rw [hq]
              by_cases hxz : x = 0
              · subst hxz
                have hne : c ≠ P := fun e => by
                  have := HPS.out.1
                  rw [HP.out, ← e, hx2] at this
                  omega
                have HQ : Hid (S2.r - asc S2.l 6 (c + 1) = q) := by rw [if_neg (by omega)] at hasc; show _ = _; omega
                have hlt0 : ¬ ((q : Int) < 0) := by omega
                clear hasc hle hap hrb hq hx2
                go_wp2_with first
                  | ((with_reducible refine wpList_loadI rfl _ _ rfl _ _ rfl h4 aggI undI (by omega) ?_); rw [HXC.out])
                go_roundw
                case rel => exact ⟨c + 1, by omega, by omega, by go_num, by rw [HQ.out], h1, h2, h3, h4, hbel⟩
                case measure => simp [intOf]; omega
              · have hxp : 0 < S2.l c := by omega
                have hxi : 0 < (x : Int) := by omega
                have hx18 : x ≤ 1000 := by have := (le_of_sm HSM2.out c hc6).2; rw [HXC.out] at this; omega
                have HD := nf_dec hxp hx2
                have HU : Hid (arr 6 (upd (nf (dec S2.l c)) c ((x : Int))) = arr 6 (nf S2.l)) := by have := nf_inc hxp hx2; rwa [show (x : Int) - 1 + 1 = x by omega] at this
                have HD : Hid _ := HD
                have HXD : Hid (nf (dec S2.l c) c = (x : Int) - 1) := by show ((dec S2.l c c : Nat) : Int) = _; rw [dec_self, hx2]; omega
                have hsd : sm (dec S2.l c) 6 ≤ 18 := by rw [sm_dec S2.l c hxp, if_pos hc6]; have := HSM2.out; omega
                have HW : Hid _ := wA_nf hsd 6 (by omega)
                have HLE : Hid _ := le_of_sm hsd
                have HD0 : Hid (nf (dec S2.l c) 0 = 0) := by show ((dec S2.l c 0 : Nat) : Int) = 0; rw [dec_other (by omega), HI2.out.1]; rfl
                obtain ⟨W, hW⟩ : ∃ W, mul (dec S2.l c) 6 = W := ⟨_, rfl⟩
                have hWb : W ≤ 101559956668416 := by have := mul_small hsd; omega
                rw [if_pos (by omega), hW] at hasc
                rw [hW] at HW
                by_cases hcp : c = P
                · subst hcp
                  have hqW : q < W := by rw [hasc] at hap; omega
                  have hqd : (q : Int) < (W : Int) := by omega
                  have HND : Hid (cdK n S (k + 1) = ⟨dec S2.l c, q, upd S2.F (n * 4 + k) c⟩) := by show cdK n S (k + 1) = _; rw [HCK.out]; unfold cd1; rw [HP.out, hq]
                  clear hasc hle hap hrb hq hx2 hW hsd hxp hqW
                  go_wp2_with first
                    | ((with_reducible refine wpList_loadI rfl _ _ rfl _ _ rfl h4 aggI undI (by omega) ?_); first | rw [HXC.out] | rw [HXD.out])
                    | ((with_reducible refine wpList_storePI rfl 3 _ _ rfl _ _ rfl rfl h4 size1 (by omega) hbel (by omega) ?_; intro w1 g3 ho g4; replace h1 := (ho _ (by omega)).trans h1; replace h2 := (ho _ (by omega)).trans h2; replace h3 := (ho _ (by omega)).trans h3; clear h4 hbel; have h4 := g3; have hbel := g4; clear g3 g4 ho); first | rw [HD.out] at h4 | rw [HU.out] at h4)
                    | (with_reducible refine wpList_loadW rfl _ _ rfl _ rfl h4 v6a v6s ?_)
                    | (go_at_call 94; (with_reducible refine (l7Ways_any _ HLE.out HD0.out _).mono ?_); rw [HW.out]; rintro e w1 ⟨rfl, hb1⟩; replace hbel := hbel.trans (hb1.mono hbel.size); replace h1 := row_keep hb1 h1; replace h2 := row_keep hb1 h2; replace h3 := row_keep hb1 h3; replace h4 := row_keep hb1 h4; clear hb1)
                    | (with_reducible refine wpList_storePI rfl 3 _ _ rfl _ _ rfl rfl h3 size1 (by omega) hbel (by omega) ?_; intro w1 g3 ho g4; replace h1 := (ho _ (by omega)).trans h1; replace h2 := (ho _ (by omega)).trans h2; replace h4 := (ho _ (by omega)).trans h4; clear h3 hbel; have h3 := g3; have hbel := g4; clear g3 g4 ho)
                  go_roundw
                  case rel => exact ⟨k + 1, by omega, by go_num, by rw [HND.out], h1, h2, by rw [HND.out]; exact h3, by rw [HND.out]; exact h4, hbel⟩
                  case measure => simp [intOf]; omega
                · have hqW : W ≤ q := by have := asc_le S2.l 6 (show c + 1 ≤ P by omega); omega
                  have hqd : ¬ ((q : Int) < (W : Int)) := by omega
                  have HQ : Hid (((S2.r - asc S2.l 6 (c + 1) : Nat) : Int) = (q : Int) - (W : Int)) := by show _ = _; omega
                  clear hasc hle hap hrb hq hx2 hW hsd hxp hqW
                  go_wp2_with first
                    | ((with_reducible refine wpList_loadI rfl _ _ rfl _ _ rfl h4 aggI undI (by omega) ?_); first | rw [HXC.out] | rw [HXD.out])
                    | ((with_reducible refine wpList_storePI rfl 3 _ _ rfl _ _ rfl rfl h4 size1 (by omega) hbel (by omega) ?_; intro w1 g3 ho g4; replace h1 := (ho _ (by omega)).trans h1; replace h2 := (ho _ (by omega)).trans h2; replace h3 := (ho _ (by omega)).trans h3; clear h4 hbel; have h4 := g3; have hbel := g4; clear g3 g4 ho); first | rw [HD.out] at h4 | rw [HU.out] at h4)
                    | (with_reducible refine wpList_loadW rfl _ _ rfl _ rfl h4 v6a v6s ?_)
                    | (go_at_call 94; (with_reducible refine (l7Ways_any _ HLE.out HD0.out _).mono ?_); rw [HW.out]; rintro e w1 ⟨rfl, hb1⟩; replace hbel := hbel.trans (hb1.mono hbel.size); replace h1 := row_keep hb1 h1; replace h2 := row_keep hb1 h2; replace h3 := row_keep hb1 h3; replace h4 := row_keep hb1 h4; clear hb1)
                  go_roundw
                  case rel => exact ⟨c + 1, by omega, by omega, by go_num, by rw [HQ.out], h1, h2, h3, h4, hbel⟩
                  case measure => simp [intOf]; omega
          · obtain rfl : k = m := by omega
            have HNN : Hid (cdR v (cd0 v r) (n + 1) = ⟨(cdK n S k).l, (cdK n S k).r, upd (cdK n S k).F (n * 4 + k) (v n)⟩) := by show _ = _; rw [HNX.out, HCT.out]
            have hk4 : (k : Int) < 4 := by omega
            have hkp : 0 < (k : Int) + 1 := by omega
            go_wp2_with first
              | ((with_reducible refine wpList_loadI rfl _ _ rfl _ _ rfl h1 aggI undI (by omega) ?_); rw [HM1.out])
            have hw1 : IntKind.i64.wrap (k : Int) = (k : Int) := wrapN (by omega) (by omega)
            refine wp_region_held 13 (Cls wr []) (by kernel_rfl) (by kernel_rfl) (Cls.zero (Below.refl _ _)) ?_; simp only [List.take_succ_cons, List.take_zero, List.drop_succ_cons, List.drop_zero]
            repeat (first
              | ((with_reducible refine wpQuiet_loadI rfl _ _ rfl _ _ rfl (fun _ h => h.kp h1) aggI undI (by omega) ?_); first | rw [HM1.out] | skip)
              | ((with_reducible refine wpQuiet_step (fun K hK => ?_)); go_simp; (first | (refine ⟨_, fun _ _ => rfl, hK _ ?_⟩) | (refine ⟨_, fun _ _ => ⟨rfl, rfl⟩, hK _ ?_⟩) | (refine hK _ ?_)); clear hK K))
            refine wpQuiet_nil ?_; intro wt hCt; replace hCt := hCt.2; replace hbel := hbel.trans (hCt.mono hbel.size); replace h1 := row_keep hCt h1; replace h2 := row_keep hCt h2; replace h3 := row_keep hCt h3; replace h4 := row_keep hCt h4; clear hCt
            clear hw1
            go_wp2_with first
              | (with_reducible refine wpList_storePI rfl 3 _ _ rfl _ _ rfl rfl h3 size1 (by omega) hbel (by omega) ?_; intro w1 g3 ho g4; replace h1 := (ho _ (by omega)).trans h1; replace h2 := (ho _ (by omega)).trans h2; replace h4 := (ho _ (by omega)).trans h4; clear h3 hbel; have h3 := g3; have hbel := g4; clear g3 g4 ho)
            go_roundw
            case rel => exact ⟨n + 1, by omega, by go_num, by rw [HNN.out], h1, h2, by rw [HNN.out]; exact h3, by rw [HNN.out]; exact h4, hbel⟩
            case measure => simp [intOf]; omega
    · obtain rfl : n = 6 := by omega
      go_wp2_with first
        | (with_reducible refine wpList_loadW rfl _ _ rfl _ rfl h3 agg24r size24r ?_)
        | (with_reducible refine wpList_storeW rfl _ _ _ rfl _ rfl rfl h2 size24r ?_)
      refine bodyPost_ret_by (results_cellA rfl _ _ _ _ _ _ _ rfl (setRow_heap _ _ _ _ _ _ h2) agg24r size24r) rfl ⟨rfl, below_setRow2 hbel (by omega) _⟩
set_option maxHeartbeats 2000000 in
theorem candidate_any (v : Nat → Int) (hx : ∀ j, I64 (v j)) (hf : viewB v = true) (r : Nat) (hr : r < mul (lfN v) 6) (w : World) : Calls Try.prog 78 #[.agg (arr 18 v), .int .i64 r] w fun e w' => e = .returned (.agg (arr 24 (candR v r))) ∧ Below w.heap.size w w' := by
  have h1 : ((w.alloc (.cells (arr 18 v) 48)).alloc (.cells (arr 24 fun _ => 0) 28)).heap[w.heap.size]? = some (.cells (arr 18 v) 48 (0, 0)) := by rw [heap_old (by simp), heap_new rfl]
  have h2 : ((w.alloc (.cells (arr 18 v) 48)).alloc (.cells (arr 24 fun _ => 0) 28)).heap[w.heap.size + 1]? = some (.cells (arr 24 fun _ => 0) 28 (0, 0)) := heap_new (by simp)
  have hbel : Below w.heap.size w ((w.alloc (.cells (arr 18 v) 48)).alloc (.cells (arr 24 fun _ => 0) 28)) := ((Below.refl _ _).alloc (by simp) _).alloc (by simp) _
  have hz2 : w.heap.size + 1 < ((w.alloc (.cells (arr 18 v) 48)).alloc (.cells (arr 24 fun _ => 0) 28)).heap.size := by simp
  have HV : Hid (∀ i, i < 6 → vok v i) := (viewB_iff.1 hf).1
  have HX : Hid _ := lfN_lft hx hf
  have HI : Hid (∀ n, n ≤ 6 → CdI (cdR v (cd0 v r) n) (hrem v n)) := CdI.tubes (viewB_iff.1 hf).1 (cd_start hx hf hr)
  have HM : Hid (∀ n, n ≤ 6 → hrem v n ≤ 18) := fun n hn => by
    have a := hsum_mono (viewB_iff.1 hf).1 0 n (by omega) hn
    have b := (lfN_lft hx hf).2.2.2
    have c : hsum v 0 = 0 := rfl
    unfold hrem at *
    omega
  have tok_r : True := trivial
  have tok_a : True := trivial
  have tok_b : True := trivial
  go_enter Try.func78, Try.ntmps78
  go_wp2_with first
    | (have _t := tok_r; (with_reducible refine wpList_allocA rfl 28 rfl 24 zero24r ?_; (try simp only [size_al])); clear _t tok_r)
    | (with_reducible refine wpList_loadW rfl _ _ rfl _ rfl h1 agg18r size18r ?_)
    | (with_reducible refine wpList_loadA rfl _ _ rfl _ _ rfl h1 6 v6a v6s (by omega) ?_)
    | (go_at_call 77; (with_reducible refine (hidden_any v HV.out _).mono ?_); rintro e w1 ⟨rfl, hb1⟩; replace hbel := hbel.trans (hb1.mono hbel.size); replace h1 := row_keep hb1 h1; replace h2 := row_keep hb1 h2; clear hb1)
    | (have _t := tok_b; with_reducible refine wpList_allocN rfl 43 rfl 6 v6z ?_; intro B4 w1 hB4 h4 hb1; have hL4 := Nat.lt_of_lt_of_le (row_lt h2) hB4; replace hbel := hbel.trans (hb1.mono hbel.size); replace h1 := row_keep hb1 h1; replace h2 := row_keep hb1 h2; clear hb1 _t tok_b)
    | (with_reducible refine wpList_storeWN rfl _ _ _ rfl _ rfl rfl h4 v6s hbel (by omega) ?_; intro w1 g3 ho g4; replace h1 := (ho _ (by omega)).trans h1; replace h2 := (ho _ (by omega)).trans h2; clear h4 hbel; have h4 := g3; have hbel := g4; clear g3 g4 ho)
    | (have _t := tok_a; with_reducible refine wpList_allocN rfl 28 rfl 24 zero24r ?_; intro B3 w1 hB3 h3 hb1; have hL3 := Nat.lt_of_lt_of_le (row_lt h4) hB3; replace hbel := hbel.trans (hb1.mono hbel.size); replace h1 := row_keep hb1 h1; replace h2 := row_keep hb1 h2; replace h4 := row_keep hb1 h4; clear hb1 _t tok_a)
  rw [HX.out.1] at h4
  go_loopw [1, 16] (fun rk i wr => ∃ n : Nat, n ≤ 6 ∧ i = .int .i64 n ∧ rk = .int .i64 ((cdR v (cd0 v r) n).r : Nat) ∧ wr.heap[w.heap.size]? = some (.cells (arr 18 v) 48 (0, 0)) ∧ wr.heap[w.heap.size + 1]? = some (.cells (arr 24 fun _ => 0) 28 (0, 0)) ∧
    wr.heap[B3]? = some (.cells (arr 24 (cdR v (cd0 v r) n).F) 28 (0, 0)) ∧ wr.heap[B4]? = some (.cells (arr 6 (nf (cdR v (cd0 v r) n).l)) 43 (0, 0)) ∧ Below w.heap.size w wr) (fun _ i _ => 6 - (intOf i).toNat)
  case atStart => exact ⟨0, by omega, rfl, rfl, h1, h2, h3, h4, hbel⟩
  case round =>
    clear h1 h2 h3 h4 hbel
    obtain ⟨n, hn, rfl, rfl, h1, h2, h3, h4, hbel⟩ := hrel
    by_cases hlt : n < 6
    · have hlt' : (n : Int) < 6 := by omega
      obtain ⟨S, hS⟩ : ∃ S, cdR v (cd0 v r) n = S := ⟨_, rfl⟩
      have HSI : Hid _ := HI.out n hn
      have HSM := HM.out n hn
      rw [hS] at HSI h3 h4 ⊢
      have HNX : Hid (cdR v (cd0 v r) (n + 1) = cdT v n S) := by show cdR v (cd0 v r) (n + 1) = _; rw [cdR, hS]
      have hvk := HV.out n hlt
      obtain ⟨⟨hm0, hm4⟩, ⟨ht0, ht5⟩, hvz⟩ := hvk
      clear hS
      by_cases h0 : v (6 + n) = 0
      · have HZ : Hid _ := h0
        have HSZ : Hid (cdR v (cd0 v r) (n + 1) = S ∧ hrem v (n + 1) = hrem v n) := ⟨by rw [HNX.out, cdT_zero h0], hrem_zero h0⟩
        clear h0 ht0 ht5 hvz hm4
        go_wp2_with first
          | ((with_reducible refine wpList_indexI rfl _ _ _ rfl rfl rfl _ Try.underlying43 aggI undI size1 hlt ?_); rw [HZ.out])
        obtain ⟨wo, hwo⟩ : ∃ wo : World, wo = wr := ⟨_, rfl⟩
        rw [← hwo] at h1 h2 h3 h4 hbel
        go_loopw [1, 22] (fun rk i wq => i = .int .i64 0 ∧ rk = .int .i64 (S.r : Nat) ∧ wq.heap[w.heap.size]? = some (.cells (arr 18 v) 48 (0, 0)) ∧ wq.heap[w.heap.size + 1]? = some (.cells (arr 24 fun _ => 0) 28 (0, 0)) ∧ wq.heap[B3]? = some (.cells (arr 24 S.F) 28 (0, 0)) ∧ wq.heap[B4]? = some (.cells (arr 6 (nf S.l)) 43 (0, 0)) ∧ Below w.heap.size w wq) (fun _ i _ => 0)
        case atStart => exact ⟨rfl, rfl, hwo ▸ h1, hwo ▸ h2, hwo ▸ h3, hwo ▸ h4, hwo ▸ hbel⟩
        case round =>
          clear h1 h2 h3 h4 hbel hwo
          obtain ⟨rfl, rfl, h1, h2, h3, h4, hbel⟩ := hrel
          go_wp2_with fail
          go_roundw
          case rel => exact ⟨n + 1, by omega, by go_num, by rw [HSZ.out.1], h1, h2, by rw [HSZ.out.1]; exact h3, by rw [HSZ.out.1]; exact h4, hbel⟩
          case measure => simp [intOf]; omega
      · obtain ⟨m, hm⟩ : ∃ m : Nat, v (6 + n) = ((m + 1 : Nat) : Int) := ⟨(v (6 + n) - 1).toNat, by omega⟩
        have hm3 : m ≤ 3 := by omega
        have HM1 : Hid (v (6 + n) = (m : Int) + 1) := by show _ = _; omega
        have HCT : Hid _ := cdT_pos (s := S) hm
        have HKI : Hid (∀ k, k ≤ m → CdI (cdK n S k) (hrem v (n + 1) + (m - k))) := fun k hk => cdK_I HV.out hlt HSI.out hm hk
        have HM0 : Hid (hrem v (n + 1) + m ≤ 18) := by have := hrem_step HV.out hlt h0; rw [hm] at this; show _ ≤ _; omega
        clear hm h0 ht0 ht5 hvz hm4
        go_wp2_with first
          | ((with_reducible refine wpList_indexI rfl _ _ _ rfl rfl rfl _ Try.underlying43 aggI undI size1 hlt ?_); rw [HM1.out])
        obtain ⟨wo, hwo⟩ : ∃ wo : World, wo = wr := ⟨_, rfl⟩
        rw [← hwo] at h1 h2 h3 h4 hbel
        go_loopw [1, 22] (fun rk i wq => ∃ k : Nat, k ≤ m ∧ i = .int .i64 k ∧ rk = .int .i64 ((cdK n S k).r : Nat) ∧ wq.heap[w.heap.size]? = some (.cells (arr 18 v) 48 (0, 0)) ∧ wq.heap[w.heap.size + 1]? = some (.cells (arr 24 fun _ => 0) 28 (0, 0)) ∧ wq.heap[B3]? = some (.cells (arr 24 (cdK n S k).F) 28 (0, 0)) ∧ wq.heap[B4]? = some (.cells (arr 6 (nf (cdK n S k).l)) 43 (0, 0)) ∧ Below w.heap.size w wq) (fun _ i _ => 4 - (intOf i).toNat)
        case atStart => exact ⟨0, by omega, rfl, rfl, hwo ▸ h1, hwo ▸ h2, hwo ▸ h3, hwo ▸ h4, hwo ▸ hbel⟩
        case round =>
          clear h1 h2 h3 h4 hbel hwo
          obtain ⟨k, hk, rfl, rfl, h1, h2, h3, h4, hbel⟩ := hrel
          by_cases hkm : k < m
          · have hkm' : (k : Int) < (m : Int) := by omega
            have hk4 : (k : Int) < 4 := by omega
            obtain ⟨S2, hS2⟩ : ∃ S2, cdK n S k = S2 := ⟨_, rfl⟩
            have hI2 := HKI.out k hk
            have hM0 := HM0.out
            rw [hS2] at hI2 h3 h4 ⊢
            have HCK : Hid (cdK n S (k + 1) = cd1 n k S2) := by show cdK n S (k + 1) = _; rw [cdK, hS2]
            have hp := pkc_spec hI2.1 (by rw [hI2.2.1]; omega) hI2.2.2
            have HPS : Hid _ := pkc_some hI2.1 (by rw [hI2.2.1]; omega) hI2.2.2
            obtain ⟨P, hP⟩ : ∃ P, pkc S2.l S2.r = P := ⟨_, rfl⟩
            rw [hP] at hp
            have HP : Hid _ := hP
            have HAP : Hid _ := hp.2.2
            have hp1 := hp.1
            have hp5 := hp.2.1
            have HI2 : Hid _ := hI2
            have hsm : sm S2.l 6 ≤ 18 := by have := hI2.2.1; omega
            have HRB : Hid (S2.r ≤ 101559956668416) := by have := mul_small hsm; have := hI2.2.2; show _ ≤ _; omega
            have HSM2 : Hid _ := hsm
            clear hS2 hI2 hM0 hp hP hsm
            go_wp2_with fail
            obtain ⟨wo2, hwo2⟩ : ∃ wo2 : World, wo2 = wr := ⟨_, rfl⟩
            rw [← hwo2] at h1 h2 h3 h4 hbel
            go_loopw [1, 10] (fun rk i wp => ∃ c : Nat, 1 ≤ c ∧ c ≤ P ∧ i = .int .i64 c ∧ rk = .int .i64 (S2.r - asc S2.l 6 c : Nat) ∧ wp.heap[w.heap.size]? = some (.cells (arr 18 v) 48 (0, 0)) ∧ wp.heap[w.heap.size + 1]? = some (.cells (arr 24 fun _ => 0) 28 (0, 0)) ∧ wp.heap[B3]? = some (.cells (arr 24 S2.F) 28 (0, 0)) ∧ wp.heap[B4]? = some (.cells (arr 6 (nf S2.l)) 43 (0, 0)) ∧ Below w.heap.size w wp) (fun _ i _ => 6 - (intOf i).toNat)
            case atStart => exact ⟨1, by omega, by omega, rfl, by rw [asc_one HI2.out.1]; rfl, hwo2 ▸ h1, hwo2 ▸ h2, hwo2 ▸ h3, hwo2 ▸ h4, hwo2 ▸ hbel⟩
            case round =>
              clear h1 h2 h3 h4 hbel hwo2
              obtain ⟨c, hc1, hcP, rfl, rfl, h1, h2, h3, h4, hbel⟩ := hrel
              have hc6 : c < 6 := by omega
              have hc6' : (c : Int) < 6 := by omega
              have hc5' : (c : Int) ≤ 5 := by omega
              have hrb := HRB.out
              obtain ⟨x, hx2⟩ : ∃ x, S2.l c = x := ⟨_, rfl⟩
              have HXC : Hid (nf S2.l c = (x : Int)) := by show ((S2.l c : Nat) : Int) = _; rw [hx2]
              have hasc : asc S2.l 6 (c + 1) = asc S2.l 6 c + if 0 < S2.l c then mul (dec S2.l c) 6 else 0 := rfl
              rw [hx2] at hasc
              have hle := asc_le S2.l 6 hcP
              have hap := HAP.out
              obtain ⟨q, hq⟩ : ∃ q, S2.r - asc S2.l 6 c = q := ⟨_, rfl⟩
              have hqb : q ≤ 101559956668416 := by omega
              rw [hq]
              by_cases hxz : x = 0
              · subst hxz
                have hne : c ≠ P := fun e => by
                  have := HPS.out.1
                  rw [HP.out, ← e, hx2] at this
                  omega
                have HQ : Hid (S2.r - asc S2.l 6 (c + 1) = q) := by rw [if_neg (by omega)] at hasc; show _ = _; omega
                have hxz : ((((0 : Nat) : Int)) == 0) = true := rfl
                clear hasc hle hap hrb hq hx2
                go_wp2_with first
                  | ((with_reducible refine wpList_loadI rfl _ _ rfl _ _ rfl h4 aggI undI (by omega) ?_); rw [HXC.out])
                go_roundw
                case rel => exact ⟨c + 1, by omega, by omega, by go_num, by rw [HQ.out], h1, h2, h3, h4, hbel⟩
                case measure => simp [intOf]; omega
              · have hxp : 0 < S2.l c := by omega
                have hxi : ((x : Int) == 0) = false := by simp; omega
                have hxi2 : 0 < (x : Int) := by omega
                have hx18 : x ≤ 1000 := by have := (le_of_sm HSM2.out c hc6).2; rw [HXC.out] at this; omega
                have HD := nf_dec hxp hx2
                have HU : Hid (arr 6 (upd (nf (dec S2.l c)) c ((x : Int))) = arr 6 (nf S2.l)) := by have := nf_inc hxp hx2; rwa [show (x : Int) - 1 + 1 = x by omega] at this
                have HD : Hid _ := HD
                have HXD : Hid (nf (dec S2.l c) c = (x : Int) - 1) := by show ((dec S2.l c c : Nat) : Int) = _; rw [dec_self, hx2]; omega
                have hsd : sm (dec S2.l c) 6 ≤ 18 := by rw [sm_dec S2.l c hxp, if_pos hc6]; have := HSM2.out; omega
                have HW : Hid _ := wA_nf hsd 6 (by omega)
                have HLE : Hid _ := le_of_sm hsd
                have HD0 : Hid (nf (dec S2.l c) 0 = 0) := by show ((dec S2.l c 0 : Nat) : Int) = 0; rw [dec_other (by omega), HI2.out.1]; rfl
                obtain ⟨W, hW⟩ : ∃ W, mul (dec S2.l c) 6 = W := ⟨_, rfl⟩
                have hWb : W ≤ 101559956668416 := by have := mul_small hsd; omega
                rw [if_pos (by omega), hW] at hasc
                rw [hW] at HW
                by_cases hcp : c = P
                · subst hcp
                  have hqW : q < W := by rw [hasc] at hap; omega
                  have hqd : (q : Int) < (W : Int) := by omega
                  have HND : Hid (cdK n S (k + 1) = ⟨dec S2.l c, q, upd S2.F (n * 4 + k) c⟩) := by show cdK n S (k + 1) = _; rw [HCK.out]; unfold cd1; rw [HP.out, hq]
                  clear hasc hle hap hrb hq hx2 hW hsd hxp hqW
                  go_wp2_with first
                    | ((with_reducible refine wpList_loadI rfl _ _ rfl _ _ rfl h4 aggI undI (by omega) ?_); first | rw [HXC.out] | rw [HXD.out])
                    | ((with_reducible refine wpList_storePI rfl 3 _ _ rfl _ _ rfl rfl h4 size1 (by omega) hbel (by omega) ?_; intro w1 g3 ho g4; replace h1 := (ho _ (by omega)).trans h1; replace h2 := (ho _ (by omega)).trans h2; replace h3 := (ho _ (by omega)).trans h3; clear h4 hbel; have h4 := g3; have hbel := g4; clear g3 g4 ho); first | rw [HD.out] at h4 | rw [HU.out] at h4)
                    | (with_reducible refine wpList_loadW rfl _ _ rfl _ rfl h4 v6a v6s ?_)
                    | (go_at_call 76; (with_reducible refine (arrangements_any _ HLE.out _).mono ?_); rw [HW.out]; rintro e w1 ⟨rfl, hb1⟩; replace hbel := hbel.trans (hb1.mono hbel.size); replace h1 := row_keep hb1 h1; replace h2 := row_keep hb1 h2; replace h3 := row_keep hb1 h3; replace h4 := row_keep hb1 h4; clear hb1)
                    | (with_reducible refine wpList_storePI rfl 3 _ _ rfl _ _ rfl rfl h3 size1 (by omega) hbel (by omega) ?_; intro w1 g3 ho g4; replace h1 := (ho _ (by omega)).trans h1; replace h2 := (ho _ (by omega)).trans h2; replace h4 := (ho _ (by omega)).trans h4; clear h3 hbel; have h3 := g3; have hbel := g4; clear g3 g4 ho)
                  go_roundw
                  case rel => exact ⟨k + 1, by omega, by go_num, by rw [HND.out], h1, h2, by rw [HND.out]; exact h3, by rw [HND.out]; exact h4, hbel⟩
                  case measure => simp [intOf]; omega
                · have hqW : W ≤ q := by have := asc_le S2.l 6 (show c + 1 ≤ P by omega); omega
                  have hqd : ¬ ((q : Int) < (W : Int)) := by omega
                  have HQ : Hid (((S2.r - asc S2.l 6 (c + 1) : Nat) : Int) = (q : Int) - (W : Int)) := by show _ = _; omega
                  clear hasc hle hap hrb hq hx2 hW hsd hxp hqW
                  go_wp2_with first
                    | ((with_reducible refine wpList_loadI rfl _ _ rfl _ _ rfl h4 aggI undI (by omega) ?_); first | rw [HXC.out] | rw [HXD.out])
                    | ((with_reducible refine wpList_storePI rfl 3 _ _ rfl _ _ rfl rfl h4 size1 (by omega) hbel (by omega) ?_; intro w1 g3 ho g4; replace h1 := (ho _ (by omega)).trans h1; replace h2 := (ho _ (by omega)).trans h2; replace h3 := (ho _ (by omega)).trans h3; clear h4 hbel; have h4 := g3; have hbel := g4; clear g3 g4 ho); first | rw [HD.out] at h4 | rw [HU.out] at h4)
                    | (with_reducible refine wpList_loadW rfl _ _ rfl _ rfl h4 v6a v6s ?_)
                    | (go_at_call 76; (with_reducible refine (arrangements_any _ HLE.out _).mono ?_); rw [HW.out]; rintro e w1 ⟨rfl, hb1⟩; replace hbel := hbel.trans (hb1.mono hbel.size); replace h1 := row_keep hb1 h1; replace h2 := row_keep hb1 h2; replace h3 := row_keep hb1 h3; replace h4 := row_keep hb1 h4; clear hb1)
                  go_roundw
                  case rel => exact ⟨c + 1, by omega, by omega, by go_num, by rw [HQ.out], h1, h2, h3, h4, hbel⟩
                  case measure => simp [intOf]; omega
          · obtain rfl : k = m := by omega
            have HNN : Hid (cdR v (cd0 v r) (n + 1) = ⟨(cdK n S k).l, (cdK n S k).r, upd (cdK n S k).F (n * 4 + k) (v n)⟩) := by show _ = _; rw [HNX.out, HCT.out]
            have hk4 : (k : Int) < 4 := by omega
            have hkp : 0 < (k : Int) + 1 := by omega
            go_wp2_with fail
            have hw1 : IntKind.i64.wrap (k : Int) = (k : Int) := wrapN (by omega) (by omega)
            refine wp_region_held 10 (Cls wr []) (by kernel_rfl) (by kernel_rfl) (Cls.zero (Below.refl _ _)) ?_; simp only [List.take_succ_cons, List.take_zero, List.drop_succ_cons, List.drop_zero]
            repeat (first
              | ((with_reducible refine wpQuiet_loadI rfl _ _ rfl _ _ rfl (fun _ h => h.kp h1) aggI undI (by omega) ?_); first | rw [HM1.out] | skip)
              | ((with_reducible refine wpQuiet_step (fun K hK => ?_)); go_simp; (first | (refine ⟨_, fun _ _ => rfl, hK _ ?_⟩) | (refine ⟨_, fun _ _ => ⟨rfl, rfl⟩, hK _ ?_⟩) | (refine hK _ ?_)); clear hK K))
            refine wpQuiet_nil ?_; intro wt hCt; replace hCt := hCt.2; replace hbel := hbel.trans (hCt.mono hbel.size); replace h1 := row_keep hCt h1; replace h2 := row_keep hCt h2; replace h3 := row_keep hCt h3; replace h4 := row_keep hCt h4; clear hCt
            clear hw1
            go_wp2_with first
              | (with_reducible refine wpList_storePI rfl 3 _ _ rfl _ _ rfl rfl h3 size1 (by omega) hbel (by omega) ?_; intro w1 g3 ho g4; replace h1 := (ho _ (by omega)).trans h1; replace h2 := (ho _ (by omega)).trans h2; replace h4 := (ho _ (by omega)).trans h4; clear h3 hbel; have h3 := g3; have hbel := g4; clear g3 g4 ho)
            go_roundw
            case rel => exact ⟨n + 1, by omega, by go_num, by rw [HNN.out], h1, h2, by rw [HNN.out]; exact h3, by rw [HNN.out]; exact h4, hbel⟩
            case measure => simp [intOf]; omega
    · obtain rfl : n = 6 := by omega
      go_wp2_with first
        | (with_reducible refine wpList_loadW rfl _ _ rfl _ rfl h3 agg24r size24r ?_)
        | (with_reducible refine wpList_storeW rfl _ _ _ rfl _ rfl rfl h2 size24r ?_)
      refine bodyPost_ret_by (results_cellA rfl _ _ _ _ _ _ _ rfl (setRow_heap _ _ _ _ _ _ h2) agg24r size24r) rfl ⟨rfl, below_setRow2 hbel (by omega) _⟩
end Go.Proofs.Ytbiplciklmagoaa
