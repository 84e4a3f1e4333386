/- Reading a rack's text: the walks. -/
import Derived.Test.YtlbgmkengkgnfaaDoorPrP
import Derived.Test.YtlbgmkengkgnfaaDoorPut
import Derived.Test.YtlbgmkengkgnfaaDoorFork
namespace Go.Proofs.YtlbgmkengkgnfaaDoor
set_option linter.unusedSimpArgs false
set_option linter.unusedVariables false
set_option maxRecDepth 20000
open Go.RowKit
def sgL (c : Nat) : Int := if c = 0 then 46 else 96 + (c : Int)
theorem sgB_none {b : UInt8} (h : ∀ c, c < 6 → (b.toNat : Int) ≠ sgL c) : sgB b = -1 := by
  have h0 := h 0 (by omega); have h1 := h 1 (by omega); have h2 := h 2 (by omega); have h3 := h 3 (by omega); have h4 := h 4 (by omega); have h5 := h 5 (by omega)
  unfold sgL at *
  simp at h0 h1 h2 h3 h4 h5
  unfold sgB
  rw [if_neg (fun e => h0 (by rw [e]; rfl)), if_neg (by omega)]
theorem sgB_some {b : UInt8} {c : Nat} (hc : c < 6) (h : (b.toNat : Int) = sgL c) : sgB b = c := by
  unfold sgL at h
  unfold sgB
  by_cases e : c = 0
  · subst e
    rw [if_pos rfl] at h
    rw [if_pos (UInt8.toNat_inj.1 (by show b.toNat = 46; omega))]; rfl
  · rw [if_neg e] at h
    rw [if_neg (fun e2 => by rw [e2] at h; have : (46 : UInt8).toNat = 46 := rfl; omega), if_pos (by omega)]
    omega
def sigs : ByteArray := ⟨#[46, 97, 98, 99, 100, 101]⟩
theorem sigs_get (c : Nat) (h : c < 6) : ((sigs[c]'h).toNat : Int) = sgL c := by
  match c, h with
  | 0, _ => rfl
  | 1, _ => rfl
  | 2, _ => rfl
  | 3, _ => rfl
  | 4, _ => rfl
  | 5, _ => rfl
theorem l2Sign_any (b : UInt8) (w : World) : Calls Tryd.prog 10 #[.int .u8 (b.toNat : Int)] w fun e w' => e = .returned (.int .i64 (sgB b)) ∧ Below w.heap.size w w' := by
  have hbel := Below.refl w.heap.size w
  go_enter Tryd.func10, Tryd.ntmps10
  go_wp2
  go_loop [3] (fun i => ∃ c : Nat, c ≤ 6 ∧ i = .int .i64 c ∧ ∀ j, j < c → (b.toNat : Int) ≠ sgL j) (fun i => 6 - (intOf i).toNat)
  case atStart => exact ⟨0, by omega, rfl, fun j hj => by omega⟩
  case round =>
    obtain ⟨c, hc, rfl, hno⟩ := hrel
    have HNO : Hid _ := hno
    clear hno
    by_cases hlt : c < 6
    · have hlt' : (c : Int) ≤ 5 := by omega
      have hg := sigs_get c hlt
      by_cases he : (b.toNat : Int) = sgL c
      · have hcmp : ((((⟨#[46, 97, 98, 99, 100, 101]⟩ : ByteArray)[c]'hlt).toNat : Int) == (b.toNat : Int)) = true := by rw [beq_iff_eq, he]; exact hg
        have HE : Hid _ := sgB_some hlt he
        clear he hg
        go_wp2
        go_ret
        exact ⟨by rw [HE.out]; rfl, hbel⟩
      · have hcmp : ((((⟨#[46, 97, 98, 99, 100, 101]⟩ : ByteArray)[c]'hlt).toNat : Int) == (b.toNat : Int)) = false := by
          rw [Bool.eq_false_iff, ne_eq, beq_iff_eq]
          exact fun e => he (by rw [← e]; exact hg)
        have HN2 : Hid (∀ j, j < c + 1 → (b.toNat : Int) ≠ sgL j) := fun j hj => by
          by_cases e : j = c
          · subst e; exact he
          · exact HNO.out j (by omega)
        clear he hg
        go_wp2
        go_round
        case rel => exact ⟨c + 1, by omega, by go_num, HN2.out⟩
        case measure => simp [intOf]; omega
    · obtain rfl : c = 6 := by omega
      go_wp2
      go_ret
      exact ⟨by rw [sgB_none HNO.out]; rfl, hbel⟩
def RetR (f : Nat → Int) (b : Bool) (w : World) (e : Ending) (w' : World) : Prop := e = .returned (.tuple #[.agg (arr 24 f), .bool b]) ∧ Below w.heap.size w w'
theorem l2Parse_any (s : ByteArray) (hs : s.size ≤ 4000000) (w : World) : Calls Tryd.prog 7 #[.string s] w (RetR (prF s) (prB s) w) := by
  have h2 : (w.alloc (.cells (arr 24 fun _ => 0) 25)).heap[w.heap.size]? = some (.cells (arr 24 fun _ => 0) 25 (0, 0)) := heap_new (by simp)
  have hbel : Below w.heap.size w (w.alloc (.cells (arr 24 fun _ => 0) 25)) := (Below.refl _ _).alloc (by simp) _
  have tok_r : True := trivial
  have tok_h4 : True := trivial
  by_cases hz : s.size = 29
  · have hz' : (s.size : Int) = 29 := by omega
    have hne : ((s.size : Int) != 29) = false := by rw [hz']; rfl
    go_enter Tryd.func7, Tryd.ntmps7
    go_wp2_with first
      | (have _t := tok_r; (with_reducible refine wpList_allocA rfl 25 rfl 24 zero24r ?_; (try simp only [size_al])); clear _t tok_r)
      | (with_reducible refine wpList_build0 rfl 25 rfl 24 zbuild24 ?_)
      | (have _t := tok_h4; with_reducible refine wpList_allocN rfl 25 rfl 24 zero24r ?_; intro Bh4 w1 hBh4 h4 hb1; have hWh4 := Nat.le_trans hbel.size hBh4; have hLh2h4 := Nat.lt_of_lt_of_le (row_lt h2) hBh4; replace hbel := hbel.trans (hb1.mono hbel.size); replace h2 := row_keep hb1 h2; clear hb1 _t tok_h4)
      | (with_reducible refine wpList_storeWN rfl _ _ _ rfl _ rfl rfl h4 size24r hbel hWh4 ?_; intro w1 g3 ho g4; replace h2 := (ho _ (by omega)).trans h2; clear h4 hbel; have h4 := g3; have hbel := g4; clear g3 g4 ho)
    go_loopw [5] (fun i wr => ∃ n : Nat, n ≤ 29 ∧ i = .int .i64 n ∧ Hid (gdN s n) ∧ wr.heap[w.heap.size]? = some (.cells (arr 24 fun _ => 0) 25 (0, 0)) ∧ wr.heap[Bh4]? = some (.cells (arr 24 (prO s n)) 25 (0, 0)) ∧ Below w.heap.size w wr) (fun i _ => 29 - (intOf i).toNat)
    case atStart => exact ⟨0, by omega, rfl, gdN_zero s, h2, by rw [prO_zero]; exact h4, hbel⟩
    case round =>
      clear h2 h4 hbel
      obtain ⟨n, hn, rfl, HG, h2, h4, hbel⟩ := hrel
      by_cases hlt : n < 29
      · have hlt' : (n : Int) < 29 := by omega
        have hns : n < s.size := by omega
        have HB : Hid _ := bt_at s n hns
        have hsb := sgB_bd (s[n])
        by_cases h4r : n % 5 = 4
        · by_cases he : bt s n = 47
          · have h47 : (((s[n]'hns).toNat : Int) != 47) = false := by rw [HB.out, he]; rfl
            have HG2 : Hid _ := gdN_slash HG.out h4r he
            have HP : Hid _ := prO_slash s n h4r
            clear he
            go_wp2_with first
              | (go_at_call 10; (with_reducible refine (l2Sign_any _ _).mono ?_); rintro e w1 ⟨rfl, hb1⟩; replace hbel := hbel.trans (hb1.mono hbel.size); replace h2 := row_keep hb1 h2; replace h4 := row_keep hb1 h4; clear hb1)
            go_roundw
            case rel => exact ⟨n + 1, by omega, by go_num, HG2.out, h2, by rw [HP.out]; exact h4, hbel⟩
            case measure => simp [intOf]; omega
          · have h47 : (((s[n]'hns).toNat : Int) != 47) = true := by
              rw [bne_iff_ne, HB.out]
              exact fun e => he (UInt8.toNat_inj.1 (by show (bt s n).toNat = 47; omega))
            have HE : Hid _ := gd_slash hlt h4r he
            clear he
            go_wp2_with first
              | (go_at_call 10; (with_reducible refine (l2Sign_any _ _).mono ?_); rintro e w1 ⟨rfl, hb1⟩; replace hbel := hbel.trans (hb1.mono hbel.size); replace h2 := row_keep hb1 h2; replace h4 := row_keep hb1 h4; clear hb1)
              | (with_reducible refine wpList_build0 rfl 25 rfl 24 zbuild24 ?_)
              | (with_reducible refine wpList_storeW rfl _ _ _ rfl _ rfl rfl h2 size24r ?_)
            exact bodyPost_ret_by (results_ct _ _ _ _ _ _ _ rfl rfl (setRow_heap _ _ _ _ _ _ h2) agg24r size24r) rfl ⟨by rw [HE.out.1, HE.out.2]; rfl, below_setRow2 hbel (by omega) _⟩
        · have HSB : Hid (sgB s[n] = sgB (bt s n)) := by show sgB s[n] = _; rw [HB.out]
          have hr5 := Nat.mod_lt n (show 0 < 5 by omega)
          obtain ⟨r, hr⟩ : ∃ r, n % 5 = r := ⟨_, rfl⟩
          have hr4 : r < 4 := by omega
          by_cases he : sgB (bt s n) < 0
          · have he' : sgB s[n] < 0 := by rw [HB.out]; exact he
            have HE : Hid _ := gd_sign hlt h4r he
            have h44 : ¬ r = 4 := by omega
            clear he h4r hr5
            go_wp2_with first
              | (go_at_call 10; (with_reducible refine (l2Sign_any _ _).mono ?_); rintro e w1 ⟨rfl, hb1⟩; replace hbel := hbel.trans (hb1.mono hbel.size); replace h2 := row_keep hb1 h2; replace h4 := row_keep hb1 h4; clear hb1)
              | (with_reducible refine wpList_build0 rfl 25 rfl 24 zbuild24 ?_)
              | (with_reducible refine wpList_storeW rfl _ _ _ rfl _ rfl rfl h2 size24r ?_)
            exact bodyPost_ret_by (results_ct _ _ _ _ _ _ _ rfl rfl (setRow_heap _ _ _ _ _ _ h2) agg24r size24r) rfl ⟨by rw [HE.out.1, HE.out.2]; rfl, below_setRow2 hbel (by omega) _⟩
          · have he' : ¬ sgB s[n] < 0 := by rw [HB.out]; exact he
            have HG2 : Hid _ := gdN_sign HG.out h4r (by omega)
            have HP : Hid _ := prO_sign s n h4r
            have h44 : ¬ r = 4 := by omega
            have HR : Hid (n % 5 = r) := hr
            have hq6 : n / 5 < 6 := by omega
            clear he h4r hr5
            go_wp2_with first
              | (go_at_call 10; (with_reducible refine (l2Sign_any _ _).mono ?_); rintro e w1 ⟨rfl, hb1⟩; replace hbel := hbel.trans (hb1.mono hbel.size); replace h2 := row_keep hb1 h2; replace h4 := row_keep hb1 h4; clear hb1)
              | (with_reducible refine wpList_storeI rfl 3 _ _ rfl _ _ rfl rfl h4 size1 (by omega) ?_)
            go_roundw
            case rel => exact ⟨n + 1, by omega, by go_num, HG2.out, by rw [setRow_other _ _ _ _ (by omega)]; exact h2, by rw [HP.out, HR.out, ← HSB.out]; exact setRow_heap _ _ _ _ _ _ h4, below_setRow2 hbel (by omega) _⟩
            case measure => simp [intOf]; omega
      · obtain rfl : n = 29 := by omega
        cases hrk : rackB (prO s 29) with
        | false =>
          have HE : Hid _ := gd_rack hrk
          have HF : Hid _ := hrk
          clear hrk
          go_wp2_with first
            | (with_reducible refine wpList_loadW rfl _ _ rfl _ rfl h4 agg24r size24r ?_)
            | (go_at_call 11; (with_reducible refine (l2Rack_any _ _).mono ?_); rw [HF.out]; rintro e w1 ⟨rfl, hb1⟩; replace hbel := hbel.trans (hb1.mono hbel.size); replace h2 := row_keep hb1 h2; replace h4 := row_keep hb1 h4; clear hb1)
            | (with_reducible refine wpList_build0 rfl 25 rfl 24 zbuild24 ?_)
            | (with_reducible refine wpList_storeW rfl _ _ _ rfl _ rfl rfl h2 size24r ?_)
          exact bodyPost_ret_by (results_ct _ _ _ _ _ _ _ rfl rfl (setRow_heap _ _ _ _ _ _ h2) agg24r size24r) rfl ⟨by rw [HE.out.1, HE.out.2]; rfl, below_setRow2 hbel (by omega) _⟩
        | true =>
          have HE : Hid _ := pr_yes hz HG.out hrk
          have HF : Hid _ := hrk
          clear hrk
          go_wp2_with first
            | (with_reducible refine wpList_loadW rfl _ _ rfl _ rfl h4 agg24r size24r ?_)
            | (go_at_call 11; (with_reducible refine (l2Rack_any _ _).mono ?_); rw [HF.out]; rintro e w1 ⟨rfl, hb1⟩; replace hbel := hbel.trans (hb1.mono hbel.size); replace h2 := row_keep hb1 h2; replace h4 := row_keep hb1 h4; clear hb1)
            | (with_reducible refine wpList_storeW rfl _ _ _ rfl _ rfl rfl h2 size24r ?_)
          exact bodyPost_ret_by (results_ct _ _ _ _ _ _ _ rfl rfl (setRow_heap _ _ _ _ _ _ h2) agg24r size24r) rfl ⟨by rw [HE.out.1, HE.out.2]; rfl, below_setRow2 hbel (by omega) _⟩
  · have hne : ((s.size : Int) != 29) = true := by rw [bne_iff_ne]; omega
    have HE : Hid _ := gd_size hz
    clear hz
    rw [HE.out.1, HE.out.2]
    go_enter Tryd.func7, Tryd.ntmps7
    go_wp2_with first
      | (have _t := tok_r; (with_reducible refine wpList_allocA rfl 25 rfl 24 zero24r ?_; (try simp only [size_al])); clear _t tok_r)
      | (with_reducible refine wpList_build0 rfl 25 rfl 24 zbuild24 ?_)
      | (have _t := tok_h4; with_reducible refine wpList_allocN rfl 25 rfl 24 zero24r ?_; intro Bh4 w1 hBh4 h4 hb1; have hWh4 := Nat.le_trans hbel.size hBh4; have hLh2h4 := Nat.lt_of_lt_of_le (row_lt h2) hBh4; replace hbel := hbel.trans (hb1.mono hbel.size); replace h2 := row_keep hb1 h2; clear hb1 _t tok_h4)
      | (with_reducible refine wpList_storeWN rfl _ _ _ rfl _ rfl rfl h4 size24r hbel hWh4 ?_; intro w1 g3 ho g4; replace h2 := (ho _ (by omega)).trans h2; clear h4 hbel; have h4 := g3; have hbel := g4; clear g3 g4 ho)
      | (with_reducible refine wpList_storeW rfl _ _ _ rfl _ rfl rfl h2 size24r ?_)
    exact bodyPost_ret_by (results_ct _ _ _ _ _ _ _ rfl rfl (setRow_heap _ _ _ _ _ _ h2) agg24r size24r) rfl ⟨rfl, below_setRow2 hbel (by omega) _⟩
theorem specPR_any (s : ByteArray) (hs : s.size ≤ 4000000) (w : World) : Calls Tryd.prog 4 #[.string s] w (RetR (prF s) (prB s) w) := by
  have h2 : (w.alloc (.cells (arr 24 fun _ => 0) 25)).heap[w.heap.size]? = some (.cells (arr 24 fun _ => 0) 25 (0, 0)) := heap_new (by simp)
  have hbel : Below w.heap.size w (w.alloc (.cells (arr 24 fun _ => 0) 25)) := (Below.refl _ _).alloc (by simp) _
  generalize hB : prB s = b at *
  generalize hF : prF s = F at *
  have HS : Hid (∀ w, Calls Tryd.prog 7 #[.string s] w (RetR F b w)) := fun w => by rw [← hB, ← hF]; exact l2Parse_any s hs w
  clear hB hF
  go_enter Tryd.func4, Tryd.ntmps4
  go_wp2_with first
    | (with_reducible refine wpList_allocA rfl 25 rfl 24 zero24r ?_; (try simp only [size_al]))
    | (go_at_call 7; (with_reducible refine (HS.out _).mono ?_); rintro e w1 ⟨rfl, hb1⟩; replace hbel := hbel.trans (hb1.mono hbel.size); replace h2 := row_keep hb1 h2; clear hb1)
    | (with_reducible refine wpList_storeW rfl _ _ _ rfl _ rfl rfl h2 size24r ?_)
  exact bodyPost_ret_by (results_ct _ _ _ _ _ _ _ rfl rfl (setRow_heap _ _ _ _ _ _ h2) agg24r size24r) rfl ⟨rfl, below_setRow2 hbel (by omega) _⟩
end Go.Proofs.YtlbgmkengkgnfaaDoor
