/- How many orders a rack has: the walks, and the law. -/
import Derived.Test.YtlbgmkengkgnfaaMapB
import Derived.Test.YtlbgmkengkgnfaaCoP
import Derived.Test.YtlbgmkengkgnfaaForm
import Derived.Test.YtlbgmkengkgnfaaIdx
import Derived.Test.YtlbgmkengkgnfaaPeel
import Derived.Test.YtlbgmkengkgnfaaPut
import Derived.Test.YtlbgmkengkgnfaaEqq
import Derived.Test.YtlbgmkengkgnfaaNamesP
namespace Go.Proofs.Ytlbgmkengkgnfaa
set_option linter.unusedSimpArgs false
set_option linter.unusedVariables false
set_option maxRecDepth 20000
open Go.RowKit Go.Maps
/-! ### the keys -/
theorem keyArr : WideMaps.ArrKey Try.prog 22 3 4 := ⟨Try.underlying22, by kernel_rfl, by kernel_rfl, by kernel_rfl⟩
theorem keyLaw : WideMaps.KeyLaw Try.prog 22 := keyArr.law
theorem keyed : Keyed Try.prog 22 := Keyed.of_law keyLaw
theorem typesN : ∃ m, Try.prog.types.size = m + 1 := ⟨Try.prog.types.size - 1, by
  have : (decide (0 < Try.prog.types.size)) = true := by kernel_rfl
  have := of_decide_eq_true this
  omega⟩
theorem zeroIn (u : World) : (zeroValue 3).run Try.prog u = .ok (.int .i64 0) u := by kernel_rfl
theorem lit_wf {x : Int} (h : -1000 ≤ x ∧ x ≤ 1000) : (Lit.int .i64 x).wf = true := by
  simp [Lit.wf, IntKind.min, IntKind.max, IntKind.signed, IntKind.bits]
  omega
/-- A tube as a key. -/
def kd (f : Nat → Int) (i : Nat) : Lit := .string (keyBytes [.int .i64 (tub f i 0), .int .i64 (tub f i 1), .int .i64 (tub f i 2), .int .i64 (tub f i 3)])
theorem kd_key {f : Nat → Int} (h : cellB f) {i : Nat} (hi : i < 6) : keyOf Try.prog 22 (.agg (arr 4 fun j => f (i * 4 + j))) = some (kd f i) := by
  have t := tub_cell h hi
  have e : (arr 4 fun j => f (i * 4 + j)) = arr 4 (tub f i) := rfl
  rw [e, arr_four]
  have t0 := t 0 (by omega); have t1 := t 1 (by omega); have t2 := t 2 (by omega); have t3 := t 3 (by omega)
  exact keyOf_quad keyArr Try.underlying3 typesN (lit_wf (by omega)) (lit_wf (by omega)) (lit_wf (by omega)) (lit_wf (by omega))
theorem kd_eq {f : Nat → Int} (h : cellB f) {i j : Nat} (hi : i < 6) (hj : j < 6) : kd f i = kd f j ↔ cdf f i = cdf f j := by
  rw [cdf_eq h hi hj]
  constructor
  · intro e
    have h1 := kd_key h hi
    have h2 := kd_key h hj
    rw [e] at h1
    have h3 := keyed.inj h1 h2
    injection h3 with h3
    have : arr 4 (fun k => f (i * 4 + k)) = arr 4 fun k => f (j * 4 + k) := h3
    intro k hk
    have g1 := arr_get 4 (fun k => f (i * 4 + k)) k
    rw [this, arr_get, if_pos hk, if_pos hk] at g1
    have g2 : f (j * 4 + k) = f (i * 4 + k) := by simpa using g1
    exact g2.symm
  · intro e
    unfold kd
    rw [e 0 (by omega), e 1 (by omega), e 2 (by omega), e 3 (by omega)]
theorem kd_lit (f : Nat → Int) (i : Nat) : WideAt.IsKeyLit (kd f i) := trivial
/-! ### the map -/
noncomputable instance litEq : DecidableEq Lit := fun _ _ => Classical.propDecidable _
noncomputable def cK (f : Nat → Int) (n : Nat) (kl : Lit) : Nat := cntE (kd f) n kl
noncomputable def pK (f : Nat → Int) (q : Lit → Bool) : Nat := pq (kd f) q 6
noncomputable def mD (f : Nat → Int) : Nat → DataW Unit
  | 0 => .map []
  | n + 1 => (mD f n).put (kd f n) (.lit (.int .i64 ((cK f n (kd f n) : Nat) + 1)))
theorem mD_map (f : Nat → Int) : ∀ n, IsMap (mD f n)
  | 0 => isMap_empty
  | n + 1 => (mD_map f n).put _ _
theorem cK_bd (f : Nat → Int) (n : Nat) (kl : Lit) : cK f n kl ≤ n := by unfold cK; exact cntE_le _ _ _
theorem mD_at (f : Nat → Int) : ∀ n kl, (mD f n).atKey kl (.lit (.int .i64 0)) = .lit (.int .i64 (cK f n kl : Nat))
  | 0, kl => by
    have : cK f 0 kl = 0 := by unfold cK; rfl
    rw [this]; rfl
  | n + 1, kl => by
    have hc : cK f (n + 1) kl = cK f n kl + (if kd f n = kl then 1 else 0) := by unfold cK; rw [cntE_succ]
    unfold mD
    by_cases e : kd f n = kl
    · subst e
      rw [atKey_put_same (mD_map f n) (kd_lit f n), hc, if_pos rfl]; rfl
    · rw [atKey_put_other (fun h => e h.symm), mD_at f n kl, hc, if_neg e]; rfl
theorem mD_has (f : Nat → Int) : ∀ n i, i < n → Maps.has (mD f n) (kd f i) = true
  | n + 1, i, h => by
    unfold mD
    by_cases e : kd f i = kd f n
    · rw [e, has_put_same (mD_map f n) (kd_lit f n)]
    · have : i ≠ n := fun h => e (by rw [h])
      rw [has_put_other e, mD_has f n i (by omega)]
theorem pK_start (f : Nat → Int) : pK f (Maps.has (mD f 6)) = 1 := by unfold pK; exact pq_true _ 6 fun i hi => mD_has f 6 i hi
theorem pK_end {f : Nat → Int} (h : cellB f) {q : Lit → Bool} (hq : ∀ kl, q kl = false) : 720 / pK f q = ordN f := by
  unfold pK ordN
  rw [pq_ext (kd f) hq, pq_congr (N := 6) (fun i j hi hj => kd_eq h hi hj) 6 (Nat.le_refl _)]
theorem pK_strike (f : Nat → Int) {q : Lit → Bool} {kl : Lit} (hk : WideAt.IsKeyLit kl) (hq : q kl = true) : pK f (fun z => q z && !z.sameKey kl) = pK f q * fac (cK f 6 kl) := by
  unfold pK cK
  refine pq_strike (kd f) q _ kl hq (fun y => ?_) 6
  by_cases e : y = kl
  · subst e; rw [WideAt.sameKey_self hk]; simp
  · rw [sameKey_ne e]; simp [e]
theorem pK_pos (f : Nat → Int) (q : Lit → Bool) : 0 < pK f q := by unfold pK; exact pq_pos _ _ _
attribute [irreducible] mD cK pK
theorem fac_le : ∀ n, n ≤ 6 → fac n ≤ 720 := by decide
theorem factorial_any : ∀ (n : Nat), n ≤ 6 → ∀ (z : Int), z = n → ∀ (w : World), Calls Try.prog 14 #[.int .i64 z] w fun e w' => e = .returned (.int .i64 (fac n : Nat)) ∧ Below w.heap.size w w'
  | 0, _, z, hz, w => by
    have hbel := Below.refl w.heap.size w
    have h1 : z ≤ 1 := by omega
    go_enter Try.func14, Try.ntmps14
    go_wp2
    go_ret
    exact ⟨rfl, hbel⟩
  | 1, _, z, hz, w => by
    have hbel := Below.refl w.heap.size w
    have h1 : z ≤ 1 := by omega
    go_enter Try.func14, Try.ntmps14
    go_wp2
    go_ret
    exact ⟨rfl, hbel⟩
  | n + 2, hn, z, hz, w => by
    have ih := factorial_any (n + 1) (by omega)
    have hbel := Below.refl w.heap.size w
    have HI : Hid _ := fun (w : World) => ih (z - 1) (by omega) w
    have h1 : ¬ z ≤ 1 := by omega
    have hz2 : 2 ≤ z ∧ z ≤ 6 := by omega
    have hf2 := fac_le (n + 2) (by omega)
    have hm : z * (fac (n + 1) : Nat) = (fac (n + 2) : Nat) := by rw [hz, show fac (n + 2) = (n + 2) * fac (n + 1) from rfl]; push_cast; rfl
    have hf := fac_le (n + 1) (by omega)
    have hw2 : IntKind.i64.wrap (z * (fac (n + 1) : Nat)) = (fac (n + 2) : Nat) := by rw [hm]; exact IntWalk.i64_in _ (by omega)
    generalize fac (n + 2) = A at *
    generalize fac (n + 1) = B at *
    clear hm ih hz
    go_enter Try.func14, Try.ntmps14
    go_wp2_with first
      | (go_at_call 14; (with_reducible refine (HI.out _).mono ?_); rintro e w1 ⟨rfl, hb1⟩; replace hbel := hbel.trans (hb1.mono hbel.size); clear hb1)
    go_ret
    exact ⟨rfl, hbel⟩
/-! ### the reference -/
def oA (F : Nat → Int) (m : Nat) : Nat := 720 / pq (cdf F) (fun _ => false) m
def oS (F : Nat → Int) (k : Nat) : Nat := cntE (cdf F) k (cdf F k) + 1
theorem oA_bd (F : Nat → Int) (m : Nat) : oA F m ≤ 720 := Nat.div_le_self _ _
theorem oS_bd (F : Nat → Int) (k : Nat) : 1 ≤ oS F k ∧ oS F k ≤ k + 1 := by unfold oS; have := cntE_le (cdf F) (cdf F k) k; omega
theorem oA_step (F : Nat → Int) (m : Nat) : oA F (m + 1) = oA F m / oS F m := by
  unfold oA oS
  rw [pq_succ, Nat.div_div_eq_div_mul]
  rfl
theorem oA_one (F : Nat → Int) : oA F 1 = 720 := by unfold oA; rw [pq_succ, pq_zero]; simp [cntE]
theorem oS_zero (F : Nat → Int) : oS F 0 = 1 := rfl
theorem oS_same {F : Nat → Int} {k : Nat} (e : cdf F (k + 1) = cdf F k) : oS F (k + 1) = oS F k + 1 := by unfold oS; rw [run_same e]
theorem oS_new {F : Nat → Int} (hs : srt F) {k : Nat} (hk : k + 1 < 6) (e : cdf F (k + 1) ≠ cdf F k) : oS F (k + 1) = 1 := by unfold oS; rw [run_new hs hk e]
theorem oA_form {f : Nat → Int} (h : cellB f) : oA (formF f) 6 = ordN f := by
  unfold oA ordN
  rw [ord_form (form_is h).1.1]
theorem tq_cdf {F : Nat → Int} (h : cellB F) {m k : Nat} (hm : m < 6) (hk : k < 6) : eqv 4 (fun j => F (m * 4 + j)) (fun j => F (k * 4 + j)) = true ↔ cdf F m = cdf F k := by
  rw [eqv_iff, cdf_eq h hm hk]
attribute [irreducible] oA oS
theorem w64_nat (a : Nat) (h : a ≤ 720) : wrap64 (a : Int) = (a : Int) := by unfold wrap64; omega
theorem div_w64 (a s : Nat) (h : a ≤ 720) : wrap64 ((a : Int) / ((s : Int) + 1)) = ((a / (s + 1) : Nat) : Int) := by
  have e : ((a / (s + 1) : Nat) : Int) = (a : Int) / ((s : Int) + 1) := by push_cast; rfl
  rw [← e]
  exact w64_nat _ (Nat.le_trans (Nat.div_le_self a (s + 1)) h)
noncomputable def coR (f : Nat → Int) : Int × Bool := if rackB f = true then (((ordN f : Nat) : Int), true) else (0, false)
theorem l2Rack_at {f : Nat → Int} {x : Bool} (h : rackB f = x) (w : World) : Calls Try.prog 10 #[.agg (arr 24 f)] w fun e w' => e = .returned (.bool x) ∧ Below w.heap.size w w' := h ▸ l2Rack_any f w
theorem IsRack_at {f : Nat → Int} {x : Bool} (h : rackB f = x) (w : World) : Calls Try.prog 13 #[.agg (arr 24 f)] w fun e w' => e = .returned (.bool x) ∧ Below w.heap.size w w' := h ▸ IsRack_any f w
set_option maxHeartbeats 1000000 in
theorem specCo_any (f : Nat → Int) (w : World) : Calls Try.prog 5 #[.agg (arr 24 f)] w fun e w' => e = .returned (.tuple #[.int .i64 (coR f).1, .bool (coR f).2]) ∧ Below w.heap.size w w' := by
  have h1 : (w.alloc (.cells (arr 24 f) 28)).heap[w.heap.size]? = some (.cells (arr 24 f) 28 (0, 0))   := heap_new rfl
  have hbel : Below w.heap.size w (w.alloc (.cells (arr 24 f) 28)) := (Below.refl _ _).alloc (by simp) _
  unfold coR
  cases hf : rackB f with
  | false =>
    have HF : Hid _ := hf
    simp only [Bool.false_eq_true, if_false]
    clear hf
    go_enter Try.func5, Try.ntmps5
    go_wp2_with first
      | (with_reducible refine wpList_loadW rfl _ _ rfl _ rfl h1 agg24r size24r ?_)
      | (go_at_call 10; (with_reducible refine (l2Rack_at HF.out _).mono ?_); rintro e w1 ⟨rfl, hb1⟩; replace hbel := hbel.trans (hb1.mono hbel.size); replace h1 := row_keep hb1 h1; clear hb1)
      | (go_at_call 13; (with_reducible refine (IsRack_at HF.out _).mono ?_); rintro e w1 ⟨rfl, hb1⟩; replace hbel := hbel.trans (hb1.mono hbel.size); replace h1 := row_keep hb1 h1; clear hb1)
    go_ret2
    exact ⟨rfl, hbel⟩
  | true =>
    have HF : Hid _ := hf
    have hc := cellB_of_rack hf
    have HCB : Hid _ := hc
    simp only [if_true]
    clear hf
    have hsrt := (form_is hc).2
    have hcf := (form_is hc).1.2
    have HA6 : Hid _ := oA_form hc
    have tok_h4 : True := trivial
    go_enter Try.func5, Try.ntmps5
    go_wp2_with first
      | (with_reducible refine wpList_loadW rfl _ _ rfl _ rfl h1 agg24r size24r ?_)
      | (go_at_call 10; (with_reducible refine (l2Rack_at HF.out _).mono ?_); rintro e w1 ⟨rfl, hb1⟩; replace hbel := hbel.trans (hb1.mono hbel.size); replace h1 := row_keep hb1 h1; clear hb1)
      | (go_at_call 11; (with_reducible refine (l3Form_any f HF.out _).mono ?_); rintro e w1 ⟨rfl, hb1⟩; replace hbel := hbel.trans (hb1.mono hbel.size); replace h1 := row_keep hb1 h1; clear hb1)
      | (have _t := tok_h4; with_reducible refine wpList_allocN rfl 28 rfl 24 zero24r ?_; intro Bh4 w1 hBh4 h4 hb1; have hWh4 := Nat.le_trans hbel.size hBh4; have hLh1h4 := Nat.lt_of_lt_of_le (row_lt h1) hBh4; replace hbel := hbel.trans (hb1.mono hbel.size); replace h1 := row_keep hb1 h1; clear hb1 _t tok_h4)
      | (with_reducible refine wpList_storeWN rfl _ _ _ rfl _ rfl rfl h4 size24r hbel hWh4 ?_; intro w1 g3 ho g4; replace h1 := (ho _ (by omega)).trans h1; clear h4 hbel; have h4 := g3; have hbel := g4; clear g3 g4 ho)
    generalize formF f = F at *
    go_loopw [5, 6, 7] (fun o s i wr => ∃ m k : Nat, m = k + 1 ∧ m ≤ 6 ∧ i = .int .i64 m ∧ o = .int .i64 (oA F m : Nat) ∧ s = .int .i64 (oS F k : Nat) ∧ wr.heap[w.heap.size]? = some (.cells (arr 24 f) 28 (0, 0)) ∧ wr.heap[Bh4]? = some (.cells (arr 24 F) 28 (0, 0)) ∧ Below w.heap.size w wr) (fun _ _ i _ => 6 - (intOf i).toNat)
    case atStart => exact ⟨1, 0, rfl, by omega, rfl, by rw [oA_one]; rfl, by rw [oS_zero]; rfl, h1, h4, hbel⟩
    case round =>
      clear h1 h4 hbel
      obtain ⟨m, k, hmk, hm, rfl, rfl, rfl, h1, h4, hbel⟩ := hrel
      have ha := oA_bd F m
      have hs := oS_bd F k
      by_cases hlt : m < 6
      · have hlt' : (m : Int) < 6 := by omega
        have hw : IntKind.i64.wrap ((m : Int) - 1) = (k : Int) := by rw [IntWalk.i64_in _ (by omega)]; omega
        have hk6 : (k : Int) < 6 := by omega
        have hs1 := oS_bd F m
        have has := oA_step F m
        obtain ⟨a1, ea1⟩ : ∃ x, oA F (m + 1) = x := ⟨_, rfl⟩
        obtain ⟨s1, es1⟩ : ∃ x, oS F m = x := ⟨_, rfl⟩
        rw [ea1, es1] at has
        rw [es1] at hs1
        by_cases he : cdf F m = cdf F k
        · have HE : Hid _ := (tq_cdf hcf hlt (by omega)).2 he
          have hss : oS F m = oS F k + 1 := by subst hmk; exact oS_same he
          rw [es1] at hss
          have HMK : Hid (m = k + 1) := hmk
          have HA1 : Hid _ := ea1
          have HS1 : Hid _ := es1
          clear he hsrt hcf hc hmk ea1 es1
          generalize oS F k = s0 at *
          generalize oA F m = a0 at *
          have hq : ¬ ((s0 : Int) + 1 = 0) := by omega
          have hdiv : wrap64 ((a0 : Int) / ((s0 : Int) + 1)) = (a1 : Int) := by
            rw [has, hss]
            exact div_w64 a0 s0 ha
          clear has
          go_wp2_with fail
          refine wp_region_held 10 (Cls w _) (by kernel_rfl) (by kernel_rfl) (Cls.two h1 h4 hbel) ?_; simp only [List.take_succ_cons, List.take_zero, List.drop_succ_cons, List.drop_zero]
          repeat (first
            | (with_reducible refine wpQuiet_loadA rfl _ _ rfl _ _ rfl (fun _ h => h.r2) 4 agg4 size4 (by omega) ?_)
            | ((with_reducible refine wpQuiet_eqlA eqT (by decide) (by kernel_rfl) rfl _ _ _ rfl rfl rfl ?_); rw [HE.out])
            | ((with_reducible refine wpQuiet_step (fun K hK => ?_)); go_simp; (first | (refine ⟨_, fun _ _ => rfl, hK _ ?_⟩) | (refine ⟨_, fun _ _ => ⟨rfl, rfl⟩, hK _ ?_⟩) | (refine hK _ ?_)); clear hK K))
          refine wpQuiet_nil ?_
          intro wt hCt
          replace h1 := hCt.r1
          replace h4 := hCt.r2
          replace hbel := hCt.2
          clear hCt
          go_wp2_with fail
          go_roundw
          case rel => exact ⟨m + 1, m, rfl, by omega, by go_num, by rw [HA1.out, hdiv], by rw [HS1.out, hss]; go_num, h1, h4, hbel⟩
          case measure => simp [intOf]; omega
        · have HE : Hid (eqv 4 (fun j => F (m * 4 + j)) (fun j => F (k * 4 + j)) = false) := Bool.eq_false_iff.2 fun h => he ((tq_cdf hcf hlt (by omega)).1 h)
          have hss : oS F m = 1 := by subst hmk; exact oS_new hsrt hlt he
          rw [es1] at hss
          have HMK : Hid (m = k + 1) := hmk
          have HA1 : Hid _ := ea1
          have HS1 : Hid _ := es1
          clear he hsrt hcf hc hmk ea1 es1
          generalize oS F k = s0 at *
          generalize oA F m = a0 at *
          have ha1 : a1 = a0 := by rw [has, hss, Nat.div_one]
          have hdiv : wrap64 (a0 : Int) = (a1 : Int) := by rw [ha1]; exact w64_nat a0 ha
          clear has
          go_wp2_with fail
          refine wp_region_held 10 (Cls w _) (by kernel_rfl) (by kernel_rfl) (Cls.two h1 h4 hbel) ?_; simp only [List.take_succ_cons, List.take_zero, List.drop_succ_cons, List.drop_zero]
          repeat (first
            | (with_reducible refine wpQuiet_loadA rfl _ _ rfl _ _ rfl (fun _ h => h.r2) 4 agg4 size4 (by omega) ?_)
            | ((with_reducible refine wpQuiet_eqlA eqT (by decide) (by kernel_rfl) rfl _ _ _ rfl rfl rfl ?_); rw [HE.out])
            | ((with_reducible refine wpQuiet_step (fun K hK => ?_)); go_simp; (first | (refine ⟨_, fun _ _ => rfl, hK _ ?_⟩) | (refine ⟨_, fun _ _ => ⟨rfl, rfl⟩, hK _ ?_⟩) | (refine hK _ ?_)); clear hK K))
          refine wpQuiet_nil ?_
          intro wt hCt
          replace h1 := hCt.r1
          replace h4 := hCt.r2
          replace hbel := hCt.2
          clear hCt
          go_wp2_with fail
          go_roundw
          case rel => exact ⟨m + 1, m, rfl, by omega, by go_num, by first | rw [HA1.out, hdiv] | (rw [HA1.out, ha1]), by rw [HS1.out, hss]; rfl, h1, h4, hbel⟩
          case measure => simp [intOf]; omega
      · obtain rfl : m = 6 := by omega
        go_wp2
        go_ret2
        exact ⟨by rw [HA6.out]; rfl, hbel⟩
end Go.Proofs.Ytlbgmkengkgnfaa
