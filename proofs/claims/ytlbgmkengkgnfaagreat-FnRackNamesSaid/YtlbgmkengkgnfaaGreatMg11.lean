/- A part (number 11) of the proof of the law FnRackNames: what each of its sections proves stands in the section's own first remark. No conditions beside those that each theorem states. -/
import Derived.Great.BuildSlice
import Derived.Test.YtlbgmkengkgnfaaGreatMg3
import Derived.Test.YtlbgmkengkgnfaaGreatMg6
section
/- The reference's list of all renamings. -/
namespace Go.Proofs.YtlbgmkengkgnfaaGreat
set_option linter.unusedSimpArgs false
set_option linter.unusedVariables false
set_option maxRecDepth 20000
open Go.RowKit
theorem slN : SlOK Tryz.prog 60 28 6 48 := ⟨by kernel_rfl, by kernel_rfl, by kernel_rfl⟩
theorem arr_none0 (f : Nat → Int) : (#[] : Array Value) = arr 0 f := by
  refine Array.ext_getElem? fun i => ?_
  rw [arr_get, if_neg (by omega)]; rfl
theorem sl_made {w : World} {base : Nat} {e : TypeId} {s : Nat} {f : Nat → Int} (h : base ≤ w.heap.size) : Sl (w.alloc (.cells #[] e)) base e s (.slice (some ⟨w.heap.size, 0, none⟩) 0 0) 0 f :=
  .inr ⟨w.heap.size, 0, fun _ => 0, rfl, h, by rw [arr_none0 fun _ => 0, Nat.zero_mul]; exact heap_new rfl, Nat.le_refl _, Nat.zero_le _, fun j hj => by omega⟩
theorem arr6_lit (g : Nat → Int) : arr 6 g = #[.int .i64 (g 0), .int .i64 (g 1), .int .i64 (g 2), .int .i64 (g 3), .int .i64 (g 4), .int .i64 (g 5)] := by
  refine Array.ext_getElem? fun j => ?_
  rw [arr_get]
  by_cases h : j < 6
  · rw [if_pos h]
    have hc : j = 0 ∨ j = 1 ∨ j = 2 ∨ j = 3 ∨ j = 4 ∨ j = 5 := by omega
    rcases hc with rfl | rfl | rfl | rfl | rfl | rfl <;> rfl
  · rw [if_neg h]; simp; omega
theorem fill6 (x : Nat → Value) (g : Nat → Int) : Instr.fill (fun i => some (i * 6, 6)) ((Array.range (1 * 6)).map x) [(0, .agg (arr 6 g))] = some (arr 6 g) := by
  rw [arr6_lit g]
  have e : (Array.range (1 * 6)).map x = #[x 0, x 1, x 2, x 3, x 4, x 5] := by
    refine Array.ext_getElem? fun j => ?_
    by_cases h : j < 6
    · have hc : j = 0 ∨ j = 1 ∨ j = 2 ∨ j = 3 ∨ j = 4 ∨ j = 5 := by omega
      rcases hc with rfl | rfl | rfl | rfl | rfl | rfl <;> simp
    · rw [Array.getElem?_eq_none (by simp; omega), Array.getElem?_eq_none (by simp; omega)]
  rw [e]
  simp [Instr.fill, Value.cells, Array.zipIdx]
/-- A slice literal of one row of six. -/
theorem wpList_row6 {P : Program} {ops : Array Oper} {rest : List Oper} {o : Oper} {a : Act} {w : World} {Q : Exit → Act → World → Prop} {t e : TypeId} {b : Nat} (hT : SlOK P t e 6 b) (hg : o.guard = none) (x : Operand) (ho : o.op = .buildSlice t 1 #[(0, x)])
    {g : Nat → Int} (hx : a.eval x = .agg (arr 6 g))
    (h : ∀ B w', w.heap.size ≤ B → w'.heap[B]? = some (.cells (arr 6 g) e (0, 0)) → Below w.heap.size w w' → wpList P ops Q rest (a.put o.dst (.slice (some ⟨B, 0, none⟩) 1 1)) w') : wpList P ops Q (o :: rest) a w := by
  obtain ⟨ht, hi0, hz0⟩ := hT
  cases hi : P.info? e with
  | none => simp [hi] at hi0
  | some i =>
  cases hz : i.zero with
  | none => simp [hi, hz] at hz0
  | some z =>
  simp only [hi, hz, Option.map_some, Option.bind_some, Option.some.injEq, Prod.mk.injEq] at hi0 hz0
  obtain ⟨h6, _⟩ := hi0
  refine wpList_buildSlice hg t e 1 #[(0, x)] ho (arr 6 g) i z ht hi hz (by rw [h6]; decide) (by rw [h6]; decide) ?_ (h _ _ (Nat.le_refl _) (heap_new rfl) ((Below.refl _ _).alloc (Nat.le_refl _) _))
  simp only [h6, List.map_toArray, List.map_cons, List.map_nil, hx]
  exact fill6 _ g
def nmP (n : Nat) : List (List Nat) := ((List.range n).map dgL).filter okL
theorem nmP_all : nmP 3125 = nmL := rfl
theorem nmP_yes {n : Nat} (h : okL (dgL n) = true) : nmP (n + 1) = nmP n ++ [dgL n] := by
  unfold nmP
  rw [List.range_succ, List.map_append, List.filter_append]
  simp [h]
theorem nmP_no {n : Nat} (h : okL (dgL n) = false) : nmP (n + 1) = nmP n := by
  unfold nmP
  rw [List.range_succ, List.map_append, List.filter_append]
  simp [h]
theorem nmP_len (n : Nat) : (nmP n).length ≤ n := by
  unfold nmP
  have := List.length_filter_le okL ((List.range n).map dgL)
  simpa using this
/-- The digits behind the c-th. -/
def dgF (n c : Nat) : Nat → Int := fun j => if c < j ∧ j < 6 then ((1 + n / 5 ^ (5 - j) % 5 : Nat) : Int) else 0
theorem dgF_start (n : Nat) : arr 6 (fun _ => (0 : Int)) = arr 6 (dgF n 5) := arr_congr fun j hj => by
  unfold dgF
  rw [if_neg (by omega)]
theorem dgF_step (n : Nat) {c : Nat} (hc : c + 1 < 6) : arr 6 (upd (dgF n (c + 1)) (c + 1) ((1 + n / 5 ^ (5 - (c + 1)) % 5 : Nat) : Int)) = arr 6 (dgF n c) := arr_congr fun j hj => by
  unfold upd dgF
  by_cases h : j = c + 1
  · subst h
    rw [if_pos rfl, if_pos (by omega)]
  · rw [if_neg h]
    by_cases h2 : c + 1 < j
    · rw [if_pos ⟨h2, hj⟩, if_pos ⟨by omega, hj⟩]
    · rw [if_neg (by omega), if_neg (by omega)]
theorem dgF_done (n : Nat) : ∀ j, j < 6 → dgF n 0 j = fnL (dgL n) j := by
  intro j hj
  have hc : j = 0 ∨ j = 1 ∨ j = 2 ∨ j = 3 ∨ j = 4 ∨ j = 5 := by omega
  rcases hc with rfl | rfl | rfl | rfl | rfl | rfl
  · rfl
  · rfl
  · rfl
  · rfl
  · rfl
  · show ((1 + n / 5 ^ 0 % 5 : Nat) : Int) = ((1 + n % 5 : Nat) : Int)
    rw [Nat.pow_zero, Nat.div_one]
theorem dg_rest (n : Nat) {c : Nat} (hc : c + 1 ≤ 5) : n / 5 ^ (5 - (c + 1)) / 5 = n / 5 ^ (5 - c) := by
  rw [Nat.div_div_eq_div_mul, ← Nat.pow_succ, show (5 - (c + 1)).succ = 5 - c by omega]
theorem pB_congr {f g : Nat → Int} : ∀ n, (∀ i, i < n → f i = g i) → pB f n = pB g n := fun n h => by
  rw [Bool.eq_iff_iff, pB_iff, pB_iff]
  constructor
  · intro hf i hi
    refine ⟨by rw [← h i hi]; exact (hf i hi).1, fun j hj => by rw [← h i hi, ← h j (by omega)]; exact (hf i hi).2 j hj⟩
  · intro hf i hi
    refine ⟨by rw [h i hi]; exact (hf i hi).1, fun j hj => by rw [h i hi, h j (by omega)]; exact (hf i hi).2 j hj⟩
theorem ren_iff {f : Nat → Int} : ((f 0 == 0) && pB f 6) = true ↔ isRen f := by
  rw [Bool.and_eq_true, beq_iff_eq, pB_iff]
  constructor
  · rintro ⟨h0, h⟩
    refine ⟨h0, fun i hi => (h i hi).1, fun i j hi hj e => ?_⟩
    rcases Nat.lt_trichotomy i j with hl | hl | hl
    · exact absurd e ((h j hj).2 i hl)
    · exact hl
    · exact absurd e.symm ((h i hi).2 j hl)
  · rintro ⟨h0, h1, h2⟩
    exact ⟨h0, fun i hi => ⟨h1 i hi, fun j hj e => by have := h2 j i (by omega) hi e; omega⟩⟩
theorem dgL_inj {m n : Nat} (h : ∀ i, i < 6 → fnL (dgL m) i = fnL (dgL n) i) : dgL m = dgL n := by
  have h1 := h 1 (by omega); have h2 := h 2 (by omega); have h3 := h 3 (by omega); have h4 := h 4 (by omega); have h5 := h 5 (by omega)
  unfold fnL dgL at h1 h2 h3 h4 h5
  simp only [List.getD_cons_succ, List.getD_cons_zero] at h1 h2 h3 h4 h5
  unfold dgL
  rw [Int.ofNat.inj h1, Int.ofNat.inj h2, Int.ofNat.inj h3, Int.ofNat.inj h4, Int.ofNat.inj h5]
theorem dg_ok (n : Nat) : ((dgF n 0 0 == 0) && pB (dgF n 0) 6) = okL (dgL n) := by
  rw [dgF_done n 0 (by omega), pB_congr 6 (dgF_done n), Bool.eq_iff_iff, ren_iff]
  constructor
  · intro h
    obtain ⟨m, _, hm, e⟩ := ren_dg h
    rw [← dgL_inj e]
    exact hm
  · exact okL_ren
set_option maxHeartbeats 1000000 in
theorem l4AllNames_any (w : World) : Calls Tryz.prog 39 #[] w (RetSl w 28 6 120 (fls 6 (nmL.map fnL))) := by
  have hS : Sl (w.alloc (.cells #[] 28)) w.heap.size 28 6 (.slice (some ⟨w.heap.size, 0, none⟩) 0 0) (nmP 0).length (fls 6 ((nmP 0).map fnL)) := sl_made (Nat.le_refl _)
  have hbel : Below w.heap.size w (w.alloc (.cells #[] 28)) := (Below.refl _ _).alloc (by simp) _
  go_enter Tryz.func39, Tryz.ntmps39
  go_wp2_with fail
  go_loopw [1, 2] (fun o i wr => ∃ n : Nat, ∃ v : Value, n ≤ 3125 ∧ i = .int .i64 n ∧ o = v ∧ Sl wr w.heap.size 28 6 v (nmP n).length (fls 6 ((nmP n).map fnL)) ∧ Below w.heap.size w wr) (fun _ i _ => 3125 - (intOf i).toNat)
  case atStart => exact ⟨0, _, by omega, rfl, rfl, hS, hbel⟩
  case round =>
    clear hS hbel
    obtain ⟨n, v, hn, rfl, rfl, hS, hbel⟩ := hrel
    by_cases hlt : n < 3125
    · have hlt' : (n : Int) < 3125 := by omega
      obtain ⟨wo, hwo⟩ : ∃ wo : World, wo = wr := ⟨_, rfl⟩
      rw [← hwo] at hS hbel ⊢
      clear hwo
      have hbel0 := hbel
      clear hbel
      have hbel := Below.refl wo.heap.size wo
      have tok_h3 : True := trivial
      go_wp2_with first
        | (with_reducible refine wpList_build0 rfl 28 rfl 6 zbuild6 ?_)
        | (have _t := tok_h3; with_reducible refine wpList_allocN rfl 28 rfl 6 zero6 ?_; intro Bh3 w1 hBh3 h3 hb1; have hWh3 := Nat.le_trans hbel.size hBh3; replace hbel := hbel.trans (hb1.mono hbel.size); clear hb1 _t tok_h3)
        | (with_reducible refine wpList_storeWN rfl _ _ _ rfl _ rfl rfl h3 size6 hbel hWh3 ?_; intro w1 g3 ho g4; clear h3 hbel; have h3 := g3; have hbel := g4; clear g3 g4 ho)
      rw [dgF_start n] at h3
      go_loopw [4, 5] (fun r i wr => ∃ c : Nat, c ≤ 5 ∧ i = .int .i64 c ∧ r = .int .i64 (n / 5 ^ (5 - c) : Nat) ∧ wr.heap[Bh3]? = some (.cells (arr 6 (dgF n c)) 28 (0, 0)) ∧ Below wo.heap.size wo wr) (fun _ i _ => (intOf i).toNat)
      case atStart => exact ⟨5, by omega, rfl, by rw [Nat.sub_self, Nat.pow_zero, Nat.div_one], h3, hbel⟩
      case round =>
        clear h3 hbel
        obtain ⟨c, hc, rfl, rfl, h3, hbel⟩ := hrel
        cases c with
        | succ c =>
          have hp : (0 : Int) < (c : Int) + 1 := by omega
          have hp6 : (c : Int) + 1 < 6 := by omega
          have hp0 : 0 ≤ (c : Int) + 1 := by omega
          have HR : Hid _ := dg_rest n hc
          have HD : Hid _ := dgF_step n (show c + 1 < 6 by omega)
          have hr : n / 5 ^ (5 - (c + 1)) ≤ 3125 := Nat.le_trans (Nat.div_le_self _ _) (by omega)
          generalize n / 5 ^ (5 - (c + 1)) = r at hr HR HD
          go_wp2_with first
            | (with_reducible refine wpList_storePI rfl 3 _ _ rfl _ _ rfl rfl h3 size1 (by omega) hbel (by omega) ?_; intro w1 g3 ho g4; clear h3 hbel; have h3 := g3; have hbel := g4; clear g3 g4 ho)
          go_roundw
          case rel => exact ⟨c, by omega, rfl, by rw [← HR.out]; push_cast; (try rfl), by rw [← HD.out]; push_cast; exact h3, hbel⟩
          case measure => simp [intOf] <;> omega
        | zero =>
          have hno : ¬ (0 : Int) < 0 := by omega
          have hle := nmP_len n
          have HO : Hid _ := dg_ok n
          cases ho : okL (dgL n) with
          | false =>
            have HN : Hid ((nmP (n + 1)) = nmP n) := nmP_no ho
            have HO : Hid (((dgF n 0 0 == 0) && pB (dgF n 0) 6) = false) := by show _ = _; rw [HO.out, ho]
            clear ho
            go_wp2_with first
              | (with_reducible refine wpList_loadW rfl _ _ rfl _ rfl h3 agg6 size6 ?_)
              | (go_at_call 30; (with_reducible refine (l4Names_any (dgF n 0) _).mono ?_); rw [HO.out]; rintro e w1 ⟨rfl, hb1⟩; replace hbel := hbel.trans (hb1.mono hbel.size); replace h3 := row_keep hb1 h3; clear hb1)
            go_roundw
            case rel => exact ⟨n + 1, _, by omega, by go_num, rfl, by rw [HN.out]; exact hS.keep hbel, hbel0.trans (hbel.mono hbel0.size)⟩
            case measure => simp [intOf]; omega
          | true =>
            have HN : Hid ((nmP (n + 1)) = nmP n ++ [dgL n]) := nmP_yes ho
            have HO : Hid (((dgF n 0 0 == 0) && pB (dgF n 0) 6) = true) := by show _ = _; rw [HO.out, ho]
            clear ho
            go_wp2_with first
              | (with_reducible refine wpList_loadW rfl _ _ rfl _ rfl h3 agg6 size6 ?_)
              | (go_at_call 30; (with_reducible refine (l4Names_any (dgF n 0) _).mono ?_); rw [HO.out]; rintro e w1 ⟨rfl, hb1⟩; replace hbel := hbel.trans (hb1.mono hbel.size); replace h3 := row_keep hb1 h3; clear hb1; replace hS := hS.keep hbel; replace hbel0 := hbel0.trans (hbel.mono hbel0.size); have hz := hbel0.size)
              | ((with_reducible refine wpList_row6 slN rfl _ rfl rfl ?_); intro B5 w5 hB5 h5 hb5; have hS5 := hS.keep hb5)
              | ((with_reducible refine wpList_appendS slN (by omega) rfl _ _ rfl rfl hS5 rfl h5 (by omega) (by omega) (by unfold maxLen; omega) (by omega) (by have := hb5.size; omega) ?_); intro v2 w2 hS2 hb2)
            go_roundw
            case rel =>
              refine ⟨n + 1, v2, by omega, by go_num, rfl, ?_, hbel0.trans ((hb5.mono hz).trans hb2)⟩
              rw [HN.out]
              refine hS2.congr (by simp) fun j hj => ?_
              rw [List.map_append, List.map_cons, List.map_nil, ← fls_snoc (by omega) _ _ j (by simpa using hj), List.length_map]
              unfold app
              split
              · rfl
              · simp only [Nat.zero_add]
                exact dgF_done n _ (by omega)
            case measure => simp [intOf]; omega
    · obtain rfl : n = 3125 := by omega
      go_wp2_with fail
      go_ret
      rw [nmP_all] at hS
      exact ⟨_, rfl, hS.congr nmL_len (fun _ _ => rfl), hbel⟩
end Go.Proofs.YtlbgmkengkgnfaaGreat
end
