/- A part (number 10) of the proof of the law FnRacks: what each of its sections proves stands in the section's own first remark. No conditions beside those that each theorem states. -/
import Derived.Test.YtlbgmkengkgnfaaGreatDoorMg9
import Derived.Test.YtlbgmkengkgnfaaGreatDoorMg5
import Derived.Test.YtlbgmkengkgnfaaGreatDoorMg7
import Derived.Test.YtlbgmkengkgnfaaGreatDoorMg4
section
/- What the law on racks draws: two racks. -/
namespace Go.Proofs.YtlbgmkengkgnfaaGreatDoor
set_option linter.unusedSimpArgs false
set_option linter.unusedVariables false
set_option maxRecDepth 20000
open Go.RowKit
theorem zero2h : ((Tryz.prog.info? 53).bind (·.zero)).map (·.cells) = some (arr 2 fun _ => 0) := by kernel_rfl
theorem results_cc2 {fn : Func} {p q : Tmp} {t1 t2 : TypeId} (h : fn.results = #[.cell p t1, .cell q t2]) {tmps : Array Value} {w : World} {B1 B2 n1 n2 : Nat} {f1 f2 : Nat → Int} {T1 T2 : TypeId} {fr1 fr2 : Nat × Nat}
    (hp : tmps.getD p undef = .pointer (some ⟨B1, 0, none⟩)) (hq : tmps.getD q undef = .pointer (some ⟨B2, 0, none⟩)) (hg1 : w.heap[B1]? = some (.cells (arr n1 f1) T1 fr1)) (hg2 : w.heap[B2]? = some (.cells (arr n2 f2) T2 fr2))
    (hd1 : aggB Tryz.prog t1 = true) (hi1 : (Tryz.prog.info? t1).map (·.size) = some n1) (hd2 : aggB Tryz.prog t2 = true) (hi2 : (Tryz.prog.info? t2).map (·.size) = some n2) :
    (results fn tmps).run Tryz.prog w = .ok (.tuple #[.agg (arr n1 f1), .agg (arr n2 f2)]) w := by
  have hp' : tmps[p]?.getD undef = .pointer (some ⟨B1, 0, none⟩) := by simpa using hp
  have hq' : tmps[q]?.getD undef = .pointer (some ⟨B2, 0, none⟩) := by simpa using hq
  have hl1 := run_loadVar_arr (P := Tryz.prog) w B1 0 T1 t1 fr1 n1 n1 f1 hg1 hd1 hi1 (by omega)
  have hl2 := run_loadVar_arr (P := Tryz.prog) w B2 0 T2 t2 fr2 n2 n2 f2 hg2 hd2 hi2 (by omega)
  simp only [Nat.zero_add] at hl1 hl2
  simp [results, h, hp', hq', asAddr, hl1, hl2]
theorem po_at (f : Nat → Int) : ∀ q, q ≤ 36 → ∀ r, r < poN f q → ∃ n m : Nat, n ≤ 5 ∧ m ≤ 5 ∧ n ≠ m ∧ poF f q (r * 2) = n ∧ poF f q (r * 2 + 1) = m
  | 0, _, r, h => by simp [poN] at h
  | q + 1, hq, r, h => by
    by_cases c : canF f (q / 6) (q % 6) = true
    · obtain ⟨e1, e2⟩ := po_yes c
      rw [e1] at h
      rw [e2]
      unfold app
      by_cases k : r = poN f q
      · subst k
        refine ⟨q / 6, q % 6, by omega, by omega, ?_, ?_, ?_⟩
        · unfold canF at c
          exact (of_decide_eq_true c).1
        · rw [if_neg (by omega)]
          show (if poN f q * 2 - poN f q * 2 = 0 then ((q / 6 : Nat) : Int) else ((q % 6 : Nat) : Int)) = _
          rw [if_pos (by omega)]
        · rw [if_neg (by omega)]
          show (if poN f q * 2 + 1 - poN f q * 2 = 0 then ((q / 6 : Nat) : Int) else ((q % 6 : Nat) : Int)) = _
          rw [if_neg (by omega)]
      · rw [if_pos (by omega), if_pos (by omega)]
        exact po_at f q (by omega) r (by omega)
    · obtain ⟨e1, e2⟩ := po_no (by simpa using c)
      rw [e1] at h
      rw [e2]
      exact po_at f q (by omega) r (by omega)
def pr2 (n m : Nat) : Nat → Int := fun j => if j = 0 then n else m
theorem pr2_0 (n m : Nat) : pr2 n m 0 = n := rfl
theorem pr2_1 (n m : Nat) : pr2 n m 1 = m := rfl
theorem pr2_arr {F : Nat → Int} {off n m : Nat} (h0 : F off = n) (h1 : F (off + 1) = m) : arr 2 (fun j => F (off + j)) = arr 2 (pr2 n m) := arr_congr fun j hj => by
  have : j = 0 ∨ j = 1 := by omega
  rcases this with rfl | rfl
  · exact h0
  · exact h1
set_option maxHeartbeats 8000000 in
theorem drawLR {p : Option Addr} {n c : Nat} (w : World) (hB : By w w.heap.size p n c) :
    Calls Tryz.prog 22 #[.slice p n c] w fun e w' => ∃ a b : Nat → Int, e = .returned (.tuple #[.agg (arr 24 a), .agg (arr 24 b)]) ∧ Below w.heap.size w w' := by
  have hbel := Below.refl w.heap.size w
  have hBy := hB
  clear hB
  have tk_2 : True := trivial
  have tk_3 : True := trivial
  have tk_5 : True := trivial
  have tk_6 : True := trivial
  have tk_8 : True := trivial
  have tk_9 : True := trivial
  have tk_w5 : True := trivial
  have tk_w6 : True := trivial
  have tk_w8 : True := trivial
  have tk_w9 : True := trivial
  have tk_x6 : True := trivial
  have tk_ra : True := trivial
  have tk_o3 : True := trivial
  have tk_o4 : True := trivial
  have tk_pk : True := trivial
  go_enter Tryz.func22, Tryz.ntmps22
  go_wp2_with first
    | (have _t := tk_2; (with_reducible refine wpList_allocN rfl 27 rfl 24 zero24r ?_); intro B2 w1 hW2 h2 hb1; (try (have _q := row_lt h3; have hl_3_2 : B3 < B2 := (by omega); clear _q)); (try (have _q := row_lt h5; have hl_5_2 : B5 < B2 := (by omega); clear _q)); (try (have _q := row_lt h6; have hl_6_2 : B6 < B2 := (by omega); clear _q)); (try (have _q := row_lt h7; have hl_7_2 : B7 < B2 := (by omega); clear _q)); (try (have _q := row_lt h8; have hl_8_2 : B8 < B2 := (by omega); clear _q)); (try (have _q := row_lt h9; have hl_9_2 : B9 < B2 := (by omega); clear _q)); (try replace h3 := row_keep hb1 h3); (try replace h5 := row_keep hb1 h5); (try replace h6 := row_keep hb1 h6); (try replace h7 := row_keep hb1 h7); (try replace h8 := row_keep hb1 h8); (try replace h9 := row_keep hb1 h9); replace hbel := hbel.trans (hb1.mono hbel.size); clear hb1 _t tk_2)
    | (have _t := tk_3; (with_reducible refine wpList_allocN rfl 27 rfl 24 zero24r ?_); intro B3 w1 hW3 h3 hb1; (try (have _q := row_lt h2; have hl_2_3 : B2 < B3 := (by omega); clear _q)); (try (have _q := row_lt h5; have hl_5_3 : B5 < B3 := (by omega); clear _q)); (try (have _q := row_lt h6; have hl_6_3 : B6 < B3 := (by omega); clear _q)); (try (have _q := row_lt h7; have hl_7_3 : B7 < B3 := (by omega); clear _q)); (try (have _q := row_lt h8; have hl_8_3 : B8 < B3 := (by omega); clear _q)); (try (have _q := row_lt h9; have hl_9_3 : B9 < B3 := (by omega); clear _q)); (try replace h2 := row_keep hb1 h2); (try replace h5 := row_keep hb1 h5); (try replace h6 := row_keep hb1 h6); (try replace h7 := row_keep hb1 h7); (try replace h8 := row_keep hb1 h8); (try replace h9 := row_keep hb1 h9); replace hbel := hbel.trans (hb1.mono hbel.size); clear hb1 _t tk_3)
  have hl2B := row_lt h2
  have hl3B := row_lt h3
  have hD := dd_new (T := 63) hBy hbel
  have hb1 : Below w1.heap.size w1 (w1.alloc (.cells #[.slice p n c, .int .i64 0, .int .u64 0] 63)) := (Below.refl _ _).alloc (Nat.le_refl _) _
  have hle := hbel.size
  replace hbel := hbel.trans (hb1.mono hbel.size)
  replace h2 := row_keep hb1 h2
  replace h3 := row_keep hb1 h3
  clear hb1
  obtain ⟨B, hB⟩ : ∃ B, B = w1.heap.size := ⟨_, rfl⟩
  rw [← hB] at hD hl2B hl3B hle ⊢
  clear hB
  generalize w1.alloc (.cells #[.slice p n c, .int .i64 0, .int .u64 0] 63) = wb at *
  have hsb : w.heap.size ≤ wb.heap.size := hbel.size
  have HD : Hid _ := hD
  clear hD
  go_wp2_with first
    | (go_at_call 43; have _t := tk_ra; (with_reducible refine Calls.mono (rack_d (by omega) HD.out) ?_); rintro e w1 ⟨f, i1, rfl, hi1, hD1, hg1⟩; (replace hbel := grown_belowD hg1 hle hbel; (try replace h2 := row_grown h2 hg1 (by omega)); (try replace h3 := row_grown h3 hg1 (by omega)); (try replace h5 := row_grown h5 hg1 (by omega)); (try replace h6 := row_grown h6 hg1 (by omega)); (try replace h7 := row_grown h7 hg1 (by omega)); (try replace h8 := row_grown h8 hg1 (by omega)); (try replace h9 := row_grown h9 hg1 (by omega)); clear HD; have HD : Hid _ := hD1; clear hD1 hg1); clear _t tk_ra)
    | (have _t := tk_5; (with_reducible refine wpList_allocN rfl 27 rfl 24 zero24r ?_); intro B5 w1 hW5 h5 hb1; have hWb5 : wb.heap.size ≤ B5 := Nat.le_trans HD.out.size hW5; have hlB5 : B < B5 := (by have := HD.out.lt; omega); (try (have _q := row_lt h2; have hl_2_5 : B2 < B5 := (by omega); clear _q)); (try (have _q := row_lt h3; have hl_3_5 : B3 < B5 := (by omega); clear _q)); (try (have _q := row_lt h6; have hl_6_5 : B6 < B5 := (by omega); clear _q)); (try (have _q := row_lt h7; have hl_7_5 : B7 < B5 := (by omega); clear _q)); (try (have _q := row_lt h8; have hl_8_5 : B8 < B5 := (by omega); clear _q)); (try (have _q := row_lt h9; have hl_9_5 : B9 < B5 := (by omega); clear _q)); (try replace h2 := row_keep hb1 h2); (try replace h3 := row_keep hb1 h3); (try replace h6 := row_keep hb1 h6); (try replace h7 := row_keep hb1 h7); (try replace h8 := row_keep hb1 h8); (try replace h9 := row_keep hb1 h9); have HD' : Hid _ := HD.out.below hb1; clear HD; have HD := HD'; clear HD'; replace hbel := hbel.trans (hb1.mono hbel.size); clear hb1 _t tk_5)
    | (have _t := tk_w5; (with_reducible refine wpList_storeWN rfl _ _ _ rfl _ rfl rfl h5 size24r (Below.refl wb.heap.size _) hWb5 ?_); intro w1 g3 ho g4; (try replace h2 := (ho _ (by omega)).trans h2); (try replace h3 := (ho _ (by omega)).trans h3); (try replace h6 := (ho _ (by omega)).trans h6); (try replace h7 := (ho _ (by omega)).trans h7); (try replace h8 := (ho _ (by omega)).trans h8); (try replace h9 := (ho _ (by omega)).trans h9); clear h5; have h5 := g3; have HD' : Hid _ := HD.out.belowK g4 (Nat.le_refl _); clear HD; have HD := HD'; replace hbel := hbel.trans (g4.mono hsb); clear HD' g3 ho g4 _t tk_w5)
    | (with_reducible refine wpList_loadWG rfl _ _ rfl _ rfl h5 agg24r size24r ?_)
    | (have _t := tk_6; (with_reducible refine wpList_allocN rfl 27 rfl 24 zero24r ?_); intro B6 w1 hW6 h6 hb1; have hWb6 : wb.heap.size ≤ B6 := Nat.le_trans HD.out.size hW6; have hlB6 : B < B6 := (by have := HD.out.lt; omega); (try (have _q := row_lt h2; have hl_2_6 : B2 < B6 := (by omega); clear _q)); (try (have _q := row_lt h3; have hl_3_6 : B3 < B6 := (by omega); clear _q)); (try (have _q := row_lt h5; have hl_5_6 : B5 < B6 := (by omega); clear _q)); (try (have _q := row_lt h7; have hl_7_6 : B7 < B6 := (by omega); clear _q)); (try (have _q := row_lt h8; have hl_8_6 : B8 < B6 := (by omega); clear _q)); (try (have _q := row_lt h9; have hl_9_6 : B9 < B6 := (by omega); clear _q)); (try replace h2 := row_keep hb1 h2); (try replace h3 := row_keep hb1 h3); (try replace h5 := row_keep hb1 h5); (try replace h7 := row_keep hb1 h7); (try replace h8 := row_keep hb1 h8); (try replace h9 := row_keep hb1 h9); have HD' : Hid _ := HD.out.below hb1; clear HD; have HD := HD'; clear HD'; replace hbel := hbel.trans (hb1.mono hbel.size); clear hb1 _t tk_6)
    | (have _t := tk_w6; (with_reducible refine wpList_storeWN rfl _ _ _ rfl _ rfl rfl h6 size24r (Below.refl wb.heap.size _) hWb6 ?_); intro w1 g3 ho g4; (try replace h2 := (ho _ (by omega)).trans h2); (try replace h3 := (ho _ (by omega)).trans h3); (try replace h5 := (ho _ (by omega)).trans h5); (try replace h7 := (ho _ (by omega)).trans h7); (try replace h8 := (ho _ (by omega)).trans h8); (try replace h9 := (ho _ (by omega)).trans h9); clear h6; have h6 := g3; have HD' : Hid _ := HD.out.belowK g4 (Nat.le_refl _); clear HD; have HD := HD'; replace hbel := hbel.trans (g4.mono hsb); clear HD' g3 ho g4 _t tk_w6)
    | (go_at_call 46; have _t := tk_o3; (with_reducible refine Calls.mono (one_d 3 (by omega) (by omega) _ (by omega) (by omega) HD.out) ?_); rintro e w1 ⟨b3, i2, rfl, hi2, hD1, hg1⟩; (replace hbel := grown_belowD hg1 hle hbel; (try replace h2 := row_grown h2 hg1 (by omega)); (try replace h3 := row_grown h3 hg1 (by omega)); (try replace h5 := row_grown h5 hg1 (by omega)); (try replace h6 := row_grown h6 hg1 (by omega)); (try replace h7 := row_grown h7 hg1 (by omega)); (try replace h8 := row_grown h8 hg1 (by omega)); (try replace h9 := row_grown h9 hg1 (by omega)); clear HD; have HD : Hid _ := hD1; clear hD1 hg1); clear _t tk_o3)
    | (go_at_call 43; (with_reducible refine Calls.mono (rack_d (by omega) HD.out) ?_); rintro e w1 ⟨g, i3, rfl, hi3, hD1, hg1⟩; (replace hbel := grown_belowD hg1 hle hbel; (try replace h2 := row_grown h2 hg1 (by omega)); (try replace h3 := row_grown h3 hg1 (by omega)); (try replace h5 := row_grown h5 hg1 (by omega)); (try replace h6 := row_grown h6 hg1 (by omega)); (try replace h7 := row_grown h7 hg1 (by omega)); (try replace h8 := row_grown h8 hg1 (by omega)); (try replace h9 := row_grown h9 hg1 (by omega)); clear HD; have HD : Hid _ := hD1; clear hD1 hg1))
    | (have _t := tk_x6; (with_reducible refine wpList_storeWN rfl _ _ _ rfl _ rfl rfl h6 size24r (Below.refl wb.heap.size _) hWb6 ?_); intro w1 g3 ho g4; (try replace h2 := (ho _ (by omega)).trans h2); (try replace h3 := (ho _ (by omega)).trans h3); (try replace h5 := (ho _ (by omega)).trans h5); (try replace h7 := (ho _ (by omega)).trans h7); (try replace h8 := (ho _ (by omega)).trans h8); (try replace h9 := (ho _ (by omega)).trans h9); clear h6; have h6 := g3; have HD' : Hid _ := HD.out.belowK g4 (Nat.le_refl _); clear HD; have HD := HD'; replace hbel := hbel.trans (g4.mono hsb); clear HD' g3 ho g4 _t tk_x6)
    | (go_at_call 34; (with_reducible refine (l2Rack_any _ _).mono ?_); (rintro e w1 ⟨rfl, hb1⟩; ((try replace h2 := row_keep hb1 h2); (try replace h3 := row_keep hb1 h3); (try replace h5 := row_keep hb1 h5); (try replace h6 := row_keep hb1 h6); (try replace h7 := row_keep hb1 h7); (try replace h8 := row_keep hb1 h8); (try replace h9 := row_keep hb1 h9); have HD' : Hid _ := HD.out.below hb1; clear HD; have HD := HD'; clear HD'; replace hbel := hbel.trans (hb1.mono hbel.size); clear hb1)))
    | (go_at_call 47; (with_reducible refine Calls.mono (l2Pours_any f (by assumption) _) ?_); rintro e w1 ⟨v, rfl, hS, hb1⟩; have hltB := HD.out.lt; ((try replace h2 := row_keep hb1 h2); (try replace h3 := row_keep hb1 h3); (try replace h5 := row_keep hb1 h5); (try replace h6 := row_keep hb1 h6); (try replace h7 := row_keep hb1 h7); (try replace h8 := row_keep hb1 h8); (try replace h9 := row_keep hb1 h9); have HD' : Hid _ := HD.out.below hb1; clear HD; have HD := HD'; clear HD'; replace hbel := hbel.trans (hb1.mono hbel.size); clear hb1); obtain ⟨N, hN⟩ : ∃ N, N = poN f 36 := ⟨_, rfl⟩; have hN36 : N ≤ 36 := (by rw [hN]; exact poN_le f 36); have hP := po_at f 36 (Nat.le_refl _); rw [← hN] at hS hP; have HP : Hid _ := hP; clear hP hN; (rcases Nat.eq_zero_or_pos N with h0 | h0); rotate_left; obtain ⟨B7, cap, F, rfl, hb7, h7, hc7, hcm, hF⟩ := hS.blk h0; have hl7 : B < B7 := (by omega); have HF : Hid _ := hF; clear hF hS; rotate_left)
    | (with_reducible refine wpList_lenS slP.ht rfl _ rfl rfl hS ?_)
    | (go_at_call 46; have _t := tk_o4; (with_reducible refine Calls.mono (one_d 4 (by omega) (by omega) _ (by omega) (by omega) HD.out) ?_); rintro e w1 ⟨b4, i4, rfl, hi4, hD1, hg1⟩; (replace hbel := grown_belowD hg1 hle hbel; (try replace h2 := row_grown h2 hg1 (by omega)); (try replace h3 := row_grown h3 hg1 (by omega)); (try replace h5 := row_grown h5 hg1 (by omega)); (try replace h6 := row_grown h6 hg1 (by omega)); (try replace h7 := row_grown h7 hg1 (by omega)); (try replace h8 := row_grown h8 hg1 (by omega)); (try replace h9 := row_grown h9 hg1 (by omega)); clear HD; have HD : Hid _ := hD1; clear hD1 hg1); clear _t tk_o4)
    | (go_at_call 48; have _t := tk_pk; (with_reducible refine Calls.mono (pick_d N (by omega) (by omega) _ rfl (by omega) HD.out) ?_); rintro e w1 ⟨r, i5, rfl, hr, hi5, hD1, hg1⟩; (replace hbel := grown_belowD hg1 hle hbel; (try replace h2 := row_grown h2 hg1 (by omega)); (try replace h3 := row_grown h3 hg1 (by omega)); (try replace h5 := row_grown h5 hg1 (by omega)); (try replace h6 := row_grown h6 hg1 (by omega)); (try replace h7 := row_grown h7 hg1 (by omega)); (try replace h8 := row_grown h8 hg1 (by omega)); (try replace h9 := row_grown h9 hg1 (by omega)); clear HD; have HD : Hid _ := hD1; clear hD1 hg1); clear _t tk_pk)
    | ((with_reducible refine wpList_loadAG rfl _ _ rfl _ _ rfl h7 2 pairA pairS (by omega) ?_); obtain ⟨n1, m1, hn5, hm5, hnm, hp0, hp1⟩ := HP.out r hr; rw [pr2_arr (n := n1) (m := m1) ((HF.out _ (by omega)).trans hp0) ((HF.out _ (by omega)).trans hp1)])
    | (have _t := tk_8; (with_reducible refine wpList_allocN rfl 53 rfl 2 zero2h ?_); intro B8 w1 hW8 h8 hb1; have hWb8 : wb.heap.size ≤ B8 := Nat.le_trans HD.out.size hW8; have hlB8 : B < B8 := (by have := HD.out.lt; omega); (try (have _q := row_lt h2; have hl_2_8 : B2 < B8 := (by omega); clear _q)); (try (have _q := row_lt h3; have hl_3_8 : B3 < B8 := (by omega); clear _q)); (try (have _q := row_lt h5; have hl_5_8 : B5 < B8 := (by omega); clear _q)); (try (have _q := row_lt h6; have hl_6_8 : B6 < B8 := (by omega); clear _q)); (try (have _q := row_lt h7; have hl_7_8 : B7 < B8 := (by omega); clear _q)); (try (have _q := row_lt h9; have hl_9_8 : B9 < B8 := (by omega); clear _q)); (try replace h2 := row_keep hb1 h2); (try replace h3 := row_keep hb1 h3); (try replace h5 := row_keep hb1 h5); (try replace h6 := row_keep hb1 h6); (try replace h7 := row_keep hb1 h7); (try replace h9 := row_keep hb1 h9); have HD' : Hid _ := HD.out.below hb1; clear HD; have HD := HD'; clear HD'; replace hbel := hbel.trans (hb1.mono hbel.size); clear hb1 _t tk_8)
    | (have _t := tk_w8; (with_reducible refine wpList_storeWN rfl _ _ _ rfl _ rfl rfl h8 pairS (Below.refl wb.heap.size _) hWb8 ?_); intro w1 g3 ho g4; (try replace h2 := (ho _ (by omega)).trans h2); (try replace h3 := (ho _ (by omega)).trans h3); (try replace h5 := (ho _ (by omega)).trans h5); (try replace h6 := (ho _ (by omega)).trans h6); (try replace h7 := (ho _ (by omega)).trans h7); (try replace h9 := (ho _ (by omega)).trans h9); clear h8; have h8 := g3; have HD' : Hid _ := HD.out.belowK g4 (Nat.le_refl _); clear HD; have HD := HD'; replace hbel := hbel.trans (g4.mono hsb); clear HD' g3 ho g4 _t tk_w8)
    | ((with_reducible refine wpList_loadI rfl _ _ rfl _ _ rfl h8 aggI undI (by omega) ?_); first | rw [pr2_0] | rw [pr2_1])
    | (go_at_call 49; (with_reducible refine Calls.mono (l2Pour_any f (by assumption) n1 m1 hn5 hm5 hnm _) ?_); rintro e w1 ⟨rfl, hb1⟩; ((try replace h2 := row_keep hb1 h2); (try replace h3 := row_keep hb1 h3); (try replace h5 := row_keep hb1 h5); (try replace h6 := row_keep hb1 h6); (try replace h7 := row_keep hb1 h7); (try replace h8 := row_keep hb1 h8); (try replace h9 := row_keep hb1 h9); have HD' : Hid _ := HD.out.below hb1; clear HD; have HD := HD'; clear HD'; replace hbel := hbel.trans (hb1.mono hbel.size); clear hb1))
    | (have _t := tk_9; (with_reducible refine wpList_allocN rfl 27 rfl 24 zero24r ?_); intro B9 w1 hW9 h9 hb1; have hWb9 : wb.heap.size ≤ B9 := Nat.le_trans HD.out.size hW9; have hlB9 : B < B9 := (by have := HD.out.lt; omega); (try (have _q := row_lt h2; have hl_2_9 : B2 < B9 := (by omega); clear _q)); (try (have _q := row_lt h3; have hl_3_9 : B3 < B9 := (by omega); clear _q)); (try (have _q := row_lt h5; have hl_5_9 : B5 < B9 := (by omega); clear _q)); (try (have _q := row_lt h6; have hl_6_9 : B6 < B9 := (by omega); clear _q)); (try (have _q := row_lt h7; have hl_7_9 : B7 < B9 := (by omega); clear _q)); (try (have _q := row_lt h8; have hl_8_9 : B8 < B9 := (by omega); clear _q)); (try replace h2 := row_keep hb1 h2); (try replace h3 := row_keep hb1 h3); (try replace h5 := row_keep hb1 h5); (try replace h6 := row_keep hb1 h6); (try replace h7 := row_keep hb1 h7); (try replace h8 := row_keep hb1 h8); have HD' : Hid _ := HD.out.below hb1; clear HD; have HD := HD'; clear HD'; replace hbel := hbel.trans (hb1.mono hbel.size); clear hb1 _t tk_9)
    | (have _t := tk_w9; (with_reducible refine wpList_storeWN rfl _ _ _ rfl _ rfl rfl h9 size24r (Below.refl wb.heap.size _) hWb9 ?_); intro w1 g3 ho g4; (try replace h2 := (ho _ (by omega)).trans h2); (try replace h3 := (ho _ (by omega)).trans h3); (try replace h5 := (ho _ (by omega)).trans h5); (try replace h6 := (ho _ (by omega)).trans h6); (try replace h7 := (ho _ (by omega)).trans h7); (try replace h8 := (ho _ (by omega)).trans h8); clear h9; have h9 := g3; have HD' : Hid _ := HD.out.belowK g4 (Nat.le_refl _); clear HD; have HD := HD'; replace hbel := hbel.trans (g4.mono hsb); clear HD' g3 ho g4 _t tk_w9)
    | (with_reducible refine wpList_loadWG rfl _ _ rfl _ rfl h9 agg24r size24r ?_)
  next =>
    refine wp_region_fork [] [] [] 4 (fun l => []) (fun l => []) (fun _ => True) (by kernel_rfl) (by kernel_rfl) (by kernel_rfl) (by kernel_rfl) trivial trivial ?_
    refine wpCalm_nil ?_
    refine wpCalm_nil ?_
    have hb1 : Below w1.heap.size w1 { w1 with drawn := w1.drawn + 1 } := (Below.refl _ _).drew
    obtain ⟨w1, hwt⟩ : ∃ w2 : World, w2 = { w1 with drawn := w1.drawn + 1 } := ⟨_, rfl⟩
    rw [← hwt] at hb1 ⊢
    clear hwt
    replace h2 := row_keep hb1 h2
    replace h3 := row_keep hb1 h3
    replace h5 := row_keep hb1 h5
    replace h6 := row_keep hb1 h6
    replace hbel := hbel.trans (hb1.mono hbel.size)
    clear hb1 HD
    refine wpAny_fork2 0 1 (by kernel_rfl) rfl rfl ?_ ?_
    · go_wp2_with first
        | (with_reducible refine wpList_loadW rfl _ _ rfl _ rfl h5 agg24r size24r ?_)
      refine QN.intro ?_
      refine wpAny_fork2 1 2 (by kernel_rfl) rfl rfl ?_ ?_
      · go_wp2_with first
          | (with_reducible refine wpList_loadW rfl _ _ rfl _ rfl h6 agg24r size24r ?_)
        refine QN.intro ?_
        refine wpAny_fork1 2 (by kernel_rfl) rfl ?_
        go_wp2_with first
          | ((with_reducible refine wpList_storeWN rfl _ _ _ rfl _ rfl rfl h2 size24r hbel (by omega) ?_); intro w1 g3 ho g4; (try replace h3 := (ho _ (by omega)).trans h3); (try replace h5 := (ho _ (by omega)).trans h5); (try replace h6 := (ho _ (by omega)).trans h6); clear h2; have h2 := g3; clear hbel; have hbel := g4; clear g3 ho g4)
        refine QN.intro ?_
        refine wpAny_fork1 3 (by kernel_rfl) rfl ?_
        go_wp2_with first
          | ((with_reducible refine wpList_storeWN rfl _ _ _ rfl _ rfl rfl h3 size24r hbel (by omega) ?_); intro w1 g3 ho g4; (try replace h2 := (ho _ (by omega)).trans h2); (try replace h5 := (ho _ (by omega)).trans h5); (try replace h6 := (ho _ (by omega)).trans h6); clear h3; have h3 := g3; clear hbel; have hbel := g4; clear g3 ho g4)
        refine QN.intro ?_
        refine wpAny_end (by kernel_rfl) ?_
        go_wp2_with fail
        exact bodyPost_ret_by (results_cc2 rfl rfl rfl h2 h3 agg24r size24r agg24r size24r) rfl ⟨_, _, rfl, hbel⟩
      · go_wp2_with first
          | ((with_reducible refine wpList_storeWN rfl _ _ _ rfl _ rfl rfl h2 size24r hbel (by omega) ?_); intro w1 g3 ho g4; (try replace h3 := (ho _ (by omega)).trans h3); (try replace h5 := (ho _ (by omega)).trans h5); (try replace h6 := (ho _ (by omega)).trans h6); clear h2; have h2 := g3; clear hbel; have hbel := g4; clear g3 ho g4)
        refine QN.intro ?_
        refine wpAny_fork1 1 (by kernel_rfl) rfl ?_
        go_wp2_with first
          | (with_reducible refine wpList_loadW rfl _ _ rfl _ rfl h6 agg24r size24r ?_)
        refine QN.intro ?_
        refine wpAny_fork1 3 (by kernel_rfl) rfl ?_
        go_wp2_with first
          | ((with_reducible refine wpList_storeWN rfl _ _ _ rfl _ rfl rfl h3 size24r hbel (by omega) ?_); intro w1 g3 ho g4; (try replace h2 := (ho _ (by omega)).trans h2); (try replace h5 := (ho _ (by omega)).trans h5); (try replace h6 := (ho _ (by omega)).trans h6); clear h3; have h3 := g3; clear hbel; have hbel := g4; clear g3 ho g4)
        refine QN.intro ?_
        refine wpAny_end (by kernel_rfl) ?_
        go_wp2_with fail
        exact bodyPost_ret_by (results_cc2 rfl rfl rfl h2 h3 agg24r size24r agg24r size24r) rfl ⟨_, _, rfl, hbel⟩
    · go_wp2_with first
        | (with_reducible refine wpList_loadW rfl _ _ rfl _ rfl h6 agg24r size24r ?_)
      refine QN.intro ?_
      refine wpAny_fork1 0 (by kernel_rfl) rfl ?_
      go_wp2_with first
        | (with_reducible refine wpList_loadW rfl _ _ rfl _ rfl h5 agg24r size24r ?_)
      refine QN.intro ?_
      refine wpAny_fork1 2 (by kernel_rfl) rfl ?_
      go_wp2_with first
        | ((with_reducible refine wpList_storeWN rfl _ _ _ rfl _ rfl rfl h2 size24r hbel (by omega) ?_); intro w1 g3 ho g4; (try replace h3 := (ho _ (by omega)).trans h3); (try replace h5 := (ho _ (by omega)).trans h5); (try replace h6 := (ho _ (by omega)).trans h6); clear h2; have h2 := g3; clear hbel; have hbel := g4; clear g3 ho g4)
      refine QN.intro ?_
      refine wpAny_fork1 3 (by kernel_rfl) rfl ?_
      go_wp2_with first
        | ((with_reducible refine wpList_storeWN rfl _ _ _ rfl _ rfl rfl h3 size24r hbel (by omega) ?_); intro w1 g3 ho g4; (try replace h2 := (ho _ (by omega)).trans h2); (try replace h5 := (ho _ (by omega)).trans h5); (try replace h6 := (ho _ (by omega)).trans h6); clear h3; have h3 := g3; clear hbel; have hbel := g4; clear g3 ho g4)
      refine QN.intro ?_
      refine wpAny_end (by kernel_rfl) ?_
      go_wp2_with fail
      exact bodyPost_ret_by (results_cc2 rfl rfl rfl h2 h3 agg24r size24r agg24r size24r) rfl ⟨_, _, rfl, hbel⟩
  next =>
    refine wp_region_fork [] [] [] 4 (fun l => []) (fun l => []) (fun _ => True) (by kernel_rfl) (by kernel_rfl) (by kernel_rfl) (by kernel_rfl) trivial trivial ?_
    refine wpCalm_nil ?_
    refine wpCalm_nil ?_
    have hb1 : Below w1.heap.size w1 { w1 with drawn := w1.drawn + 1 } := (Below.refl _ _).drew
    obtain ⟨w1, hwt⟩ : ∃ w2 : World, w2 = { w1 with drawn := w1.drawn + 1 } := ⟨_, rfl⟩
    rw [← hwt] at hb1 ⊢
    clear hwt
    replace h2 := row_keep hb1 h2
    replace h3 := row_keep hb1 h3
    replace h5 := row_keep hb1 h5
    replace h6 := row_keep hb1 h6
    replace hbel := hbel.trans (hb1.mono hbel.size)
    clear hb1 HD
    refine wpAny_fork2 0 1 (by kernel_rfl) rfl rfl ?_ ?_
    · go_wp2_with first
        | (with_reducible refine wpList_loadW rfl _ _ rfl _ rfl h5 agg24r size24r ?_)
      refine QN.intro ?_
      refine wpAny_fork2 1 2 (by kernel_rfl) rfl rfl ?_ ?_
      · go_wp2_with first
          | (with_reducible refine wpList_loadW rfl _ _ rfl _ rfl h6 agg24r size24r ?_)
        refine QN.intro ?_
        refine wpAny_fork1 2 (by kernel_rfl) rfl ?_
        go_wp2_with first
          | ((with_reducible refine wpList_storeWN rfl _ _ _ rfl _ rfl rfl h2 size24r hbel (by omega) ?_); intro w1 g3 ho g4; (try replace h3 := (ho _ (by omega)).trans h3); (try replace h5 := (ho _ (by omega)).trans h5); (try replace h6 := (ho _ (by omega)).trans h6); clear h2; have h2 := g3; clear hbel; have hbel := g4; clear g3 ho g4)
        refine QN.intro ?_
        refine wpAny_fork1 3 (by kernel_rfl) rfl ?_
        go_wp2_with first
          | ((with_reducible refine wpList_storeWN rfl _ _ _ rfl _ rfl rfl h3 size24r hbel (by omega) ?_); intro w1 g3 ho g4; (try replace h2 := (ho _ (by omega)).trans h2); (try replace h5 := (ho _ (by omega)).trans h5); (try replace h6 := (ho _ (by omega)).trans h6); clear h3; have h3 := g3; clear hbel; have hbel := g4; clear g3 ho g4)
        refine QN.intro ?_
        refine wpAny_end (by kernel_rfl) ?_
        go_wp2_with fail
        exact bodyPost_ret_by (results_cc2 rfl rfl rfl h2 h3 agg24r size24r agg24r size24r) rfl ⟨_, _, rfl, hbel⟩
      · go_wp2_with first
          | ((with_reducible refine wpList_storeWN rfl _ _ _ rfl _ rfl rfl h2 size24r hbel (by omega) ?_); intro w1 g3 ho g4; (try replace h3 := (ho _ (by omega)).trans h3); (try replace h5 := (ho _ (by omega)).trans h5); (try replace h6 := (ho _ (by omega)).trans h6); clear h2; have h2 := g3; clear hbel; have hbel := g4; clear g3 ho g4)
        refine QN.intro ?_
        refine wpAny_fork1 1 (by kernel_rfl) rfl ?_
        go_wp2_with first
          | (with_reducible refine wpList_loadW rfl _ _ rfl _ rfl h6 agg24r size24r ?_)
        refine QN.intro ?_
        refine wpAny_fork1 3 (by kernel_rfl) rfl ?_
        go_wp2_with first
          | ((with_reducible refine wpList_storeWN rfl _ _ _ rfl _ rfl rfl h3 size24r hbel (by omega) ?_); intro w1 g3 ho g4; (try replace h2 := (ho _ (by omega)).trans h2); (try replace h5 := (ho _ (by omega)).trans h5); (try replace h6 := (ho _ (by omega)).trans h6); clear h3; have h3 := g3; clear hbel; have hbel := g4; clear g3 ho g4)
        refine QN.intro ?_
        refine wpAny_end (by kernel_rfl) ?_
        go_wp2_with fail
        exact bodyPost_ret_by (results_cc2 rfl rfl rfl h2 h3 agg24r size24r agg24r size24r) rfl ⟨_, _, rfl, hbel⟩
    · go_wp2_with first
        | (with_reducible refine wpList_loadW rfl _ _ rfl _ rfl h6 agg24r size24r ?_)
      refine QN.intro ?_
      refine wpAny_fork1 0 (by kernel_rfl) rfl ?_
      go_wp2_with first
        | (with_reducible refine wpList_loadW rfl _ _ rfl _ rfl h5 agg24r size24r ?_)
      refine QN.intro ?_
      refine wpAny_fork1 2 (by kernel_rfl) rfl ?_
      go_wp2_with first
        | ((with_reducible refine wpList_storeWN rfl _ _ _ rfl _ rfl rfl h2 size24r hbel (by omega) ?_); intro w1 g3 ho g4; (try replace h3 := (ho _ (by omega)).trans h3); (try replace h5 := (ho _ (by omega)).trans h5); (try replace h6 := (ho _ (by omega)).trans h6); clear h2; have h2 := g3; clear hbel; have hbel := g4; clear g3 ho g4)
      refine QN.intro ?_
      refine wpAny_fork1 3 (by kernel_rfl) rfl ?_
      go_wp2_with first
        | ((with_reducible refine wpList_storeWN rfl _ _ _ rfl _ rfl rfl h3 size24r hbel (by omega) ?_); intro w1 g3 ho g4; (try replace h2 := (ho _ (by omega)).trans h2); (try replace h5 := (ho _ (by omega)).trans h5); (try replace h6 := (ho _ (by omega)).trans h6); clear h3; have h3 := g3; clear hbel; have hbel := g4; clear g3 ho g4)
      refine QN.intro ?_
      refine wpAny_end (by kernel_rfl) ?_
      go_wp2_with fail
      exact bodyPost_ret_by (results_cc2 rfl rfl rfl h2 h3 agg24r size24r agg24r size24r) rfl ⟨_, _, rfl, hbel⟩
  next =>
    refine wp_region_fork [] [] [] 4 (fun l => []) (fun l => []) (fun _ => True) (by kernel_rfl) (by kernel_rfl) (by kernel_rfl) (by kernel_rfl) trivial trivial ?_
    refine wpCalm_nil ?_
    refine wpCalm_nil ?_
    have hb1 : Below w1.heap.size w1 { w1 with drawn := w1.drawn + 1 } := (Below.refl _ _).drew
    obtain ⟨w1, hwt⟩ : ∃ w2 : World, w2 = { w1 with drawn := w1.drawn + 1 } := ⟨_, rfl⟩
    rw [← hwt] at hb1 ⊢
    clear hwt
    replace h2 := row_keep hb1 h2
    replace h3 := row_keep hb1 h3
    replace h5 := row_keep hb1 h5
    replace h6 := row_keep hb1 h6
    replace hbel := hbel.trans (hb1.mono hbel.size)
    clear hb1 HD
    refine wpAny_fork2 0 1 (by kernel_rfl) rfl rfl ?_ ?_
    · go_wp2_with first
        | (with_reducible refine wpList_loadW rfl _ _ rfl _ rfl h5 agg24r size24r ?_)
      refine QN.intro ?_
      refine wpAny_fork2 1 2 (by kernel_rfl) rfl rfl ?_ ?_
      · go_wp2_with first
          | (with_reducible refine wpList_loadW rfl _ _ rfl _ rfl h6 agg24r size24r ?_)
        refine QN.intro ?_
        refine wpAny_fork1 2 (by kernel_rfl) rfl ?_
        go_wp2_with first
          | ((with_reducible refine wpList_storeWN rfl _ _ _ rfl _ rfl rfl h2 size24r hbel (by omega) ?_); intro w1 g3 ho g4; (try replace h3 := (ho _ (by omega)).trans h3); (try replace h5 := (ho _ (by omega)).trans h5); (try replace h6 := (ho _ (by omega)).trans h6); clear h2; have h2 := g3; clear hbel; have hbel := g4; clear g3 ho g4)
        refine QN.intro ?_
        refine wpAny_fork1 3 (by kernel_rfl) rfl ?_
        go_wp2_with first
          | ((with_reducible refine wpList_storeWN rfl _ _ _ rfl _ rfl rfl h3 size24r hbel (by omega) ?_); intro w1 g3 ho g4; (try replace h2 := (ho _ (by omega)).trans h2); (try replace h5 := (ho _ (by omega)).trans h5); (try replace h6 := (ho _ (by omega)).trans h6); clear h3; have h3 := g3; clear hbel; have hbel := g4; clear g3 ho g4)
        refine QN.intro ?_
        refine wpAny_end (by kernel_rfl) ?_
        go_wp2_with fail
        exact bodyPost_ret_by (results_cc2 rfl rfl rfl h2 h3 agg24r size24r agg24r size24r) rfl ⟨_, _, rfl, hbel⟩
      · go_wp2_with first
          | ((with_reducible refine wpList_storeWN rfl _ _ _ rfl _ rfl rfl h2 size24r hbel (by omega) ?_); intro w1 g3 ho g4; (try replace h3 := (ho _ (by omega)).trans h3); (try replace h5 := (ho _ (by omega)).trans h5); (try replace h6 := (ho _ (by omega)).trans h6); clear h2; have h2 := g3; clear hbel; have hbel := g4; clear g3 ho g4)
        refine QN.intro ?_
        refine wpAny_fork1 1 (by kernel_rfl) rfl ?_
        go_wp2_with first
          | (with_reducible refine wpList_loadW rfl _ _ rfl _ rfl h6 agg24r size24r ?_)
        refine QN.intro ?_
        refine wpAny_fork1 3 (by kernel_rfl) rfl ?_
        go_wp2_with first
          | ((with_reducible refine wpList_storeWN rfl _ _ _ rfl _ rfl rfl h3 size24r hbel (by omega) ?_); intro w1 g3 ho g4; (try replace h2 := (ho _ (by omega)).trans h2); (try replace h5 := (ho _ (by omega)).trans h5); (try replace h6 := (ho _ (by omega)).trans h6); clear h3; have h3 := g3; clear hbel; have hbel := g4; clear g3 ho g4)
        refine QN.intro ?_
        refine wpAny_end (by kernel_rfl) ?_
        go_wp2_with fail
        exact bodyPost_ret_by (results_cc2 rfl rfl rfl h2 h3 agg24r size24r agg24r size24r) rfl ⟨_, _, rfl, hbel⟩
    · go_wp2_with first
        | (with_reducible refine wpList_loadW rfl _ _ rfl _ rfl h6 agg24r size24r ?_)
      refine QN.intro ?_
      refine wpAny_fork1 0 (by kernel_rfl) rfl ?_
      go_wp2_with first
        | (with_reducible refine wpList_loadW rfl _ _ rfl _ rfl h5 agg24r size24r ?_)
      refine QN.intro ?_
      refine wpAny_fork1 2 (by kernel_rfl) rfl ?_
      go_wp2_with first
        | ((with_reducible refine wpList_storeWN rfl _ _ _ rfl _ rfl rfl h2 size24r hbel (by omega) ?_); intro w1 g3 ho g4; (try replace h3 := (ho _ (by omega)).trans h3); (try replace h5 := (ho _ (by omega)).trans h5); (try replace h6 := (ho _ (by omega)).trans h6); clear h2; have h2 := g3; clear hbel; have hbel := g4; clear g3 ho g4)
      refine QN.intro ?_
      refine wpAny_fork1 3 (by kernel_rfl) rfl ?_
      go_wp2_with first
        | ((with_reducible refine wpList_storeWN rfl _ _ _ rfl _ rfl rfl h3 size24r hbel (by omega) ?_); intro w1 g3 ho g4; (try replace h2 := (ho _ (by omega)).trans h2); (try replace h5 := (ho _ (by omega)).trans h5); (try replace h6 := (ho _ (by omega)).trans h6); clear h3; have h3 := g3; clear hbel; have hbel := g4; clear g3 ho g4)
      refine QN.intro ?_
      refine wpAny_end (by kernel_rfl) ?_
      go_wp2_with fail
      exact bodyPost_ret_by (results_cc2 rfl rfl rfl h2 h3 agg24r size24r agg24r size24r) rfl ⟨_, _, rfl, hbel⟩
  next =>
    refine wp_region_fork [] [] [] 4 (fun l => []) (fun l => []) (fun _ => True) (by kernel_rfl) (by kernel_rfl) (by kernel_rfl) (by kernel_rfl) trivial trivial ?_
    refine wpCalm_nil ?_
    refine wpCalm_nil ?_
    have hb1 : Below w1.heap.size w1 { w1 with drawn := w1.drawn + 1 } := (Below.refl _ _).drew
    obtain ⟨w1, hwt⟩ : ∃ w2 : World, w2 = { w1 with drawn := w1.drawn + 1 } := ⟨_, rfl⟩
    rw [← hwt] at hb1 ⊢
    clear hwt
    replace h2 := row_keep hb1 h2
    replace h3 := row_keep hb1 h3
    replace h5 := row_keep hb1 h5
    replace h6 := row_keep hb1 h6
    replace hbel := hbel.trans (hb1.mono hbel.size)
    clear hb1 HD
    refine wpAny_fork2 0 1 (by kernel_rfl) rfl rfl ?_ ?_
    · go_wp2_with first
        | (with_reducible refine wpList_loadW rfl _ _ rfl _ rfl h5 agg24r size24r ?_)
      refine QN.intro ?_
      refine wpAny_fork2 1 2 (by kernel_rfl) rfl rfl ?_ ?_
      · go_wp2_with first
          | (with_reducible refine wpList_loadW rfl _ _ rfl _ rfl h6 agg24r size24r ?_)
        refine QN.intro ?_
        refine wpAny_fork1 2 (by kernel_rfl) rfl ?_
        go_wp2_with first
          | ((with_reducible refine wpList_storeWN rfl _ _ _ rfl _ rfl rfl h2 size24r hbel (by omega) ?_); intro w1 g3 ho g4; (try replace h3 := (ho _ (by omega)).trans h3); (try replace h5 := (ho _ (by omega)).trans h5); (try replace h6 := (ho _ (by omega)).trans h6); clear h2; have h2 := g3; clear hbel; have hbel := g4; clear g3 ho g4)
        refine QN.intro ?_
        refine wpAny_fork1 3 (by kernel_rfl) rfl ?_
        go_wp2_with first
          | ((with_reducible refine wpList_storeWN rfl _ _ _ rfl _ rfl rfl h3 size24r hbel (by omega) ?_); intro w1 g3 ho g4; (try replace h2 := (ho _ (by omega)).trans h2); (try replace h5 := (ho _ (by omega)).trans h5); (try replace h6 := (ho _ (by omega)).trans h6); clear h3; have h3 := g3; clear hbel; have hbel := g4; clear g3 ho g4)
        refine QN.intro ?_
        refine wpAny_end (by kernel_rfl) ?_
        go_wp2_with fail
        exact bodyPost_ret_by (results_cc2 rfl rfl rfl h2 h3 agg24r size24r agg24r size24r) rfl ⟨_, _, rfl, hbel⟩
      · go_wp2_with first
          | ((with_reducible refine wpList_storeWN rfl _ _ _ rfl _ rfl rfl h2 size24r hbel (by omega) ?_); intro w1 g3 ho g4; (try replace h3 := (ho _ (by omega)).trans h3); (try replace h5 := (ho _ (by omega)).trans h5); (try replace h6 := (ho _ (by omega)).trans h6); clear h2; have h2 := g3; clear hbel; have hbel := g4; clear g3 ho g4)
        refine QN.intro ?_
        refine wpAny_fork1 1 (by kernel_rfl) rfl ?_
        go_wp2_with first
          | (with_reducible refine wpList_loadW rfl _ _ rfl _ rfl h6 agg24r size24r ?_)
        refine QN.intro ?_
        refine wpAny_fork1 3 (by kernel_rfl) rfl ?_
        go_wp2_with first
          | ((with_reducible refine wpList_storeWN rfl _ _ _ rfl _ rfl rfl h3 size24r hbel (by omega) ?_); intro w1 g3 ho g4; (try replace h2 := (ho _ (by omega)).trans h2); (try replace h5 := (ho _ (by omega)).trans h5); (try replace h6 := (ho _ (by omega)).trans h6); clear h3; have h3 := g3; clear hbel; have hbel := g4; clear g3 ho g4)
        refine QN.intro ?_
        refine wpAny_end (by kernel_rfl) ?_
        go_wp2_with fail
        exact bodyPost_ret_by (results_cc2 rfl rfl rfl h2 h3 agg24r size24r agg24r size24r) rfl ⟨_, _, rfl, hbel⟩
    · go_wp2_with first
        | (with_reducible refine wpList_loadW rfl _ _ rfl _ rfl h6 agg24r size24r ?_)
      refine QN.intro ?_
      refine wpAny_fork1 0 (by kernel_rfl) rfl ?_
      go_wp2_with first
        | (with_reducible refine wpList_loadW rfl _ _ rfl _ rfl h5 agg24r size24r ?_)
      refine QN.intro ?_
      refine wpAny_fork1 2 (by kernel_rfl) rfl ?_
      go_wp2_with first
        | ((with_reducible refine wpList_storeWN rfl _ _ _ rfl _ rfl rfl h2 size24r hbel (by omega) ?_); intro w1 g3 ho g4; (try replace h3 := (ho _ (by omega)).trans h3); (try replace h5 := (ho _ (by omega)).trans h5); (try replace h6 := (ho _ (by omega)).trans h6); clear h2; have h2 := g3; clear hbel; have hbel := g4; clear g3 ho g4)
      refine QN.intro ?_
      refine wpAny_fork1 3 (by kernel_rfl) rfl ?_
      go_wp2_with first
        | ((with_reducible refine wpList_storeWN rfl _ _ _ rfl _ rfl rfl h3 size24r hbel (by omega) ?_); intro w1 g3 ho g4; (try replace h2 := (ho _ (by omega)).trans h2); (try replace h5 := (ho _ (by omega)).trans h5); (try replace h6 := (ho _ (by omega)).trans h6); clear h3; have h3 := g3; clear hbel; have hbel := g4; clear g3 ho g4)
      refine QN.intro ?_
      refine wpAny_end (by kernel_rfl) ?_
      go_wp2_with fail
      exact bodyPost_ret_by (results_cc2 rfl rfl rfl h2 h3 agg24r size24r agg24r size24r) rfl ⟨_, _, rfl, hbel⟩
  next =>
    refine wp_region_fork [] [] [] 4 (fun l => []) (fun l => []) (fun _ => True) (by kernel_rfl) (by kernel_rfl) (by kernel_rfl) (by kernel_rfl) trivial trivial ?_
    refine wpCalm_nil ?_
    refine wpCalm_nil ?_
    have hb1 : Below w1.heap.size w1 { w1 with drawn := w1.drawn + 1 } := (Below.refl _ _).drew
    obtain ⟨w1, hwt⟩ : ∃ w2 : World, w2 = { w1 with drawn := w1.drawn + 1 } := ⟨_, rfl⟩
    rw [← hwt] at hb1 ⊢
    clear hwt
    replace h2 := row_keep hb1 h2
    replace h3 := row_keep hb1 h3
    replace h5 := row_keep hb1 h5
    replace h6 := row_keep hb1 h6
    replace hbel := hbel.trans (hb1.mono hbel.size)
    clear hb1 HD
    refine wpAny_fork2 0 1 (by kernel_rfl) rfl rfl ?_ ?_
    · go_wp2_with first
        | (with_reducible refine wpList_loadW rfl _ _ rfl _ rfl h5 agg24r size24r ?_)
      refine QN.intro ?_
      refine wpAny_fork2 1 2 (by kernel_rfl) rfl rfl ?_ ?_
      · go_wp2_with first
          | (with_reducible refine wpList_loadW rfl _ _ rfl _ rfl h6 agg24r size24r ?_)
        refine QN.intro ?_
        refine wpAny_fork1 2 (by kernel_rfl) rfl ?_
        go_wp2_with first
          | ((with_reducible refine wpList_storeWN rfl _ _ _ rfl _ rfl rfl h2 size24r hbel (by omega) ?_); intro w1 g3 ho g4; (try replace h3 := (ho _ (by omega)).trans h3); (try replace h5 := (ho _ (by omega)).trans h5); (try replace h6 := (ho _ (by omega)).trans h6); clear h2; have h2 := g3; clear hbel; have hbel := g4; clear g3 ho g4)
        refine QN.intro ?_
        refine wpAny_fork1 3 (by kernel_rfl) rfl ?_
        go_wp2_with first
          | ((with_reducible refine wpList_storeWN rfl _ _ _ rfl _ rfl rfl h3 size24r hbel (by omega) ?_); intro w1 g3 ho g4; (try replace h2 := (ho _ (by omega)).trans h2); (try replace h5 := (ho _ (by omega)).trans h5); (try replace h6 := (ho _ (by omega)).trans h6); clear h3; have h3 := g3; clear hbel; have hbel := g4; clear g3 ho g4)
        refine QN.intro ?_
        refine wpAny_end (by kernel_rfl) ?_
        go_wp2_with fail
        exact bodyPost_ret_by (results_cc2 rfl rfl rfl h2 h3 agg24r size24r agg24r size24r) rfl ⟨_, _, rfl, hbel⟩
      · go_wp2_with first
          | ((with_reducible refine wpList_storeWN rfl _ _ _ rfl _ rfl rfl h2 size24r hbel (by omega) ?_); intro w1 g3 ho g4; (try replace h3 := (ho _ (by omega)).trans h3); (try replace h5 := (ho _ (by omega)).trans h5); (try replace h6 := (ho _ (by omega)).trans h6); clear h2; have h2 := g3; clear hbel; have hbel := g4; clear g3 ho g4)
        refine QN.intro ?_
        refine wpAny_fork1 1 (by kernel_rfl) rfl ?_
        go_wp2_with first
          | (with_reducible refine wpList_loadW rfl _ _ rfl _ rfl h6 agg24r size24r ?_)
        refine QN.intro ?_
        refine wpAny_fork1 3 (by kernel_rfl) rfl ?_
        go_wp2_with first
          | ((with_reducible refine wpList_storeWN rfl _ _ _ rfl _ rfl rfl h3 size24r hbel (by omega) ?_); intro w1 g3 ho g4; (try replace h2 := (ho _ (by omega)).trans h2); (try replace h5 := (ho _ (by omega)).trans h5); (try replace h6 := (ho _ (by omega)).trans h6); clear h3; have h3 := g3; clear hbel; have hbel := g4; clear g3 ho g4)
        refine QN.intro ?_
        refine wpAny_end (by kernel_rfl) ?_
        go_wp2_with fail
        exact bodyPost_ret_by (results_cc2 rfl rfl rfl h2 h3 agg24r size24r agg24r size24r) rfl ⟨_, _, rfl, hbel⟩
    · go_wp2_with first
        | (with_reducible refine wpList_loadW rfl _ _ rfl _ rfl h6 agg24r size24r ?_)
      refine QN.intro ?_
      refine wpAny_fork1 0 (by kernel_rfl) rfl ?_
      go_wp2_with first
        | (with_reducible refine wpList_loadW rfl _ _ rfl _ rfl h5 agg24r size24r ?_)
      refine QN.intro ?_
      refine wpAny_fork1 2 (by kernel_rfl) rfl ?_
      go_wp2_with first
        | ((with_reducible refine wpList_storeWN rfl _ _ _ rfl _ rfl rfl h2 size24r hbel (by omega) ?_); intro w1 g3 ho g4; (try replace h3 := (ho _ (by omega)).trans h3); (try replace h5 := (ho _ (by omega)).trans h5); (try replace h6 := (ho _ (by omega)).trans h6); clear h2; have h2 := g3; clear hbel; have hbel := g4; clear g3 ho g4)
      refine QN.intro ?_
      refine wpAny_fork1 3 (by kernel_rfl) rfl ?_
      go_wp2_with first
        | ((with_reducible refine wpList_storeWN rfl _ _ _ rfl _ rfl rfl h3 size24r hbel (by omega) ?_); intro w1 g3 ho g4; (try replace h2 := (ho _ (by omega)).trans h2); (try replace h5 := (ho _ (by omega)).trans h5); (try replace h6 := (ho _ (by omega)).trans h6); clear h3; have h3 := g3; clear hbel; have hbel := g4; clear g3 ho g4)
      refine QN.intro ?_
      refine wpAny_end (by kernel_rfl) ?_
      go_wp2_with fail
      exact bodyPost_ret_by (results_cc2 rfl rfl rfl h2 h3 agg24r size24r agg24r size24r) rfl ⟨_, _, rfl, hbel⟩
end Go.Proofs.YtlbgmkengkgnfaaGreatDoor
end
