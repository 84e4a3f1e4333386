/- A part (number 16) of the proof of the law FnRackNames: what each of its sections proves stands in the section's own first remark. No conditions beside those that each theorem states. -/
import Derived.Test.YtlbgmkengkgnfaaGreatMg10
import Derived.Test.YtlbgmkengkgnfaaGreatMg12
import Derived.Test.YtlbgmkengkgnfaaGreatMg3
import Derived.Test.YtlbgmkengkgnfaaGreatMg6
import Derived.Test.YtlbgmkengkgnfaaGreatMg15
section
/- The reference's draws of racks that are alike, and of what the law on names asks for. -/
namespace Go.Proofs.YtlbgmkengkgnfaaGreat
set_option linter.unusedSimpArgs false
set_option linter.unusedVariables false
set_option maxRecDepth 20000
open Go.RowKit
theorem zero2p : ((Tryz.prog.info? 79).bind (·.zero)).map (·.cells) = some (arr 2 fun _ => 0) := by kernel_rfl
theorem size2p : (Tryz.prog.info? 79).map (·.size) = some 2 := by kernel_rfl
theorem agg2p : aggB Tryz.prog 79 = true := by kernel_rfl
theorem results_cc {fn : Func} {p q : Tmp} {t1 t2 : TypeId} (h : fn.results = #[.cell p t1, .cell q t2]) {tmps : Array Value} {w : World} {B1 B2 n1 n2 : Nat} {f1 f2 : Nat → Int} {T1 T2 : TypeId} {fr1 fr2 : Nat × Nat}
    (hp : tmps.getD p undef = .pointer (some ⟨B1, 0, none⟩)) (hq : tmps.getD q undef = .pointer (some ⟨B2, 0, none⟩)) (hg1 : w.heap[B1]? = some (.cells (arr n1 f1) T1 fr1)) (hg2 : w.heap[B2]? = some (.cells (arr n2 f2) T2 fr2))
    (hd1 : aggB Tryz.prog t1 = true) (hi1 : (Tryz.prog.info? t1).map (·.size) = some n1) (hd2 : aggB Tryz.prog t2 = true) (hi2 : (Tryz.prog.info? t2).map (·.size) = some n2) :
    (results fn tmps).run Tryz.prog w = .ok (.tuple #[.agg (arr n1 f1), .agg (arr n2 f2)]) w := by
  have hp' : tmps[p]?.getD undef = .pointer (some ⟨B1, 0, none⟩) := by simpa using hp
  have hq' : tmps[q]?.getD undef = .pointer (some ⟨B2, 0, none⟩) := by simpa using hq
  have hl1 := run_loadVar_arr (P := Tryz.prog) w B1 0 T1 t1 fr1 n1 n1 f1 hg1 hd1 hi1 (by omega)
  have hl2 := run_loadVar_arr (P := Tryz.prog) w B2 0 T2 t2 fr2 n2 n2 f2 hg2 hd2 hi2 (by omega)
  simp only [Nat.zero_add] at hl1 hl2
  simp [results, h, hp', hq', asAddr, hl1, hl2]
theorem ord_rack {f p : Nat → Int} (hf : rackB f = true) (hp : ∀ i, i < 6 → 0 ≤ p i ∧ p i ≤ 5) : rackB (ordF f p) = true := by
  rw [rackB_iff] at hf ⊢
  intro i hi
  have h1 := hp i hi
  have h2 := hf (p i).toNat (by omega)
  rw [tubeB_iff] at h2 ⊢
  have e : ∀ k, k < 4 → tub (ordF f p) i k = tub f (p i).toNat k := fun k hk => by
    unfold tub ordF
    have e1 : (i * 4 + k) / 4 = i := by omega
    have e2 : (i * 4 + k) % 4 = k := by omega
    rw [e1, e2]
  intro k hk
  have h3 := h2 k hk
  unfold okP at h3 ⊢
  have e0 : ordF f p (i * 4 + k) = f ((p i).toNat * 4 + k) := e k hk
  refine ⟨by rw [e0]; exact h3.1, fun hk0 hp0 => ?_⟩
  have e1 : ordF f p (i * 4 + (k - 1)) = f ((p i).toNat * 4 + (k - 1)) := e (k - 1) (by omega)
  rw [e0] at hp0
  rw [e1]
  exact h3.2 hk0 hp0
theorem po_pair {f : Nat → Int} : ∀ q, q ≤ 36 → ∀ k, k < poN f q → ∃ n m : Nat, n ≤ 5 ∧ m ≤ 5 ∧ n ≠ m ∧ poF f q (k * 2) = n ∧ poF f q (k * 2 + 1) = m
  | 0, _, k, h => by simp [poN] at h
  | q + 1, hq, k, h => by
    cases hc : canF f (q / 6) (q % 6) with
    | false =>
      obtain ⟨e1, e2⟩ := po_no hc
      rw [e1] at h
      rw [e2]
      exact po_pair q (by omega) k h
    | true =>
      obtain ⟨e1, e2⟩ := po_yes hc
      rw [e1] at h
      rw [e2]
      by_cases hk : k < poN f q
      · obtain ⟨n, m, h1, h2, h3, h4, h5⟩ := po_pair q (by omega) k hk
        refine ⟨n, m, h1, h2, h3, ?_, ?_⟩
        · unfold app; rw [if_pos (by omega)]; exact h4
        · unfold app; rw [if_pos (by omega)]; exact h5
      · have hk2 : k = poN f q := by omega
        subst hk2
        have hne : q / 6 ≠ q % 6 := by
          unfold canF at hc
          exact (of_decide_eq_true hc).1
        refine ⟨q / 6, q % 6, by omega, by omega, hne, ?_, ?_⟩
        · unfold app; rw [if_neg (by omega), Nat.sub_self]; rfl
        · unfold app; rw [if_neg (by omega), show poN f q * 2 + 1 - poN f q * 2 = 1 by omega]; rfl

set_option maxHeartbeats 8000000 in
theorem alike_d {w0 w : World} {B K : Nat} {p : Option Addr} {n c i : Nat} (hi : i ≤ 400000) (hD : DD w0 w B K p n c i) :
    Calls Tryz.prog 36 #[.pointer (some ⟨B, 0, none⟩), .bool true] w fun e W' => ∃ (a b : Nat → Int) (i' : Nat), e = .returned (.tuple #[.agg (arr 24 a), .agg (arr 24 b)]) ∧ i' ≤ i + 5000 ∧ DD w0 W' B K p n c i' ∧ w.grownBy W' (some B) := by
  have HD0 : Hid (DD w0 w B K p n c i) := hD
  have hlt := hD.lt
  have HD : Hid (DD w w B K p n c i) := hD.re
  clear hD
  have tk_A : True := trivial
  have tk_E : True := trivial
  have tk_6 : True := trivial
  have tk_7 : True := trivial
  have tk_8 : True := trivial
  have tk_9 : True := trivial
  have tk_11 : True := trivial
  have tk_12 : True := trivial
  have tk_sA : True := trivial
  have tk_sE : True := trivial
  have tk_s6 : True := trivial
  have tk_s7 : True := trivial
  have tk_s8 : True := trivial
  have tk_s11 : True := trivial
  have tk_s12 : True := trivial
  go_enter Tryz.func36, Tryz.ntmps36
  go_wp2_with first
    | (have _t := tk_A; (with_reducible refine wpList_allocN rfl 27 rfl 24 zero24r ?_); intro BA w1 hB_ hA hb1; have hWA : w.heap.size ≤ BA := (by have := HD.out.size; omega); have hlBA : B < BA := (by omega); (try replace hE := row_keep hb1 hE); (try replace h6 := row_keep hb1 h6); (try replace h7 := row_keep hb1 h7); (try replace h8 := row_keep hb1 h8); (try replace h9 := row_keep hb1 h9); (try replace h11 := row_keep hb1 h11); (try replace h12 := row_keep hb1 h12); (try replace hs := row_keep hb1 hs); have HD' : Hid _ := HD.out.below hb1; clear HD; have HD := HD'; clear HD' hb1; clear _t tk_A hB_)
    | (have _t := tk_E; (with_reducible refine wpList_allocN rfl 27 rfl 24 zero24r ?_); intro BE w1 hB_ hE hb1; have hlBE : BA < BE := (by have := row_lt hA; omega); (try replace hA := row_keep hb1 hA); (try replace h6 := row_keep hb1 h6); (try replace h7 := row_keep hb1 h7); (try replace h8 := row_keep hb1 h8); (try replace h9 := row_keep hb1 h9); (try replace h11 := row_keep hb1 h11); (try replace h12 := row_keep hb1 h12); (try replace hs := row_keep hb1 hs); have HD' : Hid _ := HD.out.below hb1; clear HD; have HD := HD'; clear HD' hb1; clear _t tk_E hB_)
    | (go_at_call 59; (with_reducible refine Calls.mono (order_d (by omega) HD.out) ?_); rintro e w1 ⟨o, i1, rfl, hi1, hD1, hg1⟩; (try replace hA := row_grown hA hg1 (by omega)); (try replace hE := row_grown hE hg1 (by omega)); (try replace h6 := row_grown h6 hg1 (by omega)); (try replace h7 := row_grown h7 hg1 (by omega)); (try replace h8 := row_grown h8 hg1 (by omega)); (try replace h9 := row_grown h9 hg1 (by omega)); (try replace h11 := row_grown h11 hg1 (by omega)); (try replace h12 := row_grown h12 hg1 (by omega)); (try replace hs := row_grown hs hg1 (by omega)); clear HD; have HD : Hid (DD w w1 B K p n c i1) := hD1; clear hD1 hg1)
    | (go_at_call 25; (with_reducible refine Calls.mono (names_d (by omega) HD.out) ?_); rintro e w1 ⟨s, i1, rfl, hi1, hD1, hg1⟩; (try replace hA := row_grown hA hg1 (by omega)); (try replace hE := row_grown hE hg1 (by omega)); (try replace h6 := row_grown h6 hg1 (by omega)); (try replace h7 := row_grown h7 hg1 (by omega)); (try replace h8 := row_grown h8 hg1 (by omega)); (try replace h9 := row_grown h9 hg1 (by omega)); (try replace h11 := row_grown h11 hg1 (by omega)); (try replace h12 := row_grown h12 hg1 (by omega)); (try replace hs := row_grown hs hg1 (by omega)); clear HD; have HD : Hid (DD w w1 B K p n c i1) := hD1; clear hD1 hg1)
    | (have _t := tk_6; (with_reducible refine wpList_allocN rfl 28 rfl 6 zero6 ?_); intro B6 w1 hB_ h6 hb1; have hlB6 : BE < B6 := (by have := row_lt hE; omega); (try replace hA := row_keep hb1 hA); (try replace hE := row_keep hb1 hE); (try replace h7 := row_keep hb1 h7); (try replace h8 := row_keep hb1 h8); (try replace h9 := row_keep hb1 h9); (try replace h11 := row_keep hb1 h11); (try replace h12 := row_keep hb1 h12); (try replace hs := row_keep hb1 hs); have HD' : Hid _ := HD.out.below hb1; clear HD; have HD := HD'; clear HD' hb1; clear _t tk_6 hB_)
    | (have _t := tk_7; (with_reducible refine wpList_allocN rfl 28 rfl 6 zero6 ?_); intro B7 w1 hB_ h7 hb1; have hlB7 : B6 < B7 := (by have := row_lt h6; omega); (try replace hA := row_keep hb1 hA); (try replace hE := row_keep hb1 hE); (try replace h6 := row_keep hb1 h6); (try replace h8 := row_keep hb1 h8); (try replace h9 := row_keep hb1 h9); (try replace h11 := row_keep hb1 h11); (try replace h12 := row_keep hb1 h12); (try replace hs := row_keep hb1 hs); have HD' : Hid _ := HD.out.below hb1; clear HD; have HD := HD'; clear HD' hb1; clear _t tk_7 hB_)
    | (have _t := tk_s6; (with_reducible refine wpList_storeWN rfl _ _ _ rfl _ rfl rfl h6 size6 (Below.refl w.heap.size _) (by omega) ?_); intro w1 g3 ho g4; (try replace hA := (ho _ (by omega)).trans hA); (try replace hE := (ho _ (by omega)).trans hE); (try replace h7 := (ho _ (by omega)).trans h7); (try replace h8 := (ho _ (by omega)).trans h8); (try replace h9 := (ho _ (by omega)).trans h9); (try replace h11 := (ho _ (by omega)).trans h11); (try replace h12 := (ho _ (by omega)).trans h12); (try replace hs := (ho _ (by omega)).trans hs); clear h6; have h6 := g3; have HD' : Hid _ := HD.out.belowK g4 (Nat.le_refl _); clear HD; have HD := HD'; clear HD' g3 ho g4 _t tk_s6)
    | (have _t := tk_s7; (with_reducible refine wpList_storeWN rfl _ _ _ rfl _ rfl rfl h7 size6 (Below.refl w.heap.size _) (by omega) ?_); intro w1 g3 ho g4; (try replace hA := (ho _ (by omega)).trans hA); (try replace hE := (ho _ (by omega)).trans hE); (try replace h6 := (ho _ (by omega)).trans h6); (try replace h8 := (ho _ (by omega)).trans h8); (try replace h9 := (ho _ (by omega)).trans h9); (try replace h11 := (ho _ (by omega)).trans h11); (try replace h12 := (ho _ (by omega)).trans h12); (try replace hs := (ho _ (by omega)).trans hs); clear h7; have h7 := g3; have HD' : Hid _ := HD.out.belowK g4 (Nat.le_refl _); clear HD; have HD := HD'; clear HD' g3 ho g4 _t tk_s7)
    | (go_at_call 26; (with_reducible refine Calls.mono (rack_d (by omega) HD.out) ?_); rintro e w1 ⟨f, i1, rfl, hi1, hD1, hg1⟩; (try replace hA := row_grown hA hg1 (by omega)); (try replace hE := row_grown hE hg1 (by omega)); (try replace h6 := row_grown h6 hg1 (by omega)); (try replace h7 := row_grown h7 hg1 (by omega)); (try replace h8 := row_grown h8 hg1 (by omega)); (try replace h9 := row_grown h9 hg1 (by omega)); (try replace h11 := row_grown h11 hg1 (by omega)); (try replace h12 := row_grown h12 hg1 (by omega)); (try replace hs := row_grown hs hg1 (by omega)); clear HD; have HD : Hid (DD w w1 B K p n c i1) := hD1; clear hD1 hg1)
    | (have _t := tk_8; (with_reducible refine wpList_allocN rfl 27 rfl 24 zero24r ?_); intro B8 w1 hB_ h8 hb1; have hlB8 : B7 < B8 := (by have := row_lt h7; omega); (try replace hA := row_keep hb1 hA); (try replace hE := row_keep hb1 hE); (try replace h6 := row_keep hb1 h6); (try replace h7 := row_keep hb1 h7); (try replace h9 := row_keep hb1 h9); (try replace h11 := row_keep hb1 h11); (try replace h12 := row_keep hb1 h12); (try replace hs := row_keep hb1 hs); have HD' : Hid _ := HD.out.below hb1; clear HD; have HD := HD'; clear HD' hb1; clear _t tk_8 hB_)
    | (have _t := tk_s8; (with_reducible refine wpList_storeWN rfl _ _ _ rfl _ rfl rfl h8 size24r (Below.refl w.heap.size _) (by omega) ?_); intro w1 g3 ho g4; (try replace hA := (ho _ (by omega)).trans hA); (try replace hE := (ho _ (by omega)).trans hE); (try replace h6 := (ho _ (by omega)).trans h6); (try replace h7 := (ho _ (by omega)).trans h7); (try replace h9 := (ho _ (by omega)).trans h9); (try replace h11 := (ho _ (by omega)).trans h11); (try replace h12 := (ho _ (by omega)).trans h12); (try replace hs := (ho _ (by omega)).trans hs); clear h8; have h8 := g3; have HD' : Hid _ := HD.out.belowK g4 (Nat.le_refl _); clear HD; have HD := HD'; clear HD' g3 ho g4 _t tk_s8)
    | (with_reducible refine wpList_loadW rfl _ _ rfl _ rfl h8 agg24r size24r ?_)
  cases hrf : rackB f with
  | false =>
    refine Calls.mono (l2Rack_any f _) ?_
    rw [hrf]
    rintro e w1 ⟨rfl, hb1⟩
    (try replace hA := row_keep hb1 hA); (try replace hE := row_keep hb1 hE); (try replace h6 := row_keep hb1 h6); (try replace h7 := row_keep hb1 h7); (try replace h8 := row_keep hb1 h8); (try replace h9 := row_keep hb1 h9); (try replace h11 := row_keep hb1 h11); (try replace h12 := row_keep hb1 h12); (try replace hs := row_keep hb1 hs); have HD' : Hid _ := HD.out.below hb1; clear HD; have HD := HD'; clear HD' hb1
    clear hrf
    go_wp2_with fail
    refine wp_region_fork [1] [] [] 4 (fun l => (l.drop 1).take 1) (fun l => []) (fun _ => True) (by kernel_rfl) (by kernel_rfl) (by kernel_rfl) (by kernel_rfl) trivial trivial ?_
    try simp only [List.take_succ_cons, List.take_zero, List.drop_succ_cons, List.drop_zero, List.singleton_append, List.cons_append, List.nil_append]
    repeat (first
      | ((with_reducible refine wpCalm_step (fun K hK => ?_)); go_simp; (first | (refine ⟨_, fun _ _ => rfl, hK _ ?_⟩) | (refine hK _ ?_)); clear hK K))
    refine wpCalm_nil ?_
    refine wpCalm_nil ?_
    have hb1 : Below w1.heap.size w1 { w1 with drawn := w1.drawn + 1 } := (Below.refl _ _).drew
    obtain ⟨w1, hwt⟩ : ∃ w2 : World, w2 = { w1 with drawn := w1.drawn + 1 } := ⟨_, rfl⟩
    rw [← hwt] at hb1 ⊢
    clear hwt
    (try replace hA := row_keep hb1 hA); (try replace hE := row_keep hb1 hE); (try replace h6 := row_keep hb1 h6); (try replace h7 := row_keep hb1 h7); (try replace h8 := row_keep hb1 h8); (try replace h9 := row_keep hb1 h9); (try replace h11 := row_keep hb1 h11); (try replace h12 := row_keep hb1 h12); (try replace hs := row_keep hb1 hs); have HD' : Hid _ := HD.out.below hb1; clear HD; have HD := HD'; clear HD' hb1
    refine wpAny_fork2 0 2 (by kernel_rfl) rfl rfl ?_ ?_
    · go_wp2_with first
        | (with_reducible refine wpList_loadW rfl _ _ rfl _ rfl h8 agg24r size24r ?_)
      refine QN.intro ?_
      refine wpAny_fork1 2 (by kernel_rfl) rfl ?_
      go_wp2_with first
        | (go_at_call 26; (with_reducible refine Calls.mono (rack_d (by omega) HD.out) ?_); rintro e w1 ⟨f, i1, rfl, hi1, hD1, hg1⟩; (try replace hA := row_grown hA hg1 (by omega)); (try replace hE := row_grown hE hg1 (by omega)); (try replace h6 := row_grown h6 hg1 (by omega)); (try replace h7 := row_grown h7 hg1 (by omega)); (try replace h8 := row_grown h8 hg1 (by omega)); (try replace h9 := row_grown h9 hg1 (by omega)); (try replace h11 := row_grown h11 hg1 (by omega)); (try replace h12 := row_grown h12 hg1 (by omega)); (try replace hs := row_grown hs hg1 (by omega)); clear HD; have HD : Hid (DD w w1 B K p n c i1) := hD1; clear hD1 hg1)
      refine QN.intro ?_
      refine wpAny_fork1 3 (by kernel_rfl) rfl ?_
      go_wp2_with first
        | (have _t := tk_sA; (with_reducible refine wpList_storeWN rfl _ _ _ rfl _ rfl rfl hA size24r (Below.refl w.heap.size _) (by omega) ?_); intro w1 g3 ho g4; (try replace hE := (ho _ (by omega)).trans hE); (try replace h6 := (ho _ (by omega)).trans h6); (try replace h7 := (ho _ (by omega)).trans h7); (try replace h8 := (ho _ (by omega)).trans h8); (try replace h9 := (ho _ (by omega)).trans h9); (try replace h11 := (ho _ (by omega)).trans h11); (try replace h12 := (ho _ (by omega)).trans h12); (try replace hs := (ho _ (by omega)).trans hs); clear hA; have hA := g3; have HD' : Hid _ := HD.out.belowK g4 (Nat.le_refl _); clear HD; have HD := HD'; clear HD' g3 ho g4 _t tk_sA)
      refine QN.intro ?_
      refine wpAny_fork1 4 (by kernel_rfl) rfl ?_
      go_wp2_with first
        | (have _t := tk_sE; (with_reducible refine wpList_storeWN rfl _ _ _ rfl _ rfl rfl hE size24r (Below.refl w.heap.size _) (by omega) ?_); intro w1 g3 ho g4; (try replace hA := (ho _ (by omega)).trans hA); (try replace h6 := (ho _ (by omega)).trans h6); (try replace h7 := (ho _ (by omega)).trans h7); (try replace h8 := (ho _ (by omega)).trans h8); (try replace h9 := (ho _ (by omega)).trans h9); (try replace h11 := (ho _ (by omega)).trans h11); (try replace h12 := (ho _ (by omega)).trans h12); (try replace hs := (ho _ (by omega)).trans hs); clear hE; have hE := g3; have HD' : Hid _ := HD.out.belowK g4 (Nat.le_refl _); clear HD; have HD := HD'; clear HD' g3 ho g4 _t tk_sE)
      refine QN.intro ?_
      refine wpAny_end (by kernel_rfl) ?_
      go_wp2_with fail
      exact bodyPost_ret_by (results_cc rfl rfl rfl hA hE agg24r size24r agg24r size24r) rfl ⟨_, _, _, rfl, by omega, HD0.out.call HD.out.cur HD.out.grown, HD.out.grown⟩
    · go_wp2_with first
        | (go_at_call 26; (with_reducible refine Calls.mono (rack_d (by omega) HD.out) ?_); rintro e w1 ⟨f, i1, rfl, hi1, hD1, hg1⟩; (try replace hA := row_grown hA hg1 (by omega)); (try replace hE := row_grown hE hg1 (by omega)); (try replace h6 := row_grown h6 hg1 (by omega)); (try replace h7 := row_grown h7 hg1 (by omega)); (try replace h8 := row_grown h8 hg1 (by omega)); (try replace h9 := row_grown h9 hg1 (by omega)); (try replace h11 := row_grown h11 hg1 (by omega)); (try replace h12 := row_grown h12 hg1 (by omega)); (try replace hs := row_grown hs hg1 (by omega)); clear HD; have HD : Hid (DD w w1 B K p n c i1) := hD1; clear hD1 hg1)
      refine QN.intro ?_
      refine wpAny_fork1 0 (by kernel_rfl) rfl ?_
      go_wp2_with first
        | (with_reducible refine wpList_loadW rfl _ _ rfl _ rfl h8 agg24r size24r ?_)
      refine QN.intro ?_
      refine wpAny_fork1 3 (by kernel_rfl) rfl ?_
      go_wp2_with first
        | (have _t := tk_sA; (with_reducible refine wpList_storeWN rfl _ _ _ rfl _ rfl rfl hA size24r (Below.refl w.heap.size _) (by omega) ?_); intro w1 g3 ho g4; (try replace hE := (ho _ (by omega)).trans hE); (try replace h6 := (ho _ (by omega)).trans h6); (try replace h7 := (ho _ (by omega)).trans h7); (try replace h8 := (ho _ (by omega)).trans h8); (try replace h9 := (ho _ (by omega)).trans h9); (try replace h11 := (ho _ (by omega)).trans h11); (try replace h12 := (ho _ (by omega)).trans h12); (try replace hs := (ho _ (by omega)).trans hs); clear hA; have hA := g3; have HD' : Hid _ := HD.out.belowK g4 (Nat.le_refl _); clear HD; have HD := HD'; clear HD' g3 ho g4 _t tk_sA)
      refine QN.intro ?_
      refine wpAny_fork1 4 (by kernel_rfl) rfl ?_
      go_wp2_with first
        | (have _t := tk_sE; (with_reducible refine wpList_storeWN rfl _ _ _ rfl _ rfl rfl hE size24r (Below.refl w.heap.size _) (by omega) ?_); intro w1 g3 ho g4; (try replace hA := (ho _ (by omega)).trans hA); (try replace h6 := (ho _ (by omega)).trans h6); (try replace h7 := (ho _ (by omega)).trans h7); (try replace h8 := (ho _ (by omega)).trans h8); (try replace h9 := (ho _ (by omega)).trans h9); (try replace h11 := (ho _ (by omega)).trans h11); (try replace h12 := (ho _ (by omega)).trans h12); (try replace hs := (ho _ (by omega)).trans hs); clear hE; have hE := g3; have HD' : Hid _ := HD.out.belowK g4 (Nat.le_refl _); clear HD; have HD := HD'; clear HD' g3 ho g4 _t tk_sE)
      refine QN.intro ?_
      refine wpAny_end (by kernel_rfl) ?_
      go_wp2_with fail
      exact bodyPost_ret_by (results_cc rfl rfl rfl hA hE agg24r size24r agg24r size24r) rfl ⟨_, _, _, rfl, by omega, HD0.out.call HD.out.cur HD.out.grown, HD.out.grown⟩
  | true =>
    have HF : Hid _ := hrf
    refine Calls.mono (l2Rack_any f _) ?_
    rw [hrf]
    rintro e w1 ⟨rfl, hb1⟩
    (try replace hA := row_keep hb1 hA); (try replace hE := row_keep hb1 hE); (try replace h6 := row_keep hb1 h6); (try replace h7 := row_keep hb1 h7); (try replace h8 := row_keep hb1 h8); (try replace h9 := row_keep hb1 h9); (try replace h11 := row_keep hb1 h11); (try replace h12 := row_keep hb1 h12); (try replace hs := row_keep hb1 hs); have HD' : Hid _ := HD.out.below hb1; clear HD; have HD := HD'; clear HD' hb1
    clear hrf
    cases hpo : pB o 6 with
    | false =>
      have HP : Hid _ := hpo
      clear hpo
      go_wp2_with first
        | (with_reducible refine wpList_loadW rfl _ _ rfl _ rfl h8 agg24r size24r ?_)
        | (with_reducible refine wpList_loadWG rfl _ _ rfl _ rfl h6 agg6 size6 ?_)
        | (with_reducible refine wpList_loadWG rfl _ _ rfl _ rfl h7 agg6 size6 ?_)
        | (with_reducible refine wpList_loadW rfl _ _ rfl _ rfl h6 agg6 size6 ?_)
        | (with_reducible refine wpList_loadW rfl _ _ rfl _ rfl h7 agg6 size6 ?_)
        | (go_at_call 49; (with_reducible refine (l4Perm_any _ _).mono ?_); rw [HP.out]; rintro e w1 ⟨rfl, hb1⟩; (try replace hA := row_keep hb1 hA); (try replace hE := row_keep hb1 hE); (try replace h6 := row_keep hb1 h6); (try replace h7 := row_keep hb1 h7); (try replace h8 := row_keep hb1 h8); (try replace h9 := row_keep hb1 h9); (try replace h11 := row_keep hb1 h11); (try replace h12 := row_keep hb1 h12); (try replace hs := row_keep hb1 hs); have HD' : Hid _ := HD.out.below hb1; clear HD; have HD := HD'; clear HD' hb1)
        | (go_at_call 30; (with_reducible refine (l4Names_any _ _).mono ?_); rw [HN.out]; rintro e w1 ⟨rfl, hb1⟩; (try replace hA := row_keep hb1 hA); (try replace hE := row_keep hb1 hE); (try replace h6 := row_keep hb1 h6); (try replace h7 := row_keep hb1 h7); (try replace h8 := row_keep hb1 h8); (try replace h9 := row_keep hb1 h9); (try replace h11 := row_keep hb1 h11); (try replace h12 := row_keep hb1 h12); (try replace hs := row_keep hb1 hs); have HD' : Hid _ := HD.out.below hb1; clear HD; have HD := HD'; clear HD' hb1)
        | (go_at_call 43; (with_reducible refine Calls.mono (one_d 5 (by omega) (by omega) _ (by omega) (by omega) HD.out) ?_); rintro e w1 ⟨bq, i1, rfl, hi1, hD1, hg1⟩; (try replace hA := row_grown hA hg1 (by omega)); (try replace hE := row_grown hE hg1 (by omega)); (try replace h6 := row_grown h6 hg1 (by omega)); (try replace h7 := row_grown h7 hg1 (by omega)); (try replace h8 := row_grown h8 hg1 (by omega)); (try replace h9 := row_grown h9 hg1 (by omega)); (try replace h11 := row_grown h11 hg1 (by omega)); (try replace h12 := row_grown h12 hg1 (by omega)); (try replace hs := row_grown hs hg1 (by omega)); clear HD; have HD : Hid (DD w w1 B K p n c i1) := hD1; clear hD1 hg1)
        | (go_at_call 60; (with_reducible refine (l4Order_any f o HO.out _).mono ?_); rintro e w1 ⟨rfl, hb1⟩; (try replace hA := row_keep hb1 hA); (try replace hE := row_keep hb1 hE); (try replace h6 := row_keep hb1 h6); (try replace h7 := row_keep hb1 h7); (try replace h8 := row_keep hb1 h8); (try replace h9 := row_keep hb1 h9); (try replace h11 := row_keep hb1 h11); (try replace h12 := row_keep hb1 h12); (try replace hs := row_keep hb1 hs); have HD' : Hid _ := HD.out.below hb1; clear HD; have HD := HD'; clear HD' hb1)
        | (go_at_call 31; (with_reducible refine (l4Rename_any (ordF f o) s HC.out _).mono ?_); rintro e w1 ⟨rfl, hb1⟩; (try replace hA := row_keep hb1 hA); (try replace hE := row_keep hb1 hE); (try replace h6 := row_keep hb1 h6); (try replace h7 := row_keep hb1 h7); (try replace h8 := row_keep hb1 h8); (try replace h9 := row_keep hb1 h9); (try replace h11 := row_keep hb1 h11); (try replace h12 := row_keep hb1 h12); (try replace hs := row_keep hb1 hs); have HD' : Hid _ := HD.out.below hb1; clear HD; have HD := HD'; clear HD' hb1)
        | (have _t := tk_9; (with_reducible refine wpList_allocN rfl 27 rfl 24 zero24r ?_); intro B9 w1 hB_ h9 hb1; have hlB9 : B8 < B9 := (by have := row_lt h8; omega); (try replace hA := row_keep hb1 hA); (try replace hE := row_keep hb1 hE); (try replace h6 := row_keep hb1 h6); (try replace h7 := row_keep hb1 h7); (try replace h8 := row_keep hb1 h8); (try replace h11 := row_keep hb1 h11); (try replace h12 := row_keep hb1 h12); (try replace hs := row_keep hb1 hs); have HD' : Hid _ := HD.out.below hb1; clear HD; have HD := HD'; clear HD' hb1; clear _t tk_9 hB_)
        | ((with_reducible refine wpList_storeWN rfl _ _ _ rfl _ rfl rfl h9 size24r (Below.refl w.heap.size _) (by omega) ?_); intro w1 g3 ho g4; (try replace hA := (ho _ (by omega)).trans hA); (try replace hE := (ho _ (by omega)).trans hE); (try replace h6 := (ho _ (by omega)).trans h6); (try replace h7 := (ho _ (by omega)).trans h7); (try replace h8 := (ho _ (by omega)).trans h8); (try replace h11 := (ho _ (by omega)).trans h11); (try replace h12 := (ho _ (by omega)).trans h12); (try replace hs := (ho _ (by omega)).trans hs); clear h9; have h9 := g3; have HD' : Hid _ := HD.out.belowK g4 (Nat.le_refl _); clear HD; have HD := HD'; clear HD' g3 ho g4)
        | (with_reducible refine wpList_loadW rfl _ _ rfl _ rfl h9 agg24r size24r ?_)
      refine wp_region_fork [1] [] [] 4 (fun l => (l.drop 1).take 1) (fun l => []) (fun _ => True) (by kernel_rfl) (by kernel_rfl) (by kernel_rfl) (by kernel_rfl) trivial trivial ?_
      try simp only [List.take_succ_cons, List.take_zero, List.drop_succ_cons, List.drop_zero, List.singleton_append, List.cons_append, List.nil_append]
      repeat (first
        | ((with_reducible refine wpCalm_step (fun K hK => ?_)); go_simp; (first | (refine ⟨_, fun _ _ => rfl, hK _ ?_⟩) | (refine hK _ ?_)); clear hK K))
      refine wpCalm_nil ?_
      refine wpCalm_nil ?_
      have hb1 : Below w1.heap.size w1 { w1 with drawn := w1.drawn + 1 } := (Below.refl _ _).drew
      obtain ⟨w1, hwt⟩ : ∃ w2 : World, w2 = { w1 with drawn := w1.drawn + 1 } := ⟨_, rfl⟩
      rw [← hwt] at hb1 ⊢
      clear hwt
      (try replace hA := row_keep hb1 hA); (try replace hE := row_keep hb1 hE); (try replace h6 := row_keep hb1 h6); (try replace h7 := row_keep hb1 h7); (try replace h8 := row_keep hb1 h8); (try replace h9 := row_keep hb1 h9); (try replace h11 := row_keep hb1 h11); (try replace h12 := row_keep hb1 h12); (try replace hs := row_keep hb1 hs); have HD' : Hid _ := HD.out.below hb1; clear HD; have HD := HD'; clear HD' hb1
      refine wpAny_fork2 0 2 (by kernel_rfl) rfl rfl ?_ ?_
      · go_wp2_with first
          | (with_reducible refine wpList_loadW rfl _ _ rfl _ rfl h8 agg24r size24r ?_)
        refine QN.intro ?_
        refine wpAny_fork1 2 (by kernel_rfl) rfl ?_
        go_wp2_with first
          | (go_at_call 26; (with_reducible refine Calls.mono (rack_d (by omega) HD.out) ?_); rintro e w1 ⟨f, i1, rfl, hi1, hD1, hg1⟩; (try replace hA := row_grown hA hg1 (by omega)); (try replace hE := row_grown hE hg1 (by omega)); (try replace h6 := row_grown h6 hg1 (by omega)); (try replace h7 := row_grown h7 hg1 (by omega)); (try replace h8 := row_grown h8 hg1 (by omega)); (try replace h9 := row_grown h9 hg1 (by omega)); (try replace h11 := row_grown h11 hg1 (by omega)); (try replace h12 := row_grown h12 hg1 (by omega)); (try replace hs := row_grown hs hg1 (by omega)); clear HD; have HD : Hid (DD w w1 B K p n c i1) := hD1; clear hD1 hg1)
        refine QN.intro ?_
        refine wpAny_fork1 3 (by kernel_rfl) rfl ?_
        go_wp2_with first
          | (have _t := tk_sA; (with_reducible refine wpList_storeWN rfl _ _ _ rfl _ rfl rfl hA size24r (Below.refl w.heap.size _) (by omega) ?_); intro w1 g3 ho g4; (try replace hE := (ho _ (by omega)).trans hE); (try replace h6 := (ho _ (by omega)).trans h6); (try replace h7 := (ho _ (by omega)).trans h7); (try replace h8 := (ho _ (by omega)).trans h8); (try replace h9 := (ho _ (by omega)).trans h9); (try replace h11 := (ho _ (by omega)).trans h11); (try replace h12 := (ho _ (by omega)).trans h12); (try replace hs := (ho _ (by omega)).trans hs); clear hA; have hA := g3; have HD' : Hid _ := HD.out.belowK g4 (Nat.le_refl _); clear HD; have HD := HD'; clear HD' g3 ho g4 _t tk_sA)
        refine QN.intro ?_
        refine wpAny_fork1 4 (by kernel_rfl) rfl ?_
        go_wp2_with first
          | (have _t := tk_sE; (with_reducible refine wpList_storeWN rfl _ _ _ rfl _ rfl rfl hE size24r (Below.refl w.heap.size _) (by omega) ?_); intro w1 g3 ho g4; (try replace hA := (ho _ (by omega)).trans hA); (try replace h6 := (ho _ (by omega)).trans h6); (try replace h7 := (ho _ (by omega)).trans h7); (try replace h8 := (ho _ (by omega)).trans h8); (try replace h9 := (ho _ (by omega)).trans h9); (try replace h11 := (ho _ (by omega)).trans h11); (try replace h12 := (ho _ (by omega)).trans h12); (try replace hs := (ho _ (by omega)).trans hs); clear hE; have hE := g3; have HD' : Hid _ := HD.out.belowK g4 (Nat.le_refl _); clear HD; have HD := HD'; clear HD' g3 ho g4 _t tk_sE)
        refine QN.intro ?_
        refine wpAny_end (by kernel_rfl) ?_
        go_wp2_with fail
        exact bodyPost_ret_by (results_cc rfl rfl rfl hA hE agg24r size24r agg24r size24r) rfl ⟨_, _, _, rfl, by omega, HD0.out.call HD.out.cur HD.out.grown, HD.out.grown⟩
      · go_wp2_with first
          | (go_at_call 26; (with_reducible refine Calls.mono (rack_d (by omega) HD.out) ?_); rintro e w1 ⟨f, i1, rfl, hi1, hD1, hg1⟩; (try replace hA := row_grown hA hg1 (by omega)); (try replace hE := row_grown hE hg1 (by omega)); (try replace h6 := row_grown h6 hg1 (by omega)); (try replace h7 := row_grown h7 hg1 (by omega)); (try replace h8 := row_grown h8 hg1 (by omega)); (try replace h9 := row_grown h9 hg1 (by omega)); (try replace h11 := row_grown h11 hg1 (by omega)); (try replace h12 := row_grown h12 hg1 (by omega)); (try replace hs := row_grown hs hg1 (by omega)); clear HD; have HD : Hid (DD w w1 B K p n c i1) := hD1; clear hD1 hg1)
        refine QN.intro ?_
        refine wpAny_fork1 0 (by kernel_rfl) rfl ?_
        go_wp2_with first
          | (with_reducible refine wpList_loadW rfl _ _ rfl _ rfl h8 agg24r size24r ?_)
        refine QN.intro ?_
        refine wpAny_fork1 3 (by kernel_rfl) rfl ?_
        go_wp2_with first
          | (have _t := tk_sA; (with_reducible refine wpList_storeWN rfl _ _ _ rfl _ rfl rfl hA size24r (Below.refl w.heap.size _) (by omega) ?_); intro w1 g3 ho g4; (try replace hE := (ho _ (by omega)).trans hE); (try replace h6 := (ho _ (by omega)).trans h6); (try replace h7 := (ho _ (by omega)).trans h7); (try replace h8 := (ho _ (by omega)).trans h8); (try replace h9 := (ho _ (by omega)).trans h9); (try replace h11 := (ho _ (by omega)).trans h11); (try replace h12 := (ho _ (by omega)).trans h12); (try replace hs := (ho _ (by omega)).trans hs); clear hA; have hA := g3; have HD' : Hid _ := HD.out.belowK g4 (Nat.le_refl _); clear HD; have HD := HD'; clear HD' g3 ho g4 _t tk_sA)
        refine QN.intro ?_
        refine wpAny_fork1 4 (by kernel_rfl) rfl ?_
        go_wp2_with first
          | (have _t := tk_sE; (with_reducible refine wpList_storeWN rfl _ _ _ rfl _ rfl rfl hE size24r (Below.refl w.heap.size _) (by omega) ?_); intro w1 g3 ho g4; (try replace hA := (ho _ (by omega)).trans hA); (try replace h6 := (ho _ (by omega)).trans h6); (try replace h7 := (ho _ (by omega)).trans h7); (try replace h8 := (ho _ (by omega)).trans h8); (try replace h9 := (ho _ (by omega)).trans h9); (try replace h11 := (ho _ (by omega)).trans h11); (try replace h12 := (ho _ (by omega)).trans h12); (try replace hs := (ho _ (by omega)).trans hs); clear hE; have hE := g3; have HD' : Hid _ := HD.out.belowK g4 (Nat.le_refl _); clear HD; have HD := HD'; clear HD' g3 ho g4 _t tk_sE)
        refine QN.intro ?_
        refine wpAny_end (by kernel_rfl) ?_
        go_wp2_with fail
        exact bodyPost_ret_by (results_cc rfl rfl rfl hA hE agg24r size24r agg24r size24r) rfl ⟨_, _, _, rfl, by omega, HD0.out.call HD.out.cur HD.out.grown, HD.out.grown⟩
    | true =>
      have HP : Hid _ := hpo
      have HO : Hid _ := pB_bd hpo
      have HRO : Hid _ := ord_rack HF.out (pB_bd hpo)
      clear hpo
      cases hns : ((s 0 == 0) && pB s 6) with
      | false =>
        have HN : Hid _ := hns
        clear hns
        go_wp2_with first
          | (with_reducible refine wpList_loadW rfl _ _ rfl _ rfl h8 agg24r size24r ?_)
          | (with_reducible refine wpList_loadWG rfl _ _ rfl _ rfl h6 agg6 size6 ?_)
          | (with_reducible refine wpList_loadWG rfl _ _ rfl _ rfl h7 agg6 size6 ?_)
          | (with_reducible refine wpList_loadW rfl _ _ rfl _ rfl h6 agg6 size6 ?_)
          | (with_reducible refine wpList_loadW rfl _ _ rfl _ rfl h7 agg6 size6 ?_)
          | (go_at_call 49; (with_reducible refine (l4Perm_any _ _).mono ?_); rw [HP.out]; rintro e w1 ⟨rfl, hb1⟩; (try replace hA := row_keep hb1 hA); (try replace hE := row_keep hb1 hE); (try replace h6 := row_keep hb1 h6); (try replace h7 := row_keep hb1 h7); (try replace h8 := row_keep hb1 h8); (try replace h9 := row_keep hb1 h9); (try replace h11 := row_keep hb1 h11); (try replace h12 := row_keep hb1 h12); (try replace hs := row_keep hb1 hs); have HD' : Hid _ := HD.out.below hb1; clear HD; have HD := HD'; clear HD' hb1)
          | (go_at_call 30; (with_reducible refine (l4Names_any _ _).mono ?_); rw [HN.out]; rintro e w1 ⟨rfl, hb1⟩; (try replace hA := row_keep hb1 hA); (try replace hE := row_keep hb1 hE); (try replace h6 := row_keep hb1 h6); (try replace h7 := row_keep hb1 h7); (try replace h8 := row_keep hb1 h8); (try replace h9 := row_keep hb1 h9); (try replace h11 := row_keep hb1 h11); (try replace h12 := row_keep hb1 h12); (try replace hs := row_keep hb1 hs); have HD' : Hid _ := HD.out.below hb1; clear HD; have HD := HD'; clear HD' hb1)
          | (go_at_call 43; (with_reducible refine Calls.mono (one_d 5 (by omega) (by omega) _ (by omega) (by omega) HD.out) ?_); rintro e w1 ⟨bq, i1, rfl, hi1, hD1, hg1⟩; (try replace hA := row_grown hA hg1 (by omega)); (try replace hE := row_grown hE hg1 (by omega)); (try replace h6 := row_grown h6 hg1 (by omega)); (try replace h7 := row_grown h7 hg1 (by omega)); (try replace h8 := row_grown h8 hg1 (by omega)); (try replace h9 := row_grown h9 hg1 (by omega)); (try replace h11 := row_grown h11 hg1 (by omega)); (try replace h12 := row_grown h12 hg1 (by omega)); (try replace hs := row_grown hs hg1 (by omega)); clear HD; have HD : Hid (DD w w1 B K p n c i1) := hD1; clear hD1 hg1)
          | (go_at_call 60; (with_reducible refine (l4Order_any f o HO.out _).mono ?_); rintro e w1 ⟨rfl, hb1⟩; (try replace hA := row_keep hb1 hA); (try replace hE := row_keep hb1 hE); (try replace h6 := row_keep hb1 h6); (try replace h7 := row_keep hb1 h7); (try replace h8 := row_keep hb1 h8); (try replace h9 := row_keep hb1 h9); (try replace h11 := row_keep hb1 h11); (try replace h12 := row_keep hb1 h12); (try replace hs := row_keep hb1 hs); have HD' : Hid _ := HD.out.below hb1; clear HD; have HD := HD'; clear HD' hb1)
          | (go_at_call 31; (with_reducible refine (l4Rename_any (ordF f o) s HC.out _).mono ?_); rintro e w1 ⟨rfl, hb1⟩; (try replace hA := row_keep hb1 hA); (try replace hE := row_keep hb1 hE); (try replace h6 := row_keep hb1 h6); (try replace h7 := row_keep hb1 h7); (try replace h8 := row_keep hb1 h8); (try replace h9 := row_keep hb1 h9); (try replace h11 := row_keep hb1 h11); (try replace h12 := row_keep hb1 h12); (try replace hs := row_keep hb1 hs); have HD' : Hid _ := HD.out.below hb1; clear HD; have HD := HD'; clear HD' hb1)
          | (have _t := tk_9; (with_reducible refine wpList_allocN rfl 27 rfl 24 zero24r ?_); intro B9 w1 hB_ h9 hb1; have hlB9 : B8 < B9 := (by have := row_lt h8; omega); (try replace hA := row_keep hb1 hA); (try replace hE := row_keep hb1 hE); (try replace h6 := row_keep hb1 h6); (try replace h7 := row_keep hb1 h7); (try replace h8 := row_keep hb1 h8); (try replace h11 := row_keep hb1 h11); (try replace h12 := row_keep hb1 h12); (try replace hs := row_keep hb1 hs); have HD' : Hid _ := HD.out.below hb1; clear HD; have HD := HD'; clear HD' hb1; clear _t tk_9 hB_)
          | ((with_reducible refine wpList_storeWN rfl _ _ _ rfl _ rfl rfl h9 size24r (Below.refl w.heap.size _) (by omega) ?_); intro w1 g3 ho g4; (try replace hA := (ho _ (by omega)).trans hA); (try replace hE := (ho _ (by omega)).trans hE); (try replace h6 := (ho _ (by omega)).trans h6); (try replace h7 := (ho _ (by omega)).trans h7); (try replace h8 := (ho _ (by omega)).trans h8); (try replace h11 := (ho _ (by omega)).trans h11); (try replace h12 := (ho _ (by omega)).trans h12); (try replace hs := (ho _ (by omega)).trans hs); clear h9; have h9 := g3; have HD' : Hid _ := HD.out.belowK g4 (Nat.le_refl _); clear HD; have HD := HD'; clear HD' g3 ho g4)
          | (with_reducible refine wpList_loadW rfl _ _ rfl _ rfl h9 agg24r size24r ?_)
        refine wp_region_fork [1] [] [] 4 (fun l => (l.drop 1).take 1) (fun l => []) (fun _ => True) (by kernel_rfl) (by kernel_rfl) (by kernel_rfl) (by kernel_rfl) trivial trivial ?_
        try simp only [List.take_succ_cons, List.take_zero, List.drop_succ_cons, List.drop_zero, List.singleton_append, List.cons_append, List.nil_append]
        repeat (first
          | ((with_reducible refine wpCalm_step (fun K hK => ?_)); go_simp; (first | (refine ⟨_, fun _ _ => rfl, hK _ ?_⟩) | (refine hK _ ?_)); clear hK K))
        refine wpCalm_nil ?_
        refine wpCalm_nil ?_
        have hb1 : Below w1.heap.size w1 { w1 with drawn := w1.drawn + 1 } := (Below.refl _ _).drew
        obtain ⟨w1, hwt⟩ : ∃ w2 : World, w2 = { w1 with drawn := w1.drawn + 1 } := ⟨_, rfl⟩
        rw [← hwt] at hb1 ⊢
        clear hwt
        (try replace hA := row_keep hb1 hA); (try replace hE := row_keep hb1 hE); (try replace h6 := row_keep hb1 h6); (try replace h7 := row_keep hb1 h7); (try replace h8 := row_keep hb1 h8); (try replace h9 := row_keep hb1 h9); (try replace h11 := row_keep hb1 h11); (try replace h12 := row_keep hb1 h12); (try replace hs := row_keep hb1 hs); have HD' : Hid _ := HD.out.below hb1; clear HD; have HD := HD'; clear HD' hb1
        refine wpAny_fork2 0 2 (by kernel_rfl) rfl rfl ?_ ?_
        · go_wp2_with first
            | (with_reducible refine wpList_loadW rfl _ _ rfl _ rfl h8 agg24r size24r ?_)
          refine QN.intro ?_
          refine wpAny_fork1 2 (by kernel_rfl) rfl ?_
          go_wp2_with first
            | (go_at_call 26; (with_reducible refine Calls.mono (rack_d (by omega) HD.out) ?_); rintro e w1 ⟨f, i1, rfl, hi1, hD1, hg1⟩; (try replace hA := row_grown hA hg1 (by omega)); (try replace hE := row_grown hE hg1 (by omega)); (try replace h6 := row_grown h6 hg1 (by omega)); (try replace h7 := row_grown h7 hg1 (by omega)); (try replace h8 := row_grown h8 hg1 (by omega)); (try replace h9 := row_grown h9 hg1 (by omega)); (try replace h11 := row_grown h11 hg1 (by omega)); (try replace h12 := row_grown h12 hg1 (by omega)); (try replace hs := row_grown hs hg1 (by omega)); clear HD; have HD : Hid (DD w w1 B K p n c i1) := hD1; clear hD1 hg1)
          refine QN.intro ?_
          refine wpAny_fork1 3 (by kernel_rfl) rfl ?_
          go_wp2_with first
            | (have _t := tk_sA; (with_reducible refine wpList_storeWN rfl _ _ _ rfl _ rfl rfl hA size24r (Below.refl w.heap.size _) (by omega) ?_); intro w1 g3 ho g4; (try replace hE := (ho _ (by omega)).trans hE); (try replace h6 := (ho _ (by omega)).trans h6); (try replace h7 := (ho _ (by omega)).trans h7); (try replace h8 := (ho _ (by omega)).trans h8); (try replace h9 := (ho _ (by omega)).trans h9); (try replace h11 := (ho _ (by omega)).trans h11); (try replace h12 := (ho _ (by omega)).trans h12); (try replace hs := (ho _ (by omega)).trans hs); clear hA; have hA := g3; have HD' : Hid _ := HD.out.belowK g4 (Nat.le_refl _); clear HD; have HD := HD'; clear HD' g3 ho g4 _t tk_sA)
          refine QN.intro ?_
          refine wpAny_fork1 4 (by kernel_rfl) rfl ?_
          go_wp2_with first
            | (have _t := tk_sE; (with_reducible refine wpList_storeWN rfl _ _ _ rfl _ rfl rfl hE size24r (Below.refl w.heap.size _) (by omega) ?_); intro w1 g3 ho g4; (try replace hA := (ho _ (by omega)).trans hA); (try replace h6 := (ho _ (by omega)).trans h6); (try replace h7 := (ho _ (by omega)).trans h7); (try replace h8 := (ho _ (by omega)).trans h8); (try replace h9 := (ho _ (by omega)).trans h9); (try replace h11 := (ho _ (by omega)).trans h11); (try replace h12 := (ho _ (by omega)).trans h12); (try replace hs := (ho _ (by omega)).trans hs); clear hE; have hE := g3; have HD' : Hid _ := HD.out.belowK g4 (Nat.le_refl _); clear HD; have HD := HD'; clear HD' g3 ho g4 _t tk_sE)
          refine QN.intro ?_
          refine wpAny_end (by kernel_rfl) ?_
          go_wp2_with fail
          exact bodyPost_ret_by (results_cc rfl rfl rfl hA hE agg24r size24r agg24r size24r) rfl ⟨_, _, _, rfl, by omega, HD0.out.call HD.out.cur HD.out.grown, HD.out.grown⟩
        · go_wp2_with first
            | (go_at_call 26; (with_reducible refine Calls.mono (rack_d (by omega) HD.out) ?_); rintro e w1 ⟨f, i1, rfl, hi1, hD1, hg1⟩; (try replace hA := row_grown hA hg1 (by omega)); (try replace hE := row_grown hE hg1 (by omega)); (try replace h6 := row_grown h6 hg1 (by omega)); (try replace h7 := row_grown h7 hg1 (by omega)); (try replace h8 := row_grown h8 hg1 (by omega)); (try replace h9 := row_grown h9 hg1 (by omega)); (try replace h11 := row_grown h11 hg1 (by omega)); (try replace h12 := row_grown h12 hg1 (by omega)); (try replace hs := row_grown hs hg1 (by omega)); clear HD; have HD : Hid (DD w w1 B K p n c i1) := hD1; clear hD1 hg1)
          refine QN.intro ?_
          refine wpAny_fork1 0 (by kernel_rfl) rfl ?_
          go_wp2_with first
            | (with_reducible refine wpList_loadW rfl _ _ rfl _ rfl h8 agg24r size24r ?_)
          refine QN.intro ?_
          refine wpAny_fork1 3 (by kernel_rfl) rfl ?_
          go_wp2_with first
            | (have _t := tk_sA; (with_reducible refine wpList_storeWN rfl _ _ _ rfl _ rfl rfl hA size24r (Below.refl w.heap.size _) (by omega) ?_); intro w1 g3 ho g4; (try replace hE := (ho _ (by omega)).trans hE); (try replace h6 := (ho _ (by omega)).trans h6); (try replace h7 := (ho _ (by omega)).trans h7); (try replace h8 := (ho _ (by omega)).trans h8); (try replace h9 := (ho _ (by omega)).trans h9); (try replace h11 := (ho _ (by omega)).trans h11); (try replace h12 := (ho _ (by omega)).trans h12); (try replace hs := (ho _ (by omega)).trans hs); clear hA; have hA := g3; have HD' : Hid _ := HD.out.belowK g4 (Nat.le_refl _); clear HD; have HD := HD'; clear HD' g3 ho g4 _t tk_sA)
          refine QN.intro ?_
          refine wpAny_fork1 4 (by kernel_rfl) rfl ?_
          go_wp2_with first
            | (have _t := tk_sE; (with_reducible refine wpList_storeWN rfl _ _ _ rfl _ rfl rfl hE size24r (Below.refl w.heap.size _) (by omega) ?_); intro w1 g3 ho g4; (try replace hA := (ho _ (by omega)).trans hA); (try replace h6 := (ho _ (by omega)).trans h6); (try replace h7 := (ho _ (by omega)).trans h7); (try replace h8 := (ho _ (by omega)).trans h8); (try replace h9 := (ho _ (by omega)).trans h9); (try replace h11 := (ho _ (by omega)).trans h11); (try replace h12 := (ho _ (by omega)).trans h12); (try replace hs := (ho _ (by omega)).trans hs); clear hE; have hE := g3; have HD' : Hid _ := HD.out.belowK g4 (Nat.le_refl _); clear HD; have HD := HD'; clear HD' g3 ho g4 _t tk_sE)
          refine QN.intro ?_
          refine wpAny_end (by kernel_rfl) ?_
          go_wp2_with fail
          exact bodyPost_ret_by (results_cc rfl rfl rfl hA hE agg24r size24r agg24r size24r) rfl ⟨_, _, _, rfl, by omega, HD0.out.call HD.out.cur HD.out.grown, HD.out.grown⟩
      | true =>
        have HN : Hid _ := hns
        have HC : Hid _ := rack_bd HRO.out
        have HRB : Hid (rackB (fun j => s (ordF f o j).toNat) = true) := ren_rack HRO.out (ren_iff.1 hns)
        clear hns
        go_wp2_with first
          | (with_reducible refine wpList_loadW rfl _ _ rfl _ rfl h8 agg24r size24r ?_)
          | (with_reducible refine wpList_loadWG rfl _ _ rfl _ rfl h6 agg6 size6 ?_)
          | (with_reducible refine wpList_loadWG rfl _ _ rfl _ rfl h7 agg6 size6 ?_)
          | (with_reducible refine wpList_loadW rfl _ _ rfl _ rfl h6 agg6 size6 ?_)
          | (with_reducible refine wpList_loadW rfl _ _ rfl _ rfl h7 agg6 size6 ?_)
          | (go_at_call 49; (with_reducible refine (l4Perm_any _ _).mono ?_); rw [HP.out]; rintro e w1 ⟨rfl, hb1⟩; (try replace hA := row_keep hb1 hA); (try replace hE := row_keep hb1 hE); (try replace h6 := row_keep hb1 h6); (try replace h7 := row_keep hb1 h7); (try replace h8 := row_keep hb1 h8); (try replace h9 := row_keep hb1 h9); (try replace h11 := row_keep hb1 h11); (try replace h12 := row_keep hb1 h12); (try replace hs := row_keep hb1 hs); have HD' : Hid _ := HD.out.below hb1; clear HD; have HD := HD'; clear HD' hb1)
          | (go_at_call 30; (with_reducible refine (l4Names_any _ _).mono ?_); rw [HN.out]; rintro e w1 ⟨rfl, hb1⟩; (try replace hA := row_keep hb1 hA); (try replace hE := row_keep hb1 hE); (try replace h6 := row_keep hb1 h6); (try replace h7 := row_keep hb1 h7); (try replace h8 := row_keep hb1 h8); (try replace h9 := row_keep hb1 h9); (try replace h11 := row_keep hb1 h11); (try replace h12 := row_keep hb1 h12); (try replace hs := row_keep hb1 hs); have HD' : Hid _ := HD.out.below hb1; clear HD; have HD := HD'; clear HD' hb1)
          | (go_at_call 43; (with_reducible refine Calls.mono (one_d 5 (by omega) (by omega) _ (by omega) (by omega) HD.out) ?_); rintro e w1 ⟨bq, i1, rfl, hi1, hD1, hg1⟩; (try replace hA := row_grown hA hg1 (by omega)); (try replace hE := row_grown hE hg1 (by omega)); (try replace h6 := row_grown h6 hg1 (by omega)); (try replace h7 := row_grown h7 hg1 (by omega)); (try replace h8 := row_grown h8 hg1 (by omega)); (try replace h9 := row_grown h9 hg1 (by omega)); (try replace h11 := row_grown h11 hg1 (by omega)); (try replace h12 := row_grown h12 hg1 (by omega)); (try replace hs := row_grown hs hg1 (by omega)); clear HD; have HD : Hid (DD w w1 B K p n c i1) := hD1; clear hD1 hg1)
          | (go_at_call 60; (with_reducible refine (l4Order_any f o HO.out _).mono ?_); rintro e w1 ⟨rfl, hb1⟩; (try replace hA := row_keep hb1 hA); (try replace hE := row_keep hb1 hE); (try replace h6 := row_keep hb1 h6); (try replace h7 := row_keep hb1 h7); (try replace h8 := row_keep hb1 h8); (try replace h9 := row_keep hb1 h9); (try replace h11 := row_keep hb1 h11); (try replace h12 := row_keep hb1 h12); (try replace hs := row_keep hb1 hs); have HD' : Hid _ := HD.out.below hb1; clear HD; have HD := HD'; clear HD' hb1)
          | (go_at_call 31; (with_reducible refine (l4Rename_any (ordF f o) s HC.out _).mono ?_); rintro e w1 ⟨rfl, hb1⟩; (try replace hA := row_keep hb1 hA); (try replace hE := row_keep hb1 hE); (try replace h6 := row_keep hb1 h6); (try replace h7 := row_keep hb1 h7); (try replace h8 := row_keep hb1 h8); (try replace h9 := row_keep hb1 h9); (try replace h11 := row_keep hb1 h11); (try replace h12 := row_keep hb1 h12); (try replace hs := row_keep hb1 hs); have HD' : Hid _ := HD.out.below hb1; clear HD; have HD := HD'; clear HD' hb1)
          | (have _t := tk_9; (with_reducible refine wpList_allocN rfl 27 rfl 24 zero24r ?_); intro B9 w1 hB_ h9 hb1; have hlB9 : B8 < B9 := (by have := row_lt h8; omega); (try replace hA := row_keep hb1 hA); (try replace hE := row_keep hb1 hE); (try replace h6 := row_keep hb1 h6); (try replace h7 := row_keep hb1 h7); (try replace h8 := row_keep hb1 h8); (try replace h11 := row_keep hb1 h11); (try replace h12 := row_keep hb1 h12); (try replace hs := row_keep hb1 hs); have HD' : Hid _ := HD.out.below hb1; clear HD; have HD := HD'; clear HD' hb1; clear _t tk_9 hB_)
          | ((with_reducible refine wpList_storeWN rfl _ _ _ rfl _ rfl rfl h9 size24r (Below.refl w.heap.size _) (by omega) ?_); intro w1 g3 ho g4; (try replace hA := (ho _ (by omega)).trans hA); (try replace hE := (ho _ (by omega)).trans hE); (try replace h6 := (ho _ (by omega)).trans h6); (try replace h7 := (ho _ (by omega)).trans h7); (try replace h8 := (ho _ (by omega)).trans h8); (try replace h11 := (ho _ (by omega)).trans h11); (try replace h12 := (ho _ (by omega)).trans h12); (try replace hs := (ho _ (by omega)).trans hs); clear h9; have h9 := g3; have HD' : Hid _ := HD.out.belowK g4 (Nat.le_refl _); clear HD; have HD := HD'; clear HD' g3 ho g4)
          | (with_reducible refine wpList_loadW rfl _ _ rfl _ rfl h9 agg24r size24r ?_)
        · refine wp_region_fork [1] [] [] 4 (fun l => (l.drop 1).take 1) (fun l => []) (fun _ => True) (by kernel_rfl) (by kernel_rfl) (by kernel_rfl) (by kernel_rfl) trivial trivial ?_
          try simp only [List.take_succ_cons, List.take_zero, List.drop_succ_cons, List.drop_zero, List.singleton_append, List.cons_append, List.nil_append]
          repeat (first
            | ((with_reducible refine wpCalm_step (fun K hK => ?_)); go_simp; (first | (refine ⟨_, fun _ _ => rfl, hK _ ?_⟩) | (refine hK _ ?_)); clear hK K))
          refine wpCalm_nil ?_
          refine wpCalm_nil ?_
          have hb1 : Below w1.heap.size w1 { w1 with drawn := w1.drawn + 1 } := (Below.refl _ _).drew
          obtain ⟨w1, hwt⟩ : ∃ w2 : World, w2 = { w1 with drawn := w1.drawn + 1 } := ⟨_, rfl⟩
          rw [← hwt] at hb1 ⊢
          clear hwt
          (try replace hA := row_keep hb1 hA); (try replace hE := row_keep hb1 hE); (try replace h6 := row_keep hb1 h6); (try replace h7 := row_keep hb1 h7); (try replace h8 := row_keep hb1 h8); (try replace h9 := row_keep hb1 h9); (try replace h11 := row_keep hb1 h11); (try replace h12 := row_keep hb1 h12); (try replace hs := row_keep hb1 hs); have HD' : Hid _ := HD.out.below hb1; clear HD; have HD := HD'; clear HD' hb1
          refine wpAny_fork2 0 2 (by kernel_rfl) rfl rfl ?_ ?_
          · go_wp2_with first
              | (with_reducible refine wpList_loadW rfl _ _ rfl _ rfl h8 agg24r size24r ?_)
            refine QN.intro ?_
            refine wpAny_fork1 2 (by kernel_rfl) rfl ?_
            go_wp2_with first
              | (go_at_call 26; (with_reducible refine Calls.mono (rack_d (by omega) HD.out) ?_); rintro e w1 ⟨f, i1, rfl, hi1, hD1, hg1⟩; (try replace hA := row_grown hA hg1 (by omega)); (try replace hE := row_grown hE hg1 (by omega)); (try replace h6 := row_grown h6 hg1 (by omega)); (try replace h7 := row_grown h7 hg1 (by omega)); (try replace h8 := row_grown h8 hg1 (by omega)); (try replace h9 := row_grown h9 hg1 (by omega)); (try replace h11 := row_grown h11 hg1 (by omega)); (try replace h12 := row_grown h12 hg1 (by omega)); (try replace hs := row_grown hs hg1 (by omega)); clear HD; have HD : Hid (DD w w1 B K p n c i1) := hD1; clear hD1 hg1)
            refine QN.intro ?_
            refine wpAny_fork1 3 (by kernel_rfl) rfl ?_
            go_wp2_with first
              | (have _t := tk_sA; (with_reducible refine wpList_storeWN rfl _ _ _ rfl _ rfl rfl hA size24r (Below.refl w.heap.size _) (by omega) ?_); intro w1 g3 ho g4; (try replace hE := (ho _ (by omega)).trans hE); (try replace h6 := (ho _ (by omega)).trans h6); (try replace h7 := (ho _ (by omega)).trans h7); (try replace h8 := (ho _ (by omega)).trans h8); (try replace h9 := (ho _ (by omega)).trans h9); (try replace h11 := (ho _ (by omega)).trans h11); (try replace h12 := (ho _ (by omega)).trans h12); (try replace hs := (ho _ (by omega)).trans hs); clear hA; have hA := g3; have HD' : Hid _ := HD.out.belowK g4 (Nat.le_refl _); clear HD; have HD := HD'; clear HD' g3 ho g4 _t tk_sA)
            refine QN.intro ?_
            refine wpAny_fork1 4 (by kernel_rfl) rfl ?_
            go_wp2_with first
              | (have _t := tk_sE; (with_reducible refine wpList_storeWN rfl _ _ _ rfl _ rfl rfl hE size24r (Below.refl w.heap.size _) (by omega) ?_); intro w1 g3 ho g4; (try replace hA := (ho _ (by omega)).trans hA); (try replace h6 := (ho _ (by omega)).trans h6); (try replace h7 := (ho _ (by omega)).trans h7); (try replace h8 := (ho _ (by omega)).trans h8); (try replace h9 := (ho _ (by omega)).trans h9); (try replace h11 := (ho _ (by omega)).trans h11); (try replace h12 := (ho _ (by omega)).trans h12); (try replace hs := (ho _ (by omega)).trans hs); clear hE; have hE := g3; have HD' : Hid _ := HD.out.belowK g4 (Nat.le_refl _); clear HD; have HD := HD'; clear HD' g3 ho g4 _t tk_sE)
            refine QN.intro ?_
            refine wpAny_end (by kernel_rfl) ?_
            go_wp2_with fail
            exact bodyPost_ret_by (results_cc rfl rfl rfl hA hE agg24r size24r agg24r size24r) rfl ⟨_, _, _, rfl, by omega, HD0.out.call HD.out.cur HD.out.grown, HD.out.grown⟩
          · go_wp2_with first
              | (go_at_call 26; (with_reducible refine Calls.mono (rack_d (by omega) HD.out) ?_); rintro e w1 ⟨f, i1, rfl, hi1, hD1, hg1⟩; (try replace hA := row_grown hA hg1 (by omega)); (try replace hE := row_grown hE hg1 (by omega)); (try replace h6 := row_grown h6 hg1 (by omega)); (try replace h7 := row_grown h7 hg1 (by omega)); (try replace h8 := row_grown h8 hg1 (by omega)); (try replace h9 := row_grown h9 hg1 (by omega)); (try replace h11 := row_grown h11 hg1 (by omega)); (try replace h12 := row_grown h12 hg1 (by omega)); (try replace hs := row_grown hs hg1 (by omega)); clear HD; have HD : Hid (DD w w1 B K p n c i1) := hD1; clear hD1 hg1)
            refine QN.intro ?_
            refine wpAny_fork1 0 (by kernel_rfl) rfl ?_
            go_wp2_with first
              | (with_reducible refine wpList_loadW rfl _ _ rfl _ rfl h8 agg24r size24r ?_)
            refine QN.intro ?_
            refine wpAny_fork1 3 (by kernel_rfl) rfl ?_
            go_wp2_with first
              | (have _t := tk_sA; (with_reducible refine wpList_storeWN rfl _ _ _ rfl _ rfl rfl hA size24r (Below.refl w.heap.size _) (by omega) ?_); intro w1 g3 ho g4; (try replace hE := (ho _ (by omega)).trans hE); (try replace h6 := (ho _ (by omega)).trans h6); (try replace h7 := (ho _ (by omega)).trans h7); (try replace h8 := (ho _ (by omega)).trans h8); (try replace h9 := (ho _ (by omega)).trans h9); (try replace h11 := (ho _ (by omega)).trans h11); (try replace h12 := (ho _ (by omega)).trans h12); (try replace hs := (ho _ (by omega)).trans hs); clear hA; have hA := g3; have HD' : Hid _ := HD.out.belowK g4 (Nat.le_refl _); clear HD; have HD := HD'; clear HD' g3 ho g4 _t tk_sA)
            refine QN.intro ?_
            refine wpAny_fork1 4 (by kernel_rfl) rfl ?_
            go_wp2_with first
              | (have _t := tk_sE; (with_reducible refine wpList_storeWN rfl _ _ _ rfl _ rfl rfl hE size24r (Below.refl w.heap.size _) (by omega) ?_); intro w1 g3 ho g4; (try replace hA := (ho _ (by omega)).trans hA); (try replace h6 := (ho _ (by omega)).trans h6); (try replace h7 := (ho _ (by omega)).trans h7); (try replace h8 := (ho _ (by omega)).trans h8); (try replace h9 := (ho _ (by omega)).trans h9); (try replace h11 := (ho _ (by omega)).trans h11); (try replace h12 := (ho _ (by omega)).trans h12); (try replace hs := (ho _ (by omega)).trans hs); clear hE; have hE := g3; have HD' : Hid _ := HD.out.belowK g4 (Nat.le_refl _); clear HD; have HD := HD'; clear HD' g3 ho g4 _t tk_sE)
            refine QN.intro ?_
            refine wpAny_end (by kernel_rfl) ?_
            go_wp2_with fail
            exact bodyPost_ret_by (results_cc rfl rfl rfl hA hE agg24r size24r agg24r size24r) rfl ⟨_, _, _, rfl, by omega, HD0.out.call HD.out.cur HD.out.grown, HD.out.grown⟩
        · obtain ⟨b, hb⟩ : ∃ b : Nat → Int, b = fun j => s (ordF f o j).toNat := ⟨_, rfl⟩
          rw [← hb] at HRB ⊢
          replace h9 : w1.heap[B9]? = some (.cells (arr 24 b) 27 (0, 0)) := by rw [hb]; exact h9
          have HPN := poN_le b 36
          have HPP : Hid _ := fun k hk => po_pair (f := b) 36 (Nat.le_refl _) k hk
          clear hb
          refine Calls.mono (l2Pours_any b HRB.out _) ?_
          rintro e w1 ⟨v, rfl, hS, hb1⟩
          by_cases hz : poN b 36 = 0
          · (try replace hA := row_keep hb1 hA); (try replace hE := row_keep hb1 hE); (try replace h6 := row_keep hb1 h6); (try replace h7 := row_keep hb1 h7); (try replace h8 := row_keep hb1 h8); (try replace h9 := row_keep hb1 h9); (try replace h11 := row_keep hb1 h11); (try replace h12 := row_keep hb1 h12); (try replace hs := row_keep hb1 hs); have HD' : Hid _ := HD.out.below hb1; clear HD; have HD := HD'; clear HD' hb1
            rcases hS with ⟨rfl, _⟩ | ⟨g, cap, F, rfl, _⟩
            · go_wp2_with fail
              refine wp_region_fork [] [] [] 4 (fun l => []) (fun l => []) (fun _ => True) (by kernel_rfl) (by kernel_rfl) (by kernel_rfl) (by kernel_rfl) trivial trivial ?_
              try simp only [List.take_succ_cons, List.take_zero, List.drop_succ_cons, List.drop_zero, List.singleton_append, List.cons_append, List.nil_append]
              refine wpCalm_nil ?_
              refine wpCalm_nil ?_
              have hb1 : Below w1.heap.size w1 { w1 with drawn := w1.drawn + 1 } := (Below.refl _ _).drew
              obtain ⟨w1, hwt⟩ : ∃ w2 : World, w2 = { w1 with drawn := w1.drawn + 1 } := ⟨_, rfl⟩
              rw [← hwt] at hb1 ⊢
              clear hwt
              (try replace hA := row_keep hb1 hA); (try replace hE := row_keep hb1 hE); (try replace h6 := row_keep hb1 h6); (try replace h7 := row_keep hb1 h7); (try replace h8 := row_keep hb1 h8); (try replace h9 := row_keep hb1 h9); (try replace h11 := row_keep hb1 h11); (try replace h12 := row_keep hb1 h12); (try replace hs := row_keep hb1 hs); have HD' : Hid _ := HD.out.below hb1; clear HD; have HD := HD'; clear HD' hb1
              refine wpAny_fork2 0 1 (by kernel_rfl) rfl rfl ?_ ?_
              · go_wp2_with first
                  | (with_reducible refine wpList_loadW rfl _ _ rfl _ rfl h8 agg24r size24r ?_)
                refine QN.intro ?_
                refine wpAny_fork2 1 2 (by kernel_rfl) rfl rfl ?_ ?_
                · go_wp2_with first
                    | (with_reducible refine wpList_loadW rfl _ _ rfl _ rfl h9 agg24r size24r ?_)
                  refine QN.intro ?_
                  refine wpAny_fork1 2 (by kernel_rfl) rfl ?_
                  go_wp2_with first
                    | (have _t := tk_sA; (with_reducible refine wpList_storeWN rfl _ _ _ rfl _ rfl rfl hA size24r (Below.refl w.heap.size _) (by omega) ?_); intro w1 g3 ho g4; (try replace hE := (ho _ (by omega)).trans hE); (try replace h6 := (ho _ (by omega)).trans h6); (try replace h7 := (ho _ (by omega)).trans h7); (try replace h8 := (ho _ (by omega)).trans h8); (try replace h9 := (ho _ (by omega)).trans h9); (try replace h11 := (ho _ (by omega)).trans h11); (try replace h12 := (ho _ (by omega)).trans h12); (try replace hs := (ho _ (by omega)).trans hs); clear hA; have hA := g3; have HD' : Hid _ := HD.out.belowK g4 (Nat.le_refl _); clear HD; have HD := HD'; clear HD' g3 ho g4 _t tk_sA)
                  refine QN.intro ?_
                  refine wpAny_fork1 3 (by kernel_rfl) rfl ?_
                  go_wp2_with first
                    | (have _t := tk_sE; (with_reducible refine wpList_storeWN rfl _ _ _ rfl _ rfl rfl hE size24r (Below.refl w.heap.size _) (by omega) ?_); intro w1 g3 ho g4; (try replace hA := (ho _ (by omega)).trans hA); (try replace h6 := (ho _ (by omega)).trans h6); (try replace h7 := (ho _ (by omega)).trans h7); (try replace h8 := (ho _ (by omega)).trans h8); (try replace h9 := (ho _ (by omega)).trans h9); (try replace h11 := (ho _ (by omega)).trans h11); (try replace h12 := (ho _ (by omega)).trans h12); (try replace hs := (ho _ (by omega)).trans hs); clear hE; have hE := g3; have HD' : Hid _ := HD.out.belowK g4 (Nat.le_refl _); clear HD; have HD := HD'; clear HD' g3 ho g4 _t tk_sE)
                  refine QN.intro ?_
                  refine wpAny_end (by kernel_rfl) ?_
                  go_wp2_with fail
                  exact bodyPost_ret_by (results_cc rfl rfl rfl hA hE agg24r size24r agg24r size24r) rfl ⟨_, _, _, rfl, by omega, HD0.out.call HD.out.cur HD.out.grown, HD.out.grown⟩
                · go_wp2_with first
                    | (have _t := tk_sA; (with_reducible refine wpList_storeWN rfl _ _ _ rfl _ rfl rfl hA size24r (Below.refl w.heap.size _) (by omega) ?_); intro w1 g3 ho g4; (try replace hE := (ho _ (by omega)).trans hE); (try replace h6 := (ho _ (by omega)).trans h6); (try replace h7 := (ho _ (by omega)).trans h7); (try replace h8 := (ho _ (by omega)).trans h8); (try replace h9 := (ho _ (by omega)).trans h9); (try replace h11 := (ho _ (by omega)).trans h11); (try replace h12 := (ho _ (by omega)).trans h12); (try replace hs := (ho _ (by omega)).trans hs); clear hA; have hA := g3; have HD' : Hid _ := HD.out.belowK g4 (Nat.le_refl _); clear HD; have HD := HD'; clear HD' g3 ho g4 _t tk_sA)
                  refine QN.intro ?_
                  refine wpAny_fork1 1 (by kernel_rfl) rfl ?_
                  go_wp2_with first
                    | (with_reducible refine wpList_loadW rfl _ _ rfl _ rfl h9 agg24r size24r ?_)
                  refine QN.intro ?_
                  refine wpAny_fork1 3 (by kernel_rfl) rfl ?_
                  go_wp2_with first
                    | (have _t := tk_sE; (with_reducible refine wpList_storeWN rfl _ _ _ rfl _ rfl rfl hE size24r (Below.refl w.heap.size _) (by omega) ?_); intro w1 g3 ho g4; (try replace hA := (ho _ (by omega)).trans hA); (try replace h6 := (ho _ (by omega)).trans h6); (try replace h7 := (ho _ (by omega)).trans h7); (try replace h8 := (ho _ (by omega)).trans h8); (try replace h9 := (ho _ (by omega)).trans h9); (try replace h11 := (ho _ (by omega)).trans h11); (try replace h12 := (ho _ (by omega)).trans h12); (try replace hs := (ho _ (by omega)).trans hs); clear hE; have hE := g3; have HD' : Hid _ := HD.out.belowK g4 (Nat.le_refl _); clear HD; have HD := HD'; clear HD' g3 ho g4 _t tk_sE)
                  refine QN.intro ?_
                  refine wpAny_end (by kernel_rfl) ?_
                  go_wp2_with fail
                  exact bodyPost_ret_by (results_cc rfl rfl rfl hA hE agg24r size24r agg24r size24r) rfl ⟨_, _, _, rfl, by omega, HD0.out.call HD.out.cur HD.out.grown, HD.out.grown⟩
              · go_wp2_with first
                  | (with_reducible refine wpList_loadW rfl _ _ rfl _ rfl h9 agg24r size24r ?_)
                refine QN.intro ?_
                refine wpAny_fork1 0 (by kernel_rfl) rfl ?_
                go_wp2_with first
                  | (with_reducible refine wpList_loadW rfl _ _ rfl _ rfl h8 agg24r size24r ?_)
                refine QN.intro ?_
                refine wpAny_fork1 2 (by kernel_rfl) rfl ?_
                go_wp2_with first
                  | (have _t := tk_sA; (with_reducible refine wpList_storeWN rfl _ _ _ rfl _ rfl rfl hA size24r (Below.refl w.heap.size _) (by omega) ?_); intro w1 g3 ho g4; (try replace hE := (ho _ (by omega)).trans hE); (try replace h6 := (ho _ (by omega)).trans h6); (try replace h7 := (ho _ (by omega)).trans h7); (try replace h8 := (ho _ (by omega)).trans h8); (try replace h9 := (ho _ (by omega)).trans h9); (try replace h11 := (ho _ (by omega)).trans h11); (try replace h12 := (ho _ (by omega)).trans h12); (try replace hs := (ho _ (by omega)).trans hs); clear hA; have hA := g3; have HD' : Hid _ := HD.out.belowK g4 (Nat.le_refl _); clear HD; have HD := HD'; clear HD' g3 ho g4 _t tk_sA)
                refine QN.intro ?_
                refine wpAny_fork1 3 (by kernel_rfl) rfl ?_
                go_wp2_with first
                  | (have _t := tk_sE; (with_reducible refine wpList_storeWN rfl _ _ _ rfl _ rfl rfl hE size24r (Below.refl w.heap.size _) (by omega) ?_); intro w1 g3 ho g4; (try replace hA := (ho _ (by omega)).trans hA); (try replace h6 := (ho _ (by omega)).trans h6); (try replace h7 := (ho _ (by omega)).trans h7); (try replace h8 := (ho _ (by omega)).trans h8); (try replace h9 := (ho _ (by omega)).trans h9); (try replace h11 := (ho _ (by omega)).trans h11); (try replace h12 := (ho _ (by omega)).trans h12); (try replace hs := (ho _ (by omega)).trans hs); clear hE; have hE := g3; have HD' : Hid _ := HD.out.belowK g4 (Nat.le_refl _); clear HD; have HD := HD'; clear HD' g3 ho g4 _t tk_sE)
                refine QN.intro ?_
                refine wpAny_end (by kernel_rfl) ?_
                go_wp2_with fail
                exact bodyPost_ret_by (results_cc rfl rfl rfl hA hE agg24r size24r agg24r size24r) rfl ⟨_, _, _, rfl, by omega, HD0.out.call HD.out.cur HD.out.grown, HD.out.grown⟩
            · rw [hz]
              go_wp2_with fail
              refine wp_region_fork [] [] [] 4 (fun l => []) (fun l => []) (fun _ => True) (by kernel_rfl) (by kernel_rfl) (by kernel_rfl) (by kernel_rfl) trivial trivial ?_
              try simp only [List.take_succ_cons, List.take_zero, List.drop_succ_cons, List.drop_zero, List.singleton_append, List.cons_append, List.nil_append]
              refine wpCalm_nil ?_
              refine wpCalm_nil ?_
              have hb1 : Below w1.heap.size w1 { w1 with drawn := w1.drawn + 1 } := (Below.refl _ _).drew
              obtain ⟨w1, hwt⟩ : ∃ w2 : World, w2 = { w1 with drawn := w1.drawn + 1 } := ⟨_, rfl⟩
              rw [← hwt] at hb1 ⊢
              clear hwt
              (try replace hA := row_keep hb1 hA); (try replace hE := row_keep hb1 hE); (try replace h6 := row_keep hb1 h6); (try replace h7 := row_keep hb1 h7); (try replace h8 := row_keep hb1 h8); (try replace h9 := row_keep hb1 h9); (try replace h11 := row_keep hb1 h11); (try replace h12 := row_keep hb1 h12); (try replace hs := row_keep hb1 hs); have HD' : Hid _ := HD.out.below hb1; clear HD; have HD := HD'; clear HD' hb1
              refine wpAny_fork2 0 1 (by kernel_rfl) rfl rfl ?_ ?_
              · go_wp2_with first
                  | (with_reducible refine wpList_loadW rfl _ _ rfl _ rfl h8 agg24r size24r ?_)
                refine QN.intro ?_
                refine wpAny_fork2 1 2 (by kernel_rfl) rfl rfl ?_ ?_
                · go_wp2_with first
                    | (with_reducible refine wpList_loadW rfl _ _ rfl _ rfl h9 agg24r size24r ?_)
                  refine QN.intro ?_
                  refine wpAny_fork1 2 (by kernel_rfl) rfl ?_
                  go_wp2_with first
                    | (have _t := tk_sA; (with_reducible refine wpList_storeWN rfl _ _ _ rfl _ rfl rfl hA size24r (Below.refl w.heap.size _) (by omega) ?_); intro w1 g3 ho g4; (try replace hE := (ho _ (by omega)).trans hE); (try replace h6 := (ho _ (by omega)).trans h6); (try replace h7 := (ho _ (by omega)).trans h7); (try replace h8 := (ho _ (by omega)).trans h8); (try replace h9 := (ho _ (by omega)).trans h9); (try replace h11 := (ho _ (by omega)).trans h11); (try replace h12 := (ho _ (by omega)).trans h12); (try replace hs := (ho _ (by omega)).trans hs); clear hA; have hA := g3; have HD' : Hid _ := HD.out.belowK g4 (Nat.le_refl _); clear HD; have HD := HD'; clear HD' g3 ho g4 _t tk_sA)
                  refine QN.intro ?_
                  refine wpAny_fork1 3 (by kernel_rfl) rfl ?_
                  go_wp2_with first
                    | (have _t := tk_sE; (with_reducible refine wpList_storeWN rfl _ _ _ rfl _ rfl rfl hE size24r (Below.refl w.heap.size _) (by omega) ?_); intro w1 g3 ho g4; (try replace hA := (ho _ (by omega)).trans hA); (try replace h6 := (ho _ (by omega)).trans h6); (try replace h7 := (ho _ (by omega)).trans h7); (try replace h8 := (ho _ (by omega)).trans h8); (try replace h9 := (ho _ (by omega)).trans h9); (try replace h11 := (ho _ (by omega)).trans h11); (try replace h12 := (ho _ (by omega)).trans h12); (try replace hs := (ho _ (by omega)).trans hs); clear hE; have hE := g3; have HD' : Hid _ := HD.out.belowK g4 (Nat.le_refl _); clear HD; have HD := HD'; clear HD' g3 ho g4 _t tk_sE)
                  refine QN.intro ?_
                  refine wpAny_end (by kernel_rfl) ?_
                  go_wp2_with fail
                  exact bodyPost_ret_by (results_cc rfl rfl rfl hA hE agg24r size24r agg24r size24r) rfl ⟨_, _, _, rfl, by omega, HD0.out.call HD.out.cur HD.out.grown, HD.out.grown⟩
                · go_wp2_with first
                    | (have _t := tk_sA; (with_reducible refine wpList_storeWN rfl _ _ _ rfl _ rfl rfl hA size24r (Below.refl w.heap.size _) (by omega) ?_); intro w1 g3 ho g4; (try replace hE := (ho _ (by omega)).trans hE); (try replace h6 := (ho _ (by omega)).trans h6); (try replace h7 := (ho _ (by omega)).trans h7); (try replace h8 := (ho _ (by omega)).trans h8); (try replace h9 := (ho _ (by omega)).trans h9); (try replace h11 := (ho _ (by omega)).trans h11); (try replace h12 := (ho _ (by omega)).trans h12); (try replace hs := (ho _ (by omega)).trans hs); clear hA; have hA := g3; have HD' : Hid _ := HD.out.belowK g4 (Nat.le_refl _); clear HD; have HD := HD'; clear HD' g3 ho g4 _t tk_sA)
                  refine QN.intro ?_
                  refine wpAny_fork1 1 (by kernel_rfl) rfl ?_
                  go_wp2_with first
                    | (with_reducible refine wpList_loadW rfl _ _ rfl _ rfl h9 agg24r size24r ?_)
                  refine QN.intro ?_
                  refine wpAny_fork1 3 (by kernel_rfl) rfl ?_
                  go_wp2_with first
                    | (have _t := tk_sE; (with_reducible refine wpList_storeWN rfl _ _ _ rfl _ rfl rfl hE size24r (Below.refl w.heap.size _) (by omega) ?_); intro w1 g3 ho g4; (try replace hA := (ho _ (by omega)).trans hA); (try replace h6 := (ho _ (by omega)).trans h6); (try replace h7 := (ho _ (by omega)).trans h7); (try replace h8 := (ho _ (by omega)).trans h8); (try replace h9 := (ho _ (by omega)).trans h9); (try replace h11 := (ho _ (by omega)).trans h11); (try replace h12 := (ho _ (by omega)).trans h12); (try replace hs := (ho _ (by omega)).trans hs); clear hE; have hE := g3; have HD' : Hid _ := HD.out.belowK g4 (Nat.le_refl _); clear HD; have HD := HD'; clear HD' g3 ho g4 _t tk_sE)
                  refine QN.intro ?_
                  refine wpAny_end (by kernel_rfl) ?_
                  go_wp2_with fail
                  exact bodyPost_ret_by (results_cc rfl rfl rfl hA hE agg24r size24r agg24r size24r) rfl ⟨_, _, _, rfl, by omega, HD0.out.call HD.out.cur HD.out.grown, HD.out.grown⟩
              · go_wp2_with first
                  | (with_reducible refine wpList_loadW rfl _ _ rfl _ rfl h9 agg24r size24r ?_)
                refine QN.intro ?_
                refine wpAny_fork1 0 (by kernel_rfl) rfl ?_
                go_wp2_with first
                  | (with_reducible refine wpList_loadW rfl _ _ rfl _ rfl h8 agg24r size24r ?_)
                refine QN.intro ?_
                refine wpAny_fork1 2 (by kernel_rfl) rfl ?_
                go_wp2_with first
                  | (have _t := tk_sA; (with_reducible refine wpList_storeWN rfl _ _ _ rfl _ rfl rfl hA size24r (Below.refl w.heap.size _) (by omega) ?_); intro w1 g3 ho g4; (try replace hE := (ho _ (by omega)).trans hE); (try replace h6 := (ho _ (by omega)).trans h6); (try replace h7 := (ho _ (by omega)).trans h7); (try replace h8 := (ho _ (by omega)).trans h8); (try replace h9 := (ho _ (by omega)).trans h9); (try replace h11 := (ho _ (by omega)).trans h11); (try replace h12 := (ho _ (by omega)).trans h12); (try replace hs := (ho _ (by omega)).trans hs); clear hA; have hA := g3; have HD' : Hid _ := HD.out.belowK g4 (Nat.le_refl _); clear HD; have HD := HD'; clear HD' g3 ho g4 _t tk_sA)
                refine QN.intro ?_
                refine wpAny_fork1 3 (by kernel_rfl) rfl ?_
                go_wp2_with first
                  | (have _t := tk_sE; (with_reducible refine wpList_storeWN rfl _ _ _ rfl _ rfl rfl hE size24r (Below.refl w.heap.size _) (by omega) ?_); intro w1 g3 ho g4; (try replace hA := (ho _ (by omega)).trans hA); (try replace h6 := (ho _ (by omega)).trans h6); (try replace h7 := (ho _ (by omega)).trans h7); (try replace h8 := (ho _ (by omega)).trans h8); (try replace h9 := (ho _ (by omega)).trans h9); (try replace h11 := (ho _ (by omega)).trans h11); (try replace h12 := (ho _ (by omega)).trans h12); (try replace hs := (ho _ (by omega)).trans hs); clear hE; have hE := g3; have HD' : Hid _ := HD.out.belowK g4 (Nat.le_refl _); clear HD; have HD := HD'; clear HD' g3 ho g4 _t tk_sE)
                refine QN.intro ?_
                refine wpAny_end (by kernel_rfl) ?_
                go_wp2_with fail
                exact bodyPost_ret_by (results_cc rfl rfl rfl hA hE agg24r size24r agg24r size24r) rfl ⟨_, _, _, rfl, by omega, HD0.out.call HD.out.cur HD.out.grown, HD.out.grown⟩
          · obtain ⟨g, cap, F, rfl, a1, hs, a3, a4, a5⟩ := hS.blk (by omega)
            have hl9g : B9 < g := by have := row_lt h9; omega
            have hs' := hs
            clear hs
            (try replace hA := row_keep hb1 hA); (try replace hE := row_keep hb1 hE); (try replace h6 := row_keep hb1 h6); (try replace h7 := row_keep hb1 h7); (try replace h8 := row_keep hb1 h8); (try replace h9 := row_keep hb1 h9); (try replace h11 := row_keep hb1 h11); (try replace h12 := row_keep hb1 h12); (try replace hs := row_keep hb1 hs); have HD' : Hid _ := HD.out.below hb1; clear HD; have HD := HD'; clear HD' hb1
            have hs := hs'
            clear hs'
            have HA5 : Hid _ := a5
            clear a5
            generalize hm : poN b 36 = m at *
            have hm0 : (0 : Int) < (m : Int) := by omega
            go_wp2_with first
              | (go_at_call 43; (with_reducible refine Calls.mono (one_d 5 (by omega) (by omega) _ (by omega) (by omega) HD.out) ?_); rintro e w1 ⟨bq, i1, rfl, hi1, hD1, hg1⟩; (try replace hA := row_grown hA hg1 (by omega)); (try replace hE := row_grown hE hg1 (by omega)); (try replace h6 := row_grown h6 hg1 (by omega)); (try replace h7 := row_grown h7 hg1 (by omega)); (try replace h8 := row_grown h8 hg1 (by omega)); (try replace h9 := row_grown h9 hg1 (by omega)); (try replace h11 := row_grown h11 hg1 (by omega)); (try replace h12 := row_grown h12 hg1 (by omega)); (try replace hs := row_grown hs hg1 (by omega)); clear HD; have HD : Hid (DD w w1 B K p n c i1) := hD1; clear hD1 hg1)
            · refine Calls.mono (pick_d m (by omega) (by omega) _ rfl (by omega) HD.out) ?_
              rintro e w1 ⟨r, i1, rfl, hr, hi1, hD1, hg1⟩
              (try replace hA := row_grown hA hg1 (by omega)); (try replace hE := row_grown hE hg1 (by omega)); (try replace h6 := row_grown h6 hg1 (by omega)); (try replace h7 := row_grown h7 hg1 (by omega)); (try replace h8 := row_grown h8 hg1 (by omega)); (try replace h9 := row_grown h9 hg1 (by omega)); (try replace h11 := row_grown h11 hg1 (by omega)); (try replace h12 := row_grown h12 hg1 (by omega)); (try replace hs := row_grown hs hg1 (by omega)); clear HD; have HD : Hid (DD w w1 B K p n c i1) := hD1; clear hD1 hg1
              obtain ⟨x, y, q1, q2, q3, q4, q5⟩ := HPP.out r hr
              have E0 : Hid (F (r * 2 + 0) = x) := (HA5.out (r * 2) (by omega)).trans q4
              have E1 : Hid (F (r * 2 + 1) = y) := (HA5.out (r * 2 + 1) (by omega)).trans q5
              have HNE : Hid _ := q3
              have hrm : (r : Int) < (m : Int) := by omega
              clear q3 q4 q5
              go_wp2_with first
                | (with_reducible refine wpList_loadA rfl _ _ rfl _ _ rfl hs 2 agg2p size2p (by omega) ?_)
                | (have _t := tk_11; (with_reducible refine wpList_allocN rfl 79 rfl 2 zero2p ?_); intro B11 w1 hB_ h11 hb1; have hlB11 : B9 < B11 := (by have := row_lt h9; omega); (try replace hA := row_keep hb1 hA); (try replace hE := row_keep hb1 hE); (try replace h6 := row_keep hb1 h6); (try replace h7 := row_keep hb1 h7); (try replace h8 := row_keep hb1 h8); (try replace h9 := row_keep hb1 h9); (try replace h12 := row_keep hb1 h12); (try replace hs := row_keep hb1 hs); have HD' : Hid _ := HD.out.below hb1; clear HD; have HD := HD'; clear HD' hb1; clear _t tk_11 hB_)
                | (have _t := tk_s11; (with_reducible refine wpList_storeWN rfl _ _ _ rfl _ rfl rfl h11 size2p (Below.refl w.heap.size _) (by omega) ?_); intro w1 g3 ho g4; (try replace hA := (ho _ (by omega)).trans hA); (try replace hE := (ho _ (by omega)).trans hE); (try replace h6 := (ho _ (by omega)).trans h6); (try replace h7 := (ho _ (by omega)).trans h7); (try replace h8 := (ho _ (by omega)).trans h8); (try replace h9 := (ho _ (by omega)).trans h9); (try replace h12 := (ho _ (by omega)).trans h12); (try replace hs := (ho _ (by omega)).trans hs); clear h11; have h11 := g3; have HD' : Hid _ := HD.out.belowK g4 (Nat.le_refl _); clear HD; have HD := HD'; clear HD' g3 ho g4 _t tk_s11)
                | (with_reducible refine wpList_loadW rfl _ _ rfl _ rfl h9 agg24r size24r ?_)
                | ((with_reducible refine wpList_loadI rfl _ _ rfl _ _ rfl h11 aggI undI (by omega) ?_); first | rw [E0.out] | rw [E1.out])
                | (go_at_call 62; (with_reducible refine (l2Pour_any b HRB.out x y (by omega) (by omega) HNE.out _).mono ?_); rintro e w1 ⟨rfl, hb1⟩; (try replace hA := row_keep hb1 hA); (try replace hE := row_keep hb1 hE); (try replace h6 := row_keep hb1 h6); (try replace h7 := row_keep hb1 h7); (try replace h8 := row_keep hb1 h8); (try replace h9 := row_keep hb1 h9); (try replace h11 := row_keep hb1 h11); (try replace h12 := row_keep hb1 h12); (try replace hs := row_keep hb1 hs); have HD' : Hid _ := HD.out.below hb1; clear HD; have HD := HD'; clear HD' hb1)
                | (have _t := tk_12; (with_reducible refine wpList_allocN rfl 27 rfl 24 zero24r ?_); intro B12 w1 hB_ h12 hb1; have hlB12 : B11 < B12 := (by have := row_lt h11; omega); (try replace hA := row_keep hb1 hA); (try replace hE := row_keep hb1 hE); (try replace h6 := row_keep hb1 h6); (try replace h7 := row_keep hb1 h7); (try replace h8 := row_keep hb1 h8); (try replace h9 := row_keep hb1 h9); (try replace h11 := row_keep hb1 h11); (try replace hs := row_keep hb1 hs); have HD' : Hid _ := HD.out.below hb1; clear HD; have HD := HD'; clear HD' hb1; clear _t tk_12 hB_)
                | (have _t := tk_s12; (with_reducible refine wpList_storeWN rfl _ _ _ rfl _ rfl rfl h12 size24r (Below.refl w.heap.size _) (by omega) ?_); intro w1 g3 ho g4; (try replace hA := (ho _ (by omega)).trans hA); (try replace hE := (ho _ (by omega)).trans hE); (try replace h6 := (ho _ (by omega)).trans h6); (try replace h7 := (ho _ (by omega)).trans h7); (try replace h8 := (ho _ (by omega)).trans h8); (try replace h9 := (ho _ (by omega)).trans h9); (try replace h11 := (ho _ (by omega)).trans h11); (try replace hs := (ho _ (by omega)).trans hs); clear h12; have h12 := g3; have HD' : Hid _ := HD.out.belowK g4 (Nat.le_refl _); clear HD; have HD := HD'; clear HD' g3 ho g4 _t tk_s12)
                | (with_reducible refine wpList_loadW rfl _ _ rfl _ rfl h12 agg24r size24r ?_)
                | ((with_reducible refine wpList_storeWN rfl _ _ _ rfl _ rfl rfl h9 size24r (Below.refl w.heap.size _) (by omega) ?_); intro w1 g3 ho g4; (try replace hA := (ho _ (by omega)).trans hA); (try replace hE := (ho _ (by omega)).trans hE); (try replace h6 := (ho _ (by omega)).trans h6); (try replace h7 := (ho _ (by omega)).trans h7); (try replace h8 := (ho _ (by omega)).trans h8); (try replace h11 := (ho _ (by omega)).trans h11); (try replace h12 := (ho _ (by omega)).trans h12); (try replace hs := (ho _ (by omega)).trans hs); clear h9; have h9 := g3; have HD' : Hid _ := HD.out.belowK g4 (Nat.le_refl _); clear HD; have HD := HD'; clear HD' g3 ho g4)
              refine wp_region_fork [] [] [] 4 (fun l => []) (fun l => []) (fun _ => True) (by kernel_rfl) (by kernel_rfl) (by kernel_rfl) (by kernel_rfl) trivial trivial ?_
              try simp only [List.take_succ_cons, List.take_zero, List.drop_succ_cons, List.drop_zero, List.singleton_append, List.cons_append, List.nil_append]
              refine wpCalm_nil ?_
              refine wpCalm_nil ?_
              have hb1 : Below w1.heap.size w1 { w1 with drawn := w1.drawn + 1 } := (Below.refl _ _).drew
              obtain ⟨w1, hwt⟩ : ∃ w2 : World, w2 = { w1 with drawn := w1.drawn + 1 } := ⟨_, rfl⟩
              rw [← hwt] at hb1 ⊢
              clear hwt
              (try replace hA := row_keep hb1 hA); (try replace hE := row_keep hb1 hE); (try replace h6 := row_keep hb1 h6); (try replace h7 := row_keep hb1 h7); (try replace h8 := row_keep hb1 h8); (try replace h9 := row_keep hb1 h9); (try replace h11 := row_keep hb1 h11); (try replace h12 := row_keep hb1 h12); (try replace hs := row_keep hb1 hs); have HD' : Hid _ := HD.out.below hb1; clear HD; have HD := HD'; clear HD' hb1
              refine wpAny_fork2 0 1 (by kernel_rfl) rfl rfl ?_ ?_
              · go_wp2_with first
                  | (with_reducible refine wpList_loadW rfl _ _ rfl _ rfl h8 agg24r size24r ?_)
                refine QN.intro ?_
                refine wpAny_fork2 1 2 (by kernel_rfl) rfl rfl ?_ ?_
                · go_wp2_with first
                    | (with_reducible refine wpList_loadW rfl _ _ rfl _ rfl h9 agg24r size24r ?_)
                  refine QN.intro ?_
                  refine wpAny_fork1 2 (by kernel_rfl) rfl ?_
                  go_wp2_with first
                    | (have _t := tk_sA; (with_reducible refine wpList_storeWN rfl _ _ _ rfl _ rfl rfl hA size24r (Below.refl w.heap.size _) (by omega) ?_); intro w1 g3 ho g4; (try replace hE := (ho _ (by omega)).trans hE); (try replace h6 := (ho _ (by omega)).trans h6); (try replace h7 := (ho _ (by omega)).trans h7); (try replace h8 := (ho _ (by omega)).trans h8); (try replace h9 := (ho _ (by omega)).trans h9); (try replace h11 := (ho _ (by omega)).trans h11); (try replace h12 := (ho _ (by omega)).trans h12); (try replace hs := (ho _ (by omega)).trans hs); clear hA; have hA := g3; have HD' : Hid _ := HD.out.belowK g4 (Nat.le_refl _); clear HD; have HD := HD'; clear HD' g3 ho g4 _t tk_sA)
                  refine QN.intro ?_
                  refine wpAny_fork1 3 (by kernel_rfl) rfl ?_
                  go_wp2_with first
                    | (have _t := tk_sE; (with_reducible refine wpList_storeWN rfl _ _ _ rfl _ rfl rfl hE size24r (Below.refl w.heap.size _) (by omega) ?_); intro w1 g3 ho g4; (try replace hA := (ho _ (by omega)).trans hA); (try replace h6 := (ho _ (by omega)).trans h6); (try replace h7 := (ho _ (by omega)).trans h7); (try replace h8 := (ho _ (by omega)).trans h8); (try replace h9 := (ho _ (by omega)).trans h9); (try replace h11 := (ho _ (by omega)).trans h11); (try replace h12 := (ho _ (by omega)).trans h12); (try replace hs := (ho _ (by omega)).trans hs); clear hE; have hE := g3; have HD' : Hid _ := HD.out.belowK g4 (Nat.le_refl _); clear HD; have HD := HD'; clear HD' g3 ho g4 _t tk_sE)
                  refine QN.intro ?_
                  refine wpAny_end (by kernel_rfl) ?_
                  go_wp2_with fail
                  exact bodyPost_ret_by (results_cc rfl rfl rfl hA hE agg24r size24r agg24r size24r) rfl ⟨_, _, _, rfl, by omega, HD0.out.call HD.out.cur HD.out.grown, HD.out.grown⟩
                · go_wp2_with first
                    | (have _t := tk_sA; (with_reducible refine wpList_storeWN rfl _ _ _ rfl _ rfl rfl hA size24r (Below.refl w.heap.size _) (by omega) ?_); intro w1 g3 ho g4; (try replace hE := (ho _ (by omega)).trans hE); (try replace h6 := (ho _ (by omega)).trans h6); (try replace h7 := (ho _ (by omega)).trans h7); (try replace h8 := (ho _ (by omega)).trans h8); (try replace h9 := (ho _ (by omega)).trans h9); (try replace h11 := (ho _ (by omega)).trans h11); (try replace h12 := (ho _ (by omega)).trans h12); (try replace hs := (ho _ (by omega)).trans hs); clear hA; have hA := g3; have HD' : Hid _ := HD.out.belowK g4 (Nat.le_refl _); clear HD; have HD := HD'; clear HD' g3 ho g4 _t tk_sA)
                  refine QN.intro ?_
                  refine wpAny_fork1 1 (by kernel_rfl) rfl ?_
                  go_wp2_with first
                    | (with_reducible refine wpList_loadW rfl _ _ rfl _ rfl h9 agg24r size24r ?_)
                  refine QN.intro ?_
                  refine wpAny_fork1 3 (by kernel_rfl) rfl ?_
                  go_wp2_with first
                    | (have _t := tk_sE; (with_reducible refine wpList_storeWN rfl _ _ _ rfl _ rfl rfl hE size24r (Below.refl w.heap.size _) (by omega) ?_); intro w1 g3 ho g4; (try replace hA := (ho _ (by omega)).trans hA); (try replace h6 := (ho _ (by omega)).trans h6); (try replace h7 := (ho _ (by omega)).trans h7); (try replace h8 := (ho _ (by omega)).trans h8); (try replace h9 := (ho _ (by omega)).trans h9); (try replace h11 := (ho _ (by omega)).trans h11); (try replace h12 := (ho _ (by omega)).trans h12); (try replace hs := (ho _ (by omega)).trans hs); clear hE; have hE := g3; have HD' : Hid _ := HD.out.belowK g4 (Nat.le_refl _); clear HD; have HD := HD'; clear HD' g3 ho g4 _t tk_sE)
                  refine QN.intro ?_
                  refine wpAny_end (by kernel_rfl) ?_
                  go_wp2_with fail
                  exact bodyPost_ret_by (results_cc rfl rfl rfl hA hE agg24r size24r agg24r size24r) rfl ⟨_, _, _, rfl, by omega, HD0.out.call HD.out.cur HD.out.grown, HD.out.grown⟩
              · go_wp2_with first
                  | (with_reducible refine wpList_loadW rfl _ _ rfl _ rfl h9 agg24r size24r ?_)
                refine QN.intro ?_
                refine wpAny_fork1 0 (by kernel_rfl) rfl ?_
                go_wp2_with first
                  | (with_reducible refine wpList_loadW rfl _ _ rfl _ rfl h8 agg24r size24r ?_)
                refine QN.intro ?_
                refine wpAny_fork1 2 (by kernel_rfl) rfl ?_
                go_wp2_with first
                  | (have _t := tk_sA; (with_reducible refine wpList_storeWN rfl _ _ _ rfl _ rfl rfl hA size24r (Below.refl w.heap.size _) (by omega) ?_); intro w1 g3 ho g4; (try replace hE := (ho _ (by omega)).trans hE); (try replace h6 := (ho _ (by omega)).trans h6); (try replace h7 := (ho _ (by omega)).trans h7); (try replace h8 := (ho _ (by omega)).trans h8); (try replace h9 := (ho _ (by omega)).trans h9); (try replace h11 := (ho _ (by omega)).trans h11); (try replace h12 := (ho _ (by omega)).trans h12); (try replace hs := (ho _ (by omega)).trans hs); clear hA; have hA := g3; have HD' : Hid _ := HD.out.belowK g4 (Nat.le_refl _); clear HD; have HD := HD'; clear HD' g3 ho g4 _t tk_sA)
                refine QN.intro ?_
                refine wpAny_fork1 3 (by kernel_rfl) rfl ?_
                go_wp2_with first
                  | (have _t := tk_sE; (with_reducible refine wpList_storeWN rfl _ _ _ rfl _ rfl rfl hE size24r (Below.refl w.heap.size _) (by omega) ?_); intro w1 g3 ho g4; (try replace hA := (ho _ (by omega)).trans hA); (try replace h6 := (ho _ (by omega)).trans h6); (try replace h7 := (ho _ (by omega)).trans h7); (try replace h8 := (ho _ (by omega)).trans h8); (try replace h9 := (ho _ (by omega)).trans h9); (try replace h11 := (ho _ (by omega)).trans h11); (try replace h12 := (ho _ (by omega)).trans h12); (try replace hs := (ho _ (by omega)).trans hs); clear hE; have hE := g3; have HD' : Hid _ := HD.out.belowK g4 (Nat.le_refl _); clear HD; have HD := HD'; clear HD' g3 ho g4 _t tk_sE)
                refine QN.intro ?_
                refine wpAny_end (by kernel_rfl) ?_
                go_wp2_with fail
                exact bodyPost_ret_by (results_cc rfl rfl rfl hA hE agg24r size24r agg24r size24r) rfl ⟨_, _, _, rfl, by omega, HD0.out.call HD.out.cur HD.out.grown, HD.out.grown⟩
            · refine wp_region_fork [] [] [] 4 (fun l => []) (fun l => []) (fun _ => True) (by kernel_rfl) (by kernel_rfl) (by kernel_rfl) (by kernel_rfl) trivial trivial ?_
              try simp only [List.take_succ_cons, List.take_zero, List.drop_succ_cons, List.drop_zero, List.singleton_append, List.cons_append, List.nil_append]
              refine wpCalm_nil ?_
              refine wpCalm_nil ?_
              have hb1 : Below w1.heap.size w1 { w1 with drawn := w1.drawn + 1 } := (Below.refl _ _).drew
              obtain ⟨w1, hwt⟩ : ∃ w2 : World, w2 = { w1 with drawn := w1.drawn + 1 } := ⟨_, rfl⟩
              rw [← hwt] at hb1 ⊢
              clear hwt
              (try replace hA := row_keep hb1 hA); (try replace hE := row_keep hb1 hE); (try replace h6 := row_keep hb1 h6); (try replace h7 := row_keep hb1 h7); (try replace h8 := row_keep hb1 h8); (try replace h9 := row_keep hb1 h9); (try replace h11 := row_keep hb1 h11); (try replace h12 := row_keep hb1 h12); (try replace hs := row_keep hb1 hs); have HD' : Hid _ := HD.out.below hb1; clear HD; have HD := HD'; clear HD' hb1
              refine wpAny_fork2 0 1 (by kernel_rfl) rfl rfl ?_ ?_
              · go_wp2_with first
                  | (with_reducible refine wpList_loadW rfl _ _ rfl _ rfl h8 agg24r size24r ?_)
                refine QN.intro ?_
                refine wpAny_fork2 1 2 (by kernel_rfl) rfl rfl ?_ ?_
                · go_wp2_with first
                    | (with_reducible refine wpList_loadW rfl _ _ rfl _ rfl h9 agg24r size24r ?_)
                  refine QN.intro ?_
                  refine wpAny_fork1 2 (by kernel_rfl) rfl ?_
                  go_wp2_with first
                    | (have _t := tk_sA; (with_reducible refine wpList_storeWN rfl _ _ _ rfl _ rfl rfl hA size24r (Below.refl w.heap.size _) (by omega) ?_); intro w1 g3 ho g4; (try replace hE := (ho _ (by omega)).trans hE); (try replace h6 := (ho _ (by omega)).trans h6); (try replace h7 := (ho _ (by omega)).trans h7); (try replace h8 := (ho _ (by omega)).trans h8); (try replace h9 := (ho _ (by omega)).trans h9); (try replace h11 := (ho _ (by omega)).trans h11); (try replace h12 := (ho _ (by omega)).trans h12); (try replace hs := (ho _ (by omega)).trans hs); clear hA; have hA := g3; have HD' : Hid _ := HD.out.belowK g4 (Nat.le_refl _); clear HD; have HD := HD'; clear HD' g3 ho g4 _t tk_sA)
                  refine QN.intro ?_
                  refine wpAny_fork1 3 (by kernel_rfl) rfl ?_
                  go_wp2_with first
                    | (have _t := tk_sE; (with_reducible refine wpList_storeWN rfl _ _ _ rfl _ rfl rfl hE size24r (Below.refl w.heap.size _) (by omega) ?_); intro w1 g3 ho g4; (try replace hA := (ho _ (by omega)).trans hA); (try replace h6 := (ho _ (by omega)).trans h6); (try replace h7 := (ho _ (by omega)).trans h7); (try replace h8 := (ho _ (by omega)).trans h8); (try replace h9 := (ho _ (by omega)).trans h9); (try replace h11 := (ho _ (by omega)).trans h11); (try replace h12 := (ho _ (by omega)).trans h12); (try replace hs := (ho _ (by omega)).trans hs); clear hE; have hE := g3; have HD' : Hid _ := HD.out.belowK g4 (Nat.le_refl _); clear HD; have HD := HD'; clear HD' g3 ho g4 _t tk_sE)
                  refine QN.intro ?_
                  refine wpAny_end (by kernel_rfl) ?_
                  go_wp2_with fail
                  exact bodyPost_ret_by (results_cc rfl rfl rfl hA hE agg24r size24r agg24r size24r) rfl ⟨_, _, _, rfl, by omega, HD0.out.call HD.out.cur HD.out.grown, HD.out.grown⟩
                · go_wp2_with first
                    | (have _t := tk_sA; (with_reducible refine wpList_storeWN rfl _ _ _ rfl _ rfl rfl hA size24r (Below.refl w.heap.size _) (by omega) ?_); intro w1 g3 ho g4; (try replace hE := (ho _ (by omega)).trans hE); (try replace h6 := (ho _ (by omega)).trans h6); (try replace h7 := (ho _ (by omega)).trans h7); (try replace h8 := (ho _ (by omega)).trans h8); (try replace h9 := (ho _ (by omega)).trans h9); (try replace h11 := (ho _ (by omega)).trans h11); (try replace h12 := (ho _ (by omega)).trans h12); (try replace hs := (ho _ (by omega)).trans hs); clear hA; have hA := g3; have HD' : Hid _ := HD.out.belowK g4 (Nat.le_refl _); clear HD; have HD := HD'; clear HD' g3 ho g4 _t tk_sA)
                  refine QN.intro ?_
                  refine wpAny_fork1 1 (by kernel_rfl) rfl ?_
                  go_wp2_with first
                    | (with_reducible refine wpList_loadW rfl _ _ rfl _ rfl h9 agg24r size24r ?_)
                  refine QN.intro ?_
                  refine wpAny_fork1 3 (by kernel_rfl) rfl ?_
                  go_wp2_with first
                    | (have _t := tk_sE; (with_reducible refine wpList_storeWN rfl _ _ _ rfl _ rfl rfl hE size24r (Below.refl w.heap.size _) (by omega) ?_); intro w1 g3 ho g4; (try replace hA := (ho _ (by omega)).trans hA); (try replace h6 := (ho _ (by omega)).trans h6); (try replace h7 := (ho _ (by omega)).trans h7); (try replace h8 := (ho _ (by omega)).trans h8); (try replace h9 := (ho _ (by omega)).trans h9); (try replace h11 := (ho _ (by omega)).trans h11); (try replace h12 := (ho _ (by omega)).trans h12); (try replace hs := (ho _ (by omega)).trans hs); clear hE; have hE := g3; have HD' : Hid _ := HD.out.belowK g4 (Nat.le_refl _); clear HD; have HD := HD'; clear HD' g3 ho g4 _t tk_sE)
                  refine QN.intro ?_
                  refine wpAny_end (by kernel_rfl) ?_
                  go_wp2_with fail
                  exact bodyPost_ret_by (results_cc rfl rfl rfl hA hE agg24r size24r agg24r size24r) rfl ⟨_, _, _, rfl, by omega, HD0.out.call HD.out.cur HD.out.grown, HD.out.grown⟩
              · go_wp2_with first
                  | (with_reducible refine wpList_loadW rfl _ _ rfl _ rfl h9 agg24r size24r ?_)
                refine QN.intro ?_
                refine wpAny_fork1 0 (by kernel_rfl) rfl ?_
                go_wp2_with first
                  | (with_reducible refine wpList_loadW rfl _ _ rfl _ rfl h8 agg24r size24r ?_)
                refine QN.intro ?_
                refine wpAny_fork1 2 (by kernel_rfl) rfl ?_
                go_wp2_with first
                  | (have _t := tk_sA; (with_reducible refine wpList_storeWN rfl _ _ _ rfl _ rfl rfl hA size24r (Below.refl w.heap.size _) (by omega) ?_); intro w1 g3 ho g4; (try replace hE := (ho _ (by omega)).trans hE); (try replace h6 := (ho _ (by omega)).trans h6); (try replace h7 := (ho _ (by omega)).trans h7); (try replace h8 := (ho _ (by omega)).trans h8); (try replace h9 := (ho _ (by omega)).trans h9); (try replace h11 := (ho _ (by omega)).trans h11); (try replace h12 := (ho _ (by omega)).trans h12); (try replace hs := (ho _ (by omega)).trans hs); clear hA; have hA := g3; have HD' : Hid _ := HD.out.belowK g4 (Nat.le_refl _); clear HD; have HD := HD'; clear HD' g3 ho g4 _t tk_sA)
                refine QN.intro ?_
                refine wpAny_fork1 3 (by kernel_rfl) rfl ?_
                go_wp2_with first
                  | (have _t := tk_sE; (with_reducible refine wpList_storeWN rfl _ _ _ rfl _ rfl rfl hE size24r (Below.refl w.heap.size _) (by omega) ?_); intro w1 g3 ho g4; (try replace hA := (ho _ (by omega)).trans hA); (try replace h6 := (ho _ (by omega)).trans h6); (try replace h7 := (ho _ (by omega)).trans h7); (try replace h8 := (ho _ (by omega)).trans h8); (try replace h9 := (ho _ (by omega)).trans h9); (try replace h11 := (ho _ (by omega)).trans h11); (try replace h12 := (ho _ (by omega)).trans h12); (try replace hs := (ho _ (by omega)).trans hs); clear hE; have hE := g3; have HD' : Hid _ := HD.out.belowK g4 (Nat.le_refl _); clear HD; have HD := HD'; clear HD' g3 ho g4 _t tk_sE)
                refine QN.intro ?_
                refine wpAny_end (by kernel_rfl) ?_
                go_wp2_with fail
                exact bodyPost_ret_by (results_cc rfl rfl rfl hA hE agg24r size24r agg24r size24r) rfl ⟨_, _, _, rfl, by omega, HD0.out.call HD.out.cur HD.out.grown, HD.out.grown⟩
end Go.Proofs.YtlbgmkengkgnfaaGreat
end
