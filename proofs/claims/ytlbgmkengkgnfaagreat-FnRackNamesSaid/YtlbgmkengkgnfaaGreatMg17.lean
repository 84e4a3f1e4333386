/- A part (number 17) of the proof of the law FnRackNames: what each of its sections proves stands in the section's own first remark. No conditions beside those that each theorem states. -/
import Derived.Test.YtlbgmkengkgnfaaGreatMg16
section
/- What the law on names draws. -/
namespace Go.Proofs.YtlbgmkengkgnfaaGreat
set_option linter.unusedSimpArgs false
set_option linter.unusedVariables false
set_option maxRecDepth 20000
open Go.RowKit
theorem cur_newD {p : Option Addr} {n c : Nat} {T : TypeId} (w : World) : Cur (w.alloc (.cells #[.slice p n c, .int .i64 0, .int .u64 0] T)) w.heap.size p n c 0 := by
  have h : (w.alloc (.cells #[.slice p n c, .int .i64 0, .int .u64 0] T)).heap[w.heap.size]? = some (.cells #[.slice p n c, .int .i64 0, .int .u64 0] T (0, 0)) := heap_alloc_new _ _
  refine ⟨by simp, fun j => ?_, ?_, ?_, 0, ?_, by omega, by omega⟩
  · unfold World.frozen?; rw [h]; simp
  · simp only [World.cell?, h]; rfl
  · simp only [World.cell?, h]; rfl
  · simp only [World.cell?, h]; rfl
theorem grown_belowD {w0 w w' : World} {B : Nat} (h : w.grownBy w' (some B)) (hB : w0.heap.size ≤ B) (hw : Below w0.heap.size w0 w) : Below w0.heap.size w0 w' :=
  hw.trans ⟨h.os, h.tape, h.output, h.size, fun k hk => h.block k (by have := hw.size; omega) (fun e => by injection e; omega)⟩
theorem dd_new {p : Option Addr} {n c : Nat} {T : TypeId} {w w1 : World} (hB : By w w.heap.size p n c) (hb : Below w.heap.size w w1) :
    DD (w1.alloc (.cells #[.slice p n c, .int .i64 0, .int .u64 0] T)) (w1.alloc (.cells #[.slice p n c, .int .i64 0, .int .u64 0] T)) w1.heap.size w.heap.size p n c 0 :=
  DD.self (cur_newD w1) (by_belowK hB (hb.alloc hb.size _) (Nat.le_refl _)) hb.size
set_option maxHeartbeats 2000000 in
theorem drawRN {p : Option Addr} {n c : Nat} (w : World) (hB : By w w.heap.size p n c) :
    Calls Tryz.prog 5 #[.slice p n c] w fun e w' => ∃ f s : Nat → Int, e = .returned (.tuple #[.agg (arr 24 f), .agg (arr 6 s)]) ∧ Below w.heap.size w w' := by
  have hbel := Below.refl w.heap.size w
  have hBy := hB
  clear hB
  have tk_2 : True := trivial
  have tk_3 : True := trivial
  have tk_5 : True := trivial
  have tk_w5 : True := trivial
  go_enter Tryz.func5, Tryz.ntmps5
  go_wp2_with first
    | (have _t := tk_2; (with_reducible refine wpList_allocN rfl 27 rfl 24 zero24r ?_); intro B2 w1 hW2 h2 hb1; replace hbel := hbel.trans (hb1.mono hbel.size); clear hb1 _t tk_2)
    | (have _t := tk_3; (with_reducible refine wpList_allocN rfl 28 rfl 6 zero6 ?_); intro B3 w1 hW3 h3 hb1; have hl23 : B2 < B3 := (by have := row_lt h2; omega); replace hbel := hbel.trans (hb1.mono hbel.size); replace h2 := row_keep hb1 h2; clear hb1 _t tk_3)
  have hl3B := row_lt h3
  have hD := dd_new (T := 51) hBy hbel
  have hb1 : Below w1.heap.size w1 (w1.alloc (.cells #[.slice p n c, .int .i64 0, .int .u64 0] 51)) := (Below.refl _ _).alloc (Nat.le_refl _) _
  have hle := hbel.size
  replace hbel := hbel.trans (hb1.mono hbel.size)
  replace h2 := row_keep hb1 h2
  replace h3 := row_keep hb1 h3
  clear hb1
  obtain ⟨B, hB⟩ : ∃ B, B = w1.heap.size := ⟨_, rfl⟩
  rw [← hB] at hD hl3B hle ⊢
  clear hB
  generalize w1.alloc (.cells #[.slice p n c, .int .i64 0, .int .u64 0] 51) = wb at *
  have HD : Hid _ := hD
  clear hD
  refine Calls.mono (names_d (by omega) HD.out) ?_
  rintro e w1 ⟨s, i1, rfl, hi1, hD1, hg1⟩
  replace h2 := row_grown h2 hg1 (by omega)
  replace h3 := row_grown h3 hg1 (by omega)
  clear HD hg1
  have HD : Hid _ := hD1
  clear hD1
  go_wp2_with first
    | (have _t := tk_5; (with_reducible refine wpList_allocN rfl 28 rfl 6 zero6 ?_); intro B5 w1 hW5 h5 hb1; have hWb : wb.heap.size ≤ B5 := Nat.le_trans HD.out.size hW5; have hl3 : B3 < B5 := (by have := row_lt h3; omega); have hlB : B < B5 := (by have := HD.out.lt; omega); replace h2 := row_keep hb1 h2; replace h3 := row_keep hb1 h3; have HD' : Hid _ := HD.out.below hb1; clear HD; have HD := HD'; clear HD' hb1 _t tk_5)
    | (have _t := tk_w5; (with_reducible refine wpList_storeWN rfl _ _ _ rfl _ rfl rfl h5 size6 (Below.refl wb.heap.size _) hWb ?_); intro w1 g3 ho g4; replace h2 := (ho _ (by omega)).trans h2; replace h3 := (ho _ (by omega)).trans h3; clear h5; have h5 := g3; have HD' : Hid _ := HD.out.belowK g4 (Nat.le_refl _); clear HD; have HD := HD'; clear HD' g3 ho g4 _t tk_w5)
  refine wp_region_fork [0] [] [] 4 (fun l => (l.drop 0).take 1) (fun l => []) (fun _ => True) (by kernel_rfl) (by kernel_rfl) (by kernel_rfl) (by kernel_rfl) trivial trivial ?_
  try simp only [List.take_succ_cons, List.take_zero, List.drop_succ_cons, List.drop_zero, List.singleton_append, List.cons_append, List.nil_append]
  repeat (first
    | ((with_reducible refine wpCalm_step (fun K hK => ?_)); go_simp; (first | (refine ⟨_, fun _ _ => rfl, hK _ ?_⟩) | (refine hK _ ?_)); clear hK K))
  refine wpCalm_nil ?_
  refine wpCalm_nil ?_
  replace hbel : Below w.heap.size w wb := hbel
  have hb1 : Below w1.heap.size w1 { w1 with drawn := w1.drawn + 1 } := (Below.refl _ _).drew
  obtain ⟨w1, hwt⟩ : ∃ w2 : World, w2 = { w1 with drawn := w1.drawn + 1 } := ⟨_, rfl⟩
  rw [← hwt] at hb1 ⊢
  clear hwt
  replace h2 := row_keep hb1 h2
  replace h3 := row_keep hb1 h3
  replace h5 := row_keep hb1 h5
  have HD' : Hid _ := HD.out.below hb1
  clear HD hb1
  have HD := HD'
  clear HD'
  refine wpAny_fork2 1 2 (by kernel_rfl) rfl rfl ?_ ?_
  · go_wp2_with first
      | (go_at_call 26; (with_reducible refine Calls.mono (rack_d (by omega) HD.out) ?_); rintro e w1 ⟨f, i2, rfl, hi2, hD1, hg1⟩; have hg0 := hD1.grown; replace hbel := grown_belowD hg0 hle hbel; replace h2 := row_grown h2 hg1 (by omega); replace h3 := row_grown h3 hg1 (by omega); (try replace h5 := row_grown h5 hg1 (by omega)); clear HD hD1 hg1 hg0)
    refine QN.intro ?_
    refine wpAny_fork2 2 3 (by kernel_rfl) rfl rfl ?_ ?_
    · go_wp2_with first
        | (with_reducible refine wpList_loadW rfl _ _ rfl _ rfl h5 agg6 size6 ?_)
      refine QN.intro ?_
      refine wpAny_fork1 3 (by kernel_rfl) rfl ?_
      go_wp2_with first
        | ((with_reducible refine wpList_storeWN rfl _ _ _ rfl _ rfl rfl h2 size24r hbel (by omega) ?_); intro w1 g3 ho g4; replace h3 := (ho _ (by omega)).trans h3; (try replace h5 := (ho _ (by omega)).trans h5); clear h2; have h2 := g3; clear hbel; have hbel := g4; clear g3 ho g4)
      refine QN.intro ?_
      refine wpAny_fork1 4 (by kernel_rfl) rfl ?_
      go_wp2_with first
        | ((with_reducible refine wpList_storeWN rfl _ _ _ rfl _ rfl rfl h3 size6 hbel (by omega) ?_); intro w1 g3 ho g4; replace h2 := (ho _ (by omega)).trans h2; clear h3; have h3 := g3; clear hbel; have hbel := g4; clear g3 ho g4)
      refine QN.intro ?_
      refine wpAny_end (by kernel_rfl) ?_
      go_wp2_with fail
      exact bodyPost_ret_by (results_cc rfl rfl rfl h2 h3 agg24r size24r agg6 size6) rfl ⟨_, _, rfl, hbel⟩
    · go_wp2_with first
        | ((with_reducible refine wpList_storeWN rfl _ _ _ rfl _ rfl rfl h2 size24r hbel (by omega) ?_); intro w1 g3 ho g4; replace h3 := (ho _ (by omega)).trans h3; (try replace h5 := (ho _ (by omega)).trans h5); clear h2; have h2 := g3; clear hbel; have hbel := g4; clear g3 ho g4)
      refine QN.intro ?_
      refine wpAny_fork1 2 (by kernel_rfl) rfl ?_
      go_wp2_with first
        | (with_reducible refine wpList_loadW rfl _ _ rfl _ rfl h5 agg6 size6 ?_)
      refine QN.intro ?_
      refine wpAny_fork1 4 (by kernel_rfl) rfl ?_
      go_wp2_with first
        | ((with_reducible refine wpList_storeWN rfl _ _ _ rfl _ rfl rfl h3 size6 hbel (by omega) ?_); intro w1 g3 ho g4; replace h2 := (ho _ (by omega)).trans h2; clear h3; have h3 := g3; clear hbel; have hbel := g4; clear g3 ho g4)
      refine QN.intro ?_
      refine wpAny_end (by kernel_rfl) ?_
      go_wp2_with fail
      exact bodyPost_ret_by (results_cc rfl rfl rfl h2 h3 agg24r size24r agg6 size6) rfl ⟨_, _, rfl, hbel⟩
  · go_wp2_with first
      | (with_reducible refine wpList_loadW rfl _ _ rfl _ rfl h5 agg6 size6 ?_)
    refine QN.intro ?_
    refine wpAny_fork1 1 (by kernel_rfl) rfl ?_
    go_wp2_with first
      | (go_at_call 26; (with_reducible refine Calls.mono (rack_d (by omega) HD.out) ?_); rintro e w1 ⟨f, i2, rfl, hi2, hD1, hg1⟩; have hg0 := hD1.grown; replace hbel := grown_belowD hg0 hle hbel; replace h2 := row_grown h2 hg1 (by omega); replace h3 := row_grown h3 hg1 (by omega); (try replace h5 := row_grown h5 hg1 (by omega)); clear HD hD1 hg1 hg0)
    refine QN.intro ?_
    refine wpAny_fork1 3 (by kernel_rfl) rfl ?_
    go_wp2_with first
      | ((with_reducible refine wpList_storeWN rfl _ _ _ rfl _ rfl rfl h2 size24r hbel (by omega) ?_); intro w1 g3 ho g4; replace h3 := (ho _ (by omega)).trans h3; (try replace h5 := (ho _ (by omega)).trans h5); clear h2; have h2 := g3; clear hbel; have hbel := g4; clear g3 ho g4)
    refine QN.intro ?_
    refine wpAny_fork1 4 (by kernel_rfl) rfl ?_
    go_wp2_with first
      | ((with_reducible refine wpList_storeWN rfl _ _ _ rfl _ rfl rfl h3 size6 hbel (by omega) ?_); intro w1 g3 ho g4; replace h2 := (ho _ (by omega)).trans h2; clear h3; have h3 := g3; clear hbel; have hbel := g4; clear g3 ho g4)
    refine QN.intro ?_
    refine wpAny_end (by kernel_rfl) ?_
    go_wp2_with fail
    exact bodyPost_ret_by (results_cc rfl rfl rfl h2 h3 agg24r size24r agg6 size6) rfl ⟨_, _, rfl, hbel⟩
set_option maxHeartbeats 2000000 in
theorem drawNB {p : Option Addr} {n c : Nat} (w : World) (hB : By w w.heap.size p n c) :
    Calls Tryz.prog 12 #[.slice p n c] w fun e w' => ∃ f s : Nat → Int, e = .returned (.tuple #[.agg (arr 6 f), .agg (arr 6 s)]) ∧ Below w.heap.size w w' := by
  have hbel := Below.refl w.heap.size w
  have hBy := hB
  clear hB
  have tk_2 : True := trivial
  have tk_3 : True := trivial
  have tk_5 : True := trivial
  have tk_w5 : True := trivial
  go_enter Tryz.func12, Tryz.ntmps12
  go_wp2_with first
    | (have _t := tk_2; (with_reducible refine wpList_allocN rfl 28 rfl 6 zero6 ?_); intro B2 w1 hW2 h2 hb1; replace hbel := hbel.trans (hb1.mono hbel.size); clear hb1 _t tk_2)
    | (have _t := tk_3; (with_reducible refine wpList_allocN rfl 28 rfl 6 zero6 ?_); intro B3 w1 hW3 h3 hb1; have hl23 : B2 < B3 := (by have := row_lt h2; omega); replace hbel := hbel.trans (hb1.mono hbel.size); replace h2 := row_keep hb1 h2; clear hb1 _t tk_3)
  have hl3B := row_lt h3
  have hD := dd_new (T := 51) hBy hbel
  have hb1 : Below w1.heap.size w1 (w1.alloc (.cells #[.slice p n c, .int .i64 0, .int .u64 0] 51)) := (Below.refl _ _).alloc (Nat.le_refl _) _
  have hle := hbel.size
  replace hbel := hbel.trans (hb1.mono hbel.size)
  replace h2 := row_keep hb1 h2
  replace h3 := row_keep hb1 h3
  clear hb1
  obtain ⟨B, hB⟩ : ∃ B, B = w1.heap.size := ⟨_, rfl⟩
  rw [← hB] at hD hl3B hle ⊢
  clear hB
  generalize w1.alloc (.cells #[.slice p n c, .int .i64 0, .int .u64 0] 51) = wb at *
  have HD : Hid _ := hD
  clear hD
  refine Calls.mono (names_d (by omega) HD.out) ?_
  rintro e w1 ⟨s, i1, rfl, hi1, hD1, hg1⟩
  replace h2 := row_grown h2 hg1 (by omega)
  replace h3 := row_grown h3 hg1 (by omega)
  clear HD hg1
  have HD : Hid _ := hD1
  clear hD1
  go_wp2_with first
    | (have _t := tk_5; (with_reducible refine wpList_allocN rfl 28 rfl 6 zero6 ?_); intro B5 w1 hW5 h5 hb1; have hWb : wb.heap.size ≤ B5 := Nat.le_trans HD.out.size hW5; have hl3 : B3 < B5 := (by have := row_lt h3; omega); have hlB : B < B5 := (by have := HD.out.lt; omega); replace h2 := row_keep hb1 h2; replace h3 := row_keep hb1 h3; have HD' : Hid _ := HD.out.below hb1; clear HD; have HD := HD'; clear HD' hb1 _t tk_5)
    | (have _t := tk_w5; (with_reducible refine wpList_storeWN rfl _ _ _ rfl _ rfl rfl h5 size6 (Below.refl wb.heap.size _) hWb ?_); intro w1 g3 ho g4; replace h2 := (ho _ (by omega)).trans h2; replace h3 := (ho _ (by omega)).trans h3; clear h5; have h5 := g3; have HD' : Hid _ := HD.out.belowK g4 (Nat.le_refl _); clear HD; have HD := HD'; clear HD' g3 ho g4 _t tk_w5)
  refine wp_region_fork [1] [] [] 4 (fun l => (l.drop 1).take 1) (fun l => []) (fun _ => True) (by kernel_rfl) (by kernel_rfl) (by kernel_rfl) (by kernel_rfl) trivial trivial ?_
  try simp only [List.take_succ_cons, List.take_zero, List.drop_succ_cons, List.drop_zero, List.singleton_append, List.cons_append, List.nil_append]
  repeat (first
    | ((with_reducible refine wpCalm_step (fun K hK => ?_)); go_simp; (first | (refine ⟨_, fun _ _ => rfl, hK _ ?_⟩) | (refine hK _ ?_)); clear hK K))
  refine wpCalm_nil ?_
  refine wpCalm_nil ?_
  replace hbel : Below w.heap.size w wb := hbel
  have hb1 : Below w1.heap.size w1 { w1 with drawn := w1.drawn + 1 } := (Below.refl _ _).drew
  obtain ⟨w1, hwt⟩ : ∃ w2 : World, w2 = { w1 with drawn := w1.drawn + 1 } := ⟨_, rfl⟩
  rw [← hwt] at hb1 ⊢
  clear hwt
  replace h2 := row_keep hb1 h2
  replace h3 := row_keep hb1 h3
  replace h5 := row_keep hb1 h5
  have HD' : Hid _ := HD.out.below hb1
  clear HD hb1
  have HD := HD'
  clear HD'
  refine wpAny_fork2 0 2 (by kernel_rfl) rfl rfl ?_ ?_
  · go_wp2_with first
      | (with_reducible refine wpList_loadW rfl _ _ rfl _ rfl h5 agg6 size6 ?_)
    refine QN.intro ?_
    refine wpAny_fork1 2 (by kernel_rfl) rfl ?_
    go_wp2_with first
      | (go_at_call 25; (with_reducible refine Calls.mono (names_d (by omega) HD.out) ?_); rintro e w1 ⟨s2, i2, rfl, hi2, hD1, hg1⟩; have hg0 := hD1.grown; replace hbel := grown_belowD hg0 hle hbel; replace h2 := row_grown h2 hg1 (by omega); replace h3 := row_grown h3 hg1 (by omega); (try replace h5 := row_grown h5 hg1 (by omega)); clear HD hD1 hg1 hg0)
    refine QN.intro ?_
    refine wpAny_fork1 3 (by kernel_rfl) rfl ?_
    go_wp2_with first
      | ((with_reducible refine wpList_storeWN rfl _ _ _ rfl _ rfl rfl h2 size6 hbel (by omega) ?_); intro w1 g3 ho g4; replace h3 := (ho _ (by omega)).trans h3; (try replace h5 := (ho _ (by omega)).trans h5); clear h2; have h2 := g3; clear hbel; have hbel := g4; clear g3 ho g4)
    refine QN.intro ?_
    refine wpAny_fork1 4 (by kernel_rfl) rfl ?_
    go_wp2_with first
      | ((with_reducible refine wpList_storeWN rfl _ _ _ rfl _ rfl rfl h3 size6 hbel (by omega) ?_); intro w1 g3 ho g4; replace h2 := (ho _ (by omega)).trans h2; clear h3; have h3 := g3; clear hbel; have hbel := g4; clear g3 ho g4)
    refine QN.intro ?_
    refine wpAny_end (by kernel_rfl) ?_
    go_wp2_with fail
    exact bodyPost_ret_by (results_cc rfl rfl rfl h2 h3 agg6 size6 agg6 size6) rfl ⟨_, _, rfl, hbel⟩
  · go_wp2_with first
      | (go_at_call 25; (with_reducible refine Calls.mono (names_d (by omega) HD.out) ?_); rintro e w1 ⟨s2, i2, rfl, hi2, hD1, hg1⟩; have hg0 := hD1.grown; replace hbel := grown_belowD hg0 hle hbel; replace h2 := row_grown h2 hg1 (by omega); replace h3 := row_grown h3 hg1 (by omega); (try replace h5 := row_grown h5 hg1 (by omega)); clear HD hD1 hg1 hg0)
    refine QN.intro ?_
    refine wpAny_fork1 0 (by kernel_rfl) rfl ?_
    go_wp2_with first
      | (with_reducible refine wpList_loadW rfl _ _ rfl _ rfl h5 agg6 size6 ?_)
    refine QN.intro ?_
    refine wpAny_fork1 3 (by kernel_rfl) rfl ?_
    go_wp2_with first
      | ((with_reducible refine wpList_storeWN rfl _ _ _ rfl _ rfl rfl h2 size6 hbel (by omega) ?_); intro w1 g3 ho g4; replace h3 := (ho _ (by omega)).trans h3; (try replace h5 := (ho _ (by omega)).trans h5); clear h2; have h2 := g3; clear hbel; have hbel := g4; clear g3 ho g4)
    refine QN.intro ?_
    refine wpAny_fork1 4 (by kernel_rfl) rfl ?_
    go_wp2_with first
      | ((with_reducible refine wpList_storeWN rfl _ _ _ rfl _ rfl rfl h3 size6 hbel (by omega) ?_); intro w1 g3 ho g4; replace h2 := (ho _ (by omega)).trans h2; clear h3; have h3 := g3; clear hbel; have hbel := g4; clear g3 ho g4)
    refine QN.intro ?_
    refine wpAny_end (by kernel_rfl) ?_
    go_wp2_with fail
    exact bodyPost_ret_by (results_cc rfl rfl rfl h2 h3 agg6 size6 agg6 size6) rfl ⟨_, _, rfl, hbel⟩
set_option maxHeartbeats 2000000 in
theorem drawAA {p : Option Addr} {n c : Nat} (w : World) (hB : By w w.heap.size p n c) :
    Calls Tryz.prog 17 #[.slice p n c] w fun e w' => ∃ a b : Nat → Int, e = .returned (.tuple #[.agg (arr 24 a), .agg (arr 24 b)]) ∧ Below w.heap.size w w' := by
  have hbel := Below.refl w.heap.size w
  have hBy := hB
  clear hB
  have tk_2 : True := trivial
  have tk_3 : True := trivial
  have tk_5 : True := trivial
  have tk_w5 : True := trivial
  go_enter Tryz.func17, Tryz.ntmps17
  go_wp2_with first
    | (have _t := tk_2; (with_reducible refine wpList_allocN rfl 27 rfl 24 zero24r ?_); intro B2 w1 hW2 h2 hb1; replace hbel := hbel.trans (hb1.mono hbel.size); clear hb1 _t tk_2)
    | (have _t := tk_3; (with_reducible refine wpList_allocN rfl 27 rfl 24 zero24r ?_); intro B3 w1 hW3 h3 hb1; have hl23 : B2 < B3 := (by have := row_lt h2; omega); replace hbel := hbel.trans (hb1.mono hbel.size); replace h2 := row_keep hb1 h2; clear hb1 _t tk_3)
  have hl3B := row_lt h3
  have hD := dd_new (T := 51) hBy hbel
  have hb1 : Below w1.heap.size w1 (w1.alloc (.cells #[.slice p n c, .int .i64 0, .int .u64 0] 51)) := (Below.refl _ _).alloc (Nat.le_refl _) _
  have hle := hbel.size
  replace hbel := hbel.trans (hb1.mono hbel.size)
  replace h2 := row_keep hb1 h2
  replace h3 := row_keep hb1 h3
  clear hb1
  obtain ⟨B, hB⟩ : ∃ B, B = w1.heap.size := ⟨_, rfl⟩
  rw [← hB] at hD hl3B hle ⊢
  clear hB
  generalize w1.alloc (.cells #[.slice p n c, .int .i64 0, .int .u64 0] 51) = wb at *
  have HD : Hid _ := hD
  clear hD
  refine Calls.mono (alike_d (by omega) HD.out) ?_
  rintro e w1 ⟨f, g, i1, rfl, hi1, hD1, hg1⟩
  have hg0 := hD1.grown
  replace hbel := grown_belowD hg0 hle hbel; replace h2 := row_grown h2 hg1 (by omega); replace h3 := row_grown h3 hg1 (by omega); (try replace h5 := row_grown h5 hg1 (by omega)); clear HD hD1 hg1 hg0
  go_wp2_with first
    | ((with_reducible refine wpList_storeWN rfl _ _ _ rfl _ rfl rfl h2 size24r hbel (by omega) ?_); intro w1 g3 ho g4; replace h3 := (ho _ (by omega)).trans h3; (try replace h5 := (ho _ (by omega)).trans h5); clear h2; have h2 := g3; clear hbel; have hbel := g4; clear g3 ho g4)
    | ((with_reducible refine wpList_storeWN rfl _ _ _ rfl _ rfl rfl h3 size24r hbel (by omega) ?_); intro w1 g3 ho g4; replace h2 := (ho _ (by omega)).trans h2; clear h3; have h3 := g3; clear hbel; have hbel := g4; clear g3 ho g4)
  exact bodyPost_ret_by (results_cc rfl rfl rfl h2 h3 agg24r size24r agg24r size24r) rfl ⟨_, _, rfl, hbel⟩
end Go.Proofs.YtlbgmkengkgnfaaGreat
end
