/- RenamingTo and CountRenamings: the program's and the reference's, and the laws. -/
import Derived.Test.YtljajgaicdffkaaDelP
import Derived.Test.YtljajgaicdffkaaRackC
namespace Go.Proofs.Ytljajgaicdffkaa
set_option linter.unusedSimpArgs false
set_option linter.unusedVariables false
set_option maxRecDepth 20000
open Go.RowKit
theorem clo_any {a b : Nat → Int} (ha : rackB a = true) {n : Nat} (hn : n < 120) {B1 B5 : Nat} (w : World) (g1 : w.heap[B1]? = some (.cells (arr 24 a) 33 (0, 0))) (g5 : w.heap[B5]? = some (.cells (arr 24 (formF b)) 33 (0, 0))) :
    Calls Try.prog 73 #[.agg (arr 6 (nmS n)), .pointer (some ⟨B1, 0, none⟩), .pointer (some ⟨B5, 0, none⟩)] w fun e w' => e = .returned (.bool (!mt a b n)) ∧ Below w.heap.size w w' := by
  have h1 := row_alloc (x := .cells (arr 6 (nmS n)) 22) g1
  have h5 := row_alloc (x := .cells (arr 6 (nmS n)) 22) g5
  have h3 : (w.alloc (.cells (arr 6 (nmS n)) 22)).heap[w.heap.size]? = some (.cells (arr 6 (nmS n)) 22 (0, 0)) := heap_new rfl
  have hbel : Below w.heap.size w (w.alloc (.cells (arr 6 (nmS n)) 22)) := (Below.refl _ _).alloc (by simp) _
  have hc := cellB_of_rack ha
  have HR := ren_rack ha (nm_ren hn)
  obtain ⟨m, hm⟩ : ∃ m, mt a b n = m := ⟨_, rfl⟩
  have HE : Hid (eqv 24 (formF (renF a (nmS n))) (formF b) = m) := hm
  rw [hm]
  clear hm g1 g5
  go_enter Try.func73, Try.ntmps73
  go_wp2_with fail
  refine wp_region_held 7 (Cls w _) (by kernel_rfl) (by kernel_rfl) (Cls.three h1 h5 h3 hbel) ?_; simp only [List.take_succ_cons, List.take_zero, List.drop_succ_cons, List.drop_zero]
  repeat (first
    | (with_reducible refine wpQuiet_loadW rfl _ _ rfl _ rfl (fun _ h => h.r1) agg24r size24r ?_)
    | (with_reducible refine wpQuiet_loadW rfl _ _ rfl _ rfl (fun _ h => h.r2) agg24r size24r ?_)
    | (with_reducible refine wpQuiet_loadW rfl _ _ rfl _ rfl (fun _ h => h.r3) agg6 size6 ?_)
    | ((with_reducible refine wpQuiet_callE rfl 51 _ _ rfl (.agg (arr 24 (renF a (nmS n)))) (#[.agg (arr 24 a), .agg (arr 6 (nmS n))]) rfl ?_ ?_ ?_); (exact enters_of Try.func51 (by kernel_rfl) rfl); (intro w' h'; with_reducible exact (renamed_at hc n w').mono fun _ _ ⟨he, hb⟩ => ⟨he, h'.keep hb⟩))
    | ((with_reducible refine wpQuiet_callE rfl 53 _ _ rfl (.agg (arr 24 (formF (renF a (nmS n))))) (#[.agg (arr 24 (renF a (nmS n)))]) rfl ?_ ?_ ?_); (exact enters_of Try.func53 (by kernel_rfl) rfl); (intro w' h'; with_reducible exact (formOf_any _ HR w').mono fun _ _ ⟨he, hb⟩ => ⟨he, h'.keep hb⟩))
    | ((with_reducible refine wpQuiet_neqA eqRk (by decide) gdRk rfl _ _ _ rfl rfl rfl ?_); rw [HE.out])
    | ((with_reducible refine wpQuiet_step (fun K hK => ?_)); go_simp; (first | (refine ⟨_, fun _ _ => rfl, hK _ ?_⟩) | (refine ⟨_, fun _ _ => ⟨rfl, rfl⟩, hK _ ?_⟩) | (refine hK _ ?_)); clear hK K))
  refine wpQuiet_nil ?_
  intro wt hCt
  replace hbel := hCt.2
  clear hCt
  go_wp2_with fail
  go_ret
  exact ⟨rfl, hbel⟩
theorem idxF_any {a b : Nat → Int} (ha : rackB a = true) {B1 B5 g cap : Nat} {F : Nat → Int} (hF : ∀ j, j < 120 * 6 → F j = fls 6 (nmL.map fnL) j) (hcap : 120 ≤ cap) (w : World) (h1 : w.heap[B1]? = some (.cells (arr 24 a) 33 (0, 0))) (h5 : w.heap[B5]? = some (.cells (arr 24 (formF b)) 33 (0, 0))) (hg : w.heap[g]? = some (.cells (arr (cap * 6) F) 22 (0, 0))) :
    Calls Try.prog 88 #[.slice (some ⟨g, 0, none⟩) 120 cap, .func (.func 73) #[] #[.pointer (some ⟨B1, 0, none⟩), .pointer (some ⟨B5, 0, none⟩)]] w fun e w' => e = .returned (.int .i64 (idx (fun n => !mt a b n) 120)) ∧ Below w.heap.size w w' := by
  have hbel := Below.refl w.heap.size w
  go_enter Try.func88, Try.ntmps88
  go_wp2_with fail
  go_loopw [8] (fun i wr => ∃ k : Nat, k ≤ 120 ∧ i = .int .i64 k ∧ Hid (∀ j, j < k → (!mt a b j) = false) ∧ Below w.heap.size w wr) (fun i _ => 120 - (intOf i).toNat)
  case atStart => exact ⟨0, by omega, rfl, fun j hj => by omega, hbel⟩
  case round =>
    clear hbel
    obtain ⟨k, hk, rfl, HOK, hbel⟩ := hrel
    by_cases hlt : k < 120
    · have hlt' : (k : Int) < 120 := by omega
      have g1 := row_keep hbel h1
      have g5 := row_keep hbel h5
      have gg := row_keep hbel hg
      have HM : Hid _ := nm_arr hF hlt
      have HQ := clo_any (b := b) ha hlt wr g1 g5
      cases hm : mt a b k with
      | false =>
        rw [hm] at HQ
        have HV : Hid _ := hm
        clear hm g1 g5
        go_wp2_with first
          | ((with_reducible refine wpList_loadA rfl _ _ rfl _ _ rfl gg 6 agg6 size6 (by omega) ?_); rw [HM.out])
          | ((with_reducible refine HQ.mono ?_); rintro e w1 ⟨rfl, hb1⟩)
        go_ret
        exact ⟨ret_int (idx_found hlt (by rw [HV.out]; rfl) HOK.out).symm, hbel.trans (hb1.mono hbel.size)⟩
      | true =>
        rw [hm] at HQ
        have HV : Hid _ := hm
        clear hm g1 g5
        go_wp2_with first
          | ((with_reducible refine wpList_loadA rfl _ _ rfl _ _ rfl gg 6 agg6 size6 (by omega) ?_); rw [HM.out])
          | ((with_reducible refine HQ.mono ?_); rintro e w1 ⟨rfl, hb1⟩)
        go_roundw
        case rel => exact ⟨k + 1, by omega, by go_num, fun j hj => by
          by_cases e : j = k
          · subst e; rw [HV.out]; rfl
          · exact HOK.out j (by omega), hbel.trans (hb1.mono hbel.size)⟩
        case measure => simp [intOf]; omega
    · obtain rfl : k = 120 := by omega
      go_wp2_with fail
      go_ret
      exact ⟨ret_int (idx_none fun j hj => HOK.out j (by omega)).symm, hbel⟩
set_option maxHeartbeats 1000000 in
theorem delF_any {a b : Nat → Int} (ha : rackB a = true) {b0 B1 B5 g cap : Nat} {F : Nat → Int} (hF : ∀ j, j < 120 * 6 → F j = fls 6 (nmL.map fnL) j) (hcap : 120 ≤ cap) (hmax : cap ≤ maxLen) (w : World) (hb0 : b0 ≤ w.heap.size) (hB1 : B1 < b0) (hB5 : B5 < b0) (hgb : b0 ≤ g) (h1 : w.heap[B1]? = some (.cells (arr 24 a) 33 (0, 0))) (h5 : w.heap[B5]? = some (.cells (arr 24 (formF b)) 33 (0, 0))) (hg : w.heap[g]? = some (.cells (arr (cap * 6) F) 22 (0, 0))) :
    Calls Try.prog 71 #[.slice (some ⟨g, 0, none⟩) 120 cap, .func (.func 73) #[] #[.pointer (some ⟨B1, 0, none⟩), .pointer (some ⟨B5, 0, none⟩)]] w fun e w' => ∃ v, e = .returned v ∧ Sl w' b0 22 6 v (kp a b 120).length (kpF a b 120) ∧ Below b0 w w' := by
  have hI := idxF_any (b := b) ha hF hcap w h1 h5 hg
  have hgl := row_lt hg
  have hbw := hb0
  rcases idx_cases (fun n => !mt a b n) 120 with ⟨hi, hno⟩ | ⟨k0, hk0, hi, hyes, hno⟩
  · rw [hi] at hI
    have hall : ∀ k, k < 120 → mt a b k = true := fun k hk => by simpa using hno k hk
    have HA : Hid _ := hall
    clear hno hall hi
    go_enter Try.func71, Try.ntmps71
    go_wp2_with first
      | (go_at_call 88; (with_reducible refine hI.mono ?_); rintro e w1 ⟨rfl, hb1⟩)
    go_ret
    refine ⟨_, rfl, .inr ⟨g, cap, F, ?_, hgb, row_keep hb1 hg, ?_, hmax, fun j hj => ?_⟩, hb1.mono hb0⟩
    · rw [kp_all HA.out, List.length_range]; rfl
    · rw [kp_all HA.out, List.length_range]; exact hcap
    · rw [kp_all HA.out, List.length_range] at hj
      unfold kpF
      rw [kp_all HA.out, kpF_range hj, hF j hj, nm_row hj]
  · rw [hi] at hI
    have hm0 : mt a b k0 = false := by simpa using hyes
    have hall : ∀ k, k < k0 → mt a b k = true := fun k hk => by simpa using hno k hk
    have HA : Hid _ := hall
    have HM0 : Hid _ := hm0
    have hkl : (kp a b (k0 + 1)).length = k0 := by rw [kp_no hm0, kp_all hall, List.length_range]
    have HK0 : Hid (∀ q, q < k0 * 6 → F q = kpF a b (k0 + 1) q) := fun q hq => by
      unfold kpF
      rw [kp_no hm0, kp_all hall, kpF_range hq, hF q (by omega), nm_row (by omega)]
    have hne : ((k0 : Int) == -1) = false := by simp <;> omega
    have hk6 : (k0 : Int) + 1 ≤ 120 := by omega
    clear hno hall hi hyes hm0
    go_enter Try.func71, Try.ntmps71
    go_wp2_with first
      | (go_at_call 88; (with_reducible refine hI.mono ?_); rintro e w1 ⟨rfl, hb1⟩; replace h1 := row_keep hb1 h1; replace h5 := row_keep hb1 h5; replace hg := row_keep hb1 hg; have hbel := hb1.mono hb0; replace hgl := row_lt hg; replace hb0 := Nat.le_trans hb0 hb1.size; clear hb1)
    go_loopw [5, 6] (fun i j wr => ∃ n : Nat, ∃ F2 : Nat → Int, k0 < n ∧ n ≤ 120 ∧ i = .int .i64 ((kp a b n).length : Nat) ∧ j = .int .i64 n ∧ Hid (∀ q, q < (kp a b n).length * 6 → F2 q = kpF a b n q) ∧ Hid (∀ q, n * 6 ≤ q → F2 q = F q) ∧ wr.heap[B1]? = some (.cells (arr 24 a) 33 (0, 0)) ∧ wr.heap[B5]? = some (.cells (arr 24 (formF b)) 33 (0, 0)) ∧ wr.heap[g]? = some (.cells (arr (cap * 6) F2) 22 (0, 0)) ∧ b0 ≤ wr.heap.size ∧ Below b0 w wr) (fun _ j _ => 120 - (intOf j).toNat)
    case atStart => exact ⟨k0 + 1, F, by omega, by omega, by rw [hkl], by go_num, by rw [hkl]; exact HK0, fun _ _ => rfl, h1, h5, hg, hb0, hbel⟩
    case round =>
      clear h1 h5 hg hbel hb0
      obtain ⟨n, F2, hkn, hn, rfl, rfl, HQ1, HQ2, h1, h5, hg, hb0, hbel⟩ := hrel
      have hlen := kp_lt HM0.out n hkn
      have HL : Hid ((kp a b n).length = (kp a b n).length) := rfl
      by_cases hlt : n < 120
      · have hlt' : (n : Int) < 120 := by omega
        have HM : Hid (arr 6 (fun j => F2 (n * 6 + j)) = arr 6 (nmS n)) := by
          show _ = _
          rw [← nm_arr hF hlt]
          exact arr_congr fun j hj => HQ2.out _ (by omega)
        have HC : Hid _ := fun W => clo_any (b := b) (B1 := B1) (B5 := B5) ha hlt W
        have tok_h7 : True := trivial
        have hlg := row_lt hg
        have hl1 := row_lt h1
        have hl5 := row_lt h5
        cases hm : mt a b n with
        | false =>
          have HN : Hid _ := kp_no hm
          have HV : Hid _ := hm
          clear hm
          generalize hil : (kp a b n).length = i at *
          have hi120 : (i : Int) < 120 := by omega
          go_wp2_with first
            | ((with_reducible refine wpList_loadA rfl _ _ rfl _ _ rfl hg 6 agg6 size6 (by omega) ?_); rw [HM.out])
            | (have _t := tok_h7; with_reducible refine wpList_allocN rfl 22 rfl 6 zero6 ?_; intro B7 w1 hB7 h7 hb1; replace h1 := row_keep hb1 h1; replace h5 := row_keep hb1 h5; replace hg := row_keep hb1 hg; replace hbel := hbel.trans (hb1.mono (Nat.le_trans hbw hbel.size)); clear hb1 _t tok_h7)
            | (with_reducible refine wpList_storeWN rfl _ _ _ rfl _ rfl rfl h7 size6 hbel (by omega) ?_; intro w1 g3 ho g4; replace h1 := (ho _ (by omega)).trans h1; replace h5 := (ho _ (by omega)).trans h5; replace hg := (ho _ (by omega)).trans hg; clear h7 hbel; have h7 := g3; have hbel := g4; clear g3 g4 ho)
            | (with_reducible refine wpList_loadW rfl _ _ rfl _ rfl h7 agg6 size6 ?_)
            | ((with_reducible refine (HC.out _ h1 h5).mono ?_); rw [HV.out]; rintro e w1 ⟨rfl, hb1⟩; replace h1 := row_keep hb1 h1; replace h5 := row_keep hb1 h5; replace hg := row_keep hb1 hg; replace h7 := row_keep hb1 h7; replace hbel := hbel.trans (hb1.mono (Nat.le_trans hbw hbel.size)); clear hb1)
            | (with_reducible refine wpList_storePN rfl _ _ _ rfl _ _ rfl rfl hg size6 (by omega) hbel hgb ?_; intro w1 g3 ho g4; replace h1 := (ho _ (by omega)).trans h1; replace h5 := (ho _ (by omega)).trans h5; clear hg hbel; have hg := g3; have hbel := g4; clear g3 g4 ho)
          go_roundw
          case rel => exact ⟨n + 1, F2, by omega, by omega, by rw [HN.out, hil], by go_num, by rw [HN.out, hil]; unfold kpF; rw [HN.out]; exact HQ1, fun q hq => HQ2.out q (by omega), h1, h5, hg, by have := hbel.size; omega, hbel⟩
          case measure => simp [intOf]; omega
        | true =>
          have HN : Hid _ := kp_yes hm
          have HV : Hid _ := hm
          have HS : Hid _ := kpF_step hm HQ1.out
          clear hm
          generalize hil : (kp a b n).length = i at *
          have hi120 : (i : Int) < 120 := by omega
          go_wp2_with first
            | ((with_reducible refine wpList_loadA rfl _ _ rfl _ _ rfl hg 6 agg6 size6 (by omega) ?_); rw [HM.out])
            | (have _t := tok_h7; with_reducible refine wpList_allocN rfl 22 rfl 6 zero6 ?_; intro B7 w1 hB7 h7 hb1; replace h1 := row_keep hb1 h1; replace h5 := row_keep hb1 h5; replace hg := row_keep hb1 hg; replace hbel := hbel.trans (hb1.mono (Nat.le_trans hbw hbel.size)); clear hb1 _t tok_h7)
            | (with_reducible refine wpList_storeWN rfl _ _ _ rfl _ rfl rfl h7 size6 hbel (by omega) ?_; intro w1 g3 ho g4; replace h1 := (ho _ (by omega)).trans h1; replace h5 := (ho _ (by omega)).trans h5; replace hg := (ho _ (by omega)).trans hg; clear h7 hbel; have h7 := g3; have hbel := g4; clear g3 g4 ho)
            | (with_reducible refine wpList_loadW rfl _ _ rfl _ rfl h7 agg6 size6 ?_)
            | ((with_reducible refine (HC.out _ h1 h5).mono ?_); rw [HV.out]; rintro e w1 ⟨rfl, hb1⟩; replace h1 := row_keep hb1 h1; replace h5 := row_keep hb1 h5; replace hg := row_keep hb1 hg; replace h7 := row_keep hb1 h7; replace hbel := hbel.trans (hb1.mono (Nat.le_trans hbw hbel.size)); clear hb1)
            | (with_reducible refine wpList_storePN rfl _ _ _ rfl _ _ rfl rfl hg size6 (by omega) hbel hgb ?_; intro w1 g3 ho g4; replace h1 := (ho _ (by omega)).trans h1; replace h5 := (ho _ (by omega)).trans h5; clear hg hbel; have hg := g3; have hbel := g4; clear g3 g4 ho)
          go_roundw
          case rel => exact ⟨n + 1, _, by omega, by omega, by rw [HN.out, List.length_append, hil]; go_num, by go_num, by rw [HN.out, List.length_append, hil]; exact HS.out, fun q hq => by
            show updN F2 (i * 6) 6 (nmS n) q = F q
            unfold updN
            rw [if_neg (by omega)]
            exact HQ2.out q (by omega), h1, h5, hg, by have := hbel.size; omega, hbel⟩
          case measure => simp [intOf]; omega
      · obtain rfl : n = 120 := by omega
        have hl1 := row_lt h1
        generalize hil : (kp a b 120).length = i at *
        have hs1 := fun W => run_from slN (g := g) (n := 120) (c := cap) (i := i) (by omega) (by omega) W
        have hs2 := fun W => run_upto slN (g := g) (n := 120) (c := cap) (i := i) (by omega) (by omega) W
        go_wp2_with first
          | (with_reducible refine wpList_clearS slN (by omega) rfl _ rfl rfl (by omega) hg (by omega) hbel hgb ?_; intro F3 w3 hF3 g3 ho g4)
        go_ret
        refine ⟨_, rfl, .inr ⟨g, cap, F3, rfl, hgb, g3, by omega, hmax, fun q hq => ?_⟩, g4⟩
        rw [hF3 q hq]
        exact HQ1.out q hq
end Go.Proofs.Ytljajgaicdffkaa
