/- The first renaming that leads from one rack to another one: the reference's; and AreAlike. -/
import Derived.Test.YtljajgaicdffkaaFst
import Derived.Test.YtljajgaicdffkaaOTo
namespace Go.Proofs.Ytljajgaicdffkaa
set_option linter.unusedSimpArgs false
set_option linter.unusedVariables false
set_option maxRecDepth 20000
open Go.RowKit
noncomputable def mt (a b : Nat → Int) (n : Nat) : Bool := eqv 24 (formF (renF a (nmS n))) (formF b)
noncomputable def fd1 (a b : Nat → Int) : Option Nat := (List.range 120).find? (mt a b)
noncomputable def rgR (a b : Nat → Int) : (Nat → Int) × Bool := match fd1 a b with | some n => (nmS n, true) | none => (fun _ => 0, false)
theorem fd1_some {a b : Nat → Int} {n : Nat} (hn : n < 120) (h : mt a b n = true) (hb : ∀ k, k < n → mt a b k = false) : fd1 a b = some n := by
  unfold fd1
  rw [List.find?_range_eq_some]
  exact ⟨h, by simpa using hn, fun j hj => by simp [hb j hj]⟩
theorem fd1_none {a b : Nat → Int} (hb : ∀ k, k < 120 → mt a b k = false) : fd1 a b = none := by
  unfold fd1
  rw [List.find?_eq_none]
  intro x hx
  simp [hb x (List.mem_range.1 hx)]
theorem fd1_isSome {a b : Nat → Int} : (fd1 a b).isSome = true ↔ ∃ n, n < 120 ∧ mt a b n = true := by
  unfold fd1
  rw [List.find?_isSome]
  exact ⟨fun ⟨n, hn, h⟩ => ⟨n, List.mem_range.1 hn, h⟩, fun ⟨n, hn, h⟩ => ⟨n, List.mem_range.2 hn, h⟩⟩
theorem alk_fd {a b : Nat → Int} (ha : cellB a) (hb : cellB b) : eqv 24 (ffF a) (ffF b) = (rgR a b).2 := by
  have e : (rgR a b).2 = (fd1 a b).isSome := by unfold rgR; cases fd1 a b <;> rfl
  rw [e, Bool.eq_iff_iff, eqv_arr, fd1_isSome]
  unfold ffF
  rw [alk_iff ha hb nmS_all]
  constructor
  · rintro ⟨s, hs, h⟩
    obtain ⟨n, hn, hs2⟩ := nmS_all.2 s hs
    refine ⟨n, hn, ?_⟩
    unfold mt
    rw [eqv_arr, ← h]
    exact form_perm (ren_cell ha (nm_ren hn)) (ren_cell ha hs) (by rw [cdl_congr (renF_congr ha (fun _ _ => rfl) hs2)])
  · rintro ⟨n, hn, h⟩
    exact ⟨nmS n, nm_ren hn, eqv_arr.1 h⟩
set_option maxHeartbeats 1000000 in
theorem l4Renaming_any (a b : Nat → Int) (ha : rackB a = true) (hb : rackB b = true) (w : World) : Calls Try.prog 56 #[.agg (arr 24 a), .agg (arr 24 b)] w fun e w' => e = .returned (.tuple #[.agg (arr 6 (rgR a b).1), .bool (rgR a b).2]) ∧ Below w.heap.size w w' := by
  have h1 : (((w.alloc (.cells (arr 24 a) 33)).alloc (.cells (arr 24 b) 33)).alloc (.cells (arr 6 fun _ => 0) 22)).heap[w.heap.size]? = some (.cells (arr 24 a) 33 (0, 0)) := by rw [heap_old (by simp <;> omega), heap_old (by simp), heap_new rfl]
  have h2 : (((w.alloc (.cells (arr 24 a) 33)).alloc (.cells (arr 24 b) 33)).alloc (.cells (arr 6 fun _ => 0) 22)).heap[w.heap.size + 1]? = some (.cells (arr 24 b) 33 (0, 0)) := by rw [heap_old (by simp), heap_new (by simp)]
  have h4 : (((w.alloc (.cells (arr 24 a) 33)).alloc (.cells (arr 24 b) 33)).alloc (.cells (arr 6 fun _ => 0) 22)).heap[w.heap.size + 1 + 1]? = some (.cells (arr 6 fun _ => 0) 22 (0, 0)) := heap_new (by simp)
  have hbel : Below w.heap.size w (((w.alloc (.cells (arr 24 a) 33)).alloc (.cells (arr 24 b) 33)).alloc (.cells (arr 6 fun _ => 0) 22)) := (((Below.refl _ _).alloc (by simp) _).alloc (by simp) _).alloc (by simp <;> omega) _
  have hc := cellB_of_rack ha
  have tok_r : True := trivial
  have tok_h6 : True := trivial
  go_enter Try.func56, Try.ntmps56
  go_wp2_with first
    | (have _t := tok_r; (with_reducible refine wpList_allocA rfl 22 rfl 6 zero6 ?_; (try simp only [size_al])); clear _t tok_r)
    | (with_reducible refine wpList_loadW rfl _ _ rfl _ rfl h2 agg24r size24r ?_)
    | (go_at_call 52; (with_reducible refine (l3Form_any b hb _).mono ?_); rintro e w1 ⟨rfl, hb1⟩; replace hbel := hbel.trans (hb1.mono hbel.size); replace h1 := row_keep hb1 h1; replace h2 := row_keep hb1 h2; replace h4 := row_keep hb1 h4; clear hb1)
    | (go_at_call 54; (with_reducible refine (l4AllNames_any _).mono ?_); rintro e w1 ⟨v, rfl, hS, hb1⟩; replace h1 := row_keep hb1 h1; replace h2 := row_keep hb1 h2; replace h4 := row_keep hb1 h4; replace hbel := hbel.trans (hb1.mono hbel.size); clear hb1; (obtain ⟨g, cap, F, rfl, a1, hg, a3, a4, a5⟩ := hS.blk (by omega)))
    | (have _t := tok_h6; with_reducible refine wpList_allocN rfl 33 rfl 24 zero24r ?_; intro Bh6 w1 hBh6 h6 hb1; have hWh6 := Nat.le_trans hbel.size hBh6; have hLh1h6 := Nat.lt_of_lt_of_le (row_lt h1) hBh6; have hLh2h6 := Nat.lt_of_lt_of_le (row_lt h2) hBh6; have hLh4h6 := Nat.lt_of_lt_of_le (row_lt h4) hBh6; have hLhgh6 := Nat.lt_of_lt_of_le (row_lt hg) hBh6; replace hbel := hbel.trans (hb1.mono hbel.size); replace h1 := row_keep hb1 h1; replace h2 := row_keep hb1 h2; replace h4 := row_keep hb1 h4; replace hg := row_keep hb1 hg; clear hb1 _t tok_h6)
    | (with_reducible refine wpList_storeWN rfl _ _ _ rfl _ rfl rfl h6 size24r hbel hWh6 ?_; intro w1 g3 ho g4; replace h1 := (ho _ (by omega)).trans h1; replace h2 := (ho _ (by omega)).trans h2; replace h4 := (ho _ (by omega)).trans h4; replace hg := (ho _ (by omega)).trans hg; clear h6 hbel; have h6 := g3; have hbel := g4; clear g3 g4 ho)
  go_loopw [8] (fun i wr => ∃ n : Nat, n ≤ 120 ∧ i = .int .i64 n ∧ Hid (∀ k, k < n → mt a b k = false) ∧ wr.heap[w.heap.size]? = some (.cells (arr 24 a) 33 (0, 0)) ∧ wr.heap[w.heap.size + 1 + 1]? = some (.cells (arr 6 fun _ => 0) 22 (0, 0)) ∧ wr.heap[Bh6]? = some (.cells (arr 24 (formF b)) 33 (0, 0)) ∧ wr.heap[g]? = some (.cells (arr (cap * 6) F) 22 (0, 0)) ∧ Below w.heap.size w wr) (fun i _ => 120 - (intOf i).toNat)
  case atStart => exact ⟨0, by omega, rfl, fun k hk => by omega, h1, h4, h6, hg, hbel⟩
  case round =>
    clear h1 h2 h4 h6 hg hbel
    obtain ⟨n, hn, rfl, HN, h1, h4, h6, hg, hbel⟩ := hrel
    by_cases hlt : n < 120
    · have hlt' : (n : Int) < 120 := by omega
      have HM : Hid _ := nm_arr a5 hlt
      have HR := ren_rack ha (nm_ren hlt)
      cases hm : mt a b n with
      | false =>
        have HE : Hid (eqv 24 (formF (renF a (nmS n))) (formF b) = false) := hm
        have HN2 : Hid (∀ k, k < n + 1 → mt a b k = false) := fun k hk => by
          by_cases e : k = n
          · subst e; exact hm
          · exact HN.out k (by omega)
        clear hm
        go_wp2_with fail
        refine wp_region_held 9 (Cls wr []) (by kernel_rfl) (by kernel_rfl) (Cls.zero (Below.refl _ _)) ?_; simp only [List.take_succ_cons, List.take_zero, List.drop_succ_cons, List.drop_zero]
        repeat (first
          | (with_reducible refine wpQuiet_loadW rfl _ _ rfl _ rfl (fun _ h => h.kp h1) agg24r size24r ?_)
          | (with_reducible refine wpQuiet_loadW rfl _ _ rfl _ rfl (fun _ h => h.kp h6) agg24r size24r ?_)
          | ((with_reducible refine wpQuiet_loadA rfl _ _ rfl _ _ rfl (fun _ h => h.kp hg) 6 agg6 size6 (by omega) ?_); rw [HM.out])
          | ((with_reducible refine wpQuiet_callE rfl 50 _ _ rfl (.agg (arr 24 (renF a (nmS n)))) (#[.agg (arr 24 a), .agg (arr 6 (nmS n))]) rfl ?_ ?_ ?_); (exact enters_of Try.func50 (by kernel_rfl) rfl); (intro w' h'; with_reducible exact (l4Rename_at hc n w').mono fun _ _ ⟨he, hb⟩ => ⟨he, h'.keep hb⟩))
          | ((with_reducible refine wpQuiet_callE rfl 52 _ _ rfl (.agg (arr 24 (formF (renF a (nmS n))))) (#[.agg (arr 24 (renF a (nmS n)))]) rfl ?_ ?_ ?_); (exact enters_of Try.func52 (by kernel_rfl) rfl); (intro w' h'; with_reducible exact (l3Form_any _ HR w').mono fun _ _ ⟨he, hb⟩ => ⟨he, h'.keep hb⟩))
          | ((with_reducible refine wpQuiet_eqlA eqRk (by decide) gdRk rfl _ _ _ rfl rfl rfl ?_); rw [HE.out])
          | ((with_reducible refine wpQuiet_step (fun K hK => ?_)); go_simp; (first | (refine ⟨_, fun _ _ => rfl, hK _ ?_⟩) | (refine ⟨_, fun _ _ => ⟨rfl, rfl⟩, hK _ ?_⟩) | (refine hK _ ?_)); clear hK K))
        refine wpQuiet_nil ?_; intro wt hCt; replace hCt := hCt.2; replace hbel := hbel.trans (hCt.mono hbel.size); replace h1 := row_keep hCt h1; replace h4 := row_keep hCt h4; replace h6 := row_keep hCt h6; replace hg := row_keep hCt hg; clear hCt
        go_wp2_with fail
        go_roundw
        case rel => exact ⟨n + 1, by omega, by go_num, HN2, h1, h4, h6, hg, hbel⟩
        case measure => simp [intOf]; omega
      | true =>
        have HE : Hid (eqv 24 (formF (renF a (nmS n))) (formF b) = true) := hm
        have HG : Hid (rgR a b = (nmS n, true)) := by show _ = _; unfold rgR; rw [fd1_some hlt hm HN.out]
        clear hm
        go_wp2_with fail
        refine wp_region_held 9 (Cls wr []) (by kernel_rfl) (by kernel_rfl) (Cls.zero (Below.refl _ _)) ?_; simp only [List.take_succ_cons, List.take_zero, List.drop_succ_cons, List.drop_zero]
        repeat (first
          | (with_reducible refine wpQuiet_loadW rfl _ _ rfl _ rfl (fun _ h => h.kp h1) agg24r size24r ?_)
          | (with_reducible refine wpQuiet_loadW rfl _ _ rfl _ rfl (fun _ h => h.kp h6) agg24r size24r ?_)
          | ((with_reducible refine wpQuiet_loadA rfl _ _ rfl _ _ rfl (fun _ h => h.kp hg) 6 agg6 size6 (by omega) ?_); rw [HM.out])
          | ((with_reducible refine wpQuiet_callE rfl 50 _ _ rfl (.agg (arr 24 (renF a (nmS n)))) (#[.agg (arr 24 a), .agg (arr 6 (nmS n))]) rfl ?_ ?_ ?_); (exact enters_of Try.func50 (by kernel_rfl) rfl); (intro w' h'; with_reducible exact (l4Rename_at hc n w').mono fun _ _ ⟨he, hb⟩ => ⟨he, h'.keep hb⟩))
          | ((with_reducible refine wpQuiet_callE rfl 52 _ _ rfl (.agg (arr 24 (formF (renF a (nmS n))))) (#[.agg (arr 24 (renF a (nmS n)))]) rfl ?_ ?_ ?_); (exact enters_of Try.func52 (by kernel_rfl) rfl); (intro w' h'; with_reducible exact (l3Form_any _ HR w').mono fun _ _ ⟨he, hb⟩ => ⟨he, h'.keep hb⟩))
          | ((with_reducible refine wpQuiet_eqlA eqRk (by decide) gdRk rfl _ _ _ rfl rfl rfl ?_); rw [HE.out])
          | ((with_reducible refine wpQuiet_step (fun K hK => ?_)); go_simp; (first | (refine ⟨_, fun _ _ => rfl, hK _ ?_⟩) | (refine ⟨_, fun _ _ => ⟨rfl, rfl⟩, hK _ ?_⟩) | (refine hK _ ?_)); clear hK K))
        refine wpQuiet_nil ?_; intro wt hCt; replace hCt := hCt.2; replace hbel := hbel.trans (hCt.mono hbel.size); replace h1 := row_keep hCt h1; replace h4 := row_keep hCt h4; replace h6 := row_keep hCt h6; replace hg := row_keep hCt hg; clear hCt
        go_wp2_with first
          | ((with_reducible refine wpList_loadA rfl _ _ rfl _ _ rfl hg 6 agg6 size6 (by omega) ?_); rw [HM.out])
          | (with_reducible refine wpList_storeW rfl _ _ _ rfl _ rfl rfl h4 size6 ?_)
        exact bodyPost_ret_by (results_ct _ _ _ _ _ _ _ rfl rfl (setRow_heap _ _ _ _ _ _ h4) agg6 size6) rfl ⟨by (rw [HG.out]; rfl), below_setRow2 hbel (by omega) _⟩
    · obtain rfl : n = 120 := by omega
      have HG : Hid (rgR a b = (fun _ => 0, false)) := by show _ = _; unfold rgR; rw [fd1_none HN.out]
      go_wp2_with first
        | (with_reducible refine wpList_build0 rfl 22 rfl 6 zbuild6 ?_)
        | (with_reducible refine wpList_storeW rfl _ _ _ rfl _ rfl rfl h4 size6 ?_)
      exact bodyPost_ret_by (results_ct _ _ _ _ _ _ _ rfl rfl (setRow_heap _ _ _ _ _ _ h4) agg6 size6) rfl ⟨by (rw [HG.out]; rfl), below_setRow2 hbel (by omega) _⟩
noncomputable def aaR (a b : Nat → Int) : Bool × Bool := if rackB a = true ∧ rackB b = true then ((rgR a b).2, true) else (false, false)
theorem specAa_any (a b : Nat → Int) (w : World) : Calls Try.prog 34 #[.agg (arr 24 a), .agg (arr 24 b)] w fun e w' => e = .returned (.tuple #[.bool (aaR a b).1, .bool (aaR a b).2]) ∧ Below w.heap.size w w' := by
  have h1 : ((w.alloc (.cells (arr 24 a) 33)).alloc (.cells (arr 24 b) 33)).heap[w.heap.size]? = some (.cells (arr 24 a) 33 (0, 0)) := by rw [heap_old (by simp), heap_new rfl]
  have h2 : ((w.alloc (.cells (arr 24 a) 33)).alloc (.cells (arr 24 b) 33)).heap[w.heap.size + 1]? = some (.cells (arr 24 b) 33 (0, 0)) := heap_new (by simp)
  have hbel : Below w.heap.size w ((w.alloc (.cells (arr 24 a) 33)).alloc (.cells (arr 24 b) 33)) := ((Below.refl _ _).alloc (by simp) _).alloc (by simp) _
  have tok_h6 : True := trivial
  cases ha : rackB a with
  | false =>
    rw [show aaR a b = (false, false) from if_neg (by simp [ha])]
    have HA : Hid _ := ha
    have HB : Hid (1 = 1) := rfl
    have HX : Hid (1 = 1) := rfl
    clear ha
    go_enter Try.func34, Try.ntmps34
    go_wp2_with first
      | (with_reducible refine wpList_loadW rfl _ _ rfl _ rfl h1 agg24r size24r ?_)
      | (with_reducible refine wpList_loadWG rfl _ _ rfl _ rfl h2 agg24r size24r ?_)
      | (go_at_call 44; (with_reducible refine (l2Rack_at HA.out _).mono ?_); rintro e w1 ⟨rfl, hb1⟩; replace hbel := hbel.trans (hb1.mono hbel.size); replace h1 := row_keep hb1 h1; replace h2 := row_keep hb1 h2; clear hb1)
      | (go_at_call 44; (with_reducible refine (l2Rack_at HB.out _).mono ?_); rintro e w1 ⟨rfl, hb1⟩; replace hbel := hbel.trans (hb1.mono hbel.size); replace h1 := row_keep hb1 h1; replace h2 := row_keep hb1 h2; clear hb1)
      | (with_reducible refine wpList_loadW rfl _ _ rfl _ rfl h2 agg24r size24r ?_)
      | (go_at_call 56; (with_reducible refine (l4Renaming_any a b HA.out HB.out _).mono ?_); rintro e w1 ⟨rfl, hb1⟩; replace hbel := hbel.trans (hb1.mono hbel.size); replace h1 := row_keep hb1 h1; replace h2 := row_keep hb1 h2; clear hb1)
      | (have _t := tok_h6; with_reducible refine wpList_allocN rfl 22 rfl 6 zero6 ?_; intro Bh6 w1 hBh6 h6 hb1; have hWh6 := Nat.le_trans hbel.size hBh6; have hLh1h6 := Nat.lt_of_lt_of_le (row_lt h1) hBh6; have hLh2h6 := Nat.lt_of_lt_of_le (row_lt h2) hBh6; replace hbel := hbel.trans (hb1.mono hbel.size); replace h1 := row_keep hb1 h1; replace h2 := row_keep hb1 h2; clear hb1 _t tok_h6)
      | (with_reducible refine wpList_storeWN rfl _ _ _ rfl _ rfl rfl h6 size6 hbel hWh6 ?_; intro w1 g3 ho g4; replace h1 := (ho _ (by omega)).trans h1; replace h2 := (ho _ (by omega)).trans h2; clear h6 hbel; have h6 := g3; have hbel := g4; clear g3 g4 ho)
    go_ret2
    exact ⟨rfl, hbel⟩
  | true =>
    cases hb : rackB b with
    | false =>
      rw [show aaR a b = (false, false) from if_neg (by simp [hb])]
      have HA : Hid _ := ha
      have HB : Hid _ := hb
      have HX : Hid (1 = 1) := rfl
      clear ha hb
      go_enter Try.func34, Try.ntmps34
      go_wp2_with first
        | (with_reducible refine wpList_loadW rfl _ _ rfl _ rfl h1 agg24r size24r ?_)
        | (with_reducible refine wpList_loadWG rfl _ _ rfl _ rfl h2 agg24r size24r ?_)
        | (go_at_call 44; (with_reducible refine (l2Rack_at HA.out _).mono ?_); rintro e w1 ⟨rfl, hb1⟩; replace hbel := hbel.trans (hb1.mono hbel.size); replace h1 := row_keep hb1 h1; replace h2 := row_keep hb1 h2; clear hb1)
        | (go_at_call 44; (with_reducible refine (l2Rack_at HB.out _).mono ?_); rintro e w1 ⟨rfl, hb1⟩; replace hbel := hbel.trans (hb1.mono hbel.size); replace h1 := row_keep hb1 h1; replace h2 := row_keep hb1 h2; clear hb1)
        | (with_reducible refine wpList_loadW rfl _ _ rfl _ rfl h2 agg24r size24r ?_)
        | (go_at_call 56; (with_reducible refine (l4Renaming_any a b HA.out HB.out _).mono ?_); rintro e w1 ⟨rfl, hb1⟩; replace hbel := hbel.trans (hb1.mono hbel.size); replace h1 := row_keep hb1 h1; replace h2 := row_keep hb1 h2; clear hb1)
        | (have _t := tok_h6; with_reducible refine wpList_allocN rfl 22 rfl 6 zero6 ?_; intro Bh6 w1 hBh6 h6 hb1; have hWh6 := Nat.le_trans hbel.size hBh6; have hLh1h6 := Nat.lt_of_lt_of_le (row_lt h1) hBh6; have hLh2h6 := Nat.lt_of_lt_of_le (row_lt h2) hBh6; replace hbel := hbel.trans (hb1.mono hbel.size); replace h1 := row_keep hb1 h1; replace h2 := row_keep hb1 h2; clear hb1 _t tok_h6)
        | (with_reducible refine wpList_storeWN rfl _ _ _ rfl _ rfl rfl h6 size6 hbel hWh6 ?_; intro w1 g3 ho g4; replace h1 := (ho _ (by omega)).trans h1; replace h2 := (ho _ (by omega)).trans h2; clear h6 hbel; have h6 := g3; have hbel := g4; clear g3 g4 ho)
      go_ret2
      exact ⟨rfl, hbel⟩
    | true =>
      rw [show aaR a b = ((rgR a b).2, true) from if_pos ⟨ha, hb⟩]
      have HA : Hid _ := ha
      have HB : Hid _ := hb
      have HX : Hid _ := alk_fd (cellB_of_rack ha) (cellB_of_rack hb)
      clear ha hb
      go_enter Try.func34, Try.ntmps34
      go_wp2_with first
        | (with_reducible refine wpList_loadW rfl _ _ rfl _ rfl h1 agg24r size24r ?_)
        | (with_reducible refine wpList_loadWG rfl _ _ rfl _ rfl h2 agg24r size24r ?_)
        | (go_at_call 44; (with_reducible refine (l2Rack_at HA.out _).mono ?_); rintro e w1 ⟨rfl, hb1⟩; replace hbel := hbel.trans (hb1.mono hbel.size); replace h1 := row_keep hb1 h1; replace h2 := row_keep hb1 h2; clear hb1)
        | (go_at_call 44; (with_reducible refine (l2Rack_at HB.out _).mono ?_); rintro e w1 ⟨rfl, hb1⟩; replace hbel := hbel.trans (hb1.mono hbel.size); replace h1 := row_keep hb1 h1; replace h2 := row_keep hb1 h2; clear hb1)
        | (with_reducible refine wpList_loadW rfl _ _ rfl _ rfl h2 agg24r size24r ?_)
        | (go_at_call 56; (with_reducible refine (l4Renaming_any a b HA.out HB.out _).mono ?_); rintro e w1 ⟨rfl, hb1⟩; replace hbel := hbel.trans (hb1.mono hbel.size); replace h1 := row_keep hb1 h1; replace h2 := row_keep hb1 h2; clear hb1)
        | (have _t := tok_h6; with_reducible refine wpList_allocN rfl 22 rfl 6 zero6 ?_; intro Bh6 w1 hBh6 h6 hb1; have hWh6 := Nat.le_trans hbel.size hBh6; have hLh1h6 := Nat.lt_of_lt_of_le (row_lt h1) hBh6; have hLh2h6 := Nat.lt_of_lt_of_le (row_lt h2) hBh6; replace hbel := hbel.trans (hb1.mono hbel.size); replace h1 := row_keep hb1 h1; replace h2 := row_keep hb1 h2; clear hb1 _t tok_h6)
        | (with_reducible refine wpList_storeWN rfl _ _ _ rfl _ rfl rfl h6 size6 hbel hWh6 ?_; intro w1 g3 ho g4; replace h1 := (ho _ (by omega)).trans h1; replace h2 := (ho _ (by omega)).trans h2; clear h6 hbel; have h6 := g3; have hbel := g4; clear g3 g4 ho)
      go_ret2
      exact ⟨rfl, hbel⟩
theorem implAa_any (a b : Nat → Int) (w : World) : Calls Try.prog 35 #[.agg (arr 24 a), .agg (arr 24 b)] w fun e w' => e = .returned (.tuple #[.bool (aaR a b).1, .bool (aaR a b).2]) ∧ Below w.heap.size w w' := by
  have h1 : ((w.alloc (.cells (arr 24 a) 33)).alloc (.cells (arr 24 b) 33)).heap[w.heap.size]? = some (.cells (arr 24 a) 33 (0, 0)) := by rw [heap_old (by simp), heap_new rfl]
  have h2 : ((w.alloc (.cells (arr 24 a) 33)).alloc (.cells (arr 24 b) 33)).heap[w.heap.size + 1]? = some (.cells (arr 24 b) 33 (0, 0)) := heap_new (by simp)
  have hbel : Below w.heap.size w ((w.alloc (.cells (arr 24 a) 33)).alloc (.cells (arr 24 b) 33)) := ((Below.refl _ _).alloc (by simp) _).alloc (by simp) _
  cases ha : rackB a with
  | false =>
    rw [show aaR a b = (false, false) from if_neg (by simp [ha])]
    have HA : Hid _ := ha
    have HB : Hid (1 = 1) := rfl
    have HX : Hid (1 = 1) := rfl
    clear ha
    go_enter Try.func35, Try.ntmps35
    go_wp2_with first
      | (with_reducible refine wpList_loadW rfl _ _ rfl _ rfl h1 agg24r size24r ?_)
      | (with_reducible refine wpList_loadWG rfl _ _ rfl _ rfl h2 agg24r size24r ?_)
      | (go_at_call 47; (with_reducible refine (IsRack_at HA.out _).mono ?_); rintro e w1 ⟨rfl, hb1⟩; replace hbel := hbel.trans (hb1.mono hbel.size); replace h1 := row_keep hb1 h1; replace h2 := row_keep hb1 h2; clear hb1)
      | (go_at_call 47; (with_reducible refine (IsRack_at HB.out _).mono ?_); rintro e w1 ⟨rfl, hb1⟩; replace hbel := hbel.trans (hb1.mono hbel.size); replace h1 := row_keep hb1 h1; replace h2 := row_keep hb1 h2; clear hb1)
    go_ret2
    exact ⟨rfl, hbel⟩
  | true =>
    cases hb : rackB b with
    | false =>
      rw [show aaR a b = (false, false) from if_neg (by simp [hb])]
      have HA : Hid _ := ha
      have HB : Hid _ := hb
      have HX : Hid (1 = 1) := rfl
      clear ha hb
      go_enter Try.func35, Try.ntmps35
      go_wp2_with first
        | (with_reducible refine wpList_loadW rfl _ _ rfl _ rfl h1 agg24r size24r ?_)
        | (with_reducible refine wpList_loadWG rfl _ _ rfl _ rfl h2 agg24r size24r ?_)
        | (go_at_call 47; (with_reducible refine (IsRack_at HA.out _).mono ?_); rintro e w1 ⟨rfl, hb1⟩; replace hbel := hbel.trans (hb1.mono hbel.size); replace h1 := row_keep hb1 h1; replace h2 := row_keep hb1 h2; clear hb1)
        | (go_at_call 47; (with_reducible refine (IsRack_at HB.out _).mono ?_); rintro e w1 ⟨rfl, hb1⟩; replace hbel := hbel.trans (hb1.mono hbel.size); replace h1 := row_keep hb1 h1; replace h2 := row_keep hb1 h2; clear hb1)
      go_ret2
      exact ⟨rfl, hbel⟩
    | true =>
      rw [show aaR a b = ((rgR a b).2, true) from if_pos ⟨ha, hb⟩]
      have HA : Hid _ := ha
      have HB : Hid _ := hb
      have HX : Hid _ := alk_fd (cellB_of_rack ha) (cellB_of_rack hb)
      clear ha hb
      obtain ⟨x, hx⟩ : ∃ x, (rgR a b).2 = x := ⟨_, rfl⟩
      have HX2 : Hid _ := HX.out.trans hx
      rw [hx]
      clear hx
      go_enter Try.func35, Try.ntmps35
      go_wp2_with first
        | (with_reducible refine wpList_loadW rfl _ _ rfl _ rfl h1 agg24r size24r ?_)
        | (with_reducible refine wpList_loadWG rfl _ _ rfl _ rfl h2 agg24r size24r ?_)
        | (go_at_call 47; (with_reducible refine (IsRack_at HA.out _).mono ?_); rintro e w1 ⟨rfl, hb1⟩; replace hbel := hbel.trans (hb1.mono hbel.size); replace h1 := row_keep hb1 h1; replace h2 := row_keep hb1 h2; clear hb1)
        | (go_at_call 47; (with_reducible refine (IsRack_at HB.out _).mono ?_); rintro e w1 ⟨rfl, hb1⟩; replace hbel := hbel.trans (hb1.mono hbel.size); replace h1 := row_keep hb1 h1; replace h2 := row_keep hb1 h2; clear hb1)
      refine wp_region_held 5 (Cls w _) (by kernel_rfl) (by kernel_rfl) (Cls.two h1 h2 hbel) ?_; simp only [List.take_succ_cons, List.take_zero, List.drop_succ_cons, List.drop_zero]
      repeat (first
        | (with_reducible refine wpQuiet_loadW rfl _ _ rfl _ rfl (fun _ h => h.r1) agg24r size24r ?_)
        | (with_reducible refine wpQuiet_loadW rfl _ _ rfl _ rfl (fun _ h => h.r2) agg24r size24r ?_)
        | ((with_reducible refine wpQuiet_callE rfl 57 _ _ rfl (.agg (arr 24 (ffF a))) (#[.agg (arr 24 a)]) rfl ?_ ?_ ?_); (exact enters_of Try.func57 (by kernel_rfl) rfl); (intro w' h'; with_reducible exact (firstForm_any a HA.out w').mono fun _ _ ⟨he, hb⟩ => ⟨he, h'.keep hb⟩))
        | ((with_reducible refine wpQuiet_callE rfl 57 _ _ rfl (.agg (arr 24 (ffF b))) (#[.agg (arr 24 b)]) rfl ?_ ?_ ?_); (exact enters_of Try.func57 (by kernel_rfl) rfl); (intro w' h'; with_reducible exact (firstForm_any b HB.out w').mono fun _ _ ⟨he, hb⟩ => ⟨he, h'.keep hb⟩))
        | ((with_reducible refine wpQuiet_eqlA eqRk (by decide) gdRk rfl _ _ _ rfl rfl rfl ?_); rw [HX2.out])
        | ((with_reducible refine wpQuiet_step (fun K hK => ?_)); go_simp; (first | (refine ⟨_, fun _ _ => rfl, hK _ ?_⟩) | (refine ⟨_, fun _ _ => ⟨rfl, rfl⟩, hK _ ?_⟩) | (refine hK _ ?_)); clear hK K))
      refine wpQuiet_nil ?_
      intro wt hCt
      replace hbel := hCt.2
      clear hCt
      go_wp2_with fail
      go_ret2
      exact ⟨rfl, hbel⟩
theorem FnExactAreAlike_walk (x0 : Nat → Int) (hx0 : ∀ j, I64 (x0 j)) (x1 : Nat → Int) (hx1 : ∀ j, I64 (x1 j)) (w : World) : Calls Try.prog 11 #[.agg (arr 24 x0), .agg (arr 24 x1)] w fun e w' => e = .returned (.bool true) ∧ Below w.heap.size w w' := by
  have hr0 : ((w.alloc (.cells (arr 24 x0) 32)).alloc (.cells (arr 24 x1) 32)).heap[w.heap.size]? = some (.cells (arr 24 x0) 32 (0, 0)) := by rw [heap_old (by simp <;> omega), heap_new (by simp)]
  have hr1 : ((w.alloc (.cells (arr 24 x0) 32)).alloc (.cells (arr 24 x1) 32)).heap[w.heap.size + 1]? = some (.cells (arr 24 x1) 32 (0, 0)) := by rw [heap_new (by simp)]
  have hbel : Below w.heap.size w ((w.alloc (.cells (arr 24 x0) 32)).alloc (.cells (arr 24 x1) 32)) := (((Below.refl _ _).alloc (by simp) _).alloc (by simp) _)
  go_enter Try.func11, Try.ntmps11
  go_wp2_with fail
  refine wp_region_held 10 (Cls w _) (by kernel_rfl) (by kernel_rfl) (Cls.two hr0 hr1 hbel) ?_; simp only [List.take_succ_cons, List.take_zero, List.drop_succ_cons, List.drop_zero]
  repeat (first
    | (with_reducible refine wpQuiet_loadW rfl _ _ rfl _ rfl (fun _ h => h.r1) agg24l size24l ?_)
    | (with_reducible refine wpQuiet_loadW rfl _ _ rfl _ rfl (fun _ h => h.r2) agg24l size24l ?_)
    | ((with_reducible refine wpQuiet_callE rfl 25 _ _ rfl (.agg (arr 24 x0)) (#[.agg (arr 24 x0)]) rfl ?_ ?_ ?_); (exact enters_of Try.func25 (by kernel_rfl) rfl); (intro w' h'; with_reducible exact (toRack_any x0 w').mono fun _ _ ⟨he, hb⟩ => ⟨he, h'.keep hb⟩))
    | ((with_reducible refine wpQuiet_callE rfl 25 _ _ rfl (.agg (arr 24 x1)) (#[.agg (arr 24 x1)]) rfl ?_ ?_ ?_); (exact enters_of Try.func25 (by kernel_rfl) rfl); (intro w' h'; with_reducible exact (toRack_any x1 w').mono fun _ _ ⟨he, hb⟩ => ⟨he, h'.keep hb⟩))
    | ((with_reducible refine wpQuiet_callE rfl 34 _ _ rfl (.tuple #[.bool (aaR x0 x1).1, .bool (aaR x0 x1).2]) (#[.agg (arr 24 x0), .agg (arr 24 x1)]) rfl ?_ ?_ ?_); (exact enters_of Try.func34 (by kernel_rfl) rfl); (intro w' h'; with_reducible exact (specAa_any x0 x1 w').mono fun _ _ ⟨he, hb⟩ => ⟨he, h'.keep hb⟩))
    | ((with_reducible refine wpQuiet_step (fun K hK => ?_)); go_simp; (first | (refine ⟨_, fun _ _ => rfl, hK _ ?_⟩) | (refine ⟨_, fun _ _ => ⟨rfl, rfl⟩, hK _ ?_⟩) | (refine hK _ ?_)); clear hK K))
  refine wpQuiet_nil ?_
  intro wt hCt
  replace hr0 := hCt.r1
  replace hr1 := hCt.r2
  replace hbel := hCt.2
  clear hCt
  go_wp2_with fail
  refine wp_region_held 10 (Cls w _) (by kernel_rfl) (by kernel_rfl) (Cls.two hr0 hr1 hbel) ?_; simp only [List.take_succ_cons, List.take_zero, List.drop_succ_cons, List.drop_zero]
  repeat (first
    | (with_reducible refine wpQuiet_loadW rfl _ _ rfl _ rfl (fun _ h => h.r1) agg24l size24l ?_)
    | (with_reducible refine wpQuiet_loadW rfl _ _ rfl _ rfl (fun _ h => h.r2) agg24l size24l ?_)
    | ((with_reducible refine wpQuiet_callE rfl 25 _ _ rfl (.agg (arr 24 x0)) (#[.agg (arr 24 x0)]) rfl ?_ ?_ ?_); (exact enters_of Try.func25 (by kernel_rfl) rfl); (intro w' h'; with_reducible exact (toRack_any x0 w').mono fun _ _ ⟨he, hb⟩ => ⟨he, h'.keep hb⟩))
    | ((with_reducible refine wpQuiet_callE rfl 25 _ _ rfl (.agg (arr 24 x1)) (#[.agg (arr 24 x1)]) rfl ?_ ?_ ?_); (exact enters_of Try.func25 (by kernel_rfl) rfl); (intro w' h'; with_reducible exact (toRack_any x1 w').mono fun _ _ ⟨he, hb⟩ => ⟨he, h'.keep hb⟩))
    | ((with_reducible refine wpQuiet_callE rfl 35 _ _ rfl (.tuple #[.bool (aaR x0 x1).1, .bool (aaR x0 x1).2]) (#[.agg (arr 24 x0), .agg (arr 24 x1)]) rfl ?_ ?_ ?_); (exact enters_of Try.func35 (by kernel_rfl) rfl); (intro w' h'; with_reducible exact (implAa_any x0 x1 w').mono fun _ _ ⟨he, hb⟩ => ⟨he, h'.keep hb⟩))
    | ((with_reducible refine wpQuiet_step (fun K hK => ?_)); go_simp; (first | (refine ⟨_, fun _ _ => rfl, hK _ ?_⟩) | (refine ⟨_, fun _ _ => ⟨rfl, rfl⟩, hK _ ?_⟩) | (refine hK _ ?_)); clear hK K))
  refine wpQuiet_nil ?_
  intro wt hCt
  replace hr0 := hCt.r1
  replace hr1 := hCt.r2
  replace hbel := hCt.2
  clear hCt
  go_wp2_with fail
  go_ret
  exact ⟨rfl, hbel⟩
end Go.Proofs.Ytljajgaicdffkaa
