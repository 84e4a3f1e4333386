/- FirstForm: the program's and the reference's, and the law. -/
import Derived.Test.YtljajgaicdffkaaFstP
import Derived.Test.YtljajgaicdffkaaArs
import Derived.Test.YtljajgaicdffkaaFlo
import Derived.Test.YtljajgaicdffkaaForm
import Derived.Test.YtljajgaicdffkaaEqq
import Derived.Test.YtljajgaicdffkaaRen
import Derived.Test.YtljajgaicdffkaaPut
namespace Go.Proofs.Ytljajgaicdffkaa
set_option linter.unusedSimpArgs false
set_option linter.unusedVariables false
set_option maxRecDepth 20000
open Go.RowKit
noncomputable def ffF (f : Nat → Int) : Nat → Int := fstF f nmS 120
noncomputable def ffR (f : Nat → Int) : (Nat → Int) × Bool := if rackB f = true then (ffF f, true) else (fun _ => 0, false)
theorem renamed_at {f : Nat → Int} (hf : cellB f) (n : Nat) (w : World) : Calls Try.prog 51 #[.agg (arr 24 f), .agg (arr 6 (nmS n))] w fun e w' => e = .returned (.agg (arr 24 (renF f (nmS n)))) ∧ Below w.heap.size w w' := renamed_any f (nmS n) hf w
theorem l4Rename_at {f : Nat → Int} (hf : cellB f) (n : Nat) (w : World) : Calls Try.prog 50 #[.agg (arr 24 f), .agg (arr 6 (nmS n))] w fun e w' => e = .returned (.agg (arr 24 (renF f (nmS n)))) ∧ Below w.heap.size w w' := l4Rename_any f (nmS n) hf w
theorem fst_yes {f : Nat → Int} {n : Nat} (h : key (formF (renF f (nmS n))) < key (fstF f nmS n)) : fstF f nmS (n + 1) = formF (renF f (nmS n)) := by
  rw [fstF, if_pos h]
theorem fst_no {f : Nat → Int} {n : Nat} (h : ¬ key (formF (renF f (nmS n))) < key (fstF f nmS n)) : fstF f nmS (n + 1) = fstF f nmS n := by
  rw [fstF, if_neg h]
theorem fst_cell {f : Nat → Int} (hf : cellB f) {n : Nat} (hn : n ≤ 120) : cellB (fstF f nmS n) := by
  obtain ⟨_, _, _, h⟩ := fstF_is hf nmS_all.1 n hn
  exact h
theorem ren_form {f : Nat → Int} (hf : cellB f) {n : Nat} (hn : n < 120) : cellB (formF (renF f (nmS n))) := (form_is (ren_cell hf (nm_ren hn))).1.2
set_option maxHeartbeats 1000000 in
theorem firstForm_any (f : Nat → Int) (hf : rackB f = true) (w : World) : Calls Try.prog 57 #[.agg (arr 24 f)] w fun e w' => e = .returned (.agg (arr 24 (ffF f))) ∧ Below w.heap.size w w' := by
  have h1 : ((w.alloc (.cells (arr 24 f) 33)).alloc (.cells (arr 24 fun _ => 0) 33)).heap[w.heap.size]? = some (.cells (arr 24 f) 33 (0, 0)) := by rw [heap_old (by simp), heap_new rfl]
  have h2 : ((w.alloc (.cells (arr 24 f) 33)).alloc (.cells (arr 24 fun _ => 0) 33)).heap[w.heap.size + 1]? = some (.cells (arr 24 fun _ => 0) 33 (0, 0)) := heap_new (by simp)
  have hbel : Below w.heap.size w ((w.alloc (.cells (arr 24 f) 33)).alloc (.cells (arr 24 fun _ => 0) 33)) := ((Below.refl _ _).alloc (by simp) _).alloc (by simp) _
  have hc := cellB_of_rack hf
  have tok_hb : True := trivial
  have tok_r : True := trivial
  go_enter Try.func57, Try.ntmps57
  go_wp2_with first
    | (have _t := tok_r; (with_reducible refine wpList_allocA rfl 33 rfl 24 zero24r ?_; (try simp only [size_al])); clear _t tok_r)
    | (with_reducible refine wpList_loadW rfl _ _ rfl _ rfl h1 agg24r size24r ?_)
    | (go_at_call 53; (with_reducible refine (formOf_any f hf _).mono ?_); rintro e w1 ⟨rfl, hb1⟩; replace hbel := hbel.trans (hb1.mono hbel.size); replace h1 := row_keep hb1 h1; replace h2 := row_keep hb1 h2; (try replace hb := row_keep hb1 hb); (try replace hg := row_keep hb1 hg); (try replace h5 := row_keep hb1 h5); (try replace h6 := row_keep hb1 h6); clear hb1)
    | (have _t := tok_hb; with_reducible refine wpList_allocN rfl 33 rfl 24 zero24r ?_; intro Bhb w1 hBhb hb hb1; have hWhb := Nat.le_trans hbel.size hBhb; have hLh1hb := Nat.lt_of_lt_of_le (row_lt h1) hBhb; have hLh2hb := Nat.lt_of_lt_of_le (row_lt h2) hBhb; replace hbel := hbel.trans (hb1.mono hbel.size); replace h1 := row_keep hb1 h1; replace h2 := row_keep hb1 h2; clear hb1 _t tok_hb)
    | (with_reducible refine wpList_storeWN rfl _ _ _ rfl _ rfl rfl hb size24r hbel hWhb ?_; intro w1 g3 ho g4; replace h1 := (ho _ (by omega)).trans h1; replace h2 := (ho _ (by omega)).trans h2; clear hb hbel; have hb := g3; have hbel := g4; clear g3 g4 ho)
    | (go_at_call 72; (with_reducible refine (renamings_any _).mono ?_); rintro e w1 ⟨v, rfl, hS, hb1⟩; replace h1 := row_keep hb1 h1; replace h2 := row_keep hb1 h2; have hLb := row_lt hb; replace hb := row_keep hb1 hb; have hzb := hbel.size; replace hbel := hbel.trans (hb1.mono hbel.size); clear hb1; (obtain ⟨g, cap, F, rfl, a1, hg, a3, a4, a5⟩ := hS.blk (by omega)))
  go_loopw [11] (fun i wr => ∃ n : Nat, n ≤ 120 ∧ i = .int .i64 n ∧ wr.heap[w.heap.size]? = some (.cells (arr 24 f) 33 (0, 0)) ∧ wr.heap[w.heap.size + 1]? = some (.cells (arr 24 fun _ => 0) 33 (0, 0)) ∧ wr.heap[Bhb]? = some (.cells (arr 24 (fstF f nmS n)) 33 (0, 0)) ∧ wr.heap[g]? = some (.cells (arr (cap * 6) F) 22 (0, 0)) ∧ Below w.heap.size w wr) (fun i _ => 120 - (intOf i).toNat)
  case atStart => exact ⟨0, by omega, rfl, h1, h2, hb, hg, hbel⟩
  case round =>
    clear h1 h2 hb hg hbel
    obtain ⟨n, hn, rfl, h1, h2, hb, hg, hbel⟩ := hrel
    by_cases hlt : n < 120
    · have hlt' : (n : Int) < 120 := by omega
      have HM : Hid _ := nm_arr a5 hlt
      have HR := ren_rack hf (nm_ren hlt)
      have HK : Hid _ := lex_key24 (ren_form hc hlt) (fst_cell hc hn)
      have hl1 := row_lt h1
      have hl2 := row_lt h2
      have hlb := row_lt hb
      have hlg := row_lt hg
      have tok_h5 : True := trivial
      have tok_h6 : True := trivial
      by_cases hk : key (formF (renF f (nmS n))) < key (fstF f nmS n)
      · have HS : Hid _ := fst_yes hk
        have HD : Hid (decide (lexC (formF (renF f (nmS n))) (fstF f nmS n) 24 < 0) = true) := by show _ = _; rw [HK.out]; exact decide_eq_true hk
        clear hk
        obtain ⟨z, hz⟩ : ∃ z, lexC (formF (renF f (nmS n))) (fstF f nmS n) 24 = z := ⟨_, rfl⟩
        rw [hz] at HD
        have hd := HD.out
        have HZ : Hid _ := hz
        clear hz
        go_wp2_with first
          | ((with_reducible refine wpList_loadA rfl _ _ rfl _ _ rfl hg 6 agg6 size6 (by omega) ?_); rw [HM.out])
          | (have _t := tok_h5; with_reducible refine wpList_allocN rfl 22 rfl 6 zero6 ?_; intro Bh5 w1 hBh5 h5 hb1; have hWh5 := Nat.le_trans hbel.size hBh5; have hLh1h5 := Nat.lt_of_lt_of_le (row_lt h1) hBh5; have hLh2h5 := Nat.lt_of_lt_of_le (row_lt h2) hBh5; have hLhbh5 := Nat.lt_of_lt_of_le (row_lt hb) hBh5; have hLhgh5 := Nat.lt_of_lt_of_le (row_lt hg) hBh5; replace hbel := hbel.trans (hb1.mono hbel.size); replace h1 := row_keep hb1 h1; replace h2 := row_keep hb1 h2; replace hb := row_keep hb1 hb; replace hg := row_keep hb1 hg; clear hb1 _t tok_h5)
          | (with_reducible refine wpList_storeWN rfl _ _ _ rfl _ rfl rfl h5 size6 hbel hWh5 ?_; intro w1 g3 ho g4; replace h1 := (ho _ (by omega)).trans h1; replace h2 := (ho _ (by omega)).trans h2; replace hb := (ho _ (by omega)).trans hb; replace hg := (ho _ (by omega)).trans hg; clear h5 hbel; have h5 := g3; have hbel := g4; clear g3 g4 ho)
          | (with_reducible refine wpList_loadW rfl _ _ rfl _ rfl h1 agg24r size24r ?_)
          | (with_reducible refine wpList_loadW rfl _ _ rfl _ rfl h5 agg6 size6 ?_)
          | (go_at_call 51; (with_reducible refine (renamed_at hc n _).mono ?_); rintro e w1 ⟨rfl, hb1⟩; replace hbel := hbel.trans (hb1.mono hbel.size); replace h1 := row_keep hb1 h1; replace h2 := row_keep hb1 h2; (try replace hb := row_keep hb1 hb); (try replace hg := row_keep hb1 hg); (try replace h5 := row_keep hb1 h5); (try replace h6 := row_keep hb1 h6); clear hb1)
          | (go_at_call 53; (with_reducible refine (formOf_any _ HR _).mono ?_); rintro e w1 ⟨rfl, hb1⟩; replace hbel := hbel.trans (hb1.mono hbel.size); replace h1 := row_keep hb1 h1; replace h2 := row_keep hb1 h2; (try replace hb := row_keep hb1 hb); (try replace hg := row_keep hb1 hg); (try replace h5 := row_keep hb1 h5); (try replace h6 := row_keep hb1 h6); clear hb1)
          | (have _t := tok_h6; with_reducible refine wpList_allocN rfl 33 rfl 24 zero24r ?_; intro Bh6 w1 hBh6 h6 hb1; have hWh6 := Nat.le_trans hbel.size hBh6; have hLh1h6 := Nat.lt_of_lt_of_le (row_lt h1) hBh6; have hLh2h6 := Nat.lt_of_lt_of_le (row_lt h2) hBh6; have hLhbh6 := Nat.lt_of_lt_of_le (row_lt hb) hBh6; have hLhgh6 := Nat.lt_of_lt_of_le (row_lt hg) hBh6; have hLh5h6 := Nat.lt_of_lt_of_le (row_lt h5) hBh6; replace hbel := hbel.trans (hb1.mono hbel.size); replace h1 := row_keep hb1 h1; replace h2 := row_keep hb1 h2; replace hb := row_keep hb1 hb; replace hg := row_keep hb1 hg; replace h5 := row_keep hb1 h5; clear hb1 _t tok_h6)
          | (with_reducible refine wpList_storeWN rfl _ _ _ rfl _ rfl rfl h6 size24r hbel hWh6 ?_; intro w1 g3 ho g4; replace h1 := (ho _ (by omega)).trans h1; replace h2 := (ho _ (by omega)).trans h2; replace hb := (ho _ (by omega)).trans hb; replace hg := (ho _ (by omega)).trans hg; replace h5 := (ho _ (by omega)).trans h5; clear h6 hbel; have h6 := g3; have hbel := g4; clear g3 g4 ho)
          | (with_reducible refine wpList_loadW rfl _ _ rfl _ rfl h6 agg24r size24r ?_)
          | (with_reducible refine wpList_loadW rfl _ _ rfl _ rfl hb agg24r size24r ?_)
          | (go_at_call 74; (with_reducible refine (cmpRacks_any _ _ _).mono ?_); rw [HZ.out]; rintro e w1 ⟨rfl, hb1⟩; replace hbel := hbel.trans (hb1.mono hbel.size); replace h1 := row_keep hb1 h1; replace h2 := row_keep hb1 h2; (try replace hb := row_keep hb1 hb); (try replace hg := row_keep hb1 hg); (try replace h5 := row_keep hb1 h5); (try replace h6 := row_keep hb1 h6); clear hb1)
          | (with_reducible refine wpList_storeWN rfl _ _ _ rfl _ rfl rfl hb size24r hbel (by omega) ?_; intro w1 g3 ho g4; replace h1 := (ho _ (by omega)).trans h1; replace h2 := (ho _ (by omega)).trans h2; replace hg := (ho _ (by omega)).trans hg; clear hb hbel; have hb := g3; have hbel := g4; clear g3 g4 ho)
        go_roundw
        case rel => exact ⟨n + 1, by omega, by go_num, h1, h2, by rw [HS.out]; exact hb, hg, hbel⟩
        case measure => simp [intOf]; omega
      · have HS : Hid _ := fst_no hk
        have HD : Hid (decide (lexC (formF (renF f (nmS n))) (fstF f nmS n) 24 < 0) = false) := by show _ = _; rw [HK.out]; exact decide_eq_false hk
        clear hk
        obtain ⟨z, hz⟩ : ∃ z, lexC (formF (renF f (nmS n))) (fstF f nmS n) 24 = z := ⟨_, rfl⟩
        rw [hz] at HD
        have hd := HD.out
        have HZ : Hid _ := hz
        clear hz
        go_wp2_with first
          | ((with_reducible refine wpList_loadA rfl _ _ rfl _ _ rfl hg 6 agg6 size6 (by omega) ?_); rw [HM.out])
          | (have _t := tok_h5; with_reducible refine wpList_allocN rfl 22 rfl 6 zero6 ?_; intro Bh5 w1 hBh5 h5 hb1; have hWh5 := Nat.le_trans hbel.size hBh5; have hLh1h5 := Nat.lt_of_lt_of_le (row_lt h1) hBh5; have hLh2h5 := Nat.lt_of_lt_of_le (row_lt h2) hBh5; have hLhbh5 := Nat.lt_of_lt_of_le (row_lt hb) hBh5; have hLhgh5 := Nat.lt_of_lt_of_le (row_lt hg) hBh5; replace hbel := hbel.trans (hb1.mono hbel.size); replace h1 := row_keep hb1 h1; replace h2 := row_keep hb1 h2; replace hb := row_keep hb1 hb; replace hg := row_keep hb1 hg; clear hb1 _t tok_h5)
          | (with_reducible refine wpList_storeWN rfl _ _ _ rfl _ rfl rfl h5 size6 hbel hWh5 ?_; intro w1 g3 ho g4; replace h1 := (ho _ (by omega)).trans h1; replace h2 := (ho _ (by omega)).trans h2; replace hb := (ho _ (by omega)).trans hb; replace hg := (ho _ (by omega)).trans hg; clear h5 hbel; have h5 := g3; have hbel := g4; clear g3 g4 ho)
          | (with_reducible refine wpList_loadW rfl _ _ rfl _ rfl h1 agg24r size24r ?_)
          | (with_reducible refine wpList_loadW rfl _ _ rfl _ rfl h5 agg6 size6 ?_)
          | (go_at_call 51; (with_reducible refine (renamed_at hc n _).mono ?_); rintro e w1 ⟨rfl, hb1⟩; replace hbel := hbel.trans (hb1.mono hbel.size); replace h1 := row_keep hb1 h1; replace h2 := row_keep hb1 h2; (try replace hb := row_keep hb1 hb); (try replace hg := row_keep hb1 hg); (try replace h5 := row_keep hb1 h5); (try replace h6 := row_keep hb1 h6); clear hb1)
          | (go_at_call 53; (with_reducible refine (formOf_any _ HR _).mono ?_); rintro e w1 ⟨rfl, hb1⟩; replace hbel := hbel.trans (hb1.mono hbel.size); replace h1 := row_keep hb1 h1; replace h2 := row_keep hb1 h2; (try replace hb := row_keep hb1 hb); (try replace hg := row_keep hb1 hg); (try replace h5 := row_keep hb1 h5); (try replace h6 := row_keep hb1 h6); clear hb1)
          | (have _t := tok_h6; with_reducible refine wpList_allocN rfl 33 rfl 24 zero24r ?_; intro Bh6 w1 hBh6 h6 hb1; have hWh6 := Nat.le_trans hbel.size hBh6; have hLh1h6 := Nat.lt_of_lt_of_le (row_lt h1) hBh6; have hLh2h6 := Nat.lt_of_lt_of_le (row_lt h2) hBh6; have hLhbh6 := Nat.lt_of_lt_of_le (row_lt hb) hBh6; have hLhgh6 := Nat.lt_of_lt_of_le (row_lt hg) hBh6; have hLh5h6 := Nat.lt_of_lt_of_le (row_lt h5) hBh6; replace hbel := hbel.trans (hb1.mono hbel.size); replace h1 := row_keep hb1 h1; replace h2 := row_keep hb1 h2; replace hb := row_keep hb1 hb; replace hg := row_keep hb1 hg; replace h5 := row_keep hb1 h5; clear hb1 _t tok_h6)
          | (with_reducible refine wpList_storeWN rfl _ _ _ rfl _ rfl rfl h6 size24r hbel hWh6 ?_; intro w1 g3 ho g4; replace h1 := (ho _ (by omega)).trans h1; replace h2 := (ho _ (by omega)).trans h2; replace hb := (ho _ (by omega)).trans hb; replace hg := (ho _ (by omega)).trans hg; replace h5 := (ho _ (by omega)).trans h5; clear h6 hbel; have h6 := g3; have hbel := g4; clear g3 g4 ho)
          | (with_reducible refine wpList_loadW rfl _ _ rfl _ rfl h6 agg24r size24r ?_)
          | (with_reducible refine wpList_loadW rfl _ _ rfl _ rfl hb agg24r size24r ?_)
          | (go_at_call 74; (with_reducible refine (cmpRacks_any _ _ _).mono ?_); rw [HZ.out]; rintro e w1 ⟨rfl, hb1⟩; replace hbel := hbel.trans (hb1.mono hbel.size); replace h1 := row_keep hb1 h1; replace h2 := row_keep hb1 h2; (try replace hb := row_keep hb1 hb); (try replace hg := row_keep hb1 hg); (try replace h5 := row_keep hb1 h5); (try replace h6 := row_keep hb1 h6); clear hb1)
          | (with_reducible refine wpList_storeWN rfl _ _ _ rfl _ rfl rfl hb size24r hbel (by omega) ?_; intro w1 g3 ho g4; replace h1 := (ho _ (by omega)).trans h1; replace h2 := (ho _ (by omega)).trans h2; replace hg := (ho _ (by omega)).trans hg; clear hb hbel; have hb := g3; have hbel := g4; clear g3 g4 ho)
        go_roundw
        case rel => exact ⟨n + 1, by omega, by go_num, h1, h2, by rw [HS.out]; exact hb, hg, hbel⟩
        case measure => simp [intOf]; omega
    · obtain rfl : n = 120 := by omega
      go_wp2_with first
        | (with_reducible refine wpList_loadW rfl _ _ rfl _ rfl hb agg24r size24r ?_)
        | (with_reducible refine wpList_storeW rfl _ _ _ rfl _ rfl rfl h2 size24r ?_)
      exact bodyPost_ret_by (results_cellA rfl _ _ _ _ _ _ _ rfl (setRow_heap _ _ _ _ _ _ h2) agg24r size24r) rfl ⟨rfl, below_setRow2 hbel (by omega) _⟩
set_option maxHeartbeats 1000000 in
theorem l4First_any (f : Nat → Int) (hf : rackB f = true) (w : World) : Calls Try.prog 58 #[.agg (arr 24 f)] w fun e w' => e = .returned (.agg (arr 24 (ffF f))) ∧ Below w.heap.size w w' := by
  have h1 : ((w.alloc (.cells (arr 24 f) 33)).alloc (.cells (arr 24 fun _ => 0) 33)).heap[w.heap.size]? = some (.cells (arr 24 f) 33 (0, 0)) := by rw [heap_old (by simp), heap_new rfl]
  have h2 : ((w.alloc (.cells (arr 24 f) 33)).alloc (.cells (arr 24 fun _ => 0) 33)).heap[w.heap.size + 1]? = some (.cells (arr 24 fun _ => 0) 33 (0, 0)) := heap_new (by simp)
  have hbel : Below w.heap.size w ((w.alloc (.cells (arr 24 f) 33)).alloc (.cells (arr 24 fun _ => 0) 33)) := ((Below.refl _ _).alloc (by simp) _).alloc (by simp) _
  have hc := cellB_of_rack hf
  have tok_hb : True := trivial
  have tok_r : True := trivial
  go_enter Try.func58, Try.ntmps58
  go_wp2_with first
    | (have _t := tok_r; (with_reducible refine wpList_allocA rfl 33 rfl 24 zero24r ?_; (try simp only [size_al])); clear _t tok_r)
    | (with_reducible refine wpList_loadW rfl _ _ rfl _ rfl h1 agg24r size24r ?_)
    | (go_at_call 52; (with_reducible refine (l3Form_any f hf _).mono ?_); rintro e w1 ⟨rfl, hb1⟩; replace hbel := hbel.trans (hb1.mono hbel.size); replace h1 := row_keep hb1 h1; replace h2 := row_keep hb1 h2; (try replace hb := row_keep hb1 hb); (try replace hg := row_keep hb1 hg); (try replace h5 := row_keep hb1 h5); (try replace h6 := row_keep hb1 h6); clear hb1)
    | (go_at_call 54; (with_reducible refine (l4AllNames_any _).mono ?_); rintro e w1 ⟨v, rfl, hS, hb1⟩; replace h1 := row_keep hb1 h1; replace h2 := row_keep hb1 h2; replace hbel := hbel.trans (hb1.mono hbel.size); clear hb1; (obtain ⟨g, cap, F, rfl, a1, hg, a3, a4, a5⟩ := hS.blk (by omega)))
    | (have _t := tok_hb; with_reducible refine wpList_allocN rfl 33 rfl 24 zero24r ?_; intro Bhb w1 hBhb hb hb1; have hWhb := Nat.le_trans hbel.size hBhb; have hLh1hb := Nat.lt_of_lt_of_le (row_lt h1) hBhb; have hLh2hb := Nat.lt_of_lt_of_le (row_lt h2) hBhb; have hLhghb := Nat.lt_of_lt_of_le (row_lt hg) hBhb; replace hbel := hbel.trans (hb1.mono hbel.size); replace h1 := row_keep hb1 h1; replace h2 := row_keep hb1 h2; replace hg := row_keep hb1 hg; clear hb1 _t tok_hb)
    | (with_reducible refine wpList_storeWN rfl _ _ _ rfl _ rfl rfl hb size24r hbel hWhb ?_; intro w1 g3 ho g4; replace h1 := (ho _ (by omega)).trans h1; replace h2 := (ho _ (by omega)).trans h2; replace hg := (ho _ (by omega)).trans hg; clear hb hbel; have hb := g3; have hbel := g4; clear g3 g4 ho)
  go_loopw [5] (fun i wr => ∃ n : Nat, n ≤ 120 ∧ i = .int .i64 n ∧ wr.heap[w.heap.size]? = some (.cells (arr 24 f) 33 (0, 0)) ∧ wr.heap[w.heap.size + 1]? = some (.cells (arr 24 fun _ => 0) 33 (0, 0)) ∧ wr.heap[Bhb]? = some (.cells (arr 24 (fstF f nmS n)) 33 (0, 0)) ∧ wr.heap[g]? = some (.cells (arr (cap * 6) F) 22 (0, 0)) ∧ Below w.heap.size w wr) (fun i _ => 120 - (intOf i).toNat)
  case atStart => exact ⟨0, by omega, rfl, h1, h2, hb, hg, hbel⟩
  case round =>
    clear h1 h2 hb hg hbel
    obtain ⟨n, hn, rfl, h1, h2, hb, hg, hbel⟩ := hrel
    by_cases hlt : n < 120
    · have hlt' : (n : Int) < 120 := by omega
      have HM : Hid _ := nm_arr a5 hlt
      have HR := ren_rack hf (nm_ren hlt)
      have HK : Hid _ := lex_key24 (ren_form hc hlt) (fst_cell hc hn)
      have hl1 := row_lt h1
      have hl2 := row_lt h2
      have hlb := row_lt hb
      have hlg := row_lt hg
      by_cases hk : key (formF (renF f (nmS n))) < key (fstF f nmS n)
      · have HS : Hid _ := fst_yes hk
        have HD : Hid (decide (lexC (formF (renF f (nmS n))) (fstF f nmS n) 24 < 0) = true) := by show _ = _; rw [HK.out]; exact decide_eq_true hk
        clear hk
        go_wp2_with fail
        refine wp_region_flo 7 1 [] _ _ 33 24 zero24r _ rfl rfl (by kernel_rfl) (by kernel_rfl) (Cls.two h1 hg (Below.refl _ _)) ?_; simp only [List.take_succ_cons, List.take_zero, List.drop_succ_cons, List.drop_zero]
        repeat (first
          | (with_reducible refine wpR_loadW rfl _ _ rfl _ rfl (fun _ h => h.r1) agg24r size24r ?_)
          | ((with_reducible refine wpR_loadA rfl _ _ rfl _ _ rfl (fun _ h => h.r2) 6 agg6 size6 (by omega) ?_); rw [HM.out])
          | ((with_reducible refine wpR_callE rfl 50 _ _ rfl (.agg (arr 24 (renF f (nmS n)))) (#[.agg (arr 24 f), .agg (arr 6 (nmS n))]) rfl ?_ ?_ ?_); (exact enters_of Try.func50 (by kernel_rfl) rfl); (intro w' h'; with_reducible exact l4Rename_at hc n w'))
          | ((with_reducible refine wpR_callE rfl 52 _ _ rfl (.agg (arr 24 (formF (renF f (nmS n))))) (#[.agg (arr 24 (renF f (nmS n)))]) rfl ?_ ?_ ?_); (exact enters_of Try.func52 (by kernel_rfl) rfl); (intro w' h'; with_reducible exact l3Form_any _ HR w'))
          | ((with_reducible refine wpR_step (fun K hK => ?_)); go_simp; (first | (refine ⟨_, fun _ _ => rfl, hK _ ?_⟩) | (refine hK _ ?_)); clear hK K))
        refine wpR_nil ?_
        intro B6 wt hB6 hCt h6
        have hb0 := hCt.2
        replace hbel := hbel.trans (hb0.mono hbel.size)
        replace h1 := row_keep hb0 h1
        replace h2 := row_keep hb0 h2
        replace hb := row_keep hb0 hb
        replace hg := row_keep hb0 hg
        clear hb0 hCt
        go_wp2_with first
          | (with_reducible refine wpList_storeWN rfl _ _ _ rfl _ rfl rfl h6 size24r hbel (by have := hbel.size; omega) ?_; intro w1 g3 ho g4; replace h1 := (ho _ (by omega)).trans h1; replace h2 := (ho _ (by omega)).trans h2; replace hb := (ho _ (by omega)).trans hb; replace hg := (ho _ (by omega)).trans hg; clear h6 hbel; have h6 := g3; have hbel := g4; clear g3 g4 ho)
        refine QN.intro ?_
        go_wp2_with first
          | (with_reducible refine wpList_loadW rfl _ _ rfl _ rfl h6 agg24r size24r ?_)
          | (with_reducible refine wpList_loadW rfl _ _ rfl _ rfl hb agg24r size24r ?_)
          | (go_at_call 75; (with_reducible refine (l2Before_any _ _ _).mono ?_); rw [HD.out]; rintro e w1 ⟨rfl, hb1⟩; replace hbel := hbel.trans (hb1.mono hbel.size); replace h1 := row_keep hb1 h1; replace h2 := row_keep hb1 h2; (try replace hb := row_keep hb1 hb); (try replace hg := row_keep hb1 hg); (try replace h5 := row_keep hb1 h5); (try replace h6 := row_keep hb1 h6); clear hb1)
          | (with_reducible refine wpList_storeWN rfl _ _ _ rfl _ rfl rfl hb size24r hbel (by omega) ?_; intro w1 g3 ho g4; replace h1 := (ho _ (by omega)).trans h1; replace h2 := (ho _ (by omega)).trans h2; replace hg := (ho _ (by omega)).trans hg; clear hb hbel; have hb := g3; have hbel := g4; clear g3 g4 ho)
        go_roundw
        case rel => exact ⟨n + 1, by omega, by go_num, h1, h2, by rw [HS.out]; exact hb, hg, hbel⟩
        case measure => simp [intOf]; omega
      · have HS : Hid _ := fst_no hk
        have HD : Hid (decide (lexC (formF (renF f (nmS n))) (fstF f nmS n) 24 < 0) = false) := by show _ = _; rw [HK.out]; exact decide_eq_false hk
        clear hk
        go_wp2_with fail
        refine wp_region_flo 7 1 [] _ _ 33 24 zero24r _ rfl rfl (by kernel_rfl) (by kernel_rfl) (Cls.two h1 hg (Below.refl _ _)) ?_; simp only [List.take_succ_cons, List.take_zero, List.drop_succ_cons, List.drop_zero]
        repeat (first
          | (with_reducible refine wpR_loadW rfl _ _ rfl _ rfl (fun _ h => h.r1) agg24r size24r ?_)
          | ((with_reducible refine wpR_loadA rfl _ _ rfl _ _ rfl (fun _ h => h.r2) 6 agg6 size6 (by omega) ?_); rw [HM.out])
          | ((with_reducible refine wpR_callE rfl 50 _ _ rfl (.agg (arr 24 (renF f (nmS n)))) (#[.agg (arr 24 f), .agg (arr 6 (nmS n))]) rfl ?_ ?_ ?_); (exact enters_of Try.func50 (by kernel_rfl) rfl); (intro w' h'; with_reducible exact l4Rename_at hc n w'))
          | ((with_reducible refine wpR_callE rfl 52 _ _ rfl (.agg (arr 24 (formF (renF f (nmS n))))) (#[.agg (arr 24 (renF f (nmS n)))]) rfl ?_ ?_ ?_); (exact enters_of Try.func52 (by kernel_rfl) rfl); (intro w' h'; with_reducible exact l3Form_any _ HR w'))
          | ((with_reducible refine wpR_step (fun K hK => ?_)); go_simp; (first | (refine ⟨_, fun _ _ => rfl, hK _ ?_⟩) | (refine hK _ ?_)); clear hK K))
        refine wpR_nil ?_
        intro B6 wt hB6 hCt h6
        have hb0 := hCt.2
        replace hbel := hbel.trans (hb0.mono hbel.size)
        replace h1 := row_keep hb0 h1
        replace h2 := row_keep hb0 h2
        replace hb := row_keep hb0 hb
        replace hg := row_keep hb0 hg
        clear hb0 hCt
        go_wp2_with first
          | (with_reducible refine wpList_storeWN rfl _ _ _ rfl _ rfl rfl h6 size24r hbel (by have := hbel.size; omega) ?_; intro w1 g3 ho g4; replace h1 := (ho _ (by omega)).trans h1; replace h2 := (ho _ (by omega)).trans h2; replace hb := (ho _ (by omega)).trans hb; replace hg := (ho _ (by omega)).trans hg; clear h6 hbel; have h6 := g3; have hbel := g4; clear g3 g4 ho)
        refine QN.intro ?_
        go_wp2_with first
          | (with_reducible refine wpList_loadW rfl _ _ rfl _ rfl h6 agg24r size24r ?_)
          | (with_reducible refine wpList_loadW rfl _ _ rfl _ rfl hb agg24r size24r ?_)
          | (go_at_call 75; (with_reducible refine (l2Before_any _ _ _).mono ?_); rw [HD.out]; rintro e w1 ⟨rfl, hb1⟩; replace hbel := hbel.trans (hb1.mono hbel.size); replace h1 := row_keep hb1 h1; replace h2 := row_keep hb1 h2; (try replace hb := row_keep hb1 hb); (try replace hg := row_keep hb1 hg); (try replace h5 := row_keep hb1 h5); (try replace h6 := row_keep hb1 h6); clear hb1)
          | (with_reducible refine wpList_storeWN rfl _ _ _ rfl _ rfl rfl hb size24r hbel (by omega) ?_; intro w1 g3 ho g4; replace h1 := (ho _ (by omega)).trans h1; replace h2 := (ho _ (by omega)).trans h2; replace hg := (ho _ (by omega)).trans hg; clear hb hbel; have hb := g3; have hbel := g4; clear g3 g4 ho)
        go_roundw
        case rel => exact ⟨n + 1, by omega, by go_num, h1, h2, by rw [HS.out]; exact hb, hg, hbel⟩
        case measure => simp [intOf]; omega
    · obtain rfl : n = 120 := by omega
      go_wp2_with first
        | (with_reducible refine wpList_loadW rfl _ _ rfl _ rfl hb agg24r size24r ?_)
        | (with_reducible refine wpList_storeW rfl _ _ _ rfl _ rfl rfl h2 size24r ?_)
      exact bodyPost_ret_by (results_cellA rfl _ _ _ _ _ _ _ rfl (setRow_heap _ _ _ _ _ _ h2) agg24r size24r) rfl ⟨rfl, below_setRow2 hbel (by omega) _⟩
theorem specFf_any (f : Nat → Int) (w : World) : Calls Try.prog 38 #[.agg (arr 24 f)] w fun e w' => e = .returned (.tuple #[.agg (arr 24 (ffR f).1), .bool (ffR f).2]) ∧ Below w.heap.size w w' := by
  have h1 : ((w.alloc (.cells (arr 24 f) 33)).alloc (.cells (arr 24 fun _ => 0) 33)).heap[w.heap.size]? = some (.cells (arr 24 f) 33 (0, 0)) := by rw [heap_old (by simp), heap_new rfl]
  have h2 : ((w.alloc (.cells (arr 24 f) 33)).alloc (.cells (arr 24 fun _ => 0) 33)).heap[w.heap.size + 1]? = some (.cells (arr 24 fun _ => 0) 33 (0, 0)) := heap_new (by simp)
  have hbel : Below w.heap.size w ((w.alloc (.cells (arr 24 f) 33)).alloc (.cells (arr 24 fun _ => 0) 33)) := ((Below.refl _ _).alloc (by simp) _).alloc (by simp) _
  unfold ffR
  cases hf : rackB f with
  | false =>
    have HF : Hid _ := hf
    simp only [Bool.false_eq_true, if_false]
    clear hf
    go_enter Try.func38, Try.ntmps38
    go_wp2_with first
      | (with_reducible refine wpList_allocA rfl 33 rfl 24 zero24r ?_; (try simp only [size_al]))
      | (with_reducible refine wpList_loadW rfl _ _ rfl _ rfl h1 agg24r size24r ?_)
      | (with_reducible refine wpList_build0 rfl 33 rfl 24 zbuild24 ?_)
      | (with_reducible refine wpList_storeW rfl _ _ _ rfl _ rfl rfl h2 size24r ?_)
      | (go_at_call 44; (with_reducible refine (l2Rack_any _ _).mono ?_); rw [HF.out]; rintro e w1 ⟨rfl, hb1⟩; replace hbel := hbel.trans (hb1.mono hbel.size); replace h1 := row_keep hb1 h1; replace h2 := row_keep hb1 h2; clear hb1)
    exact bodyPost_ret_by (results_ct _ _ _ _ _ _ _ rfl rfl (setRow_heap _ _ _ _ _ _ h2) agg24r size24r) rfl ⟨rfl, below_setRow2 hbel (by omega) _⟩
  | true =>
    have HF : Hid _ := hf
    simp only [if_true]
    go_enter Try.func38, Try.ntmps38
    go_wp2_with first
      | (with_reducible refine wpList_allocA rfl 33 rfl 24 zero24r ?_; (try simp only [size_al]))
      | (with_reducible refine wpList_loadW rfl _ _ rfl _ rfl h1 agg24r size24r ?_)
      | (with_reducible refine wpList_storeW rfl _ _ _ rfl _ rfl rfl h2 size24r ?_)
      | (go_at_call 44; (with_reducible refine (l2Rack_any _ _).mono ?_); rw [HF.out]; rintro e w1 ⟨rfl, hb1⟩; replace hbel := hbel.trans (hb1.mono hbel.size); replace h1 := row_keep hb1 h1; replace h2 := row_keep hb1 h2; clear hb1)
      | (go_at_call 58; (with_reducible refine (l4First_any f HF.out _).mono ?_); rintro e w1 ⟨rfl, hb1⟩; replace hbel := hbel.trans (hb1.mono hbel.size); replace h1 := row_keep hb1 h1; replace h2 := row_keep hb1 h2; clear hb1)
    exact bodyPost_ret_by (results_ct _ _ _ _ _ _ _ rfl rfl (setRow_heap _ _ _ _ _ _ h2) agg24r size24r) rfl ⟨rfl, below_setRow2 hbel (by omega) _⟩
theorem implFf_any (f : Nat → Int) (w : World) : Calls Try.prog 39 #[.agg (arr 24 f)] w fun e w' => e = .returned (.tuple #[.agg (arr 24 (ffR f).1), .bool (ffR f).2]) ∧ Below w.heap.size w w' := by
  have h1 : ((w.alloc (.cells (arr 24 f) 33)).alloc (.cells (arr 24 fun _ => 0) 33)).heap[w.heap.size]? = some (.cells (arr 24 f) 33 (0, 0)) := by rw [heap_old (by simp), heap_new rfl]
  have h2 : ((w.alloc (.cells (arr 24 f) 33)).alloc (.cells (arr 24 fun _ => 0) 33)).heap[w.heap.size + 1]? = some (.cells (arr 24 fun _ => 0) 33 (0, 0)) := heap_new (by simp)
  have hbel : Below w.heap.size w ((w.alloc (.cells (arr 24 f) 33)).alloc (.cells (arr 24 fun _ => 0) 33)) := ((Below.refl _ _).alloc (by simp) _).alloc (by simp) _
  unfold ffR
  cases hf : rackB f with
  | false =>
    have HF : Hid _ := hf
    simp only [Bool.false_eq_true, if_false]
    clear hf
    go_enter Try.func39, Try.ntmps39
    go_wp2_with first
      | (with_reducible refine wpList_allocA rfl 33 rfl 24 zero24r ?_; (try simp only [size_al]))
      | (with_reducible refine wpList_loadW rfl _ _ rfl _ rfl h1 agg24r size24r ?_)
      | (with_reducible refine wpList_build0 rfl 33 rfl 24 zbuild24 ?_)
      | (with_reducible refine wpList_storeW rfl _ _ _ rfl _ rfl rfl h2 size24r ?_)
      | (go_at_call 47; (with_reducible refine (IsRack_any _ _).mono ?_); rw [HF.out]; rintro e w1 ⟨rfl, hb1⟩; replace hbel := hbel.trans (hb1.mono hbel.size); replace h1 := row_keep hb1 h1; replace h2 := row_keep hb1 h2; clear hb1)
    exact bodyPost_ret_by (results_ct _ _ _ _ _ _ _ rfl rfl (setRow_heap _ _ _ _ _ _ h2) agg24r size24r) rfl ⟨rfl, below_setRow2 hbel (by omega) _⟩
  | true =>
    have HF : Hid _ := hf
    simp only [if_true]
    go_enter Try.func39, Try.ntmps39
    go_wp2_with first
      | (with_reducible refine wpList_allocA rfl 33 rfl 24 zero24r ?_; (try simp only [size_al]))
      | (with_reducible refine wpList_loadW rfl _ _ rfl _ rfl h1 agg24r size24r ?_)
      | (with_reducible refine wpList_storeW rfl _ _ _ rfl _ rfl rfl h2 size24r ?_)
      | (go_at_call 47; (with_reducible refine (IsRack_any _ _).mono ?_); rw [HF.out]; rintro e w1 ⟨rfl, hb1⟩; replace hbel := hbel.trans (hb1.mono hbel.size); replace h1 := row_keep hb1 h1; replace h2 := row_keep hb1 h2; clear hb1)
      | (go_at_call 57; (with_reducible refine (firstForm_any f HF.out _).mono ?_); rintro e w1 ⟨rfl, hb1⟩; replace hbel := hbel.trans (hb1.mono hbel.size); replace h1 := row_keep hb1 h1; replace h2 := row_keep hb1 h2; clear hb1)
    exact bodyPost_ret_by (results_ct _ _ _ _ _ _ _ rfl rfl (setRow_heap _ _ _ _ _ _ h2) agg24r size24r) rfl ⟨rfl, below_setRow2 hbel (by omega) _⟩
set_option linter.unusedVariables false in
theorem FnExactFirstForm_walk (x0 : Nat → Int) (hx0 : ∀ j, I64 (x0 j)) (w : World) : Calls Try.prog 13 #[.agg (arr 24 x0)] w fun e w' => e = .returned (.bool true) ∧ Below w.heap.size w w' := by
  have hr0 : (w.alloc (.cells (arr 24 x0) 32)).heap[w.heap.size]? = some (.cells (arr 24 x0) 32 (0, 0)) := by rw [heap_new (by simp)]
  have hbel : Below w.heap.size w (w.alloc (.cells (arr 24 x0) 32)) := ((Below.refl _ _).alloc (by simp) _)
  have tok_hA0 : True := trivial
  have tok_hB0 : True := trivial
  go_enter Try.func13, Try.ntmps13
  go_wp2_with first
    | (with_reducible refine wpList_loadW rfl _ _ rfl _ rfl hr0 agg24l size24l ?_)
    | (go_at_call 25; (with_reducible refine (toRack_any _ _).mono ?_); (rintro e w1 ⟨rfl, hb1⟩; replace hbel := hbel.trans (hb1.mono hbel.size); replace hr0 := row_keep hb1 hr0; (try replace hA0 := row_keep hb1 hA0); (try replace hB0 := row_keep hb1 hB0); clear hb1))
    | (go_at_call 38; (with_reducible refine (specFf_any _ _).mono ?_); (rintro e w1 ⟨rfl, hb1⟩; replace hbel := hbel.trans (hb1.mono hbel.size); replace hr0 := row_keep hb1 hr0; (try replace hA0 := row_keep hb1 hA0); (try replace hB0 := row_keep hb1 hB0); clear hb1))
    | (go_at_call 39; (with_reducible refine (implFf_any _ _).mono ?_); (rintro e w1 ⟨rfl, hb1⟩; replace hbel := hbel.trans (hb1.mono hbel.size); replace hr0 := row_keep hb1 hr0; (try replace hA0 := row_keep hb1 hA0); (try replace hB0 := row_keep hb1 hB0); clear hb1))
    | (with_reducible refine wpList_allocA rfl 33 rfl 24 zero24r ?_; (try simp only [size_al]))
    | (go_at_call 27; (with_reducible refine (eqRack_same _ _).mono ?_); (rintro e w1 ⟨rfl, hb1⟩; replace hbel := hbel.trans (hb1.mono hbel.size); replace hr0 := row_keep hb1 hr0; (try replace hA0 := row_keep hb1 hA0); (try replace hB0 := row_keep hb1 hB0); clear hb1))
    | (have _t := tok_hA0; with_reducible refine wpList_storeN rfl _ _ _ rfl rfl rfl size24r ?_; intro w1 hA0 hb1; replace hbel := hbel.trans (hb1.mono hbel.size); replace hr0 := row_keep hb1 hr0; clear hb1 _t tok_hA0)
    | (with_reducible refine wpList_loadWG rfl _ _ rfl _ rfl hA0 agg24r size24r ?_)
    | (have _t := tok_hB0; with_reducible refine wpList_storeN rfl _ _ _ rfl rfl rfl size24r ?_; intro w1 hB0 hb1; replace hbel := hbel.trans (hb1.mono hbel.size); replace hr0 := row_keep hb1 hr0; replace hA0 := row_keep hb1 hA0; clear hb1 _t tok_hB0)
    | (with_reducible refine wpList_loadWG rfl _ _ rfl _ rfl hB0 agg24r size24r ?_)
  go_ret
  exact ⟨rfl, hbel⟩
end Go.Proofs.Ytljajgaicdffkaa
