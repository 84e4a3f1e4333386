/- A part (number 8) of the proof of the law FnRackNames: what each of its sections proves stands in the section's own first remark. No conditions beside those that each theorem states. -/
import Derived.Test.YtlbgmkengkgnfaaGreatMg6
import Derived.Test.YtlbgmkengkgnfaaGreatMg7
import Derived.Test.YtlbgmkengkgnfaaGreatMg2
section
/- The names behind: the reference's. -/
namespace Go.Proofs.YtlbgmkengkgnfaaGreat
set_option linter.unusedSimpArgs false
set_option linter.unusedVariables false
set_option maxRecDepth 20000
open Go.RowKit
/-- Behind n names. -/
def bN (p : Nat → Int) : Nat → (Nat → Int)
  | 0 => fun _ => 0
  | n + 1 => upd (bN p n) (p n).toNat n
noncomputable def bnR (p : Nat → Int) : (Nat → Int) × Bool := if (p 0 == 0 && pB p 6) = true then (bN p 6, true) else (fun _ => 0, false)
theorem zeroO : ((Tryz.prog.info? 28).bind (·.zero)).map (·.cells) = some (arr 6 fun _ => 0) := by kernel_rfl
theorem builtO : Tryz.prog.built 28 [] = some (arr 6 fun _ => 0) := by kernel_rfl
theorem specBack_any (p : Nat → Int) (w : World) : Calls Tryz.prog 11 #[.agg (arr 6 p)] w fun e w' => e = .returned (.tuple #[.agg (arr 6 (bnR p).1), .bool (bnR p).2]) ∧ Below w.heap.size w w' := by
  have h1 : ((w.alloc (.cells (arr 6 p) 28)).alloc (.cells (arr 6 fun _ => 0) 28)).heap[w.heap.size]? = some (.cells (arr 6 p) 28 (0, 0)) := by rw [heap_old (by simp), heap_new rfl]
  have h2 : ((w.alloc (.cells (arr 6 p) 28)).alloc (.cells (arr 6 fun _ => 0) 28)).heap[w.heap.size + 1]? = some (.cells (arr 6 fun _ => 0) 28 (0, 0)) := heap_new (by simp)
  have hbel : Below w.heap.size w ((w.alloc (.cells (arr 6 p) 28)).alloc (.cells (arr 6 fun _ => 0) 28)) := ((Below.refl _ _).alloc (by simp) _).alloc (by simp) _
  have tok_h4 : True := trivial
  have tok_r : True := trivial
  cases hf : (p 0 == 0) && pB p 6 with
  | false =>
    rw [show bnR p = (fun _ => 0, false) from if_neg (by simp [hf])]
    have HF : Hid _ := hf
    clear hf
    go_enter Tryz.func11, Tryz.ntmps11
    go_wp2_with first
      | (have _t := tok_r; (with_reducible refine wpList_allocA rfl 28 rfl 6 zeroO ?_; (try simp only [size_al])); clear _t tok_r)
      | (with_reducible refine wpList_build0 rfl 28 rfl 6 builtO ?_)
      | (have _t := tok_h4; with_reducible refine wpList_allocN rfl 28 rfl 6 zeroO ?_; intro Bh4 w1 hBh4 h4 hb1; have hWh4 := Nat.le_trans hbel.size hBh4; have hLh1h4 := Nat.lt_of_lt_of_le (row_lt h1) hBh4; have hLh2h4 := Nat.lt_of_lt_of_le (row_lt h2) hBh4; replace hbel := hbel.trans (hb1.mono hbel.size); replace h1 := row_keep hb1 h1; replace h2 := row_keep hb1 h2; clear hb1 _t tok_h4)
      | (with_reducible refine wpList_storeWN rfl _ _ _ rfl _ rfl rfl h4 sizeO hbel hWh4 ?_; intro w1 g3 ho g4; replace h1 := (ho _ (by omega)).trans h1; replace h2 := (ho _ (by omega)).trans h2; clear h4 hbel; have h4 := g3; have hbel := g4; clear g3 g4 ho)
      | (with_reducible refine wpList_loadW rfl _ _ rfl _ rfl h1 aggO sizeO ?_)
      | (with_reducible refine wpList_loadW rfl _ _ rfl _ rfl h4 aggO sizeO ?_)
      | (go_at_call 30; (with_reducible refine (l4Names_any p _).mono ?_); rw [HF.out]; rintro e w1 ⟨rfl, hb1⟩; replace hbel := hbel.trans (hb1.mono hbel.size); replace h1 := row_keep hb1 h1; replace h2 := row_keep hb1 h2; replace h4 := row_keep hb1 h4; clear hb1)
      | (with_reducible refine wpList_storeW rfl _ _ _ rfl _ rfl rfl h2 sizeO ?_)
    exact bodyPost_ret_by (results_ct _ _ _ _ _ _ _ rfl rfl (setRow_heap _ _ _ _ _ _ h2) aggO sizeO) rfl ⟨rfl, below_setRow2 hbel (by omega) _⟩
  | true =>
    rw [show bnR p = (bN p 6, true) from if_pos hf]
    have HF : Hid _ := hf
    have HB : Hid _ := (pB_iff 6).1 (by rw [Bool.and_eq_true] at hf; exact hf.2)
    clear hf
    go_enter Tryz.func11, Tryz.ntmps11
    go_wp2_with first
      | (have _t := tok_r; (with_reducible refine wpList_allocA rfl 28 rfl 6 zeroO ?_; (try simp only [size_al])); clear _t tok_r)
      | (with_reducible refine wpList_build0 rfl 28 rfl 6 builtO ?_)
      | (have _t := tok_h4; with_reducible refine wpList_allocN rfl 28 rfl 6 zeroO ?_; intro Bh4 w1 hBh4 h4 hb1; have hWh4 := Nat.le_trans hbel.size hBh4; have hLh1h4 := Nat.lt_of_lt_of_le (row_lt h1) hBh4; have hLh2h4 := Nat.lt_of_lt_of_le (row_lt h2) hBh4; replace hbel := hbel.trans (hb1.mono hbel.size); replace h1 := row_keep hb1 h1; replace h2 := row_keep hb1 h2; clear hb1 _t tok_h4)
      | (with_reducible refine wpList_storeWN rfl _ _ _ rfl _ rfl rfl h4 sizeO hbel hWh4 ?_; intro w1 g3 ho g4; replace h1 := (ho _ (by omega)).trans h1; replace h2 := (ho _ (by omega)).trans h2; clear h4 hbel; have h4 := g3; have hbel := g4; clear g3 g4 ho)
      | (with_reducible refine wpList_loadW rfl _ _ rfl _ rfl h1 aggO sizeO ?_)
      | (go_at_call 30; (with_reducible refine (l4Names_any p _).mono ?_); rw [HF.out]; rintro e w1 ⟨rfl, hb1⟩; replace hbel := hbel.trans (hb1.mono hbel.size); replace h1 := row_keep hb1 h1; replace h2 := row_keep hb1 h2; replace h4 := row_keep hb1 h4; clear hb1)
    go_loopw [5] (fun i wr => ∃ n : Nat, n ≤ 6 ∧ i = .int .i64 n ∧ wr.heap[w.heap.size]? = some (.cells (arr 6 p) 28 (0, 0)) ∧ wr.heap[w.heap.size + 1]? = some (.cells (arr 6 fun _ => 0) 28 (0, 0)) ∧ wr.heap[Bh4]? = some (.cells (arr 6 (bN p n)) 28 (0, 0)) ∧ Below w.heap.size w wr) (fun i _ => 6 - (intOf i).toNat)
    case atStart => exact ⟨0, by omega, rfl, h1, h2, h4, hbel⟩
    case round =>
      clear h1 h2 h4 hbel
      obtain ⟨n, hn, rfl, h1, h2, h4, hbel⟩ := hrel
      by_cases hlt : n < 6
      · have hlt' : (n : Int) < 6 := by omega
        obtain ⟨⟨pa, pb⟩, _⟩ := HB.out n hlt
        obtain ⟨c, hc⟩ : ∃ c : Nat, p n = c := ⟨(p n).toNat, by omega⟩
        have hc6 : c < 6 := by omega
        have hc6' : (c : Int) < 6 := by omega
        have HC : Hid _ := hc
        have HS : Hid (bN p (n + 1) = upd (bN p n) c n) := by show bN p (n + 1) = _; rw [bN, hc, Int.toNat_natCast]
        clear pa pb hc
        go_wp2_with first
          | ((with_reducible refine wpList_loadI rfl _ _ rfl _ _ rfl h1 aggI undI (by omega) ?_); rw [HC.out])
          | (with_reducible refine wpList_storePI rfl 3 _ _ rfl _ _ rfl rfl h4 size1 (by omega) hbel (by omega) ?_; intro w1 g3 ho g4; replace h1 := (ho _ (by omega)).trans h1; replace h2 := (ho _ (by omega)).trans h2; clear h4 hbel; have h4 := g3; have hbel := g4; clear g3 g4 ho)
        go_roundw
        case rel => exact ⟨n + 1, by omega, by go_num, h1, h2, by rw [HS.out]; exact h4, hbel⟩
        case measure => simp [intOf]; omega
      · obtain rfl : n = 6 := by omega
        go_wp2_with first
          | (with_reducible refine wpList_loadW rfl _ _ rfl _ rfl h4 aggO sizeO ?_)
          | (with_reducible refine wpList_storeW rfl _ _ _ rfl _ rfl rfl h2 sizeO ?_)
        exact bodyPost_ret_by (results_ct _ _ _ _ _ _ _ rfl rfl (setRow_heap _ _ _ _ _ _ h2) aggO sizeO) rfl ⟨rfl, below_setRow2 hbel (by omega) _⟩
end Go.Proofs.YtlbgmkengkgnfaaGreat
end

section
/- The names behind names: the reference's. -/
namespace Go.Proofs.YtlbgmkengkgnfaaGreat
set_option linter.unusedSimpArgs false
set_option linter.unusedVariables false
set_option maxRecDepth 20000
open Go.RowKit
/-- Behind n names. -/
def nN (p g : Nat → Int) (n : Nat) : Nat → Int := fun j => if j < n then g (p j).toNat else 0
theorem nN_step (p g : Nat → Int) {n c : Nat} (hc : p n = c) : arr 6 (upd (nN p g n) n (g c)) = arr 6 (nN p g (n + 1)) := by
  refine arr_congr fun j _ => ?_
  unfold upd nN
  by_cases h : j = n
  · rw [if_pos h, if_pos (by omega), h, hc, Int.toNat_natCast]
  · rw [if_neg h]
    by_cases h2 : j < n
    · rw [if_pos h2, if_pos (by omega)]
    · rw [if_neg h2, if_neg (by omega)]
theorem nN_start (p g : Nat → Int) : arr 6 (fun _ => (0 : Int)) = arr 6 (nN p g 0) := arr_congr fun j _ => by
  unfold nN
  rw [if_neg (by omega)]
noncomputable def nbR (p g : Nat → Int) : (Nat → Int) × Bool := if (p 0 == 0 && pB p 6) = true ∧ (g 0 == 0 && pB g 6) = true then (nN p g 6, true) else (fun _ => 0, false)
theorem specNb_any (p g : Nat → Int) (w : World) : Calls Tryz.prog 14 #[.agg (arr 6 p), .agg (arr 6 g)] w fun e w' => e = .returned (.tuple #[.agg (arr 6 (nbR p g).1), .bool (nbR p g).2]) ∧ Below w.heap.size w w' := by
  have h1 : (((w.alloc (.cells (arr 6 p) 28)).alloc (.cells (arr 6 g) 28)).alloc (.cells (arr 6 fun _ => 0) 28)).heap[w.heap.size]? = some (.cells (arr 6 p) 28 (0, 0)) := by rw [heap_old (by simp <;> omega), heap_old (by simp), heap_new rfl]
  have h3 : (((w.alloc (.cells (arr 6 p) 28)).alloc (.cells (arr 6 g) 28)).alloc (.cells (arr 6 fun _ => 0) 28)).heap[w.heap.size + 1]? = some (.cells (arr 6 g) 28 (0, 0)) := by rw [heap_old (by simp), heap_new (by simp)]
  have h2 : (((w.alloc (.cells (arr 6 p) 28)).alloc (.cells (arr 6 g) 28)).alloc (.cells (arr 6 fun _ => 0) 28)).heap[w.heap.size + 1 + 1]? = some (.cells (arr 6 fun _ => 0) 28 (0, 0)) := heap_new (by simp)
  have hbel : Below w.heap.size w (((w.alloc (.cells (arr 6 p) 28)).alloc (.cells (arr 6 g) 28)).alloc (.cells (arr 6 fun _ => 0) 28)) := (((Below.refl _ _).alloc (by simp) _).alloc (by simp) _).alloc (by simp <;> omega) _
  have tok_h4 : True := trivial
  have tok_r : True := trivial
  cases hf : (p 0 == 0) && pB p 6 with
  | false =>
    rw [show nbR p g = (fun _ => 0, false) from if_neg (by simp [hf])]
    have HG : Hid (1 = 1) := rfl
    have HF : Hid _ := hf
    clear hf
    go_enter Tryz.func14, Tryz.ntmps14
    go_wp2_with first
      | (have _t := tok_r; (with_reducible refine wpList_allocA rfl 28 rfl 6 zeroO ?_; (try simp only [size_al])); clear _t tok_r)
      | (with_reducible refine wpList_build0 rfl 28 rfl 6 builtO ?_)
      | (have _t := tok_h4; with_reducible refine wpList_allocN rfl 28 rfl 6 zeroO ?_; intro Bh4 w1 hBh4 h4 hb1; have hWh4 := Nat.le_trans hbel.size hBh4; have hLh1h4 := Nat.lt_of_lt_of_le (row_lt h1) hBh4; have hLh2h4 := Nat.lt_of_lt_of_le (row_lt h2) hBh4; have hLh3h4 := Nat.lt_of_lt_of_le (row_lt h3) hBh4; replace hbel := hbel.trans (hb1.mono hbel.size); replace h1 := row_keep hb1 h1; replace h2 := row_keep hb1 h2; replace h3 := row_keep hb1 h3; clear hb1 _t tok_h4)
      | (with_reducible refine wpList_storeWN rfl _ _ _ rfl _ rfl rfl h4 sizeO hbel hWh4 ?_; intro w1 g3 ho g4; replace h1 := (ho _ (by omega)).trans h1; replace h2 := (ho _ (by omega)).trans h2; replace h3 := (ho _ (by omega)).trans h3; clear h4 hbel; have h4 := g3; have hbel := g4; clear g3 g4 ho)
      | (with_reducible refine wpList_loadW rfl _ _ rfl _ rfl h1 aggO sizeO ?_)
      | (with_reducible refine wpList_loadW rfl _ _ rfl _ rfl h3 aggO sizeO ?_)
      | (with_reducible refine wpList_loadWG rfl _ _ rfl _ rfl h3 aggO sizeO ?_)
      | (with_reducible refine wpList_loadW rfl _ _ rfl _ rfl h4 aggO sizeO ?_)
      | (go_at_call 30; (with_reducible refine (l4Names_any p _).mono ?_); rw [HF.out]; rintro e w1 ⟨rfl, hb1⟩; replace hbel := hbel.trans (hb1.mono hbel.size); replace h1 := row_keep hb1 h1; replace h2 := row_keep hb1 h2; replace h3 := row_keep hb1 h3; replace h4 := row_keep hb1 h4; clear hb1)
      | (go_at_call 30; (with_reducible refine (l4Names_any g _).mono ?_); rw [HG.out]; rintro e w1 ⟨rfl, hb1⟩; replace hbel := hbel.trans (hb1.mono hbel.size); replace h1 := row_keep hb1 h1; replace h2 := row_keep hb1 h2; replace h3 := row_keep hb1 h3; replace h4 := row_keep hb1 h4; clear hb1)
      | (with_reducible refine wpList_storeW rfl _ _ _ rfl _ rfl rfl h2 sizeO ?_)
    exact bodyPost_ret_by (results_ct _ _ _ _ _ _ _ rfl rfl (setRow_heap _ _ _ _ _ _ h2) aggO sizeO) rfl ⟨rfl, below_setRow2 hbel (by omega) _⟩
  | true =>
    cases hg : (g 0 == 0) && pB g 6 with
    | false =>
      rw [show nbR p g = (fun _ => 0, false) from if_neg (by simp [hg])]
      have HG : Hid _ := hg
      clear hg
      have HF : Hid _ := hf
      clear hf
      go_enter Tryz.func14, Tryz.ntmps14
      go_wp2_with first
        | (have _t := tok_r; (with_reducible refine wpList_allocA rfl 28 rfl 6 zeroO ?_; (try simp only [size_al])); clear _t tok_r)
        | (with_reducible refine wpList_build0 rfl 28 rfl 6 builtO ?_)
        | (have _t := tok_h4; with_reducible refine wpList_allocN rfl 28 rfl 6 zeroO ?_; intro Bh4 w1 hBh4 h4 hb1; have hWh4 := Nat.le_trans hbel.size hBh4; have hLh1h4 := Nat.lt_of_lt_of_le (row_lt h1) hBh4; have hLh2h4 := Nat.lt_of_lt_of_le (row_lt h2) hBh4; have hLh3h4 := Nat.lt_of_lt_of_le (row_lt h3) hBh4; replace hbel := hbel.trans (hb1.mono hbel.size); replace h1 := row_keep hb1 h1; replace h2 := row_keep hb1 h2; replace h3 := row_keep hb1 h3; clear hb1 _t tok_h4)
        | (with_reducible refine wpList_storeWN rfl _ _ _ rfl _ rfl rfl h4 sizeO hbel hWh4 ?_; intro w1 g3 ho g4; replace h1 := (ho _ (by omega)).trans h1; replace h2 := (ho _ (by omega)).trans h2; replace h3 := (ho _ (by omega)).trans h3; clear h4 hbel; have h4 := g3; have hbel := g4; clear g3 g4 ho)
        | (with_reducible refine wpList_loadW rfl _ _ rfl _ rfl h1 aggO sizeO ?_)
        | (with_reducible refine wpList_loadW rfl _ _ rfl _ rfl h3 aggO sizeO ?_)
        | (with_reducible refine wpList_loadWG rfl _ _ rfl _ rfl h3 aggO sizeO ?_)
        | (with_reducible refine wpList_loadW rfl _ _ rfl _ rfl h4 aggO sizeO ?_)
        | (go_at_call 30; (with_reducible refine (l4Names_any p _).mono ?_); rw [HF.out]; rintro e w1 ⟨rfl, hb1⟩; replace hbel := hbel.trans (hb1.mono hbel.size); replace h1 := row_keep hb1 h1; replace h2 := row_keep hb1 h2; replace h3 := row_keep hb1 h3; replace h4 := row_keep hb1 h4; clear hb1)
        | (go_at_call 30; (with_reducible refine (l4Names_any g _).mono ?_); rw [HG.out]; rintro e w1 ⟨rfl, hb1⟩; replace hbel := hbel.trans (hb1.mono hbel.size); replace h1 := row_keep hb1 h1; replace h2 := row_keep hb1 h2; replace h3 := row_keep hb1 h3; replace h4 := row_keep hb1 h4; clear hb1)
        | (with_reducible refine wpList_storeW rfl _ _ _ rfl _ rfl rfl h2 sizeO ?_)
      exact bodyPost_ret_by (results_ct _ _ _ _ _ _ _ rfl rfl (setRow_heap _ _ _ _ _ _ h2) aggO sizeO) rfl ⟨rfl, below_setRow2 hbel (by omega) _⟩
    | true =>
      rw [show nbR p g = (nN p g 6, true) from if_pos ⟨hf, hg⟩]
      have HG : Hid _ := hg
      clear hg
      have HF : Hid _ := hf
      have HB : Hid _ := (pB_iff 6).1 (by rw [Bool.and_eq_true] at hf; exact hf.2)
      clear hf
      go_enter Tryz.func14, Tryz.ntmps14
      go_wp2_with first
        | (have _t := tok_r; (with_reducible refine wpList_allocA rfl 28 rfl 6 zeroO ?_; (try simp only [size_al])); clear _t tok_r)
        | (with_reducible refine wpList_build0 rfl 28 rfl 6 builtO ?_)
        | (have _t := tok_h4; with_reducible refine wpList_allocN rfl 28 rfl 6 zeroO ?_; intro Bh4 w1 hBh4 h4 hb1; have hWh4 := Nat.le_trans hbel.size hBh4; have hLh1h4 := Nat.lt_of_lt_of_le (row_lt h1) hBh4; have hLh2h4 := Nat.lt_of_lt_of_le (row_lt h2) hBh4; have hLh3h4 := Nat.lt_of_lt_of_le (row_lt h3) hBh4; replace hbel := hbel.trans (hb1.mono hbel.size); replace h1 := row_keep hb1 h1; replace h2 := row_keep hb1 h2; replace h3 := row_keep hb1 h3; clear hb1 _t tok_h4)
        | (with_reducible refine wpList_storeWN rfl _ _ _ rfl _ rfl rfl h4 sizeO hbel hWh4 ?_; intro w1 g3 ho g4; replace h1 := (ho _ (by omega)).trans h1; replace h2 := (ho _ (by omega)).trans h2; replace h3 := (ho _ (by omega)).trans h3; clear h4 hbel; have h4 := g3; have hbel := g4; clear g3 g4 ho)
        | (with_reducible refine wpList_loadW rfl _ _ rfl _ rfl h1 aggO sizeO ?_)
        | (with_reducible refine wpList_loadW rfl _ _ rfl _ rfl h3 aggO sizeO ?_)
        | (with_reducible refine wpList_loadWG rfl _ _ rfl _ rfl h3 aggO sizeO ?_)
        | (go_at_call 30; (with_reducible refine (l4Names_any p _).mono ?_); rw [HF.out]; rintro e w1 ⟨rfl, hb1⟩; replace hbel := hbel.trans (hb1.mono hbel.size); replace h1 := row_keep hb1 h1; replace h2 := row_keep hb1 h2; replace h3 := row_keep hb1 h3; replace h4 := row_keep hb1 h4; clear hb1)
        | (go_at_call 30; (with_reducible refine (l4Names_any g _).mono ?_); rw [HG.out]; rintro e w1 ⟨rfl, hb1⟩; replace hbel := hbel.trans (hb1.mono hbel.size); replace h1 := row_keep hb1 h1; replace h2 := row_keep hb1 h2; replace h3 := row_keep hb1 h3; replace h4 := row_keep hb1 h4; clear hb1)
      rw [nN_start p g] at h4
      go_loopw [7] (fun i wr => ∃ n : Nat, n ≤ 6 ∧ i = .int .i64 n ∧ wr.heap[w.heap.size]? = some (.cells (arr 6 p) 28 (0, 0)) ∧ wr.heap[w.heap.size + 1]? = some (.cells (arr 6 g) 28 (0, 0)) ∧ wr.heap[w.heap.size + 1 + 1]? = some (.cells (arr 6 fun _ => 0) 28 (0, 0)) ∧ wr.heap[Bh4]? = some (.cells (arr 6 (nN p g n)) 28 (0, 0)) ∧ Below w.heap.size w wr) (fun i _ => 6 - (intOf i).toNat)
      case atStart => exact ⟨0, by omega, rfl, h1, h3, h2, h4, hbel⟩
      case round =>
        clear h1 h2 h3 h4 hbel
        obtain ⟨n, hn, rfl, h1, h3, h2, h4, hbel⟩ := hrel
        by_cases hlt : n < 6
        · have hlt' : (n : Int) < 6 := by omega
          obtain ⟨⟨pa, pb⟩, _⟩ := HB.out n hlt
          obtain ⟨c, hc⟩ : ∃ c : Nat, p n = c := ⟨(p n).toNat, by omega⟩
          have hc6 : c < 6 := by omega
          have hc6' : (c : Int) < 6 := by omega
          have HC : Hid _ := hc
          clear pa pb hc
          go_wp2_with first
            | ((with_reducible refine wpList_loadI rfl _ _ rfl _ _ rfl h1 aggI undI (by omega) ?_); rw [HC.out])
            | (with_reducible refine wpList_loadI rfl _ _ rfl _ _ rfl h3 aggI undI (by omega) ?_)
            | (with_reducible refine wpList_storePI rfl 3 _ _ rfl _ _ rfl rfl h4 size1 (by omega) hbel (by omega) ?_; intro w1 g3 ho g4; replace h1 := (ho _ (by omega)).trans h1; replace h2 := (ho _ (by omega)).trans h2; replace h3 := (ho _ (by omega)).trans h3; clear h4 hbel; have h4 := g3; have hbel := g4; clear g3 g4 ho)
          rw [nN_step p g HC.out] at h4
          go_roundw
          case rel => exact ⟨n + 1, by omega, by go_num, h1, h3, h2, h4, hbel⟩
          case measure => simp [intOf]; omega
        · obtain rfl : n = 6 := by omega
          go_wp2_with first
            | (with_reducible refine wpList_loadW rfl _ _ rfl _ rfl h4 aggO sizeO ?_)
            | (with_reducible refine wpList_storeW rfl _ _ _ rfl _ rfl rfl h2 sizeO ?_)
          exact bodyPost_ret_by (results_ct _ _ _ _ _ _ _ rfl rfl (setRow_heap _ _ _ _ _ _ h2) aggO sizeO) rfl ⟨rfl, below_setRow2 hbel (by omega) _⟩
end Go.Proofs.YtlbgmkengkgnfaaGreat
end

section
/- FormOf: the law. -/
namespace Go.Proofs.YtlbgmkengkgnfaaGreat
set_option linter.unusedSimpArgs false
set_option linter.unusedVariables false
set_option maxRecDepth 20000
open Go.RowKit
noncomputable def foR (f : Nat → Int) : (Nat → Int) × Bool := if rackB f = true then (formF f, true) else (fun _ => 0, false)
theorem implFo_any (f : Nat → Int) (w : World) : Calls Tryz.prog 24 #[.agg (arr 24 f)] w fun e w' => e = .returned (.tuple #[.agg (arr 24 (foR f).1), .bool (foR f).2]) ∧ Below w.heap.size w w' := by
  have h1 : ((w.alloc (.cells (arr 24 f) 27)).alloc (.cells (arr 24 fun _ => 0) 27)).heap[w.heap.size]? = some (.cells (arr 24 f) 27 (0, 0)) := by rw [heap_old (by simp), heap_new rfl]
  have h2 : ((w.alloc (.cells (arr 24 f) 27)).alloc (.cells (arr 24 fun _ => 0) 27)).heap[w.heap.size + 1]? = some (.cells (arr 24 fun _ => 0) 27 (0, 0)) := heap_new (by simp)
  have hbel : Below w.heap.size w ((w.alloc (.cells (arr 24 f) 27)).alloc (.cells (arr 24 fun _ => 0) 27)) := ((Below.refl _ _).alloc (by simp) _).alloc (by simp) _
  cases hf : rackB f with
  | false =>
    rw [show foR f = (fun _ => 0, false) from if_neg (by simp [hf])]
    have HF : Hid _ := hf
    clear hf
    go_enter Tryz.func24, Tryz.ntmps24
    go_wp2_with first
      | (with_reducible refine wpList_allocA rfl 27 rfl 24 zero24r ?_; (try simp only [size_al]))
      | (with_reducible refine wpList_loadW rfl _ _ rfl _ rfl h1 agg24r size24r ?_)
      | (with_reducible refine wpList_build0 rfl 27 rfl 24 zbuild24 ?_)
      | (with_reducible refine wpList_storeW rfl _ _ _ rfl _ rfl rfl h2 size24r ?_)
      | (go_at_call 8; (with_reducible refine (IsRack_any f _).mono ?_); rw [HF.out]; rintro e w1 ⟨rfl, hb1⟩; replace hbel := hbel.trans (hb1.mono hbel.size); replace h1 := row_keep hb1 h1; replace h2 := row_keep hb1 h2; clear hb1)
      | (go_at_call 41; (with_reducible refine (formOf_any f HF.out _).mono ?_); rintro e w1 ⟨rfl, hb1⟩; replace hbel := hbel.trans (hb1.mono hbel.size); replace h1 := row_keep hb1 h1; replace h2 := row_keep hb1 h2; clear hb1)
    exact bodyPost_ret_by (results_ct _ _ _ _ _ _ _ rfl rfl (setRow_heap _ _ _ _ _ _ h2) agg24r size24r) rfl ⟨rfl, below_setRow2 hbel (by omega) _⟩
  | true =>
    rw [show foR f = (formF f, true) from if_pos hf]
    have HF : Hid _ := hf
    clear hf
    go_enter Tryz.func24, Tryz.ntmps24
    go_wp2_with first
      | (with_reducible refine wpList_allocA rfl 27 rfl 24 zero24r ?_; (try simp only [size_al]))
      | (with_reducible refine wpList_loadW rfl _ _ rfl _ rfl h1 agg24r size24r ?_)
      | (with_reducible refine wpList_build0 rfl 27 rfl 24 zbuild24 ?_)
      | (with_reducible refine wpList_storeW rfl _ _ _ rfl _ rfl rfl h2 size24r ?_)
      | (go_at_call 8; (with_reducible refine (IsRack_any f _).mono ?_); rw [HF.out]; rintro e w1 ⟨rfl, hb1⟩; replace hbel := hbel.trans (hb1.mono hbel.size); replace h1 := row_keep hb1 h1; replace h2 := row_keep hb1 h2; clear hb1)
      | (go_at_call 41; (with_reducible refine (formOf_any f HF.out _).mono ?_); rintro e w1 ⟨rfl, hb1⟩; replace hbel := hbel.trans (hb1.mono hbel.size); replace h1 := row_keep hb1 h1; replace h2 := row_keep hb1 h2; clear hb1)
    exact bodyPost_ret_by (results_ct _ _ _ _ _ _ _ rfl rfl (setRow_heap _ _ _ _ _ _ h2) agg24r size24r) rfl ⟨rfl, below_setRow2 hbel (by omega) _⟩
end Go.Proofs.YtlbgmkengkgnfaaGreat
end
