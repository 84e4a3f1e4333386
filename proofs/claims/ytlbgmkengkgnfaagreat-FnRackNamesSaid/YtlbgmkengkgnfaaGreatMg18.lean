/- A part (number 18) of the proof of the law FnRackNames: what each of its sections proves stands in the section's own first remark. No conditions beside those that each theorem states. -/
import Derived.Laws.Cover3
import Derived.Lib.LazyBuf
import Derived.Test.YtlbgmkengkgnfaaGreatMg11
import Derived.Test.YtlbgmkengkgnfaaGreatMg15
import Derived.Test.YtlbgmkengkgnfaaGreatMg6
import Derived.Test.YtlbgmkengkgnfaaGreatMg7
import Derived.Test.YtlbgmkengkgnfaaGreatMg4
import Derived.Test.YtlbgmkengkgnfaaGreatMg2
import Derived.Laws.Slices
section
/- The program's list of all renamings. -/
namespace Go.Proofs.YtlbgmkengkgnfaaGreat
set_option linter.unusedSimpArgs false
set_option linter.unusedVariables false
set_option maxRecDepth 20000
open Go.RowKit
theorem contains_any {B len cap n : Nat} {f : Nat → Int} {T : TypeId} {fr : Nat × Nat} (v : Int) (w : World) (hg : w.heap[B]? = some (.cells (arr n f) T fr)) (hle : len ≤ n) (hm : len ≤ 1000000) :
    Calls Tryz.prog 91 #[.slice (some ⟨B, 0, none⟩) len cap, .int .i64 v] w fun e w' => e = .returned (.bool ((List.range len).any fun k => f k == v)) ∧ w = w' := by
  have hi := Index_int (off := 0) (cap := cap) v w hg (by omega) hm
  simp only [Nat.zero_add] at hi
  rw [← idx_any]
  generalize idx (fun k => f k == v) len = r at *
  by_cases hr : 0 ≤ r
  · go_enter Tryz.func91, Tryz.ntmps91
    go_wp2_with first
      | (go_at_call 74; (with_reducible refine hi.mono ?_); rintro e w1 ⟨rfl, rfl⟩)
    go_ret
    exact ⟨by simp [hr], rfl⟩
  · go_enter Tryz.func91, Tryz.ntmps91
    go_wp2_with first
      | (go_at_call 74; (with_reducible refine hi.mono ?_); rintro e w1 ⟨rfl, rfl⟩)
    go_ret
    exact ⟨by simp [hr], rfl⟩
theorem clone_any {B len cap n : Nat} {f : Nat → Int} {T : TypeId} {fr : Nat × Nat} (w : World) (hg : w.heap[B]? = some (.cells (arr n f) T fr)) (h0 : 0 < len) (hle : len ≤ n) (hm : len ≤ 1000000) :
    Calls Tryz.prog 92 #[.slice (some ⟨B, 0, none⟩) len cap] w (RetSl w 3 1 len f) := by
  have hg2 := row_alloc (x := .cells #[] 3) hg
  have heq : ∀ w, (binOp .eql 66 (.slice (some ⟨B, 0, none⟩) len cap) (.slice none 0 0)).run Tryz.prog w = .ok (.bool false) w := fun w => run_eql_slice_nil w _ _ _ _ _ Tryz.underlying66
  go_enter Tryz.func92, Tryz.ntmps92
  go_wp2_with first
    | ((with_reducible refine wpList_appendS slI (by omega) rfl _ _ rfl rfl (sl_made (base := w.heap.size) (f := fun _ => 0) (Nat.le_refl _)) rfl hg2 (by omega) h0 (by unfold maxLen; omega) (by omega) (by simp) ?_); intro v2 w2 hS2 hb2)
  go_ret
  refine ⟨_, rfl, hS2.congr (by omega) fun j _ => ?_, ((Below.refl _ _).alloc (by simp) _).trans hb2⟩
  unfold app
  rw [if_neg (by omega), Nat.zero_mul, Nat.sub_zero]
  show f (0 + j) = f j
  rw [Nat.zero_add]
/-- The arrays that begin with own, behind n of the six numbers. -/
def arS (d : Nat) (own : List Nat) (n : Nat) : List (List Nat) := (List.range n).flatMap fun x => if own.contains x then [] else arL d (own ++ [x])
theorem arS_succ (d : Nat) (own : List Nat) (n : Nat) : arS d own (n + 1) = arS d own n ++ if own.contains n then [] else arL d (own ++ [n]) := by
  unfold arS
  rw [List.range_succ, List.flatMap_append]
  simp
theorem arS_le (d : Nat) (own : List Nat) (n : Nat) : ∀ k, (arS d own n).length ≤ (arS d own (n + k)).length
  | 0 => Nat.le_refl _
  | k + 1 => by
    have := arS_le d own n k
    rw [← Nat.add_assoc, arS_succ, List.length_append]
    omega
def posB : Nat → List Nat → Bool
  | 0, _ => true
  | d + 1, own => decide (0 < (arL (d + 1) own).length) && decide ((arL (d + 1) own).length ≤ 1000) && (List.range 6).all fun n => own.contains n || posB d (own ++ [n])
theorem posB_0 : posB 5 [0] = true := by decide +kernel
theorem posB_pos {d : Nat} {own : List Nat} (h : posB d own = true) : 0 < (arL d own).length ∧ (arL d own).length ≤ 1000 := by
  cases d with
  | zero => exact ⟨by simp [arL], by simp [arL]⟩
  | succ d =>
    unfold posB at h
    simp only [Bool.and_eq_true, decide_eq_true_eq] at h
    exact h.1
theorem posB_next {d : Nat} {own : List Nat} (h : posB (d + 1) own = true) {n : Nat} (hn : n < 6) (hc : own.contains n = false) : posB d (own ++ [n]) = true := by
  unfold posB at h
  simp only [Bool.and_eq_true] at h
  have := List.all_eq_true.1 h.2 n (List.mem_range.2 hn)
  rw [hc, Bool.false_or] at this
  exact this
theorem cont_eq {own : List Nat} {F : Nat → Int} (hF : ∀ j, j < own.length → F j = (own.getD j 0 : Nat)) (n : Nat) : ((List.range own.length).any fun k => F k == (n : Int)) = own.contains n := by
  rw [Bool.eq_iff_iff, List.any_eq_true, List.contains_iff_mem]
  constructor
  · rintro ⟨k, hk, e⟩
    have hk := List.mem_range.1 hk
    rw [hF k hk, beq_iff_eq, List.getD_eq_getElem?_getD, List.getElem?_eq_getElem hk, Option.getD_some] at e
    have := Int.ofNat.inj e
    rw [← this]
    exact List.getElem_mem hk
  · intro h
    obtain ⟨k, hk, e⟩ := List.getElem_of_mem h
    refine ⟨k, List.mem_range.2 hk, ?_⟩
    rw [hF k hk, List.getD_eq_getElem?_getD, List.getElem?_eq_getElem hk, Option.getD_some, e]
    simp
set_option maxHeartbeats 1000000 in
theorem arrays_any : ∀ (d : Nat) (own : List Nat) (m : Nat), own.length = m → m + d = 6 → 0 < m → posB d own = true → ∀ {B cap N : Nat} {F : Nat → Int} {T : TypeId} {fr : Nat × Nat} (w : World), w.heap[B]? = some (.cells (arr N F) T fr) → m ≤ N → (∀ j, j < m → F j = (own.getD j 0 : Nat)) →
    Calls Tryz.prog 78 #[.slice (some ⟨B, 0, none⟩) m cap] w (RetSl w 28 6 (arL d own).length (fls 6 ((arL d own).map fnL)))
  | 0, own, m, hl, h6, h0, hp, B, cap, N, F, T, fr, w, h1, hN, hF => by
    obtain rfl : m = 6 := by omega
    have hat : ∀ w, (Instr.arrayAt 28 (.slice (some ⟨B, 0, none⟩) 6 cap)).run Tryz.prog w = .ok (.pointer (some ⟨B, 0, none⟩)) w := fun w => run_arrayAt w _ _ _ _ _ _ Tryz.underlying28 (Nat.le_refl _)
    go_enter Tryz.func78, Tryz.ntmps78
    go_wp2_with first
      | (with_reducible refine wpList_loadA rfl _ _ rfl _ _ rfl h1 6 agg6 size6 (by omega) ?_)
      | ((with_reducible refine wpList_row6 slN rfl _ rfl rfl ?_); intro B5 w5 hB5 h5 hb5)
    go_ret
    refine ⟨_, rfl, .inr ⟨B5, 1, _, rfl, hB5, h5, Nat.le_refl _, by unfold maxLen; omega, fun j hj => ?_⟩, hb5⟩
    have hj6 : j < 6 := by simpa [arL] using hj
    have := fls_at (s := 6) [fnL own] (k := 0) hj6
    rw [Nat.zero_mul, Nat.zero_add] at this
    show _ = fls 6 [fnL own] j
    rw [this, Nat.zero_add, hF j hj6]; rfl
  | d + 1, own, m, hl, h6, h0, hp, B, cap, N, F, T, fr, w, h1, hN, hF => by
    have hm6 : m ≤ 5 := by omega
    have hme : ((m : Int) == 6) = false := by simp; omega
    obtain ⟨q1, q2⟩ := posB_pos hp
    have HP : Hid _ := hp
    have HF : Hid _ := hF
    have HC : Hid (∀ n : Nat, ((List.range m).any fun k => F k == (n : Int)) = own.contains n) := fun n => by
      have := cont_eq (own := own) (F := F) (by rw [hl]; exact hF) n
      rwa [hl] at this
    have HQ : Hid ((arL (d + 1) own) = arS d own 6) := rfl
    rw [show arL (d + 1) own = arS d own 6 from rfl] at q1 q2 ⊢
    have hbel := Below.refl w.heap.size w
    have hBl := row_lt h1
    clear hp hF
    go_enter Tryz.func78, Tryz.ntmps78
    go_wp2_with fail
    go_loopw [3, 12] (fun o i wr => ∃ n : Nat, ∃ v : Value, n ≤ 6 ∧ i = .int .i64 n ∧ o = v ∧ Sl wr w.heap.size 28 6 v (arS d own n).length (fls 6 ((arS d own n).map fnL)) ∧ wr.heap[B]? = some (.cells (arr N F) T fr) ∧ Below w.heap.size w wr) (fun _ i _ => 6 - (intOf i).toNat)
    case atStart => exact ⟨0, _, by omega, rfl, rfl, .inl ⟨rfl, rfl⟩, h1, hbel⟩
    case round =>
      clear h1 hbel
      obtain ⟨n, v, hn, rfl, rfl, hS, h1, hbel⟩ := hrel
      by_cases hlt : n < 6
      · have hlt' : (n : Int) < 6 := by omega
        have HN : Hid _ := arS_succ d own n
        have hq := arS_le d own (n + 1) (6 - (n + 1))
        rw [show n + 1 + (6 - (n + 1)) = 6 by omega] at hq
        cases hc : own.contains n with
        | true =>
          rw [hc, if_pos rfl, List.append_nil] at HN
          have HX : Hid (((List.range m).any fun k => F k == (n : Int)) = true) := by show _ = _; rw [HC.out n, hc]
          clear hc
          go_wp2_with first
            | (go_at_call 91; (with_reducible refine (contains_any _ _ h1 hN (by omega)).mono ?_); rw [HX.out]; rintro e w1 ⟨rfl, rfl⟩)
          go_roundw
          case rel => exact ⟨n + 1, _, by omega, by go_num, rfl, by rw [HN.out]; exact hS, h1, hbel⟩
          case measure => simp [intOf]; omega
        | false =>
          rw [hc, if_neg (by simp)] at HN
          rw [HN.out, List.length_append] at hq
          have hpn := posB_next HP.out hlt hc
          obtain ⟨z1, z2⟩ := posB_pos hpn
          have HI : Hid _ := fun {B cap N : Nat} {F : Nat → Int} {T : TypeId} {fr : Nat × Nat} (w : World) => arrays_any d (own ++ [n]) (m + 1) (by simp [hl]) (by omega) (by omega) hpn (B := B) (cap := cap) (N := N) (F := F) (T := T) (fr := fr) w
          have HG : Hid (∀ j, j < (m + 1) * 1 → app F (m * 1) (fun _ => (n : Int)) j = ((own ++ [n]).getD j 0 : Nat)) := fun j hj => by
            unfold app
            by_cases hjm : j < m * 1
            · rw [if_pos hjm, HF.out j (by omega), List.getD_eq_getElem?_getD, List.getD_eq_getElem?_getD, List.getElem?_append_left (by omega)]
            · obtain rfl : j = m := by omega
              rw [if_neg hjm, List.getD_eq_getElem?_getD, List.getElem?_append_right (by omega), hl]; simp
          have HX : Hid (((List.range m).any fun k => F k == (n : Int)) = false) := by show _ = _; rw [HC.out n, hc]
          have HB : Hid (∀ W : World, (W.alloc (.cells #[.int .i64 n] 3)).heap[W.heap.size]? = some (.cells (arr 1 fun _ => (n : Int)) 3 (0, 0))) := fun W => by rw [arr1]; exact heap_new rfl
          clear hc hpn
          have hz := hbel.size
          go_wp2_with first
            | (go_at_call 91; (with_reducible refine (contains_any _ _ h1 hN (by omega)).mono ?_); rw [HX.out]; rintro e w1 ⟨rfl, rfl⟩)
            | (go_at_call 92; (with_reducible refine (clone_any _ h1 h0 hN (by omega)).mono ?_); rintro e w1 ⟨v1, rfl, hS1, hb1⟩; have hzz := hb1.size)
            | ((with_reducible refine wpList_appendS slI (by omega) rfl _ _ rfl rfl (hS1.keep ((Below.refl _ _).alloc (Nat.le_refl _) _)) rfl (HB.out _) (by omega) (by omega) (by unfold maxLen; omega) (by omega) (by simp; omega) ?_); intro v2 w2 hS2 hb2; (obtain ⟨g2, cap2, F2, rfl, a1, a2, a3, a4, a5⟩ := hS2.blk (by omega)); go_loud (have hcall := HI.out (B := g2) (cap := cap2) w2 a2 (by omega) (fun j hj => (a5 j (by omega)).trans (HG.out j (by omega)))))
            | (go_at_call 78; go_loud ((with_reducible refine hcall.mono ?_); rintro e w3 ⟨v3, rfl, hS3, hb3⟩; (obtain ⟨g3, cap3, F3, rfl, c1, c2, c3, c4, c5⟩ := hS3.blk z1); have hb12 := (hb1.trans ((Below.refl _ _).alloc hb1.size (.cells #[.int .i64 n] 3))); have hb13 := hb12.trans hb2; have hb14 := hb13.trans (hb3.mono hb13.size); replace hS := hS.keep hb14; replace h1 := row_keep hb14 h1; replace hbel := hbel.trans (hb14.mono hz); have hz2 := hbel.size))
            | ((with_reducible refine wpList_appendS slN (by omega) rfl _ _ rfl rfl hS rfl c2 (by omega) z1 (by unfold maxLen; omega) (by omega) hz2 ?_); intro v4 w4 hS4 hb4)
          go_roundw
          case rel =>
            refine ⟨n + 1, v4, by omega, by go_num, rfl, ?_, row_kept hb4 h1 hBl, hbel.trans hb4⟩
            rw [HN.out]
            refine hS4.congr (by rw [List.length_append]) fun j hj => ?_
            rw [List.map_append, ← fls_append (by omega) _ _ j (by simpa using hj), List.length_map]
            unfold app
            by_cases hj2 : j < (arS d own n).length * 6
            · rw [if_pos hj2, if_pos hj2]
            · rw [if_neg hj2, if_neg hj2]
              show F3 (0 + (j - (arS d own n).length * 6)) = _
              rw [Nat.zero_add]
              exact c5 _ (by rw [Nat.add_mul] at hj; omega)
          case measure => simp [intOf]; omega
      · obtain rfl : n = 6 := by omega
        go_wp2_with fail
        go_ret
        exact ⟨_, rfl, hS, hbel⟩
theorem renamings_any (w : World) : Calls Tryz.prog 56 #[] w (RetSl w 28 6 120 (fls 6 (nmL.map fnL))) := by
  have h1 : (w.alloc (.cells #[.int .i64 0] 3)).heap[w.heap.size]? = some (.cells (arr 1 fun _ => 0) 3 (0, 0)) := by rw [arr1]; exact heap_new rfl
  have hA := arrays_any 5 [0] 1 rfl rfl (by decide) posB_0 (cap := 1) _ h1 (Nat.le_refl _) (fun j hj => by
    have hj1 : j < 1 := hj
    obtain rfl : j = 0 := by omega
    rfl)
  rw [arL_nm, nmL_len] at hA
  go_enter Tryz.func56, Tryz.ntmps56
  go_wp2_with first
    | (go_at_call 78; (with_reducible refine hA.mono ?_); rintro e w3 ⟨v3, rfl, hS3, hb3⟩)
  go_ret
  exact ⟨_, rfl, hS3.lower (by simp), ((Below.refl _ _).alloc (by simp) _).trans (hb3.mono (by simp))⟩
end Go.Proofs.YtlbgmkengkgnfaaGreat
end

section
/- FirstForm: the program's and the reference's, and the law. -/
namespace Go.Proofs.YtlbgmkengkgnfaaGreat
set_option linter.unusedSimpArgs false
set_option linter.unusedVariables false
set_option maxRecDepth 20000
open Go.RowKit
noncomputable def ffF (f : Nat → Int) : Nat → Int := fstF f nmS 120
noncomputable def ffR (f : Nat → Int) : (Nat → Int) × Bool := if rackB f = true then (ffF f, true) else (fun _ => 0, false)
theorem renamed_at {f : Nat → Int} (hf : cellB f) (n : Nat) (w : World) : Calls Tryz.prog 28 #[.agg (arr 24 f), .agg (arr 6 (nmS n))] w fun e w' => e = .returned (.agg (arr 24 (renF f (nmS n)))) ∧ Below w.heap.size w w' := renamed_any f (nmS n) hf w
theorem l4Rename_at {f : Nat → Int} (hf : cellB f) (n : Nat) (w : World) : Calls Tryz.prog 31 #[.agg (arr 24 f), .agg (arr 6 (nmS n))] w fun e w' => e = .returned (.agg (arr 24 (renF f (nmS n)))) ∧ Below w.heap.size w w' := l4Rename_any f (nmS n) hf w
theorem fst_yes {f : Nat → Int} {n : Nat} (h : key (formF (renF f (nmS n))) < key (fstF f nmS n)) : fstF f nmS (n + 1) = formF (renF f (nmS n)) := by
  rw [fstF, if_pos h]
theorem fst_no {f : Nat → Int} {n : Nat} (h : ¬ key (formF (renF f (nmS n))) < key (fstF f nmS n)) : fstF f nmS (n + 1) = fstF f nmS n := by
  rw [fstF, if_neg h]
theorem fst_cell {f : Nat → Int} (hf : cellB f) {n : Nat} (hn : n ≤ 120) : cellB (fstF f nmS n) := by
  obtain ⟨_, _, _, h⟩ := fstF_is hf nmS_all.1 n hn
  exact h
theorem ren_form {f : Nat → Int} (hf : cellB f) {n : Nat} (hn : n < 120) : cellB (formF (renF f (nmS n))) := (form_is (ren_cell hf (nm_ren hn))).1.2
set_option maxHeartbeats 1000000 in
theorem firstForm_any (f : Nat → Int) (hf : rackB f = true) (w : World) : Calls Tryz.prog 34 #[.agg (arr 24 f)] w fun e w' => e = .returned (.agg (arr 24 (ffF f))) ∧ Below w.heap.size w w' := by
  have h1 : ((w.alloc (.cells (arr 24 f) 27)).alloc (.cells (arr 24 fun _ => 0) 27)).heap[w.heap.size]? = some (.cells (arr 24 f) 27 (0, 0)) := by rw [heap_old (by simp), heap_new rfl]
  have h2 : ((w.alloc (.cells (arr 24 f) 27)).alloc (.cells (arr 24 fun _ => 0) 27)).heap[w.heap.size + 1]? = some (.cells (arr 24 fun _ => 0) 27 (0, 0)) := heap_new (by simp)
  have hbel : Below w.heap.size w ((w.alloc (.cells (arr 24 f) 27)).alloc (.cells (arr 24 fun _ => 0) 27)) := ((Below.refl _ _).alloc (by simp) _).alloc (by simp) _
  have hc := cellB_of_rack hf
  have tok_hb : True := trivial
  have tok_r : True := trivial
  go_enter Tryz.func34, Tryz.ntmps34
  go_wp2_with first
    | (have _t := tok_r; (with_reducible refine wpList_allocA rfl 27 rfl 24 zero24r ?_; (try simp only [size_al])); clear _t tok_r)
    | (with_reducible refine wpList_loadW rfl _ _ rfl _ rfl h1 agg24r size24r ?_)
    | (go_at_call 41; (with_reducible refine (formOf_any f hf _).mono ?_); rintro e w1 ⟨rfl, hb1⟩; replace hbel := hbel.trans (hb1.mono hbel.size); replace h1 := row_keep hb1 h1; replace h2 := row_keep hb1 h2; (try replace hb := row_keep hb1 hb); (try replace hg := row_keep hb1 hg); (try replace h5 := row_keep hb1 h5); (try replace h6 := row_keep hb1 h6); clear hb1)
    | (have _t := tok_hb; with_reducible refine wpList_allocN rfl 27 rfl 24 zero24r ?_; intro Bhb w1 hBhb hb hb1; have hWhb := Nat.le_trans hbel.size hBhb; have hLh1hb := Nat.lt_of_lt_of_le (row_lt h1) hBhb; have hLh2hb := Nat.lt_of_lt_of_le (row_lt h2) hBhb; replace hbel := hbel.trans (hb1.mono hbel.size); replace h1 := row_keep hb1 h1; replace h2 := row_keep hb1 h2; clear hb1 _t tok_hb)
    | (with_reducible refine wpList_storeWN rfl _ _ _ rfl _ rfl rfl hb size24r hbel hWhb ?_; intro w1 g3 ho g4; replace h1 := (ho _ (by omega)).trans h1; replace h2 := (ho _ (by omega)).trans h2; clear hb hbel; have hb := g3; have hbel := g4; clear g3 g4 ho)
    | (go_at_call 56; (with_reducible refine (renamings_any _).mono ?_); rintro e w1 ⟨v, rfl, hS, hb1⟩; replace h1 := row_keep hb1 h1; replace h2 := row_keep hb1 h2; have hLb := row_lt hb; replace hb := row_keep hb1 hb; have hzb := hbel.size; replace hbel := hbel.trans (hb1.mono hbel.size); clear hb1; (obtain ⟨g, cap, F, rfl, a1, hg, a3, a4, a5⟩ := hS.blk (by omega)))
  go_loopw [11] (fun i wr => ∃ n : Nat, n ≤ 120 ∧ i = .int .i64 n ∧ wr.heap[w.heap.size]? = some (.cells (arr 24 f) 27 (0, 0)) ∧ wr.heap[w.heap.size + 1]? = some (.cells (arr 24 fun _ => 0) 27 (0, 0)) ∧ wr.heap[Bhb]? = some (.cells (arr 24 (fstF f nmS n)) 27 (0, 0)) ∧ wr.heap[g]? = some (.cells (arr (cap * 6) F) 28 (0, 0)) ∧ Below w.heap.size w wr) (fun i _ => 120 - (intOf i).toNat)
  case atStart => exact ⟨0, by omega, rfl, h1, h2, hb, hg, hbel⟩
  case round =>
    clear h1 h2 hb hg hbel
    obtain ⟨n, hn, rfl, h1, h2, hb, hg, hbel⟩ := hrel
    by_cases hlt : n < 120
    · have hlt' : (n : Int) < 120 := by omega
      have HM : Hid _ := nm_arr a5 hlt
      have HR := ren_rack hf (nm_ren hlt)
      have HK : Hid _ := lex_key24 (ren_form hc hlt) (fst_cell hc hn)
      have hl1 := row_lt h1
      have hl2 := row_lt h2
      have hlb := row_lt hb
      have hlg := row_lt hg
      have tok_h5 : True := trivial
      have tok_h6 : True := trivial
      by_cases hk : key (formF (renF f (nmS n))) < key (fstF f nmS n)
      · have HS : Hid _ := fst_yes hk
        have HD : Hid (decide (lexC (formF (renF f (nmS n))) (fstF f nmS n) 24 < 0) = true) := by show _ = _; rw [HK.out]; exact decide_eq_true hk
        clear hk
        obtain ⟨z, hz⟩ : ∃ z, lexC (formF (renF f (nmS n))) (fstF f nmS n) 24 = z := ⟨_, rfl⟩
        rw [hz] at HD
        have hd := HD.out
        have HZ : Hid _ := hz
        clear hz
        go_wp2_with first
          | ((with_reducible refine wpList_loadA rfl _ _ rfl _ _ rfl hg 6 agg6 size6 (by omega) ?_); rw [HM.out])
          | (have _t := tok_h5; with_reducible refine wpList_allocN rfl 28 rfl 6 zero6 ?_; intro Bh5 w1 hBh5 h5 hb1; have hWh5 := Nat.le_trans hbel.size hBh5; have hLh1h5 := Nat.lt_of_lt_of_le (row_lt h1) hBh5; have hLh2h5 := Nat.lt_of_lt_of_le (row_lt h2) hBh5; have hLhbh5 := Nat.lt_of_lt_of_le (row_lt hb) hBh5; have hLhgh5 := Nat.lt_of_lt_of_le (row_lt hg) hBh5; replace hbel := hbel.trans (hb1.mono hbel.size); replace h1 := row_keep hb1 h1; replace h2 := row_keep hb1 h2; replace hb := row_keep hb1 hb; replace hg := row_keep hb1 hg; clear hb1 _t tok_h5)
          | (with_reducible refine wpList_storeWN rfl _ _ _ rfl _ rfl rfl h5 size6 hbel hWh5 ?_; intro w1 g3 ho g4; replace h1 := (ho _ (by omega)).trans h1; replace h2 := (ho _ (by omega)).trans h2; replace hb := (ho _ (by omega)).trans hb; replace hg := (ho _ (by omega)).trans hg; clear h5 hbel; have h5 := g3; have hbel := g4; clear g3 g4 ho)
          | (with_reducible refine wpList_loadW rfl _ _ rfl _ rfl h1 agg24r size24r ?_)
          | (with_reducible refine wpList_loadW rfl _ _ rfl _ rfl h5 agg6 size6 ?_)
          | (go_at_call 28; (with_reducible refine (renamed_at hc n _).mono ?_); rintro e w1 ⟨rfl, hb1⟩; replace hbel := hbel.trans (hb1.mono hbel.size); replace h1 := row_keep hb1 h1; replace h2 := row_keep hb1 h2; (try replace hb := row_keep hb1 hb); (try replace hg := row_keep hb1 hg); (try replace h5 := row_keep hb1 h5); (try replace h6 := row_keep hb1 h6); clear hb1)
          | (go_at_call 41; (with_reducible refine (formOf_any _ HR _).mono ?_); rintro e w1 ⟨rfl, hb1⟩; replace hbel := hbel.trans (hb1.mono hbel.size); replace h1 := row_keep hb1 h1; replace h2 := row_keep hb1 h2; (try replace hb := row_keep hb1 hb); (try replace hg := row_keep hb1 hg); (try replace h5 := row_keep hb1 h5); (try replace h6 := row_keep hb1 h6); clear hb1)
          | (have _t := tok_h6; with_reducible refine wpList_allocN rfl 27 rfl 24 zero24r ?_; intro Bh6 w1 hBh6 h6 hb1; have hWh6 := Nat.le_trans hbel.size hBh6; have hLh1h6 := Nat.lt_of_lt_of_le (row_lt h1) hBh6; have hLh2h6 := Nat.lt_of_lt_of_le (row_lt h2) hBh6; have hLhbh6 := Nat.lt_of_lt_of_le (row_lt hb) hBh6; have hLhgh6 := Nat.lt_of_lt_of_le (row_lt hg) hBh6; have hLh5h6 := Nat.lt_of_lt_of_le (row_lt h5) hBh6; replace hbel := hbel.trans (hb1.mono hbel.size); replace h1 := row_keep hb1 h1; replace h2 := row_keep hb1 h2; replace hb := row_keep hb1 hb; replace hg := row_keep hb1 hg; replace h5 := row_keep hb1 h5; clear hb1 _t tok_h6)
          | (with_reducible refine wpList_storeWN rfl _ _ _ rfl _ rfl rfl h6 size24r hbel hWh6 ?_; intro w1 g3 ho g4; replace h1 := (ho _ (by omega)).trans h1; replace h2 := (ho _ (by omega)).trans h2; replace hb := (ho _ (by omega)).trans hb; replace hg := (ho _ (by omega)).trans hg; replace h5 := (ho _ (by omega)).trans h5; clear h6 hbel; have h6 := g3; have hbel := g4; clear g3 g4 ho)
          | (with_reducible refine wpList_loadW rfl _ _ rfl _ rfl h6 agg24r size24r ?_)
          | (with_reducible refine wpList_loadW rfl _ _ rfl _ rfl hb agg24r size24r ?_)
          | (go_at_call 57; (with_reducible refine (cmpRacks_any _ _ _).mono ?_); rw [HZ.out]; rintro e w1 ⟨rfl, hb1⟩; replace hbel := hbel.trans (hb1.mono hbel.size); replace h1 := row_keep hb1 h1; replace h2 := row_keep hb1 h2; (try replace hb := row_keep hb1 hb); (try replace hg := row_keep hb1 hg); (try replace h5 := row_keep hb1 h5); (try replace h6 := row_keep hb1 h6); clear hb1)
          | (with_reducible refine wpList_storeWN rfl _ _ _ rfl _ rfl rfl hb size24r hbel (by omega) ?_; intro w1 g3 ho g4; replace h1 := (ho _ (by omega)).trans h1; replace h2 := (ho _ (by omega)).trans h2; replace hg := (ho _ (by omega)).trans hg; clear hb hbel; have hb := g3; have hbel := g4; clear g3 g4 ho)
        go_roundw
        case rel => exact ⟨n + 1, by omega, by go_num, h1, h2, by rw [HS.out]; exact hb, hg, hbel⟩
        case measure => simp [intOf]; omega
      · have HS : Hid _ := fst_no hk
        have HD : Hid (decide (lexC (formF (renF f (nmS n))) (fstF f nmS n) 24 < 0) = false) := by show _ = _; rw [HK.out]; exact decide_eq_false hk
        clear hk
        obtain ⟨z, hz⟩ : ∃ z, lexC (formF (renF f (nmS n))) (fstF f nmS n) 24 = z := ⟨_, rfl⟩
        rw [hz] at HD
        have hd := HD.out
        have HZ : Hid _ := hz
        clear hz
        go_wp2_with first
          | ((with_reducible refine wpList_loadA rfl _ _ rfl _ _ rfl hg 6 agg6 size6 (by omega) ?_); rw [HM.out])
          | (have _t := tok_h5; with_reducible refine wpList_allocN rfl 28 rfl 6 zero6 ?_; intro Bh5 w1 hBh5 h5 hb1; have hWh5 := Nat.le_trans hbel.size hBh5; have hLh1h5 := Nat.lt_of_lt_of_le (row_lt h1) hBh5; have hLh2h5 := Nat.lt_of_lt_of_le (row_lt h2) hBh5; have hLhbh5 := Nat.lt_of_lt_of_le (row_lt hb) hBh5; have hLhgh5 := Nat.lt_of_lt_of_le (row_lt hg) hBh5; replace hbel := hbel.trans (hb1.mono hbel.size); replace h1 := row_keep hb1 h1; replace h2 := row_keep hb1 h2; replace hb := row_keep hb1 hb; replace hg := row_keep hb1 hg; clear hb1 _t tok_h5)
          | (with_reducible refine wpList_storeWN rfl _ _ _ rfl _ rfl rfl h5 size6 hbel hWh5 ?_; intro w1 g3 ho g4; replace h1 := (ho _ (by omega)).trans h1; replace h2 := (ho _ (by omega)).trans h2; replace hb := (ho _ (by omega)).trans hb; replace hg := (ho _ (by omega)).trans hg; clear h5 hbel; have h5 := g3; have hbel := g4; clear g3 g4 ho)
          | (with_reducible refine wpList_loadW rfl _ _ rfl _ rfl h1 agg24r size24r ?_)
          | (with_reducible refine wpList_loadW rfl _ _ rfl _ rfl h5 agg6 size6 ?_)
          | (go_at_call 28; (with_reducible refine (renamed_at hc n _).mono ?_); rintro e w1 ⟨rfl, hb1⟩; replace hbel := hbel.trans (hb1.mono hbel.size); replace h1 := row_keep hb1 h1; replace h2 := row_keep hb1 h2; (try replace hb := row_keep hb1 hb); (try replace hg := row_keep hb1 hg); (try replace h5 := row_keep hb1 h5); (try replace h6 := row_keep hb1 h6); clear hb1)
          | (go_at_call 41; (with_reducible refine (formOf_any _ HR _).mono ?_); rintro e w1 ⟨rfl, hb1⟩; replace hbel := hbel.trans (hb1.mono hbel.size); replace h1 := row_keep hb1 h1; replace h2 := row_keep hb1 h2; (try replace hb := row_keep hb1 hb); (try replace hg := row_keep hb1 hg); (try replace h5 := row_keep hb1 h5); (try replace h6 := row_keep hb1 h6); clear hb1)
          | (have _t := tok_h6; with_reducible refine wpList_allocN rfl 27 rfl 24 zero24r ?_; intro Bh6 w1 hBh6 h6 hb1; have hWh6 := Nat.le_trans hbel.size hBh6; have hLh1h6 := Nat.lt_of_lt_of_le (row_lt h1) hBh6; have hLh2h6 := Nat.lt_of_lt_of_le (row_lt h2) hBh6; have hLhbh6 := Nat.lt_of_lt_of_le (row_lt hb) hBh6; have hLhgh6 := Nat.lt_of_lt_of_le (row_lt hg) hBh6; have hLh5h6 := Nat.lt_of_lt_of_le (row_lt h5) hBh6; replace hbel := hbel.trans (hb1.mono hbel.size); replace h1 := row_keep hb1 h1; replace h2 := row_keep hb1 h2; replace hb := row_keep hb1 hb; replace hg := row_keep hb1 hg; replace h5 := row_keep hb1 h5; clear hb1 _t tok_h6)
          | (with_reducible refine wpList_storeWN rfl _ _ _ rfl _ rfl rfl h6 size24r hbel hWh6 ?_; intro w1 g3 ho g4; replace h1 := (ho _ (by omega)).trans h1; replace h2 := (ho _ (by omega)).trans h2; replace hb := (ho _ (by omega)).trans hb; replace hg := (ho _ (by omega)).trans hg; replace h5 := (ho _ (by omega)).trans h5; clear h6 hbel; have h6 := g3; have hbel := g4; clear g3 g4 ho)
          | (with_reducible refine wpList_loadW rfl _ _ rfl _ rfl h6 agg24r size24r ?_)
          | (with_reducible refine wpList_loadW rfl _ _ rfl _ rfl hb agg24r size24r ?_)
          | (go_at_call 57; (with_reducible refine (cmpRacks_any _ _ _).mono ?_); rw [HZ.out]; rintro e w1 ⟨rfl, hb1⟩; replace hbel := hbel.trans (hb1.mono hbel.size); replace h1 := row_keep hb1 h1; replace h2 := row_keep hb1 h2; (try replace hb := row_keep hb1 hb); (try replace hg := row_keep hb1 hg); (try replace h5 := row_keep hb1 h5); (try replace h6 := row_keep hb1 h6); clear hb1)
          | (with_reducible refine wpList_storeWN rfl _ _ _ rfl _ rfl rfl hb size24r hbel (by omega) ?_; intro w1 g3 ho g4; replace h1 := (ho _ (by omega)).trans h1; replace h2 := (ho _ (by omega)).trans h2; replace hg := (ho _ (by omega)).trans hg; clear hb hbel; have hb := g3; have hbel := g4; clear g3 g4 ho)
        go_roundw
        case rel => exact ⟨n + 1, by omega, by go_num, h1, h2, by rw [HS.out]; exact hb, hg, hbel⟩
        case measure => simp [intOf]; omega
    · obtain rfl : n = 120 := by omega
      go_wp2_with first
        | (with_reducible refine wpList_loadW rfl _ _ rfl _ rfl hb agg24r size24r ?_)
        | (with_reducible refine wpList_storeW rfl _ _ _ rfl _ rfl rfl h2 size24r ?_)
      exact bodyPost_ret_by (results_cellA rfl _ _ _ _ _ _ _ rfl (setRow_heap _ _ _ _ _ _ h2) agg24r size24r) rfl ⟨rfl, below_setRow2 hbel (by omega) _⟩
set_option maxHeartbeats 1000000 in
theorem l4First_any (f : Nat → Int) (hf : rackB f = true) (w : World) : Calls Tryz.prog 35 #[.agg (arr 24 f)] w fun e w' => e = .returned (.agg (arr 24 (ffF f))) ∧ Below w.heap.size w w' := by
  have h1 : ((w.alloc (.cells (arr 24 f) 27)).alloc (.cells (arr 24 fun _ => 0) 27)).heap[w.heap.size]? = some (.cells (arr 24 f) 27 (0, 0)) := by rw [heap_old (by simp), heap_new rfl]
  have h2 : ((w.alloc (.cells (arr 24 f) 27)).alloc (.cells (arr 24 fun _ => 0) 27)).heap[w.heap.size + 1]? = some (.cells (arr 24 fun _ => 0) 27 (0, 0)) := heap_new (by simp)
  have hbel : Below w.heap.size w ((w.alloc (.cells (arr 24 f) 27)).alloc (.cells (arr 24 fun _ => 0) 27)) := ((Below.refl _ _).alloc (by simp) _).alloc (by simp) _
  have hc := cellB_of_rack hf
  have tok_hb : True := trivial
  have tok_r : True := trivial
  go_enter Tryz.func35, Tryz.ntmps35
  go_wp2_with first
    | (have _t := tok_r; (with_reducible refine wpList_allocA rfl 27 rfl 24 zero24r ?_; (try simp only [size_al])); clear _t tok_r)
    | (with_reducible refine wpList_loadW rfl _ _ rfl _ rfl h1 agg24r size24r ?_)
    | (go_at_call 40; (with_reducible refine (l3Form_any f hf _).mono ?_); rintro e w1 ⟨rfl, hb1⟩; replace hbel := hbel.trans (hb1.mono hbel.size); replace h1 := row_keep hb1 h1; replace h2 := row_keep hb1 h2; (try replace hb := row_keep hb1 hb); (try replace hg := row_keep hb1 hg); (try replace h5 := row_keep hb1 h5); (try replace h6 := row_keep hb1 h6); clear hb1)
    | (go_at_call 39; (with_reducible refine (l4AllNames_any _).mono ?_); rintro e w1 ⟨v, rfl, hS, hb1⟩; replace h1 := row_keep hb1 h1; replace h2 := row_keep hb1 h2; replace hbel := hbel.trans (hb1.mono hbel.size); clear hb1; (obtain ⟨g, cap, F, rfl, a1, hg, a3, a4, a5⟩ := hS.blk (by omega)))
    | (have _t := tok_hb; with_reducible refine wpList_allocN rfl 27 rfl 24 zero24r ?_; intro Bhb w1 hBhb hb hb1; have hWhb := Nat.le_trans hbel.size hBhb; have hLh1hb := Nat.lt_of_lt_of_le (row_lt h1) hBhb; have hLh2hb := Nat.lt_of_lt_of_le (row_lt h2) hBhb; have hLhghb := Nat.lt_of_lt_of_le (row_lt hg) hBhb; replace hbel := hbel.trans (hb1.mono hbel.size); replace h1 := row_keep hb1 h1; replace h2 := row_keep hb1 h2; replace hg := row_keep hb1 hg; clear hb1 _t tok_hb)
    | (with_reducible refine wpList_storeWN rfl _ _ _ rfl _ rfl rfl hb size24r hbel hWhb ?_; intro w1 g3 ho g4; replace h1 := (ho _ (by omega)).trans h1; replace h2 := (ho _ (by omega)).trans h2; replace hg := (ho _ (by omega)).trans hg; clear hb hbel; have hb := g3; have hbel := g4; clear g3 g4 ho)
  go_loopw [5] (fun i wr => ∃ n : Nat, n ≤ 120 ∧ i = .int .i64 n ∧ wr.heap[w.heap.size]? = some (.cells (arr 24 f) 27 (0, 0)) ∧ wr.heap[w.heap.size + 1]? = some (.cells (arr 24 fun _ => 0) 27 (0, 0)) ∧ wr.heap[Bhb]? = some (.cells (arr 24 (fstF f nmS n)) 27 (0, 0)) ∧ wr.heap[g]? = some (.cells (arr (cap * 6) F) 28 (0, 0)) ∧ Below w.heap.size w wr) (fun i _ => 120 - (intOf i).toNat)
  case atStart => exact ⟨0, by omega, rfl, h1, h2, hb, hg, hbel⟩
  case round =>
    clear h1 h2 hb hg hbel
    obtain ⟨n, hn, rfl, h1, h2, hb, hg, hbel⟩ := hrel
    by_cases hlt : n < 120
    · have hlt' : (n : Int) < 120 := by omega
      have HM : Hid _ := nm_arr a5 hlt
      have HR := ren_rack hf (nm_ren hlt)
      have HK : Hid _ := lex_key24 (ren_form hc hlt) (fst_cell hc hn)
      have hl1 := row_lt h1
      have hl2 := row_lt h2
      have hlb := row_lt hb
      have hlg := row_lt hg
      by_cases hk : key (formF (renF f (nmS n))) < key (fstF f nmS n)
      · have HS : Hid _ := fst_yes hk
        have HD : Hid (decide (lexC (formF (renF f (nmS n))) (fstF f nmS n) 24 < 0) = true) := by show _ = _; rw [HK.out]; exact decide_eq_true hk
        clear hk
        go_wp2_with fail
        refine wp_region_flo 7 1 [] _ _ 27 24 zero24r _ rfl rfl (by kernel_rfl) (by kernel_rfl) (Cls.two h1 hg (Below.refl _ _)) ?_; simp only [List.take_succ_cons, List.take_zero, List.drop_succ_cons, List.drop_zero]
        repeat (first
          | (with_reducible refine wpR_loadW rfl _ _ rfl _ rfl (fun _ h => h.r1) agg24r size24r ?_)
          | ((with_reducible refine wpR_loadA rfl _ _ rfl _ _ rfl (fun _ h => h.r2) 6 agg6 size6 (by omega) ?_); rw [HM.out])
          | ((with_reducible refine wpR_callE rfl 31 _ _ rfl (.agg (arr 24 (renF f (nmS n)))) (#[.agg (arr 24 f), .agg (arr 6 (nmS n))]) rfl ?_ ?_ ?_); (exact enters_of Tryz.func31 (by kernel_rfl) rfl); (intro w' h'; with_reducible exact l4Rename_at hc n w'))
          | ((with_reducible refine wpR_callE rfl 40 _ _ rfl (.agg (arr 24 (formF (renF f (nmS n))))) (#[.agg (arr 24 (renF f (nmS n)))]) rfl ?_ ?_ ?_); (exact enters_of Tryz.func40 (by kernel_rfl) rfl); (intro w' h'; with_reducible exact l3Form_any _ HR w'))
          | ((with_reducible refine wpR_step (fun K hK => ?_)); go_simp; (first | (refine ⟨_, fun _ _ => rfl, hK _ ?_⟩) | (refine hK _ ?_)); clear hK K))
        refine wpR_nil ?_
        intro B6 wt hB6 hCt h6
        have hb0 := hCt.2
        replace hbel := hbel.trans (hb0.mono hbel.size)
        replace h1 := row_keep hb0 h1
        replace h2 := row_keep hb0 h2
        replace hb := row_keep hb0 hb
        replace hg := row_keep hb0 hg
        clear hb0 hCt
        go_wp2_with first
          | (with_reducible refine wpList_storeWN rfl _ _ _ rfl _ rfl rfl h6 size24r hbel (by have := hbel.size; omega) ?_; intro w1 g3 ho g4; replace h1 := (ho _ (by omega)).trans h1; replace h2 := (ho _ (by omega)).trans h2; replace hb := (ho _ (by omega)).trans hb; replace hg := (ho _ (by omega)).trans hg; clear h6 hbel; have h6 := g3; have hbel := g4; clear g3 g4 ho)
        refine QN.intro ?_
        go_wp2_with first
          | (with_reducible refine wpList_loadW rfl _ _ rfl _ rfl h6 agg24r size24r ?_)
          | (with_reducible refine wpList_loadW rfl _ _ rfl _ rfl hb agg24r size24r ?_)
          | (go_at_call 58; (with_reducible refine (l2Before_any _ _ _).mono ?_); rw [HD.out]; rintro e w1 ⟨rfl, hb1⟩; replace hbel := hbel.trans (hb1.mono hbel.size); replace h1 := row_keep hb1 h1; replace h2 := row_keep hb1 h2; (try replace hb := row_keep hb1 hb); (try replace hg := row_keep hb1 hg); (try replace h5 := row_keep hb1 h5); (try replace h6 := row_keep hb1 h6); clear hb1)
          | (with_reducible refine wpList_storeWN rfl _ _ _ rfl _ rfl rfl hb size24r hbel (by omega) ?_; intro w1 g3 ho g4; replace h1 := (ho _ (by omega)).trans h1; replace h2 := (ho _ (by omega)).trans h2; replace hg := (ho _ (by omega)).trans hg; clear hb hbel; have hb := g3; have hbel := g4; clear g3 g4 ho)
        go_roundw
        case rel => exact ⟨n + 1, by omega, by go_num, h1, h2, by rw [HS.out]; exact hb, hg, hbel⟩
        case measure => simp [intOf]; omega
      · have HS : Hid _ := fst_no hk
        have HD : Hid (decide (lexC (formF (renF f (nmS n))) (fstF f nmS n) 24 < 0) = false) := by show _ = _; rw [HK.out]; exact decide_eq_false hk
        clear hk
        go_wp2_with fail
        refine wp_region_flo 7 1 [] _ _ 27 24 zero24r _ rfl rfl (by kernel_rfl) (by kernel_rfl) (Cls.two h1 hg (Below.refl _ _)) ?_; simp only [List.take_succ_cons, List.take_zero, List.drop_succ_cons, List.drop_zero]
        repeat (first
          | (with_reducible refine wpR_loadW rfl _ _ rfl _ rfl (fun _ h => h.r1) agg24r size24r ?_)
          | ((with_reducible refine wpR_loadA rfl _ _ rfl _ _ rfl (fun _ h => h.r2) 6 agg6 size6 (by omega) ?_); rw [HM.out])
          | ((with_reducible refine wpR_callE rfl 31 _ _ rfl (.agg (arr 24 (renF f (nmS n)))) (#[.agg (arr 24 f), .agg (arr 6 (nmS n))]) rfl ?_ ?_ ?_); (exact enters_of Tryz.func31 (by kernel_rfl) rfl); (intro w' h'; with_reducible exact l4Rename_at hc n w'))
          | ((with_reducible refine wpR_callE rfl 40 _ _ rfl (.agg (arr 24 (formF (renF f (nmS n))))) (#[.agg (arr 24 (renF f (nmS n)))]) rfl ?_ ?_ ?_); (exact enters_of Tryz.func40 (by kernel_rfl) rfl); (intro w' h'; with_reducible exact l3Form_any _ HR w'))
          | ((with_reducible refine wpR_step (fun K hK => ?_)); go_simp; (first | (refine ⟨_, fun _ _ => rfl, hK _ ?_⟩) | (refine hK _ ?_)); clear hK K))
        refine wpR_nil ?_
        intro B6 wt hB6 hCt h6
        have hb0 := hCt.2
        replace hbel := hbel.trans (hb0.mono hbel.size)
        replace h1 := row_keep hb0 h1
        replace h2 := row_keep hb0 h2
        replace hb := row_keep hb0 hb
        replace hg := row_keep hb0 hg
        clear hb0 hCt
        go_wp2_with first
          | (with_reducible refine wpList_storeWN rfl _ _ _ rfl _ rfl rfl h6 size24r hbel (by have := hbel.size; omega) ?_; intro w1 g3 ho g4; replace h1 := (ho _ (by omega)).trans h1; replace h2 := (ho _ (by omega)).trans h2; replace hb := (ho _ (by omega)).trans hb; replace hg := (ho _ (by omega)).trans hg; clear h6 hbel; have h6 := g3; have hbel := g4; clear g3 g4 ho)
        refine QN.intro ?_
        go_wp2_with first
          | (with_reducible refine wpList_loadW rfl _ _ rfl _ rfl h6 agg24r size24r ?_)
          | (with_reducible refine wpList_loadW rfl _ _ rfl _ rfl hb agg24r size24r ?_)
          | (go_at_call 58; (with_reducible refine (l2Before_any _ _ _).mono ?_); rw [HD.out]; rintro e w1 ⟨rfl, hb1⟩; replace hbel := hbel.trans (hb1.mono hbel.size); replace h1 := row_keep hb1 h1; replace h2 := row_keep hb1 h2; (try replace hb := row_keep hb1 hb); (try replace hg := row_keep hb1 hg); (try replace h5 := row_keep hb1 h5); (try replace h6 := row_keep hb1 h6); clear hb1)
          | (with_reducible refine wpList_storeWN rfl _ _ _ rfl _ rfl rfl hb size24r hbel (by omega) ?_; intro w1 g3 ho g4; replace h1 := (ho _ (by omega)).trans h1; replace h2 := (ho _ (by omega)).trans h2; replace hg := (ho _ (by omega)).trans hg; clear hb hbel; have hb := g3; have hbel := g4; clear g3 g4 ho)
        go_roundw
        case rel => exact ⟨n + 1, by omega, by go_num, h1, h2, by rw [HS.out]; exact hb, hg, hbel⟩
        case measure => simp [intOf]; omega
    · obtain rfl : n = 120 := by omega
      go_wp2_with first
        | (with_reducible refine wpList_loadW rfl _ _ rfl _ rfl hb agg24r size24r ?_)
        | (with_reducible refine wpList_storeW rfl _ _ _ rfl _ rfl rfl h2 size24r ?_)
      exact bodyPost_ret_by (results_cellA rfl _ _ _ _ _ _ _ rfl (setRow_heap _ _ _ _ _ _ h2) agg24r size24r) rfl ⟨rfl, below_setRow2 hbel (by omega) _⟩
theorem specFf_any (f : Nat → Int) (w : World) : Calls Tryz.prog 16 #[.agg (arr 24 f)] w fun e w' => e = .returned (.tuple #[.agg (arr 24 (ffR f).1), .bool (ffR f).2]) ∧ Below w.heap.size w w' := by
  have h1 : ((w.alloc (.cells (arr 24 f) 27)).alloc (.cells (arr 24 fun _ => 0) 27)).heap[w.heap.size]? = some (.cells (arr 24 f) 27 (0, 0)) := by rw [heap_old (by simp), heap_new rfl]
  have h2 : ((w.alloc (.cells (arr 24 f) 27)).alloc (.cells (arr 24 fun _ => 0) 27)).heap[w.heap.size + 1]? = some (.cells (arr 24 fun _ => 0) 27 (0, 0)) := heap_new (by simp)
  have hbel : Below w.heap.size w ((w.alloc (.cells (arr 24 f) 27)).alloc (.cells (arr 24 fun _ => 0) 27)) := ((Below.refl _ _).alloc (by simp) _).alloc (by simp) _
  unfold ffR
  cases hf : rackB f with
  | false =>
    have HF : Hid _ := hf
    simp only [Bool.false_eq_true, if_false]
    clear hf
    go_enter Tryz.func16, Tryz.ntmps16
    go_wp2_with first
      | (with_reducible refine wpList_allocA rfl 27 rfl 24 zero24r ?_; (try simp only [size_al]))
      | (with_reducible refine wpList_loadW rfl _ _ rfl _ rfl h1 agg24r size24r ?_)
      | (with_reducible refine wpList_build0 rfl 27 rfl 24 zbuild24 ?_)
      | (with_reducible refine wpList_storeW rfl _ _ _ rfl _ rfl rfl h2 size24r ?_)
      | (go_at_call 29; (with_reducible refine (l2Rack_any _ _).mono ?_); rw [HF.out]; rintro e w1 ⟨rfl, hb1⟩; replace hbel := hbel.trans (hb1.mono hbel.size); replace h1 := row_keep hb1 h1; replace h2 := row_keep hb1 h2; clear hb1)
    exact bodyPost_ret_by (results_ct _ _ _ _ _ _ _ rfl rfl (setRow_heap _ _ _ _ _ _ h2) agg24r size24r) rfl ⟨rfl, below_setRow2 hbel (by omega) _⟩
  | true =>
    have HF : Hid _ := hf
    simp only [if_true]
    go_enter Tryz.func16, Tryz.ntmps16
    go_wp2_with first
      | (with_reducible refine wpList_allocA rfl 27 rfl 24 zero24r ?_; (try simp only [size_al]))
      | (with_reducible refine wpList_loadW rfl _ _ rfl _ rfl h1 agg24r size24r ?_)
      | (with_reducible refine wpList_storeW rfl _ _ _ rfl _ rfl rfl h2 size24r ?_)
      | (go_at_call 29; (with_reducible refine (l2Rack_any _ _).mono ?_); rw [HF.out]; rintro e w1 ⟨rfl, hb1⟩; replace hbel := hbel.trans (hb1.mono hbel.size); replace h1 := row_keep hb1 h1; replace h2 := row_keep hb1 h2; clear hb1)
      | (go_at_call 35; (with_reducible refine (l4First_any f HF.out _).mono ?_); rintro e w1 ⟨rfl, hb1⟩; replace hbel := hbel.trans (hb1.mono hbel.size); replace h1 := row_keep hb1 h1; replace h2 := row_keep hb1 h2; clear hb1)
    exact bodyPost_ret_by (results_ct _ _ _ _ _ _ _ rfl rfl (setRow_heap _ _ _ _ _ _ h2) agg24r size24r) rfl ⟨rfl, below_setRow2 hbel (by omega) _⟩
theorem implFf_any (f : Nat → Int) (w : World) : Calls Tryz.prog 15 #[.agg (arr 24 f)] w fun e w' => e = .returned (.tuple #[.agg (arr 24 (ffR f).1), .bool (ffR f).2]) ∧ Below w.heap.size w w' := by
  have h1 : ((w.alloc (.cells (arr 24 f) 27)).alloc (.cells (arr 24 fun _ => 0) 27)).heap[w.heap.size]? = some (.cells (arr 24 f) 27 (0, 0)) := by rw [heap_old (by simp), heap_new rfl]
  have h2 : ((w.alloc (.cells (arr 24 f) 27)).alloc (.cells (arr 24 fun _ => 0) 27)).heap[w.heap.size + 1]? = some (.cells (arr 24 fun _ => 0) 27 (0, 0)) := heap_new (by simp)
  have hbel : Below w.heap.size w ((w.alloc (.cells (arr 24 f) 27)).alloc (.cells (arr 24 fun _ => 0) 27)) := ((Below.refl _ _).alloc (by simp) _).alloc (by simp) _
  unfold ffR
  cases hf : rackB f with
  | false =>
    have HF : Hid _ := hf
    simp only [Bool.false_eq_true, if_false]
    clear hf
    go_enter Tryz.func15, Tryz.ntmps15
    go_wp2_with first
      | (with_reducible refine wpList_allocA rfl 27 rfl 24 zero24r ?_; (try simp only [size_al]))
      | (with_reducible refine wpList_loadW rfl _ _ rfl _ rfl h1 agg24r size24r ?_)
      | (with_reducible refine wpList_build0 rfl 27 rfl 24 zbuild24 ?_)
      | (with_reducible refine wpList_storeW rfl _ _ _ rfl _ rfl rfl h2 size24r ?_)
      | (go_at_call 8; (with_reducible refine (IsRack_any _ _).mono ?_); rw [HF.out]; rintro e w1 ⟨rfl, hb1⟩; replace hbel := hbel.trans (hb1.mono hbel.size); replace h1 := row_keep hb1 h1; replace h2 := row_keep hb1 h2; clear hb1)
    exact bodyPost_ret_by (results_ct _ _ _ _ _ _ _ rfl rfl (setRow_heap _ _ _ _ _ _ h2) agg24r size24r) rfl ⟨rfl, below_setRow2 hbel (by omega) _⟩
  | true =>
    have HF : Hid _ := hf
    simp only [if_true]
    go_enter Tryz.func15, Tryz.ntmps15
    go_wp2_with first
      | (with_reducible refine wpList_allocA rfl 27 rfl 24 zero24r ?_; (try simp only [size_al]))
      | (with_reducible refine wpList_loadW rfl _ _ rfl _ rfl h1 agg24r size24r ?_)
      | (with_reducible refine wpList_storeW rfl _ _ _ rfl _ rfl rfl h2 size24r ?_)
      | (go_at_call 8; (with_reducible refine (IsRack_any _ _).mono ?_); rw [HF.out]; rintro e w1 ⟨rfl, hb1⟩; replace hbel := hbel.trans (hb1.mono hbel.size); replace h1 := row_keep hb1 h1; replace h2 := row_keep hb1 h2; clear hb1)
      | (go_at_call 34; (with_reducible refine (firstForm_any f HF.out _).mono ?_); rintro e w1 ⟨rfl, hb1⟩; replace hbel := hbel.trans (hb1.mono hbel.size); replace h1 := row_keep hb1 h1; replace h2 := row_keep hb1 h2; clear hb1)
    exact bodyPost_ret_by (results_ct _ _ _ _ _ _ _ rfl rfl (setRow_heap _ _ _ _ _ _ h2) agg24r size24r) rfl ⟨rfl, below_setRow2 hbel (by omega) _⟩
end Go.Proofs.YtlbgmkengkgnfaaGreat
end

section
/- The first renaming that leads from one rack to another one: the reference's; and AreAlike. -/
namespace Go.Proofs.YtlbgmkengkgnfaaGreat
set_option linter.unusedSimpArgs false
set_option linter.unusedVariables false
set_option maxRecDepth 20000
open Go.RowKit
noncomputable def mt (a b : Nat → Int) (n : Nat) : Bool := eqv 24 (formF (renF a (nmS n))) (formF b)
noncomputable def fd1 (a b : Nat → Int) : Option Nat := (List.range 120).find? (mt a b)
noncomputable def rgR (a b : Nat → Int) : (Nat → Int) × Bool := match fd1 a b with | some n => (nmS n, true) | none => (fun _ => 0, false)
theorem fd1_some {a b : Nat → Int} {n : Nat} (hn : n < 120) (h : mt a b n = true) (hb : ∀ k, k < n → mt a b k = false) : fd1 a b = some n := by
  unfold fd1
  rw [List.find?_range_eq_some]
  exact ⟨h, by simpa using hn, fun j hj => by simp [hb j hj]⟩
theorem fd1_none {a b : Nat → Int} (hb : ∀ k, k < 120 → mt a b k = false) : fd1 a b = none := by
  unfold fd1
  rw [List.find?_eq_none]
  intro x hx
  simp [hb x (List.mem_range.1 hx)]
theorem fd1_isSome {a b : Nat → Int} : (fd1 a b).isSome = true ↔ ∃ n, n < 120 ∧ mt a b n = true := by
  unfold fd1
  rw [List.find?_isSome]
  exact ⟨fun ⟨n, hn, h⟩ => ⟨n, List.mem_range.1 hn, h⟩, fun ⟨n, hn, h⟩ => ⟨n, List.mem_range.2 hn, h⟩⟩
theorem alk_fd {a b : Nat → Int} (ha : cellB a) (hb : cellB b) : eqv 24 (ffF a) (ffF b) = (rgR a b).2 := by
  have e : (rgR a b).2 = (fd1 a b).isSome := by unfold rgR; cases fd1 a b <;> rfl
  rw [e, Bool.eq_iff_iff, eqv_arr, fd1_isSome]
  unfold ffF
  rw [alk_iff ha hb nmS_all]
  constructor
  · rintro ⟨s, hs, h⟩
    obtain ⟨n, hn, hs2⟩ := nmS_all.2 s hs
    refine ⟨n, hn, ?_⟩
    unfold mt
    rw [eqv_arr, ← h]
    exact form_perm (ren_cell ha (nm_ren hn)) (ren_cell ha hs) (by rw [cdl_congr (renF_congr ha (fun _ _ => rfl) hs2)])
  · rintro ⟨n, hn, h⟩
    exact ⟨nmS n, nm_ren hn, eqv_arr.1 h⟩
set_option maxHeartbeats 1000000 in
theorem l4Renaming_any (a b : Nat → Int) (ha : rackB a = true) (hb : rackB b = true) (w : World) : Calls Tryz.prog 37 #[.agg (arr 24 a), .agg (arr 24 b)] w fun e w' => e = .returned (.tuple #[.agg (arr 6 (rgR a b).1), .bool (rgR a b).2]) ∧ Below w.heap.size w w' := by
  have h1 : (((w.alloc (.cells (arr 24 a) 27)).alloc (.cells (arr 24 b) 27)).alloc (.cells (arr 6 fun _ => 0) 28)).heap[w.heap.size]? = some (.cells (arr 24 a) 27 (0, 0)) := by rw [heap_old (by simp <;> omega), heap_old (by simp), heap_new rfl]
  have h2 : (((w.alloc (.cells (arr 24 a) 27)).alloc (.cells (arr 24 b) 27)).alloc (.cells (arr 6 fun _ => 0) 28)).heap[w.heap.size + 1]? = some (.cells (arr 24 b) 27 (0, 0)) := by rw [heap_old (by simp), heap_new (by simp)]
  have h4 : (((w.alloc (.cells (arr 24 a) 27)).alloc (.cells (arr 24 b) 27)).alloc (.cells (arr 6 fun _ => 0) 28)).heap[w.heap.size + 1 + 1]? = some (.cells (arr 6 fun _ => 0) 28 (0, 0)) := heap_new (by simp)
  have hbel : Below w.heap.size w (((w.alloc (.cells (arr 24 a) 27)).alloc (.cells (arr 24 b) 27)).alloc (.cells (arr 6 fun _ => 0) 28)) := (((Below.refl _ _).alloc (by simp) _).alloc (by simp) _).alloc (by simp <;> omega) _
  have hc := cellB_of_rack ha
  have tok_r : True := trivial
  have tok_h6 : True := trivial
  go_enter Tryz.func37, Tryz.ntmps37
  go_wp2_with first
    | (have _t := tok_r; (with_reducible refine wpList_allocA rfl 28 rfl 6 zero6 ?_; (try simp only [size_al])); clear _t tok_r)
    | (with_reducible refine wpList_loadW rfl _ _ rfl _ rfl h2 agg24r size24r ?_)
    | (go_at_call 40; (with_reducible refine (l3Form_any b hb _).mono ?_); rintro e w1 ⟨rfl, hb1⟩; replace hbel := hbel.trans (hb1.mono hbel.size); replace h1 := row_keep hb1 h1; replace h2 := row_keep hb1 h2; replace h4 := row_keep hb1 h4; clear hb1)
    | (go_at_call 39; (with_reducible refine (l4AllNames_any _).mono ?_); rintro e w1 ⟨v, rfl, hS, hb1⟩; replace h1 := row_keep hb1 h1; replace h2 := row_keep hb1 h2; replace h4 := row_keep hb1 h4; replace hbel := hbel.trans (hb1.mono hbel.size); clear hb1; (obtain ⟨g, cap, F, rfl, a1, hg, a3, a4, a5⟩ := hS.blk (by omega)))
    | (have _t := tok_h6; with_reducible refine wpList_allocN rfl 27 rfl 24 zero24r ?_; intro Bh6 w1 hBh6 h6 hb1; have hWh6 := Nat.le_trans hbel.size hBh6; have hLh1h6 := Nat.lt_of_lt_of_le (row_lt h1) hBh6; have hLh2h6 := Nat.lt_of_lt_of_le (row_lt h2) hBh6; have hLh4h6 := Nat.lt_of_lt_of_le (row_lt h4) hBh6; have hLhgh6 := Nat.lt_of_lt_of_le (row_lt hg) hBh6; replace hbel := hbel.trans (hb1.mono hbel.size); replace h1 := row_keep hb1 h1; replace h2 := row_keep hb1 h2; replace h4 := row_keep hb1 h4; replace hg := row_keep hb1 hg; clear hb1 _t tok_h6)
    | (with_reducible refine wpList_storeWN rfl _ _ _ rfl _ rfl rfl h6 size24r hbel hWh6 ?_; intro w1 g3 ho g4; replace h1 := (ho _ (by omega)).trans h1; replace h2 := (ho _ (by omega)).trans h2; replace h4 := (ho _ (by omega)).trans h4; replace hg := (ho _ (by omega)).trans hg; clear h6 hbel; have h6 := g3; have hbel := g4; clear g3 g4 ho)
  go_loopw [8] (fun i wr => ∃ n : Nat, n ≤ 120 ∧ i = .int .i64 n ∧ Hid (∀ k, k < n → mt a b k = false) ∧ wr.heap[w.heap.size]? = some (.cells (arr 24 a) 27 (0, 0)) ∧ wr.heap[w.heap.size + 1 + 1]? = some (.cells (arr 6 fun _ => 0) 28 (0, 0)) ∧ wr.heap[Bh6]? = some (.cells (arr 24 (formF b)) 27 (0, 0)) ∧ wr.heap[g]? = some (.cells (arr (cap * 6) F) 28 (0, 0)) ∧ Below w.heap.size w wr) (fun i _ => 120 - (intOf i).toNat)
  case atStart => exact ⟨0, by omega, rfl, fun k hk => by omega, h1, h4, h6, hg, hbel⟩
  case round =>
    clear h1 h2 h4 h6 hg hbel
    obtain ⟨n, hn, rfl, HN, h1, h4, h6, hg, hbel⟩ := hrel
    by_cases hlt : n < 120
    · have hlt' : (n : Int) < 120 := by omega
      have HM : Hid _ := nm_arr a5 hlt
      have HR := ren_rack ha (nm_ren hlt)
      cases hm : mt a b n with
      | false =>
        have HE : Hid (eqv 24 (formF (renF a (nmS n))) (formF b) = false) := hm
        have HN2 : Hid (∀ k, k < n + 1 → mt a b k = false) := fun k hk => by
          by_cases e : k = n
          · subst e; exact hm
          · exact HN.out k (by omega)
        clear hm
        go_wp2_with fail
        refine wp_region_held 9 (Cls wr []) (by kernel_rfl) (by kernel_rfl) (Cls.zero (Below.refl _ _)) ?_; simp only [List.take_succ_cons, List.take_zero, List.drop_succ_cons, List.drop_zero]
        repeat (first
          | (with_reducible refine wpQuiet_loadW rfl _ _ rfl _ rfl (fun _ h => h.kp h1) agg24r size24r ?_)
          | (with_reducible refine wpQuiet_loadW rfl _ _ rfl _ rfl (fun _ h => h.kp h6) agg24r size24r ?_)
          | ((with_reducible refine wpQuiet_loadA rfl _ _ rfl _ _ rfl (fun _ h => h.kp hg) 6 agg6 size6 (by omega) ?_); rw [HM.out])
          | ((with_reducible refine wpQuiet_callE rfl 31 _ _ rfl (.agg (arr 24 (renF a (nmS n)))) (#[.agg (arr 24 a), .agg (arr 6 (nmS n))]) rfl ?_ ?_ ?_); (exact enters_of Tryz.func31 (by kernel_rfl) rfl); (intro w' h'; with_reducible exact (l4Rename_at hc n w').mono fun _ _ ⟨he, hb⟩ => ⟨he, h'.keep hb⟩))
          | ((with_reducible refine wpQuiet_callE rfl 40 _ _ rfl (.agg (arr 24 (formF (renF a (nmS n))))) (#[.agg (arr 24 (renF a (nmS n)))]) rfl ?_ ?_ ?_); (exact enters_of Tryz.func40 (by kernel_rfl) rfl); (intro w' h'; with_reducible exact (l3Form_any _ HR w').mono fun _ _ ⟨he, hb⟩ => ⟨he, h'.keep hb⟩))
          | ((with_reducible refine wpQuiet_eqlA eqRk (by decide) gdRk rfl _ _ _ rfl rfl rfl ?_); rw [HE.out])
          | ((with_reducible refine wpQuiet_step (fun K hK => ?_)); go_simp; (first | (refine ⟨_, fun _ _ => rfl, hK _ ?_⟩) | (refine ⟨_, fun _ _ => ⟨rfl, rfl⟩, hK _ ?_⟩) | (refine hK _ ?_)); clear hK K))
        refine wpQuiet_nil ?_; intro wt hCt; replace hCt := hCt.2; replace hbel := hbel.trans (hCt.mono hbel.size); replace h1 := row_keep hCt h1; replace h4 := row_keep hCt h4; replace h6 := row_keep hCt h6; replace hg := row_keep hCt hg; clear hCt
        go_wp2_with fail
        go_roundw
        case rel => exact ⟨n + 1, by omega, by go_num, HN2, h1, h4, h6, hg, hbel⟩
        case measure => simp [intOf]; omega
      | true =>
        have HE : Hid (eqv 24 (formF (renF a (nmS n))) (formF b) = true) := hm
        have HG : Hid (rgR a b = (nmS n, true)) := by show _ = _; unfold rgR; rw [fd1_some hlt hm HN.out]
        clear hm
        go_wp2_with fail
        refine wp_region_held 9 (Cls wr []) (by kernel_rfl) (by kernel_rfl) (Cls.zero (Below.refl _ _)) ?_; simp only [List.take_succ_cons, List.take_zero, List.drop_succ_cons, List.drop_zero]
        repeat (first
          | (with_reducible refine wpQuiet_loadW rfl _ _ rfl _ rfl (fun _ h => h.kp h1) agg24r size24r ?_)
          | (with_reducible refine wpQuiet_loadW rfl _ _ rfl _ rfl (fun _ h => h.kp h6) agg24r size24r ?_)
          | ((with_reducible refine wpQuiet_loadA rfl _ _ rfl _ _ rfl (fun _ h => h.kp hg) 6 agg6 size6 (by omega) ?_); rw [HM.out])
          | ((with_reducible refine wpQuiet_callE rfl 31 _ _ rfl (.agg (arr 24 (renF a (nmS n)))) (#[.agg (arr 24 a), .agg (arr 6 (nmS n))]) rfl ?_ ?_ ?_); (exact enters_of Tryz.func31 (by kernel_rfl) rfl); (intro w' h'; with_reducible exact (l4Rename_at hc n w').mono fun _ _ ⟨he, hb⟩ => ⟨he, h'.keep hb⟩))
          | ((with_reducible refine wpQuiet_callE rfl 40 _ _ rfl (.agg (arr 24 (formF (renF a (nmS n))))) (#[.agg (arr 24 (renF a (nmS n)))]) rfl ?_ ?_ ?_); (exact enters_of Tryz.func40 (by kernel_rfl) rfl); (intro w' h'; with_reducible exact (l3Form_any _ HR w').mono fun _ _ ⟨he, hb⟩ => ⟨he, h'.keep hb⟩))
          | ((with_reducible refine wpQuiet_eqlA eqRk (by decide) gdRk rfl _ _ _ rfl rfl rfl ?_); rw [HE.out])
          | ((with_reducible refine wpQuiet_step (fun K hK => ?_)); go_simp; (first | (refine ⟨_, fun _ _ => rfl, hK _ ?_⟩) | (refine ⟨_, fun _ _ => ⟨rfl, rfl⟩, hK _ ?_⟩) | (refine hK _ ?_)); clear hK K))
        refine wpQuiet_nil ?_; intro wt hCt; replace hCt := hCt.2; replace hbel := hbel.trans (hCt.mono hbel.size); replace h1 := row_keep hCt h1; replace h4 := row_keep hCt h4; replace h6 := row_keep hCt h6; replace hg := row_keep hCt hg; clear hCt
        go_wp2_with first
          | ((with_reducible refine wpList_loadA rfl _ _ rfl _ _ rfl hg 6 agg6 size6 (by omega) ?_); rw [HM.out])
          | (with_reducible refine wpList_storeW rfl _ _ _ rfl _ rfl rfl h4 size6 ?_)
        exact bodyPost_ret_by (results_ct _ _ _ _ _ _ _ rfl rfl (setRow_heap _ _ _ _ _ _ h4) agg6 size6) rfl ⟨by (rw [HG.out]; rfl), below_setRow2 hbel (by omega) _⟩
    · obtain rfl : n = 120 := by omega
      have HG : Hid (rgR a b = (fun _ => 0, false)) := by show _ = _; unfold rgR; rw [fd1_none HN.out]
      go_wp2_with first
        | (with_reducible refine wpList_build0 rfl 28 rfl 6 zbuild6 ?_)
        | (with_reducible refine wpList_storeW rfl _ _ _ rfl _ rfl rfl h4 size6 ?_)
      exact bodyPost_ret_by (results_ct _ _ _ _ _ _ _ rfl rfl (setRow_heap _ _ _ _ _ _ h4) agg6 size6) rfl ⟨by (rw [HG.out]; rfl), below_setRow2 hbel (by omega) _⟩
noncomputable def aaR (a b : Nat → Int) : Bool × Bool := if rackB a = true ∧ rackB b = true then ((rgR a b).2, true) else (false, false)
theorem specAa_any (a b : Nat → Int) (w : World) : Calls Tryz.prog 19 #[.agg (arr 24 a), .agg (arr 24 b)] w fun e w' => e = .returned (.tuple #[.bool (aaR a b).1, .bool (aaR a b).2]) ∧ Below w.heap.size w w' := by
  have h1 : ((w.alloc (.cells (arr 24 a) 27)).alloc (.cells (arr 24 b) 27)).heap[w.heap.size]? = some (.cells (arr 24 a) 27 (0, 0)) := by rw [heap_old (by simp), heap_new rfl]
  have h2 : ((w.alloc (.cells (arr 24 a) 27)).alloc (.cells (arr 24 b) 27)).heap[w.heap.size + 1]? = some (.cells (arr 24 b) 27 (0, 0)) := heap_new (by simp)
  have hbel : Below w.heap.size w ((w.alloc (.cells (arr 24 a) 27)).alloc (.cells (arr 24 b) 27)) := ((Below.refl _ _).alloc (by simp) _).alloc (by simp) _
  have tok_h6 : True := trivial
  cases ha : rackB a with
  | false =>
    rw [show aaR a b = (false, false) from if_neg (by simp [ha])]
    have HA : Hid _ := ha
    have HB : Hid (1 = 1) := rfl
    have HX : Hid (1 = 1) := rfl
    clear ha
    go_enter Tryz.func19, Tryz.ntmps19
    go_wp2_with first
      | (with_reducible refine wpList_loadW rfl _ _ rfl _ rfl h1 agg24r size24r ?_)
      | (with_reducible refine wpList_loadWG rfl _ _ rfl _ rfl h2 agg24r size24r ?_)
      | (go_at_call 29; (with_reducible refine (l2Rack_at HA.out _).mono ?_); rintro e w1 ⟨rfl, hb1⟩; replace hbel := hbel.trans (hb1.mono hbel.size); replace h1 := row_keep hb1 h1; replace h2 := row_keep hb1 h2; clear hb1)
      | (go_at_call 29; (with_reducible refine (l2Rack_at HB.out _).mono ?_); rintro e w1 ⟨rfl, hb1⟩; replace hbel := hbel.trans (hb1.mono hbel.size); replace h1 := row_keep hb1 h1; replace h2 := row_keep hb1 h2; clear hb1)
      | (with_reducible refine wpList_loadW rfl _ _ rfl _ rfl h2 agg24r size24r ?_)
      | (go_at_call 37; (with_reducible refine (l4Renaming_any a b HA.out HB.out _).mono ?_); rintro e w1 ⟨rfl, hb1⟩; replace hbel := hbel.trans (hb1.mono hbel.size); replace h1 := row_keep hb1 h1; replace h2 := row_keep hb1 h2; clear hb1)
      | (have _t := tok_h6; with_reducible refine wpList_allocN rfl 28 rfl 6 zero6 ?_; intro Bh6 w1 hBh6 h6 hb1; have hWh6 := Nat.le_trans hbel.size hBh6; have hLh1h6 := Nat.lt_of_lt_of_le (row_lt h1) hBh6; have hLh2h6 := Nat.lt_of_lt_of_le (row_lt h2) hBh6; replace hbel := hbel.trans (hb1.mono hbel.size); replace h1 := row_keep hb1 h1; replace h2 := row_keep hb1 h2; clear hb1 _t tok_h6)
      | (with_reducible refine wpList_storeWN rfl _ _ _ rfl _ rfl rfl h6 size6 hbel hWh6 ?_; intro w1 g3 ho g4; replace h1 := (ho _ (by omega)).trans h1; replace h2 := (ho _ (by omega)).trans h2; clear h6 hbel; have h6 := g3; have hbel := g4; clear g3 g4 ho)
    go_ret2
    exact ⟨rfl, hbel⟩
  | true =>
    cases hb : rackB b with
    | false =>
      rw [show aaR a b = (false, false) from if_neg (by simp [hb])]
      have HA : Hid _ := ha
      have HB : Hid _ := hb
      have HX : Hid (1 = 1) := rfl
      clear ha hb
      go_enter Tryz.func19, Tryz.ntmps19
      go_wp2_with first
        | (with_reducible refine wpList_loadW rfl _ _ rfl _ rfl h1 agg24r size24r ?_)
        | (with_reducible refine wpList_loadWG rfl _ _ rfl _ rfl h2 agg24r size24r ?_)
        | (go_at_call 29; (with_reducible refine (l2Rack_at HA.out _).mono ?_); rintro e w1 ⟨rfl, hb1⟩; replace hbel := hbel.trans (hb1.mono hbel.size); replace h1 := row_keep hb1 h1; replace h2 := row_keep hb1 h2; clear hb1)
        | (go_at_call 29; (with_reducible refine (l2Rack_at HB.out _).mono ?_); rintro e w1 ⟨rfl, hb1⟩; replace hbel := hbel.trans (hb1.mono hbel.size); replace h1 := row_keep hb1 h1; replace h2 := row_keep hb1 h2; clear hb1)
        | (with_reducible refine wpList_loadW rfl _ _ rfl _ rfl h2 agg24r size24r ?_)
        | (go_at_call 37; (with_reducible refine (l4Renaming_any a b HA.out HB.out _).mono ?_); rintro e w1 ⟨rfl, hb1⟩; replace hbel := hbel.trans (hb1.mono hbel.size); replace h1 := row_keep hb1 h1; replace h2 := row_keep hb1 h2; clear hb1)
        | (have _t := tok_h6; with_reducible refine wpList_allocN rfl 28 rfl 6 zero6 ?_; intro Bh6 w1 hBh6 h6 hb1; have hWh6 := Nat.le_trans hbel.size hBh6; have hLh1h6 := Nat.lt_of_lt_of_le (row_lt h1) hBh6; have hLh2h6 := Nat.lt_of_lt_of_le (row_lt h2) hBh6; replace hbel := hbel.trans (hb1.mono hbel.size); replace h1 := row_keep hb1 h1; replace h2 := row_keep hb1 h2; clear hb1 _t tok_h6)
        | (with_reducible refine wpList_storeWN rfl _ _ _ rfl _ rfl rfl h6 size6 hbel hWh6 ?_; intro w1 g3 ho g4; replace h1 := (ho _ (by omega)).trans h1; replace h2 := (ho _ (by omega)).trans h2; clear h6 hbel; have h6 := g3; have hbel := g4; clear g3 g4 ho)
      go_ret2
      exact ⟨rfl, hbel⟩
    | true =>
      rw [show aaR a b = ((rgR a b).2, true) from if_pos ⟨ha, hb⟩]
      have HA : Hid _ := ha
      have HB : Hid _ := hb
      have HX : Hid _ := alk_fd (cellB_of_rack ha) (cellB_of_rack hb)
      clear ha hb
      go_enter Tryz.func19, Tryz.ntmps19
      go_wp2_with first
        | (with_reducible refine wpList_loadW rfl _ _ rfl _ rfl h1 agg24r size24r ?_)
        | (with_reducible refine wpList_loadWG rfl _ _ rfl _ rfl h2 agg24r size24r ?_)
        | (go_at_call 29; (with_reducible refine (l2Rack_at HA.out _).mono ?_); rintro e w1 ⟨rfl, hb1⟩; replace hbel := hbel.trans (hb1.mono hbel.size); replace h1 := row_keep hb1 h1; replace h2 := row_keep hb1 h2; clear hb1)
        | (go_at_call 29; (with_reducible refine (l2Rack_at HB.out _).mono ?_); rintro e w1 ⟨rfl, hb1⟩; replace hbel := hbel.trans (hb1.mono hbel.size); replace h1 := row_keep hb1 h1; replace h2 := row_keep hb1 h2; clear hb1)
        | (with_reducible refine wpList_loadW rfl _ _ rfl _ rfl h2 agg24r size24r ?_)
        | (go_at_call 37; (with_reducible refine (l4Renaming_any a b HA.out HB.out _).mono ?_); rintro e w1 ⟨rfl, hb1⟩; replace hbel := hbel.trans (hb1.mono hbel.size); replace h1 := row_keep hb1 h1; replace h2 := row_keep hb1 h2; clear hb1)
        | (have _t := tok_h6; with_reducible refine wpList_allocN rfl 28 rfl 6 zero6 ?_; intro Bh6 w1 hBh6 h6 hb1; have hWh6 := Nat.le_trans hbel.size hBh6; have hLh1h6 := Nat.lt_of_lt_of_le (row_lt h1) hBh6; have hLh2h6 := Nat.lt_of_lt_of_le (row_lt h2) hBh6; replace hbel := hbel.trans (hb1.mono hbel.size); replace h1 := row_keep hb1 h1; replace h2 := row_keep hb1 h2; clear hb1 _t tok_h6)
        | (with_reducible refine wpList_storeWN rfl _ _ _ rfl _ rfl rfl h6 size6 hbel hWh6 ?_; intro w1 g3 ho g4; replace h1 := (ho _ (by omega)).trans h1; replace h2 := (ho _ (by omega)).trans h2; clear h6 hbel; have h6 := g3; have hbel := g4; clear g3 g4 ho)
      go_ret2
      exact ⟨rfl, hbel⟩
theorem implAa_any (a b : Nat → Int) (w : World) : Calls Tryz.prog 18 #[.agg (arr 24 a), .agg (arr 24 b)] w fun e w' => e = .returned (.tuple #[.bool (aaR a b).1, .bool (aaR a b).2]) ∧ Below w.heap.size w w' := by
  have h1 : ((w.alloc (.cells (arr 24 a) 27)).alloc (.cells (arr 24 b) 27)).heap[w.heap.size]? = some (.cells (arr 24 a) 27 (0, 0)) := by rw [heap_old (by simp), heap_new rfl]
  have h2 : ((w.alloc (.cells (arr 24 a) 27)).alloc (.cells (arr 24 b) 27)).heap[w.heap.size + 1]? = some (.cells (arr 24 b) 27 (0, 0)) := heap_new (by simp)
  have hbel : Below w.heap.size w ((w.alloc (.cells (arr 24 a) 27)).alloc (.cells (arr 24 b) 27)) := ((Below.refl _ _).alloc (by simp) _).alloc (by simp) _
  cases ha : rackB a with
  | false =>
    rw [show aaR a b = (false, false) from if_neg (by simp [ha])]
    have HA : Hid _ := ha
    have HB : Hid (1 = 1) := rfl
    have HX : Hid (1 = 1) := rfl
    clear ha
    go_enter Tryz.func18, Tryz.ntmps18
    go_wp2_with first
      | (with_reducible refine wpList_loadW rfl _ _ rfl _ rfl h1 agg24r size24r ?_)
      | (with_reducible refine wpList_loadWG rfl _ _ rfl _ rfl h2 agg24r size24r ?_)
      | (go_at_call 8; (with_reducible refine (IsRack_at HA.out _).mono ?_); rintro e w1 ⟨rfl, hb1⟩; replace hbel := hbel.trans (hb1.mono hbel.size); replace h1 := row_keep hb1 h1; replace h2 := row_keep hb1 h2; clear hb1)
      | (go_at_call 8; (with_reducible refine (IsRack_at HB.out _).mono ?_); rintro e w1 ⟨rfl, hb1⟩; replace hbel := hbel.trans (hb1.mono hbel.size); replace h1 := row_keep hb1 h1; replace h2 := row_keep hb1 h2; clear hb1)
    go_ret2
    exact ⟨rfl, hbel⟩
  | true =>
    cases hb : rackB b with
    | false =>
      rw [show aaR a b = (false, false) from if_neg (by simp [hb])]
      have HA : Hid _ := ha
      have HB : Hid _ := hb
      have HX : Hid (1 = 1) := rfl
      clear ha hb
      go_enter Tryz.func18, Tryz.ntmps18
      go_wp2_with first
        | (with_reducible refine wpList_loadW rfl _ _ rfl _ rfl h1 agg24r size24r ?_)
        | (with_reducible refine wpList_loadWG rfl _ _ rfl _ rfl h2 agg24r size24r ?_)
        | (go_at_call 8; (with_reducible refine (IsRack_at HA.out _).mono ?_); rintro e w1 ⟨rfl, hb1⟩; replace hbel := hbel.trans (hb1.mono hbel.size); replace h1 := row_keep hb1 h1; replace h2 := row_keep hb1 h2; clear hb1)
        | (go_at_call 8; (with_reducible refine (IsRack_at HB.out _).mono ?_); rintro e w1 ⟨rfl, hb1⟩; replace hbel := hbel.trans (hb1.mono hbel.size); replace h1 := row_keep hb1 h1; replace h2 := row_keep hb1 h2; clear hb1)
      go_ret2
      exact ⟨rfl, hbel⟩
    | true =>
      rw [show aaR a b = ((rgR a b).2, true) from if_pos ⟨ha, hb⟩]
      have HA : Hid _ := ha
      have HB : Hid _ := hb
      have HX : Hid _ := alk_fd (cellB_of_rack ha) (cellB_of_rack hb)
      clear ha hb
      obtain ⟨x, hx⟩ : ∃ x, (rgR a b).2 = x := ⟨_, rfl⟩
      have HX2 : Hid _ := HX.out.trans hx
      rw [hx]
      clear hx
      go_enter Tryz.func18, Tryz.ntmps18
      go_wp2_with first
        | (with_reducible refine wpList_loadW rfl _ _ rfl _ rfl h1 agg24r size24r ?_)
        | (with_reducible refine wpList_loadWG rfl _ _ rfl _ rfl h2 agg24r size24r ?_)
        | (go_at_call 8; (with_reducible refine (IsRack_at HA.out _).mono ?_); rintro e w1 ⟨rfl, hb1⟩; replace hbel := hbel.trans (hb1.mono hbel.size); replace h1 := row_keep hb1 h1; replace h2 := row_keep hb1 h2; clear hb1)
        | (go_at_call 8; (with_reducible refine (IsRack_at HB.out _).mono ?_); rintro e w1 ⟨rfl, hb1⟩; replace hbel := hbel.trans (hb1.mono hbel.size); replace h1 := row_keep hb1 h1; replace h2 := row_keep hb1 h2; clear hb1)
      refine wp_region_held 5 (Cls w _) (by kernel_rfl) (by kernel_rfl) (Cls.two h1 h2 hbel) ?_; simp only [List.take_succ_cons, List.take_zero, List.drop_succ_cons, List.drop_zero]
      repeat (first
        | (with_reducible refine wpQuiet_loadW rfl _ _ rfl _ rfl (fun _ h => h.r1) agg24r size24r ?_)
        | (with_reducible refine wpQuiet_loadW rfl _ _ rfl _ rfl (fun _ h => h.r2) agg24r size24r ?_)
        | ((with_reducible refine wpQuiet_callE rfl 34 _ _ rfl (.agg (arr 24 (ffF a))) (#[.agg (arr 24 a)]) rfl ?_ ?_ ?_); (exact enters_of Tryz.func34 (by kernel_rfl) rfl); (intro w' h'; with_reducible exact (firstForm_any a HA.out w').mono fun _ _ ⟨he, hb⟩ => ⟨he, h'.keep hb⟩))
        | ((with_reducible refine wpQuiet_callE rfl 34 _ _ rfl (.agg (arr 24 (ffF b))) (#[.agg (arr 24 b)]) rfl ?_ ?_ ?_); (exact enters_of Tryz.func34 (by kernel_rfl) rfl); (intro w' h'; with_reducible exact (firstForm_any b HB.out w').mono fun _ _ ⟨he, hb⟩ => ⟨he, h'.keep hb⟩))
        | ((with_reducible refine wpQuiet_eqlA eqRk (by decide) gdRk rfl _ _ _ rfl rfl rfl ?_); rw [HX2.out])
        | ((with_reducible refine wpQuiet_step (fun K hK => ?_)); go_simp; (first | (refine ⟨_, fun _ _ => rfl, hK _ ?_⟩) | (refine ⟨_, fun _ _ => ⟨rfl, rfl⟩, hK _ ?_⟩) | (refine hK _ ?_)); clear hK K))
      refine wpQuiet_nil ?_
      intro wt hCt
      replace hbel := hCt.2
      clear hCt
      go_wp2_with fail
      go_ret2
      exact ⟨rfl, hbel⟩
end Go.Proofs.YtlbgmkengkgnfaaGreat
end

section
/- What is kept of a list: plain laws; clear, and a piece of a slice, at the walk. -/
namespace Go.Proofs.YtlbgmkengkgnfaaGreat
set_option linter.unusedSimpArgs false
set_option linter.unusedVariables false
set_option maxRecDepth 20000
open Go.RowKit
noncomputable def kp (a b : Nat → Int) (n : Nat) : List Nat := (List.range n).filter (mt a b)
noncomputable def kpF (a b : Nat → Int) (n : Nat) : Nat → Int := fls 6 ((kp a b n).map nmS)
theorem kp_yes {a b : Nat → Int} {n : Nat} (h : mt a b n = true) : kp a b (n + 1) = kp a b n ++ [n] := by
  unfold kp
  rw [List.range_succ, List.filter_append]
  simp [h]
theorem kp_no {a b : Nat → Int} {n : Nat} (h : mt a b n = false) : kp a b (n + 1) = kp a b n := by
  unfold kp
  rw [List.range_succ, List.filter_append]
  simp [h]
theorem kp_len (a b : Nat → Int) (n : Nat) : (kp a b n).length ≤ n := by
  unfold kp
  have := List.length_filter_le (mt a b) (List.range n)
  simpa using this
theorem kp_all {a b : Nat → Int} {n : Nat} (h : ∀ k, k < n → mt a b k = true) : kp a b n = List.range n := by
  unfold kp
  rw [List.filter_eq_self]
  exact fun x hx => h x (List.mem_range.1 hx)
theorem kp_lt {a b : Nat → Int} {k0 : Nat} (h0 : mt a b k0 = false) : ∀ n, k0 < n → (kp a b n).length < n := by
  intro n hn
  induction n with
  | zero => omega
  | succ n ih =>
    by_cases e : k0 = n
    · subst e
      rw [kp_no h0]
      have := kp_len a b k0
      omega
    · have := ih (by omega)
      cases hm : mt a b n with
      | true => rw [kp_yes hm, List.length_append]; simp; omega
      | false => rw [kp_no hm]; omega
theorem kpF_range {n q : Nat} (hq : q < n * 6) : fls 6 ((List.range n).map nmS) q = nmS (q / 6) (q % 6) := by
  have hd : q / 6 < n := by omega
  unfold fls
  rw [List.getD_eq_getElem?_getD, List.getElem?_map, List.getElem?_range hd]
  rfl
theorem nm_row {q : Nat} (hq : q < 120 * 6) : fls 6 (nmL.map fnL) q = nmS (q / 6) (q % 6) := by
  have := nm_at (n := q / 6) (j := q % 6) (by omega) (Nat.mod_lt _ (by omega))
  rwa [show q / 6 * 6 + q % 6 = q by omega] at this
theorem kpF_step {a b : Nat → Int} {n : Nat} (h : mt a b n = true) {F : Nat → Int} (hF : ∀ q, q < (kp a b n).length * 6 → F q = kpF a b n q) :
    ∀ q, q < ((kp a b n).length + 1) * 6 → updN F ((kp a b n).length * 6) 6 (nmS n) q = kpF a b (n + 1) q := fun q hq => by
  unfold kpF
  rw [kp_yes h, List.map_append, List.map_cons, List.map_nil, ← fls_snoc (by omega) _ _ q (by rw [List.length_map]; exact hq), List.length_map]
  unfold updN app
  by_cases h1 : q < (kp a b n).length * 6
  · rw [if_neg (by omega), if_pos h1]
    exact hF q h1
  · rw [if_pos (by omega), if_neg h1]
/-- s[i:] and s[:i]. -/
theorem run_from {P : Program} {t e : TypeId} {s b : Nat} (hT : SlOK P t e s b) {g n c i : Nat} (hi : i ≤ n) (hc : i ≠ c) (w : World) :
    (Instr.sliceAt t (.slice (some ⟨g, 0, none⟩) n c) (some (.int .i64 i)) none none).run P w = .ok (.slice (some ⟨g, i * s, none⟩) (n - i) (c - i)) w := by
  obtain ⟨ht, hi0, _⟩ := hT
  have he : P.elem t = e := by unfold Program.elem; rw [ht]
  have hu : P.underlying t = some (.slice (P.elem t)) := by rw [he]; exact ht
  rw [run_sliceAt_slice (h := hu), run_slice_l (ht := hu) (h0 := by omega) (h1 := by omega), he]
  cases hq : P.info? e with
  | none => simp [hq] at hi0
  | some x =>
    simp only [hq, Option.map_some, Option.some.injEq, Prod.mk.injEq] at hi0
    have hc' : ¬ c = i := fun e => hc e.symm
    simp [sizeOf, typeInfo, hq, hi0.1, sliced, Sem.run_bind, hc', add_off]
theorem run_upto {P : Program} {t e : TypeId} {s b : Nat} (hT : SlOK P t e s b) {g n c i : Nat} (hi : i ≤ c) (hc : 0 < c) (w : World) :
    (Instr.sliceAt t (.slice (some ⟨g, 0, none⟩) n c) none (some (.int .i64 i)) none).run P w = .ok (.slice (some ⟨g, 0, none⟩) i c) w := by
  obtain ⟨ht, hi0, _⟩ := hT
  have he : P.elem t = e := by unfold Program.elem; rw [ht]
  have hu : P.underlying t = some (.slice (P.elem t)) := by rw [he]; exact ht
  rw [run_sliceAt_slice (h := hu), run_slice_h (ht := hu) (h0 := by omega) (h2 := by omega), he]
  cases hq : P.info? e with
  | none => simp [hq] at hi0
  | some x =>
    have hc' : ¬ c = 0 := by omega
    simp [sizeOf, typeInfo, hq, sliced, Sem.run_bind, hc', add_off]
/-- clear of a piece of a row. -/
theorem wpList_clearS {P : Program} {ops : Array Oper} {rest : List Oper} {o : Oper} {a : Act} {w : World} {Q : Exit → Act → World → Prop} {t e : TypeId} {s b : Nat} (hT : SlOK P t e s b) (hs0 : 0 < s) (hgd : o.guard = none) (x : Operand)
    (ho : o.op = .call { callee := .builtin .clear, args := #[x], argTypes := #[t] }) {g off n c N : Nat} {F : Nat → Int} (hx : a.eval x = .slice (some ⟨g, off, none⟩) n c) (hn : 0 < n) (hB : w.heap[g]? = some (.cells (arr N F) e (0, 0))) (hle : off + n * s ≤ N)
    {k : Nat} {w0 : World} (hb : Below k w0 w) (hk : k ≤ g)
    (h : ∀ F' w', (∀ q, q < off → F' q = F q) → w'.heap[g]? = some (.cells (arr N F') e (0, 0)) → (∀ B', B' ≠ g → w'.heap[B']? = w.heap[B']?) → Below k w0 w' → wpList P ops Q rest (a.put o.dst (.tuple #[])) w') : wpList P ops Q (o :: rest) a w :=
  wpList_plain hgd fun _ hK => by
    obtain ⟨ht, hi0, hz0⟩ := hT
    cases hi : P.info? e with
    | none => simp [hi] at hi0
    | some i =>
    cases hz : i.zero with
    | none => simp [hi, hz] at hz0
    | some z =>
    simp only [hi, hz, Option.map_some, Option.bind_some, Option.some.injEq] at hz0
    have hst := run_storeCells_arr (P := P) g e N ((List.range (n * s)).map fun _ => 0) off F w 0 hB (by simpa using hle)
    rw [← arr_toList] at hst
    have hr : (Builtin.clear_ #[t] o.type #[.slice (some ⟨g, off, none⟩) n c]).run P w = .ok (.tuple #[]) (w.setRow g (arr N fun j => if off + 0 ≤ j ∧ j < off + 0 + ((List.range (n * s)).map fun _ => (0 : Int)).length then ((List.range (n * s)).map fun _ => (0 : Int)).getD (j - off - 0) 0 else F j)) := by
      unfold Builtin.clear_
      obtain ⟨n', rfl⟩ : ∃ n', n = n' + 1 := ⟨n - 1, by omega⟩
      simp [Sem.run_bind, run_underlying ht, zeroValue, typeInfo, hi, hz, hz0, zeroCells_arr s _ hs0, hst]
    unfold Oper.wp execOp
    simp only [ho, resolve, invoke, builtin, Sem.run_bind, Sem.run_pure, Result.andThen_ok, List.map_toArray, List.map_cons, List.map_nil, hx, hr]
    refine hK _ _ (h _ _ (fun q hq => ?_) (setRow_heap _ _ _ _ _ _ hB) (fun B' hB' => setRow_other _ _ _ _ hB') (below_setRow2 hb hk _))
    rw [if_neg (by omega)]
end Go.Proofs.YtlbgmkengkgnfaaGreat
end

section
/- RenamingTo and CountRenamings: the program's and the reference's, and the laws. -/
namespace Go.Proofs.YtlbgmkengkgnfaaGreat
set_option linter.unusedSimpArgs false
set_option linter.unusedVariables false
set_option maxRecDepth 20000
open Go.RowKit
theorem clo_any {a b : Nat → Int} (ha : rackB a = true) {n : Nat} (hn : n < 120) {B1 B5 : Nat} (w : World) (g1 : w.heap[B1]? = some (.cells (arr 24 a) 27 (0, 0))) (g5 : w.heap[B5]? = some (.cells (arr 24 (formF b)) 27 (0, 0))) :
    Calls Tryz.prog 64 #[.agg (arr 6 (nmS n)), .pointer (some ⟨B1, 0, none⟩), .pointer (some ⟨B5, 0, none⟩)] w fun e w' => e = .returned (.bool (!mt a b n)) ∧ Below w.heap.size w w' := by
  have h1 := row_alloc (x := .cells (arr 6 (nmS n)) 28) g1
  have h5 := row_alloc (x := .cells (arr 6 (nmS n)) 28) g5
  have h3 : (w.alloc (.cells (arr 6 (nmS n)) 28)).heap[w.heap.size]? = some (.cells (arr 6 (nmS n)) 28 (0, 0)) := heap_new rfl
  have hbel : Below w.heap.size w (w.alloc (.cells (arr 6 (nmS n)) 28)) := (Below.refl _ _).alloc (by simp) _
  have hc := cellB_of_rack ha
  have HR := ren_rack ha (nm_ren hn)
  obtain ⟨m, hm⟩ : ∃ m, mt a b n = m := ⟨_, rfl⟩
  have HE : Hid (eqv 24 (formF (renF a (nmS n))) (formF b) = m) := hm
  rw [hm]
  clear hm g1 g5
  go_enter Tryz.func64, Tryz.ntmps64
  go_wp2_with fail
  refine wp_region_held 7 (Cls w _) (by kernel_rfl) (by kernel_rfl) (Cls.three h1 h5 h3 hbel) ?_; simp only [List.take_succ_cons, List.take_zero, List.drop_succ_cons, List.drop_zero]
  repeat (first
    | (with_reducible refine wpQuiet_loadW rfl _ _ rfl _ rfl (fun _ h => h.r1) agg24r size24r ?_)
    | (with_reducible refine wpQuiet_loadW rfl _ _ rfl _ rfl (fun _ h => h.r2) agg24r size24r ?_)
    | (with_reducible refine wpQuiet_loadW rfl _ _ rfl _ rfl (fun _ h => h.r3) agg6 size6 ?_)
    | ((with_reducible refine wpQuiet_callE rfl 28 _ _ rfl (.agg (arr 24 (renF a (nmS n)))) (#[.agg (arr 24 a), .agg (arr 6 (nmS n))]) rfl ?_ ?_ ?_); (exact enters_of Tryz.func28 (by kernel_rfl) rfl); (intro w' h'; with_reducible exact (renamed_at hc n w').mono fun _ _ ⟨he, hb⟩ => ⟨he, h'.keep hb⟩))
    | ((with_reducible refine wpQuiet_callE rfl 41 _ _ rfl (.agg (arr 24 (formF (renF a (nmS n))))) (#[.agg (arr 24 (renF a (nmS n)))]) rfl ?_ ?_ ?_); (exact enters_of Tryz.func41 (by kernel_rfl) rfl); (intro w' h'; with_reducible exact (formOf_any _ HR w').mono fun _ _ ⟨he, hb⟩ => ⟨he, h'.keep hb⟩))
    | ((with_reducible refine wpQuiet_neqA eqRk (by decide) gdRk rfl _ _ _ rfl rfl rfl ?_); rw [HE.out])
    | ((with_reducible refine wpQuiet_step (fun K hK => ?_)); go_simp; (first | (refine ⟨_, fun _ _ => rfl, hK _ ?_⟩) | (refine ⟨_, fun _ _ => ⟨rfl, rfl⟩, hK _ ?_⟩) | (refine hK _ ?_)); clear hK K))
  refine wpQuiet_nil ?_
  intro wt hCt
  replace hbel := hCt.2
  clear hCt
  go_wp2_with fail
  go_ret
  exact ⟨rfl, hbel⟩
theorem idxF_any {a b : Nat → Int} (ha : rackB a = true) {B1 B5 g cap : Nat} {F : Nat → Int} (hF : ∀ j, j < 120 * 6 → F j = fls 6 (nmL.map fnL) j) (hcap : 120 ≤ cap) (w : World) (h1 : w.heap[B1]? = some (.cells (arr 24 a) 27 (0, 0))) (h5 : w.heap[B5]? = some (.cells (arr 24 (formF b)) 27 (0, 0))) (hg : w.heap[g]? = some (.cells (arr (cap * 6) F) 28 (0, 0))) :
    Calls Tryz.prog 84 #[.slice (some ⟨g, 0, none⟩) 120 cap, .func (.func 64) #[] #[.pointer (some ⟨B1, 0, none⟩), .pointer (some ⟨B5, 0, none⟩)]] w fun e w' => e = .returned (.int .i64 (idx (fun n => !mt a b n) 120)) ∧ Below w.heap.size w w' := by
  have hbel := Below.refl w.heap.size w
  go_enter Tryz.func84, Tryz.ntmps84
  go_wp2_with fail
  go_loopw [8] (fun i wr => ∃ k : Nat, k ≤ 120 ∧ i = .int .i64 k ∧ Hid (∀ j, j < k → (!mt a b j) = false) ∧ Below w.heap.size w wr) (fun i _ => 120 - (intOf i).toNat)
  case atStart => exact ⟨0, by omega, rfl, fun j hj => by omega, hbel⟩
  case round =>
    clear hbel
    obtain ⟨k, hk, rfl, HOK, hbel⟩ := hrel
    by_cases hlt : k < 120
    · have hlt' : (k : Int) < 120 := by omega
      have g1 := row_keep hbel h1
      have g5 := row_keep hbel h5
      have gg := row_keep hbel hg
      have HM : Hid _ := nm_arr hF hlt
      have HQ := clo_any (b := b) ha hlt wr g1 g5
      cases hm : mt a b k with
      | false =>
        rw [hm] at HQ
        have HV : Hid _ := hm
        clear hm g1 g5
        go_wp2_with first
          | ((with_reducible refine wpList_loadA rfl _ _ rfl _ _ rfl gg 6 agg6 size6 (by omega) ?_); rw [HM.out])
          | ((with_reducible refine HQ.mono ?_); rintro e w1 ⟨rfl, hb1⟩)
        go_ret
        exact ⟨ret_int (idx_found hlt (by rw [HV.out]; rfl) HOK.out).symm, hbel.trans (hb1.mono hbel.size)⟩
      | true =>
        rw [hm] at HQ
        have HV : Hid _ := hm
        clear hm g1 g5
        go_wp2_with first
          | ((with_reducible refine wpList_loadA rfl _ _ rfl _ _ rfl gg 6 agg6 size6 (by omega) ?_); rw [HM.out])
          | ((with_reducible refine HQ.mono ?_); rintro e w1 ⟨rfl, hb1⟩)
        go_roundw
        case rel => exact ⟨k + 1, by omega, by go_num, fun j hj => by
          by_cases e : j = k
          · subst e; rw [HV.out]; rfl
          · exact HOK.out j (by omega), hbel.trans (hb1.mono hbel.size)⟩
        case measure => simp [intOf]; omega
    · obtain rfl : k = 120 := by omega
      go_wp2_with fail
      go_ret
      exact ⟨ret_int (idx_none fun j hj => HOK.out j (by omega)).symm, hbel⟩
set_option maxHeartbeats 1000000 in
theorem delF_any {a b : Nat → Int} (ha : rackB a = true) {b0 B1 B5 g cap : Nat} {F : Nat → Int} (hF : ∀ j, j < 120 * 6 → F j = fls 6 (nmL.map fnL) j) (hcap : 120 ≤ cap) (hmax : cap ≤ maxLen) (w : World) (hb0 : b0 ≤ w.heap.size) (hB1 : B1 < b0) (hB5 : B5 < b0) (hgb : b0 ≤ g) (h1 : w.heap[B1]? = some (.cells (arr 24 a) 27 (0, 0))) (h5 : w.heap[B5]? = some (.cells (arr 24 (formF b)) 27 (0, 0))) (hg : w.heap[g]? = some (.cells (arr (cap * 6) F) 28 (0, 0))) :
    Calls Tryz.prog 63 #[.slice (some ⟨g, 0, none⟩) 120 cap, .func (.func 64) #[] #[.pointer (some ⟨B1, 0, none⟩), .pointer (some ⟨B5, 0, none⟩)]] w fun e w' => ∃ v, e = .returned v ∧ Sl w' b0 28 6 v (kp a b 120).length (kpF a b 120) ∧ Below b0 w w' := by
  have hI := idxF_any (b := b) ha hF hcap w h1 h5 hg
  have hgl := row_lt hg
  have hbw := hb0
  rcases idx_cases (fun n => !mt a b n) 120 with ⟨hi, hno⟩ | ⟨k0, hk0, hi, hyes, hno⟩
  · rw [hi] at hI
    have hall : ∀ k, k < 120 → mt a b k = true := fun k hk => by simpa using hno k hk
    have HA : Hid _ := hall
    clear hno hall hi
    go_enter Tryz.func63, Tryz.ntmps63
    go_wp2_with first
      | (go_at_call 84; (with_reducible refine hI.mono ?_); rintro e w1 ⟨rfl, hb1⟩)
    go_ret
    refine ⟨_, rfl, .inr ⟨g, cap, F, ?_, hgb, row_keep hb1 hg, ?_, hmax, fun j hj => ?_⟩, hb1.mono hb0⟩
    · rw [kp_all HA.out, List.length_range]; rfl
    · rw [kp_all HA.out, List.length_range]; exact hcap
    · rw [kp_all HA.out, List.length_range] at hj
      unfold kpF
      rw [kp_all HA.out, kpF_range hj, hF j hj, nm_row hj]
  · rw [hi] at hI
    have hm0 : mt a b k0 = false := by simpa using hyes
    have hall : ∀ k, k < k0 → mt a b k = true := fun k hk => by simpa using hno k hk
    have HA : Hid _ := hall
    have HM0 : Hid _ := hm0
    have hkl : (kp a b (k0 + 1)).length = k0 := by rw [kp_no hm0, kp_all hall, List.length_range]
    have HK0 : Hid (∀ q, q < k0 * 6 → F q = kpF a b (k0 + 1) q) := fun q hq => by
      unfold kpF
      rw [kp_no hm0, kp_all hall, kpF_range hq, hF q (by omega), nm_row (by omega)]
    have hne : ((k0 : Int) == -1) = false := by simp <;> omega
    have hk6 : (k0 : Int) + 1 ≤ 120 := by omega
    clear hno hall hi hyes hm0
    go_enter Tryz.func63, Tryz.ntmps63
    go_wp2_with first
      | (go_at_call 84; (with_reducible refine hI.mono ?_); rintro e w1 ⟨rfl, hb1⟩; replace h1 := row_keep hb1 h1; replace h5 := row_keep hb1 h5; replace hg := row_keep hb1 hg; have hbel := hb1.mono hb0; replace hgl := row_lt hg; replace hb0 := Nat.le_trans hb0 hb1.size; clear hb1)
    go_loopw [5, 6] (fun i j wr => ∃ n : Nat, ∃ F2 : Nat → Int, k0 < n ∧ n ≤ 120 ∧ i = .int .i64 ((kp a b n).length : Nat) ∧ j = .int .i64 n ∧ Hid (∀ q, q < (kp a b n).length * 6 → F2 q = kpF a b n q) ∧ Hid (∀ q, n * 6 ≤ q → F2 q = F q) ∧ wr.heap[B1]? = some (.cells (arr 24 a) 27 (0, 0)) ∧ wr.heap[B5]? = some (.cells (arr 24 (formF b)) 27 (0, 0)) ∧ wr.heap[g]? = some (.cells (arr (cap * 6) F2) 28 (0, 0)) ∧ b0 ≤ wr.heap.size ∧ Below b0 w wr) (fun _ j _ => 120 - (intOf j).toNat)
    case atStart => exact ⟨k0 + 1, F, by omega, by omega, by rw [hkl], by go_num, by rw [hkl]; exact HK0, fun _ _ => rfl, h1, h5, hg, hb0, hbel⟩
    case round =>
      clear h1 h5 hg hbel hb0
      obtain ⟨n, F2, hkn, hn, rfl, rfl, HQ1, HQ2, h1, h5, hg, hb0, hbel⟩ := hrel
      have hlen := kp_lt HM0.out n hkn
      have HL : Hid ((kp a b n).length = (kp a b n).length) := rfl
      by_cases hlt : n < 120
      · have hlt' : (n : Int) < 120 := by omega
        have HM : Hid (arr 6 (fun j => F2 (n * 6 + j)) = arr 6 (nmS n)) := by
          show _ = _
          rw [← nm_arr hF hlt]
          exact arr_congr fun j hj => HQ2.out _ (by omega)
        have HC : Hid _ := fun W => clo_any (b := b) (B1 := B1) (B5 := B5) ha hlt W
        have tok_h7 : True := trivial
        have hlg := row_lt hg
        have hl1 := row_lt h1
        have hl5 := row_lt h5
        cases hm : mt a b n with
        | false =>
          have HN : Hid _ := kp_no hm
          have HV : Hid _ := hm
          clear hm
          generalize hil : (kp a b n).length = i at *
          have hi120 : (i : Int) < 120 := by omega
          go_wp2_with first
            | ((with_reducible refine wpList_loadA rfl _ _ rfl _ _ rfl hg 6 agg6 size6 (by omega) ?_); rw [HM.out])
            | (have _t := tok_h7; with_reducible refine wpList_allocN rfl 28 rfl 6 zero6 ?_; intro B7 w1 hB7 h7 hb1; replace h1 := row_keep hb1 h1; replace h5 := row_keep hb1 h5; replace hg := row_keep hb1 hg; replace hbel := hbel.trans (hb1.mono (Nat.le_trans hbw hbel.size)); clear hb1 _t tok_h7)
            | (with_reducible refine wpList_storeWN rfl _ _ _ rfl _ rfl rfl h7 size6 hbel (by omega) ?_; intro w1 g3 ho g4; replace h1 := (ho _ (by omega)).trans h1; replace h5 := (ho _ (by omega)).trans h5; replace hg := (ho _ (by omega)).trans hg; clear h7 hbel; have h7 := g3; have hbel := g4; clear g3 g4 ho)
            | (with_reducible refine wpList_loadW rfl _ _ rfl _ rfl h7 agg6 size6 ?_)
            | ((with_reducible refine (HC.out _ h1 h5).mono ?_); rw [HV.out]; rintro e w1 ⟨rfl, hb1⟩; replace h1 := row_keep hb1 h1; replace h5 := row_keep hb1 h5; replace hg := row_keep hb1 hg; replace h7 := row_keep hb1 h7; replace hbel := hbel.trans (hb1.mono (Nat.le_trans hbw hbel.size)); clear hb1)
            | (with_reducible refine wpList_storePN rfl _ _ _ rfl _ _ rfl rfl hg size6 (by omega) hbel hgb ?_; intro w1 g3 ho g4; replace h1 := (ho _ (by omega)).trans h1; replace h5 := (ho _ (by omega)).trans h5; clear hg hbel; have hg := g3; have hbel := g4; clear g3 g4 ho)
          go_roundw
          case rel => exact ⟨n + 1, F2, by omega, by omega, by rw [HN.out, hil], by go_num, by rw [HN.out, hil]; unfold kpF; rw [HN.out]; exact HQ1, fun q hq => HQ2.out q (by omega), h1, h5, hg, by have := hbel.size; omega, hbel⟩
          case measure => simp [intOf]; omega
        | true =>
          have HN : Hid _ := kp_yes hm
          have HV : Hid _ := hm
          have HS : Hid _ := kpF_step hm HQ1.out
          clear hm
          generalize hil : (kp a b n).length = i at *
          have hi120 : (i : Int) < 120 := by omega
          go_wp2_with first
            | ((with_reducible refine wpList_loadA rfl _ _ rfl _ _ rfl hg 6 agg6 size6 (by omega) ?_); rw [HM.out])
            | (have _t := tok_h7; with_reducible refine wpList_allocN rfl 28 rfl 6 zero6 ?_; intro B7 w1 hB7 h7 hb1; replace h1 := row_keep hb1 h1; replace h5 := row_keep hb1 h5; replace hg := row_keep hb1 hg; replace hbel := hbel.trans (hb1.mono (Nat.le_trans hbw hbel.size)); clear hb1 _t tok_h7)
            | (with_reducible refine wpList_storeWN rfl _ _ _ rfl _ rfl rfl h7 size6 hbel (by omega) ?_; intro w1 g3 ho g4; replace h1 := (ho _ (by omega)).trans h1; replace h5 := (ho _ (by omega)).trans h5; replace hg := (ho _ (by omega)).trans hg; clear h7 hbel; have h7 := g3; have hbel := g4; clear g3 g4 ho)
            | (with_reducible refine wpList_loadW rfl _ _ rfl _ rfl h7 agg6 size6 ?_)
            | ((with_reducible refine (HC.out _ h1 h5).mono ?_); rw [HV.out]; rintro e w1 ⟨rfl, hb1⟩; replace h1 := row_keep hb1 h1; replace h5 := row_keep hb1 h5; replace hg := row_keep hb1 hg; replace h7 := row_keep hb1 h7; replace hbel := hbel.trans (hb1.mono (Nat.le_trans hbw hbel.size)); clear hb1)
            | (with_reducible refine wpList_storePN rfl _ _ _ rfl _ _ rfl rfl hg size6 (by omega) hbel hgb ?_; intro w1 g3 ho g4; replace h1 := (ho _ (by omega)).trans h1; replace h5 := (ho _ (by omega)).trans h5; clear hg hbel; have hg := g3; have hbel := g4; clear g3 g4 ho)
          go_roundw
          case rel => exact ⟨n + 1, _, by omega, by omega, by rw [HN.out, List.length_append, hil]; go_num, by go_num, by rw [HN.out, List.length_append, hil]; exact HS.out, fun q hq => by
            show updN F2 (i * 6) 6 (nmS n) q = F q
            unfold updN
            rw [if_neg (by omega)]
            exact HQ2.out q (by omega), h1, h5, hg, by have := hbel.size; omega, hbel⟩
          case measure => simp [intOf]; omega
      · obtain rfl : n = 120 := by omega
        have hl1 := row_lt h1
        generalize hil : (kp a b 120).length = i at *
        have hs1 := fun W => run_from slN (g := g) (n := 120) (c := cap) (i := i) (by omega) (by omega) W
        have hs2 := fun W => run_upto slN (g := g) (n := 120) (c := cap) (i := i) (by omega) (by omega) W
        go_wp2_with first
          | (with_reducible refine wpList_clearS slN (by omega) rfl _ rfl rfl (by omega) hg (by omega) hbel hgb ?_; intro F3 w3 hF3 g3 ho g4)
        go_ret
        refine ⟨_, rfl, .inr ⟨g, cap, F3, rfl, hgb, g3, by omega, hmax, fun q hq => ?_⟩, g4⟩
        rw [hF3 q hq]
        exact HQ1.out q hq
end Go.Proofs.YtlbgmkengkgnfaaGreat
end

section
/- RenamingTo: the program's and the reference's, and the law. -/
namespace Go.Proofs.YtlbgmkengkgnfaaGreat
set_option linter.unusedSimpArgs false
set_option linter.unusedVariables false
set_option maxRecDepth 20000
open Go.RowKit
theorem renamingsTo_any (a b : Nat → Int) (ha : rackB a = true) (hb : rackB b = true) (w : World) : Calls Tryz.prog 38 #[.agg (arr 24 a), .agg (arr 24 b)] w (RetSl w 28 6 (kp a b 120).length (kpF a b 120)) := by
  have h1 : ((w.alloc (.cells (arr 24 a) 27)).alloc (.cells (arr 24 b) 27)).heap[w.heap.size]? = some (.cells (arr 24 a) 27 (0, 0)) := by rw [heap_old (by simp), heap_new rfl]
  have h2 : ((w.alloc (.cells (arr 24 a) 27)).alloc (.cells (arr 24 b) 27)).heap[w.heap.size + 1]? = some (.cells (arr 24 b) 27 (0, 0)) := heap_new (by simp)
  have hbel : Below w.heap.size w ((w.alloc (.cells (arr 24 a) 27)).alloc (.cells (arr 24 b) 27)) := ((Below.refl _ _).alloc (by simp) _).alloc (by simp) _
  have tok_h6 : True := trivial
  go_enter Tryz.func38, Tryz.ntmps38
  go_wp2_with first
    | (with_reducible refine wpList_loadW rfl _ _ rfl _ rfl h2 agg24r size24r ?_)
    | (go_at_call 41; (with_reducible refine (formOf_any b hb _).mono ?_); rintro e w1 ⟨rfl, hb1⟩; replace hbel := hbel.trans (hb1.mono hbel.size); replace h1 := row_keep hb1 h1; replace h2 := row_keep hb1 h2; clear hb1)
    | (have _t := tok_h6; with_reducible refine wpList_allocN rfl 27 rfl 24 zero24r ?_; intro Bh6 w1 hBh6 h6 hb1; have hWh6 := Nat.le_trans hbel.size hBh6; have hLh1h6 := Nat.lt_of_lt_of_le (row_lt h1) hBh6; have hLh2h6 := Nat.lt_of_lt_of_le (row_lt h2) hBh6; replace hbel := hbel.trans (hb1.mono hbel.size); replace h1 := row_keep hb1 h1; replace h2 := row_keep hb1 h2; clear hb1 _t tok_h6)
    | (with_reducible refine wpList_storeWN rfl _ _ _ rfl _ rfl rfl h6 size24r hbel hWh6 ?_; intro w1 g3 ho g4; replace h1 := (ho _ (by omega)).trans h1; replace h2 := (ho _ (by omega)).trans h2; clear h6 hbel; have h6 := g3; have hbel := g4; clear g3 g4 ho)
    | (go_at_call 56; (with_reducible refine (renamings_any _).mono ?_); rintro e w1 ⟨v, rfl, hS, hb1⟩; have hl1 := row_lt h1; have hl6 := row_lt h6; replace h1 := row_keep hb1 h1; replace h6 := row_keep hb1 h6; have hz := hbel.size; replace hbel := hbel.trans (hb1.mono hbel.size); have hz1 := hb1.size; clear hb1; (obtain ⟨g, cap, F, rfl, a1, hg, a3, a4, a5⟩ := hS.blk (by omega)))
    | (go_at_call 63; (with_reducible refine (delF_any (b := b) ha a5 a3 a4 _ hz1 hl1 hl6 a1 h1 h6 hg).mono ?_); rintro e w2 ⟨v, rfl, hS2, hb2⟩)
  go_ret
  exact ⟨_, rfl, hS2.lower hz, hbel.trans (hb2.mono hz)⟩
theorem kp_head {a b : Nat → Int} : (kp a b 120).head? = fd1 a b := List.head?_filter ..
theorem kp_fd_none {a b : Nat → Int} (h : fd1 a b = none) : (kp a b 120).length = 0 := by
  rw [← kp_head, List.head?_eq_none_iff] at h
  rw [h]; rfl
theorem kp_fd_some {a b : Nat → Int} {n : Nat} (h : fd1 a b = some n) : 0 < (kp a b 120).length ∧ ∀ j, j < 6 → kpF a b 120 j = nmS n j := by
  rw [← kp_head] at h
  obtain ⟨t, ht⟩ := List.head?_eq_some_iff.1 h
  rw [ht]
  refine ⟨by simp, fun j hj => ?_⟩
  unfold kpF
  rw [ht]
  have := fls_at (s := 6) ((n :: t).map nmS) (k := 0) hj
  rw [Nat.zero_mul, Nat.zero_add] at this
  rw [this]; rfl
noncomputable def rtR (a b : Nat → Int) : (Nat → Int) × Bool := if rackB a = true ∧ rackB b = true then rgR a b else (fun _ => 0, false)
theorem specRt_any (a b : Nat → Int) (w : World) : Calls Tryz.prog 21 #[.agg (arr 24 a), .agg (arr 24 b)] w fun e w' => e = .returned (.tuple #[.agg (arr 6 (rtR a b).1), .bool (rtR a b).2]) ∧ Below w.heap.size w w' := by
  have h1 : (((w.alloc (.cells (arr 24 a) 27)).alloc (.cells (arr 24 b) 27)).alloc (.cells (arr 6 fun _ => 0) 28)).heap[w.heap.size]? = some (.cells (arr 24 a) 27 (0, 0)) := by rw [heap_old (by simp <;> omega), heap_old (by simp), heap_new rfl]
  have h2 : (((w.alloc (.cells (arr 24 a) 27)).alloc (.cells (arr 24 b) 27)).alloc (.cells (arr 6 fun _ => 0) 28)).heap[w.heap.size + 1]? = some (.cells (arr 24 b) 27 (0, 0)) := by rw [heap_old (by simp), heap_new (by simp)]
  have h4 : (((w.alloc (.cells (arr 24 a) 27)).alloc (.cells (arr 24 b) 27)).alloc (.cells (arr 6 fun _ => 0) 28)).heap[w.heap.size + 1 + 1]? = some (.cells (arr 6 fun _ => 0) 28 (0, 0)) := heap_new (by simp)
  have hbel : Below w.heap.size w (((w.alloc (.cells (arr 24 a) 27)).alloc (.cells (arr 24 b) 27)).alloc (.cells (arr 6 fun _ => 0) 28)) := (((Below.refl _ _).alloc (by simp) _).alloc (by simp) _).alloc (by simp <;> omega) _
  cases ha : rackB a with
  | false =>
    rw [show rtR a b = (fun _ => 0, false) from if_neg (by simp [ha])]
    have HA : Hid _ := ha
    have HB : Hid (1 = 1) := rfl
    clear ha
    go_enter Tryz.func21, Tryz.ntmps21
    go_wp2_with first
      | (with_reducible refine wpList_allocA rfl 28 rfl 6 zero6 ?_; (try simp only [size_al]))
      | (with_reducible refine wpList_loadW rfl _ _ rfl _ rfl h1 agg24r size24r ?_)
      | (with_reducible refine wpList_loadWG rfl _ _ rfl _ rfl h2 agg24r size24r ?_)
      | (go_at_call 29; (with_reducible refine (l2Rack_at HA.out _).mono ?_); rintro e w1 ⟨rfl, hb1⟩; replace hbel := hbel.trans (hb1.mono hbel.size); replace h1 := row_keep hb1 h1; replace h2 := row_keep hb1 h2; replace h4 := row_keep hb1 h4; clear hb1)
      | (go_at_call 29; (with_reducible refine (l2Rack_at HB.out _).mono ?_); rintro e w1 ⟨rfl, hb1⟩; replace hbel := hbel.trans (hb1.mono hbel.size); replace h1 := row_keep hb1 h1; replace h2 := row_keep hb1 h2; replace h4 := row_keep hb1 h4; clear hb1)
      | (with_reducible refine wpList_build0 rfl 28 rfl 6 zbuild6 ?_)
      | (with_reducible refine wpList_loadW rfl _ _ rfl _ rfl h2 agg24r size24r ?_)
      | (go_at_call 37; (with_reducible refine (l4Renaming_any a b HA.out HB.out _).mono ?_); rintro e w1 ⟨rfl, hb1⟩; replace hbel := hbel.trans (hb1.mono hbel.size); replace h1 := row_keep hb1 h1; replace h2 := row_keep hb1 h2; replace h4 := row_keep hb1 h4; clear hb1)
      | (with_reducible refine wpList_storeW rfl _ _ _ rfl _ rfl rfl h4 size6 ?_)
    exact bodyPost_ret_by (results_ct _ _ _ _ _ _ _ rfl rfl (setRow_heap _ _ _ _ _ _ h4) agg6 size6) rfl ⟨rfl, below_setRow2 hbel (by omega) _⟩
  | true =>
    cases hb : rackB b with
    | false =>
      rw [show rtR a b = (fun _ => 0, false) from if_neg (by simp [hb])]
      have HA : Hid _ := ha
      have HB : Hid _ := hb
      clear ha hb
      go_enter Tryz.func21, Tryz.ntmps21
      go_wp2_with first
        | (with_reducible refine wpList_allocA rfl 28 rfl 6 zero6 ?_; (try simp only [size_al]))
        | (with_reducible refine wpList_loadW rfl _ _ rfl _ rfl h1 agg24r size24r ?_)
        | (with_reducible refine wpList_loadWG rfl _ _ rfl _ rfl h2 agg24r size24r ?_)
        | (go_at_call 29; (with_reducible refine (l2Rack_at HA.out _).mono ?_); rintro e w1 ⟨rfl, hb1⟩; replace hbel := hbel.trans (hb1.mono hbel.size); replace h1 := row_keep hb1 h1; replace h2 := row_keep hb1 h2; replace h4 := row_keep hb1 h4; clear hb1)
        | (go_at_call 29; (with_reducible refine (l2Rack_at HB.out _).mono ?_); rintro e w1 ⟨rfl, hb1⟩; replace hbel := hbel.trans (hb1.mono hbel.size); replace h1 := row_keep hb1 h1; replace h2 := row_keep hb1 h2; replace h4 := row_keep hb1 h4; clear hb1)
        | (with_reducible refine wpList_build0 rfl 28 rfl 6 zbuild6 ?_)
        | (with_reducible refine wpList_loadW rfl _ _ rfl _ rfl h2 agg24r size24r ?_)
        | (go_at_call 37; (with_reducible refine (l4Renaming_any a b HA.out HB.out _).mono ?_); rintro e w1 ⟨rfl, hb1⟩; replace hbel := hbel.trans (hb1.mono hbel.size); replace h1 := row_keep hb1 h1; replace h2 := row_keep hb1 h2; replace h4 := row_keep hb1 h4; clear hb1)
        | (with_reducible refine wpList_storeW rfl _ _ _ rfl _ rfl rfl h4 size6 ?_)
      exact bodyPost_ret_by (results_ct _ _ _ _ _ _ _ rfl rfl (setRow_heap _ _ _ _ _ _ h4) agg6 size6) rfl ⟨rfl, below_setRow2 hbel (by omega) _⟩
    | true =>
      rw [show rtR a b = rgR a b from if_pos ⟨ha, hb⟩]
      have HA : Hid _ := ha
      have HB : Hid _ := hb
      clear ha hb
      go_enter Tryz.func21, Tryz.ntmps21
      go_wp2_with first
        | (with_reducible refine wpList_allocA rfl 28 rfl 6 zero6 ?_; (try simp only [size_al]))
        | (with_reducible refine wpList_loadW rfl _ _ rfl _ rfl h1 agg24r size24r ?_)
        | (with_reducible refine wpList_loadWG rfl _ _ rfl _ rfl h2 agg24r size24r ?_)
        | (go_at_call 29; (with_reducible refine (l2Rack_at HA.out _).mono ?_); rintro e w1 ⟨rfl, hb1⟩; replace hbel := hbel.trans (hb1.mono hbel.size); replace h1 := row_keep hb1 h1; replace h2 := row_keep hb1 h2; replace h4 := row_keep hb1 h4; clear hb1)
        | (go_at_call 29; (with_reducible refine (l2Rack_at HB.out _).mono ?_); rintro e w1 ⟨rfl, hb1⟩; replace hbel := hbel.trans (hb1.mono hbel.size); replace h1 := row_keep hb1 h1; replace h2 := row_keep hb1 h2; replace h4 := row_keep hb1 h4; clear hb1)
        | (with_reducible refine wpList_build0 rfl 28 rfl 6 zbuild6 ?_)
        | (with_reducible refine wpList_loadW rfl _ _ rfl _ rfl h2 agg24r size24r ?_)
        | (go_at_call 37; (with_reducible refine (l4Renaming_any a b HA.out HB.out _).mono ?_); rintro e w1 ⟨rfl, hb1⟩; replace hbel := hbel.trans (hb1.mono hbel.size); replace h1 := row_keep hb1 h1; replace h2 := row_keep hb1 h2; replace h4 := row_keep hb1 h4; clear hb1)
        | (with_reducible refine wpList_storeW rfl _ _ _ rfl _ rfl rfl h4 size6 ?_)
      exact bodyPost_ret_by (results_ct _ _ _ _ _ _ _ rfl rfl (setRow_heap _ _ _ _ _ _ h4) agg6 size6) rfl ⟨rfl, below_setRow2 hbel (by omega) _⟩
theorem implRt_any (a b : Nat → Int) (w : World) : Calls Tryz.prog 20 #[.agg (arr 24 a), .agg (arr 24 b)] w fun e w' => e = .returned (.tuple #[.agg (arr 6 (rtR a b).1), .bool (rtR a b).2]) ∧ Below w.heap.size w w' := by
  have h1 : (((w.alloc (.cells (arr 24 a) 27)).alloc (.cells (arr 24 b) 27)).alloc (.cells (arr 6 fun _ => 0) 28)).heap[w.heap.size]? = some (.cells (arr 24 a) 27 (0, 0)) := by rw [heap_old (by simp <;> omega), heap_old (by simp), heap_new rfl]
  have h2 : (((w.alloc (.cells (arr 24 a) 27)).alloc (.cells (arr 24 b) 27)).alloc (.cells (arr 6 fun _ => 0) 28)).heap[w.heap.size + 1]? = some (.cells (arr 24 b) 27 (0, 0)) := by rw [heap_old (by simp), heap_new (by simp)]
  have h4 : (((w.alloc (.cells (arr 24 a) 27)).alloc (.cells (arr 24 b) 27)).alloc (.cells (arr 6 fun _ => 0) 28)).heap[w.heap.size + 1 + 1]? = some (.cells (arr 6 fun _ => 0) 28 (0, 0)) := heap_new (by simp)
  have hbel : Below w.heap.size w (((w.alloc (.cells (arr 24 a) 27)).alloc (.cells (arr 24 b) 27)).alloc (.cells (arr 6 fun _ => 0) 28)) := (((Below.refl _ _).alloc (by simp) _).alloc (by simp) _).alloc (by simp <;> omega) _
  cases ha : rackB a with
  | false =>
    rw [show rtR a b = (fun _ => 0, false) from if_neg (by simp [ha])]
    have HA : Hid _ := ha
    have HB : Hid (1 = 1) := rfl
    clear ha
    go_enter Tryz.func20, Tryz.ntmps20
    go_wp2_with first
      | (with_reducible refine wpList_allocA rfl 28 rfl 6 zero6 ?_; (try simp only [size_al]))
      | (with_reducible refine wpList_loadW rfl _ _ rfl _ rfl h1 agg24r size24r ?_)
      | (with_reducible refine wpList_loadWG rfl _ _ rfl _ rfl h2 agg24r size24r ?_)
      | (go_at_call 8; (with_reducible refine (IsRack_at HA.out _).mono ?_); rintro e w1 ⟨rfl, hb1⟩; replace hbel := hbel.trans (hb1.mono hbel.size); replace h1 := row_keep hb1 h1; replace h2 := row_keep hb1 h2; replace h4 := row_keep hb1 h4; clear hb1)
      | (go_at_call 8; (with_reducible refine (IsRack_at HB.out _).mono ?_); rintro e w1 ⟨rfl, hb1⟩; replace hbel := hbel.trans (hb1.mono hbel.size); replace h1 := row_keep hb1 h1; replace h2 := row_keep hb1 h2; replace h4 := row_keep hb1 h4; clear hb1)
      | (with_reducible refine wpList_build0 rfl 28 rfl 6 zbuild6 ?_)
      | (with_reducible refine wpList_storeW rfl _ _ _ rfl _ rfl rfl h4 size6 ?_)
    exact bodyPost_ret_by (results_ct _ _ _ _ _ _ _ rfl rfl (setRow_heap _ _ _ _ _ _ h4) agg6 size6) rfl ⟨rfl, below_setRow2 hbel (by omega) _⟩
  | true =>
    cases hb : rackB b with
    | false =>
      rw [show rtR a b = (fun _ => 0, false) from if_neg (by simp [hb])]
      have HA : Hid _ := ha
      have HB : Hid _ := hb
      clear ha hb
      go_enter Tryz.func20, Tryz.ntmps20
      go_wp2_with first
        | (with_reducible refine wpList_allocA rfl 28 rfl 6 zero6 ?_; (try simp only [size_al]))
        | (with_reducible refine wpList_loadW rfl _ _ rfl _ rfl h1 agg24r size24r ?_)
        | (with_reducible refine wpList_loadWG rfl _ _ rfl _ rfl h2 agg24r size24r ?_)
        | (go_at_call 8; (with_reducible refine (IsRack_at HA.out _).mono ?_); rintro e w1 ⟨rfl, hb1⟩; replace hbel := hbel.trans (hb1.mono hbel.size); replace h1 := row_keep hb1 h1; replace h2 := row_keep hb1 h2; replace h4 := row_keep hb1 h4; clear hb1)
        | (go_at_call 8; (with_reducible refine (IsRack_at HB.out _).mono ?_); rintro e w1 ⟨rfl, hb1⟩; replace hbel := hbel.trans (hb1.mono hbel.size); replace h1 := row_keep hb1 h1; replace h2 := row_keep hb1 h2; replace h4 := row_keep hb1 h4; clear hb1)
        | (with_reducible refine wpList_build0 rfl 28 rfl 6 zbuild6 ?_)
        | (with_reducible refine wpList_storeW rfl _ _ _ rfl _ rfl rfl h4 size6 ?_)
      exact bodyPost_ret_by (results_ct _ _ _ _ _ _ _ rfl rfl (setRow_heap _ _ _ _ _ _ h4) agg6 size6) rfl ⟨rfl, below_setRow2 hbel (by omega) _⟩
    | true =>
      rw [show rtR a b = rgR a b from if_pos ⟨ha, hb⟩]
      have HA : Hid _ := ha
      have HB : Hid _ := hb
      clear ha hb
      have hR := fun W => renamingsTo_any a b HA.out HB.out W
      cases hfd : fd1 a b with
      | none =>
        rw [show rgR a b = (fun _ => 0, false) from by unfold rgR; rw [hfd]]
        rw [kp_fd_none hfd] at hR
        clear hfd
        go_enter Tryz.func20, Tryz.ntmps20
        go_wp2_with first
          | (with_reducible refine wpList_allocA rfl 28 rfl 6 zero6 ?_; (try simp only [size_al]))
          | (with_reducible refine wpList_loadW rfl _ _ rfl _ rfl h1 agg24r size24r ?_)
          | (with_reducible refine wpList_loadWG rfl _ _ rfl _ rfl h2 agg24r size24r ?_)
          | (go_at_call 8; (with_reducible refine (IsRack_at HA.out _).mono ?_); rintro e w1 ⟨rfl, hb1⟩; replace hbel := hbel.trans (hb1.mono hbel.size); replace h1 := row_keep hb1 h1; replace h2 := row_keep hb1 h2; replace h4 := row_keep hb1 h4; clear hb1)
          | (go_at_call 8; (with_reducible refine (IsRack_at HB.out _).mono ?_); rintro e w1 ⟨rfl, hb1⟩; replace hbel := hbel.trans (hb1.mono hbel.size); replace h1 := row_keep hb1 h1; replace h2 := row_keep hb1 h2; replace h4 := row_keep hb1 h4; clear hb1)
          | (with_reducible refine wpList_loadW rfl _ _ rfl _ rfl h2 agg24r size24r ?_)
          | (go_at_call 38; (with_reducible refine (hR _).mono ?_); rintro e w1 ⟨v, rfl, hS, hb1⟩; replace h1 := row_keep hb1 h1; replace h2 := row_keep hb1 h2; replace h4 := row_keep hb1 h4; replace hbel := hbel.trans (hb1.mono hbel.size); clear hb1)
          | (with_reducible refine wpList_lenS Tryz.underlying60 rfl _ rfl rfl hS ?_)
          | (with_reducible refine wpList_build0 rfl 28 rfl 6 zbuild6 ?_)
          | (with_reducible refine wpList_storeW rfl _ _ _ rfl _ rfl rfl h4 size6 ?_)
        exact bodyPost_ret_by (results_ct _ _ _ _ _ _ _ rfl rfl (setRow_heap _ _ _ _ _ _ h4) agg6 size6) rfl ⟨rfl, below_setRow2 hbel (by omega) _⟩
      | some n =>
        rw [show rgR a b = (nmS n, true) from by unfold rgR; rw [hfd]]
        obtain ⟨q1, q2⟩ := kp_fd_some hfd
        have hk := kp_len a b 120
        clear hfd
        generalize (kp a b 120).length = k at *
        obtain ⟨k', rfl⟩ : ∃ k', k = k' + 1 := ⟨k - 1, by omega⟩
        have hne : (((k' : Int) + 1) == 0) = false := by simp <;> omega
        have hk0 : (0 : Int) < (k' : Int) + 1 := by omega
        go_enter Tryz.func20, Tryz.ntmps20
        go_wp2_with first
          | (with_reducible refine wpList_allocA rfl 28 rfl 6 zero6 ?_; (try simp only [size_al]))
          | (with_reducible refine wpList_loadW rfl _ _ rfl _ rfl h1 agg24r size24r ?_)
          | (with_reducible refine wpList_loadWG rfl _ _ rfl _ rfl h2 agg24r size24r ?_)
          | (go_at_call 8; (with_reducible refine (IsRack_at HA.out _).mono ?_); rintro e w1 ⟨rfl, hb1⟩; replace hbel := hbel.trans (hb1.mono hbel.size); replace h1 := row_keep hb1 h1; replace h2 := row_keep hb1 h2; replace h4 := row_keep hb1 h4; clear hb1)
          | (go_at_call 8; (with_reducible refine (IsRack_at HB.out _).mono ?_); rintro e w1 ⟨rfl, hb1⟩; replace hbel := hbel.trans (hb1.mono hbel.size); replace h1 := row_keep hb1 h1; replace h2 := row_keep hb1 h2; replace h4 := row_keep hb1 h4; clear hb1)
          | (with_reducible refine wpList_loadW rfl _ _ rfl _ rfl h2 agg24r size24r ?_)
          | (go_at_call 38; (with_reducible refine (hR _).mono ?_); rintro e w1 ⟨v, rfl, hS, hb1⟩; replace h1 := row_keep hb1 h1; replace h2 := row_keep hb1 h2; replace h4 := row_keep hb1 h4; replace hbel := hbel.trans (hb1.mono hbel.size); clear hb1; (obtain ⟨g, cap, F, rfl, a1, hg, a3, a4, a5⟩ := hS.blk (by omega)); have hM : arr 6 (fun j => F (0 + j)) = arr 6 (nmS n) := arr_congr fun j hj => by (rw [Nat.zero_add, a5 j (by omega)]; exact q2 j hj))
          | ((with_reducible refine wpList_loadA rfl _ _ rfl _ _ rfl hg 6 agg6 size6 (by omega) ?_); rw [hM])
          | (with_reducible refine wpList_storeW rfl _ _ _ rfl _ rfl rfl h4 size6 ?_)
        exact bodyPost_ret_by (results_ct _ _ _ _ _ _ _ rfl rfl (setRow_heap _ _ _ _ _ _ h4) agg6 size6) rfl ⟨rfl, below_setRow2 hbel (by omega) _⟩
end Go.Proofs.YtlbgmkengkgnfaaGreat
end
