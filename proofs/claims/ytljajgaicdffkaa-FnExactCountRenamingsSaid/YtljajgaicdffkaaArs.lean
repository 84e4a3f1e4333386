/- The program's list of all renamings. -/
import Derived.Laws.Cover3
import Derived.Lib.LazyBuf
import Derived.Test.YtljajgaicdffkaaANm
import Derived.Test.YtljajgaicdffkaaColl
namespace Go.Proofs.Ytljajgaicdffkaa
set_option linter.unusedSimpArgs false
set_option linter.unusedVariables false
set_option maxRecDepth 20000
open Go.RowKit
theorem contains_any {B len cap n : Nat} {f : Nat → Int} {T : TypeId} {fr : Nat × Nat} (v : Int) (w : World) (hg : w.heap[B]? = some (.cells (arr n f) T fr)) (hle : len ≤ n) (hm : len ≤ 1000000) :
    Calls Try.prog 109 #[.slice (some ⟨B, 0, none⟩) len cap, .int .i64 v] w fun e w' => e = .returned (.bool ((List.range len).any fun k => f k == v)) ∧ w = w' := by
  have hi := Index_int (off := 0) (cap := cap) v w hg (by omega) hm
  simp only [Nat.zero_add] at hi
  rw [← idx_any]
  generalize idx (fun k => f k == v) len = r at *
  by_cases hr : 0 ≤ r
  · go_enter Try.func109, Try.ntmps109
    go_wp2_with first
      | (go_at_call 94; (with_reducible refine hi.mono ?_); rintro e w1 ⟨rfl, rfl⟩)
    go_ret
    exact ⟨by simp [hr], rfl⟩
  · go_enter Try.func109, Try.ntmps109
    go_wp2_with first
      | (go_at_call 94; (with_reducible refine hi.mono ?_); rintro e w1 ⟨rfl, rfl⟩)
    go_ret
    exact ⟨by simp [hr], rfl⟩
theorem clone_any {B len cap n : Nat} {f : Nat → Int} {T : TypeId} {fr : Nat × Nat} (w : World) (hg : w.heap[B]? = some (.cells (arr n f) T fr)) (h0 : 0 < len) (hle : len ≤ n) (hm : len ≤ 1000000) :
    Calls Try.prog 110 #[.slice (some ⟨B, 0, none⟩) len cap] w (RetSl w 3 1 len f) := by
  have hg2 := row_alloc (x := .cells #[] 3) hg
  have heq : ∀ w, (binOp .eql 58 (.slice (some ⟨B, 0, none⟩) len cap) (.slice none 0 0)).run Try.prog w = .ok (.bool false) w := fun w => run_eql_slice_nil w _ _ _ _ _ Try.underlying58
  go_enter Try.func110, Try.ntmps110
  go_wp2_with first
    | ((with_reducible refine wpList_appendS slI (by omega) rfl _ _ rfl rfl (sl_made (base := w.heap.size) (f := fun _ => 0) (Nat.le_refl _)) rfl hg2 (by omega) h0 (by unfold maxLen; omega) (by omega) (by simp) ?_); intro v2 w2 hS2 hb2)
  go_ret
  refine ⟨_, rfl, hS2.congr (by omega) fun j _ => ?_, ((Below.refl _ _).alloc (by simp) _).trans hb2⟩
  unfold app
  rw [if_neg (by omega), Nat.zero_mul, Nat.sub_zero]
  show f (0 + j) = f j
  rw [Nat.zero_add]
/-- The arrays that begin with own, behind n of the six numbers. -/
def arS (d : Nat) (own : List Nat) (n : Nat) : List (List Nat) := (List.range n).flatMap fun x => if own.contains x then [] else arL d (own ++ [x])
theorem arS_succ (d : Nat) (own : List Nat) (n : Nat) : arS d own (n + 1) = arS d own n ++ if own.contains n then [] else arL d (own ++ [n]) := by
  unfold arS
  rw [List.range_succ, List.flatMap_append]
  simp
theorem arS_le (d : Nat) (own : List Nat) (n : Nat) : ∀ k, (arS d own n).length ≤ (arS d own (n + k)).length
  | 0 => Nat.le_refl _
  | k + 1 => by
    have := arS_le d own n k
    rw [← Nat.add_assoc, arS_succ, List.length_append]
    omega
def posB : Nat → List Nat → Bool
  | 0, _ => true
  | d + 1, own => decide (0 < (arL (d + 1) own).length) && decide ((arL (d + 1) own).length ≤ 1000) && (List.range 6).all fun n => own.contains n || posB d (own ++ [n])
theorem posB_0 : posB 5 [0] = true := by decide +kernel
theorem posB_pos {d : Nat} {own : List Nat} (h : posB d own = true) : 0 < (arL d own).length ∧ (arL d own).length ≤ 1000 := by
  cases d with
  | zero => exact ⟨by simp [arL], by simp [arL]⟩
  | succ d =>
    unfold posB at h
    simp only [Bool.and_eq_true, decide_eq_true_eq] at h
    exact h.1
theorem posB_next {d : Nat} {own : List Nat} (h : posB (d + 1) own = true) {n : Nat} (hn : n < 6) (hc : own.contains n = false) : posB d (own ++ [n]) = true := by
  unfold posB at h
  simp only [Bool.and_eq_true] at h
  have := List.all_eq_true.1 h.2 n (List.mem_range.2 hn)
  rw [hc, Bool.false_or] at this
  exact this
theorem cont_eq {own : List Nat} {F : Nat → Int} (hF : ∀ j, j < own.length → F j = (own.getD j 0 : Nat)) (n : Nat) : ((List.range own.length).any fun k => F k == (n : Int)) = own.contains n := by
  rw [Bool.eq_iff_iff, List.any_eq_true, List.contains_iff_mem]
  constructor
  · rintro ⟨k, hk, e⟩
    have hk := List.mem_range.1 hk
    rw [hF k hk, beq_iff_eq, List.getD_eq_getElem?_getD, List.getElem?_eq_getElem hk, Option.getD_some] at e
    have := Int.ofNat.inj e
    rw [← this]
    exact List.getElem_mem hk
  · intro h
    obtain ⟨k, hk, e⟩ := List.getElem_of_mem h
    refine ⟨k, List.mem_range.2 hk, ?_⟩
    rw [hF k hk, List.getD_eq_getElem?_getD, List.getElem?_eq_getElem hk, Option.getD_some, e]
    simp
set_option maxHeartbeats 1000000 in
theorem arrays_any : ∀ (d : Nat) (own : List Nat) (m : Nat), own.length = m → m + d = 6 → 0 < m → posB d own = true → ∀ {B cap N : Nat} {F : Nat → Int} {T : TypeId} {fr : Nat × Nat} (w : World), w.heap[B]? = some (.cells (arr N F) T fr) → m ≤ N → (∀ j, j < m → F j = (own.getD j 0 : Nat)) →
    Calls Try.prog 89 #[.slice (some ⟨B, 0, none⟩) m cap] w (RetSl w 22 6 (arL d own).length (fls 6 ((arL d own).map fnL)))
  | 0, own, m, hl, h6, h0, hp, B, cap, N, F, T, fr, w, h1, hN, hF => by
    obtain rfl : m = 6 := by omega
    have hat : ∀ w, (Instr.arrayAt 22 (.slice (some ⟨B, 0, none⟩) 6 cap)).run Try.prog w = .ok (.pointer (some ⟨B, 0, none⟩)) w := fun w => run_arrayAt w _ _ _ _ _ _ Try.underlying22 (Nat.le_refl _)
    go_enter Try.func89, Try.ntmps89
    go_wp2_with first
      | (with_reducible refine wpList_loadA rfl _ _ rfl _ _ rfl h1 6 agg6 size6 (by omega) ?_)
      | ((with_reducible refine wpList_row6 slN rfl _ rfl rfl ?_); intro B5 w5 hB5 h5 hb5)
    go_ret
    refine ⟨_, rfl, .inr ⟨B5, 1, _, rfl, hB5, h5, Nat.le_refl _, by unfold maxLen; omega, fun j hj => ?_⟩, hb5⟩
    have hj6 : j < 6 := by simpa [arL] using hj
    have := fls_at (s := 6) [fnL own] (k := 0) hj6
    rw [Nat.zero_mul, Nat.zero_add] at this
    show _ = fls 6 [fnL own] j
    rw [this, Nat.zero_add, hF j hj6]; rfl
  | d + 1, own, m, hl, h6, h0, hp, B, cap, N, F, T, fr, w, h1, hN, hF => by
    have hm6 : m ≤ 5 := by omega
    have hme : ((m : Int) == 6) = false := by simp; omega
    obtain ⟨q1, q2⟩ := posB_pos hp
    have HP : Hid _ := hp
    have HF : Hid _ := hF
    have HC : Hid (∀ n : Nat, ((List.range m).any fun k => F k == (n : Int)) = own.contains n) := fun n => by
      have := cont_eq (own := own) (F := F) (by rw [hl]; exact hF) n
      rwa [hl] at this
    have HQ : Hid ((arL (d + 1) own) = arS d own 6) := rfl
    rw [show arL (d + 1) own = arS d own 6 from rfl] at q1 q2 ⊢
    have hbel := Below.refl w.heap.size w
    have hBl := row_lt h1
    clear hp hF
    go_enter Try.func89, Try.ntmps89
    go_wp2_with fail
    go_loopw [3, 12] (fun o i wr => ∃ n : Nat, ∃ v : Value, n ≤ 6 ∧ i = .int .i64 n ∧ o = v ∧ Sl wr w.heap.size 22 6 v (arS d own n).length (fls 6 ((arS d own n).map fnL)) ∧ wr.heap[B]? = some (.cells (arr N F) T fr) ∧ Below w.heap.size w wr) (fun _ i _ => 6 - (intOf i).toNat)
    case atStart => exact ⟨0, _, by omega, rfl, rfl, .inl ⟨rfl, rfl⟩, h1, hbel⟩
    case round =>
      clear h1 hbel
      obtain ⟨n, v, hn, rfl, rfl, hS, h1, hbel⟩ := hrel
      by_cases hlt : n < 6
      · have hlt' : (n : Int) < 6 := by omega
        have HN : Hid _ := arS_succ d own n
        have hq := arS_le d own (n + 1) (6 - (n + 1))
        rw [show n + 1 + (6 - (n + 1)) = 6 by omega] at hq
        cases hc : own.contains n with
        | true =>
          rw [hc, if_pos rfl, List.append_nil] at HN
          have HX : Hid (((List.range m).any fun k => F k == (n : Int)) = true) := by show _ = _; rw [HC.out n, hc]
          clear hc
          go_wp2_with first
            | (go_at_call 109; (with_reducible refine (contains_any _ _ h1 hN (by omega)).mono ?_); rw [HX.out]; rintro e w1 ⟨rfl, rfl⟩)
          go_roundw
          case rel => exact ⟨n + 1, _, by omega, by go_num, rfl, by rw [HN.out]; exact hS, h1, hbel⟩
          case measure => simp [intOf]; omega
        | false =>
          rw [hc, if_neg (by simp)] at HN
          rw [HN.out, List.length_append] at hq
          have hpn := posB_next HP.out hlt hc
          obtain ⟨z1, z2⟩ := posB_pos hpn
          have HI : Hid _ := fun {B cap N : Nat} {F : Nat → Int} {T : TypeId} {fr : Nat × Nat} (w : World) => arrays_any d (own ++ [n]) (m + 1) (by simp [hl]) (by omega) (by omega) hpn (B := B) (cap := cap) (N := N) (F := F) (T := T) (fr := fr) w
          have HG : Hid (∀ j, j < (m + 1) * 1 → app F (m * 1) (fun _ => (n : Int)) j = ((own ++ [n]).getD j 0 : Nat)) := fun j hj => by
            unfold app
            by_cases hjm : j < m * 1
            · rw [if_pos hjm, HF.out j (by omega), List.getD_eq_getElem?_getD, List.getD_eq_getElem?_getD, List.getElem?_append_left (by omega)]
            · obtain rfl : j = m := by omega
              rw [if_neg hjm, List.getD_eq_getElem?_getD, List.getElem?_append_right (by omega), hl]; simp
          have HX : Hid (((List.range m).any fun k => F k == (n : Int)) = false) := by show _ = _; rw [HC.out n, hc]
          have HB : Hid (∀ W : World, (W.alloc (.cells #[.int .i64 n] 3)).heap[W.heap.size]? = some (.cells (arr 1 fun _ => (n : Int)) 3 (0, 0))) := fun W => by rw [arr1]; exact heap_new rfl
          clear hc hpn
          have hz := hbel.size
          go_wp2_with first
            | (go_at_call 109; (with_reducible refine (contains_any _ _ h1 hN (by omega)).mono ?_); rw [HX.out]; rintro e w1 ⟨rfl, rfl⟩)
            | (go_at_call 110; (with_reducible refine (clone_any _ h1 h0 hN (by omega)).mono ?_); rintro e w1 ⟨v1, rfl, hS1, hb1⟩; have hzz := hb1.size)
            | ((with_reducible refine wpList_appendS slI (by omega) rfl _ _ rfl rfl (hS1.keep ((Below.refl _ _).alloc (Nat.le_refl _) _)) rfl (HB.out _) (by omega) (by omega) (by unfold maxLen; omega) (by omega) (by simp; omega) ?_); intro v2 w2 hS2 hb2; (obtain ⟨g2, cap2, F2, rfl, a1, a2, a3, a4, a5⟩ := hS2.blk (by omega)); go_loud (have hcall := HI.out (B := g2) (cap := cap2) w2 a2 (by omega) (fun j hj => (a5 j (by omega)).trans (HG.out j (by omega)))))
            | (go_at_call 89; go_loud ((with_reducible refine hcall.mono ?_); rintro e w3 ⟨v3, rfl, hS3, hb3⟩; (obtain ⟨g3, cap3, F3, rfl, c1, c2, c3, c4, c5⟩ := hS3.blk z1); have hb12 := (hb1.trans ((Below.refl _ _).alloc hb1.size (.cells #[.int .i64 n] 3))); have hb13 := hb12.trans hb2; have hb14 := hb13.trans (hb3.mono hb13.size); replace hS := hS.keep hb14; replace h1 := row_keep hb14 h1; replace hbel := hbel.trans (hb14.mono hz); have hz2 := hbel.size))
            | ((with_reducible refine wpList_appendS slN (by omega) rfl _ _ rfl rfl hS rfl c2 (by omega) z1 (by unfold maxLen; omega) (by omega) hz2 ?_); intro v4 w4 hS4 hb4)
          go_roundw
          case rel =>
            refine ⟨n + 1, v4, by omega, by go_num, rfl, ?_, row_kept hb4 h1 hBl, hbel.trans hb4⟩
            rw [HN.out]
            refine hS4.congr (by rw [List.length_append]) fun j hj => ?_
            rw [List.map_append, ← fls_append (by omega) _ _ j (by simpa using hj), List.length_map]
            unfold app
            by_cases hj2 : j < (arS d own n).length * 6
            · rw [if_pos hj2, if_pos hj2]
            · rw [if_neg hj2, if_neg hj2]
              show F3 (0 + (j - (arS d own n).length * 6)) = _
              rw [Nat.zero_add]
              exact c5 _ (by rw [Nat.add_mul] at hj; omega)
          case measure => simp [intOf]; omega
      · obtain rfl : n = 6 := by omega
        go_wp2_with fail
        go_ret
        exact ⟨_, rfl, hS, hbel⟩
theorem renamings_any (w : World) : Calls Try.prog 72 #[] w (RetSl w 22 6 120 (fls 6 (nmL.map fnL))) := by
  have h1 : (w.alloc (.cells #[.int .i64 0] 3)).heap[w.heap.size]? = some (.cells (arr 1 fun _ => 0) 3 (0, 0)) := by rw [arr1]; exact heap_new rfl
  have hA := arrays_any 5 [0] 1 rfl rfl (by decide) posB_0 (cap := 1) _ h1 (Nat.le_refl _) (fun j hj => by
    have hj1 : j < 1 := hj
    obtain rfl : j = 0 := by omega
    rfl)
  rw [arL_nm, nmL_len] at hA
  go_enter Try.func72, Try.ntmps72
  go_wp2_with first
    | (go_at_call 89; (with_reducible refine hA.mono ?_); rintro e w3 ⟨v3, rfl, hS3, hb3⟩)
  go_ret
  exact ⟨_, rfl, hS3.lower (by simp), ((Below.refl _ _).alloc (by simp) _).trans (hb3.mono (by simp))⟩
end Go.Proofs.Ytljajgaicdffkaa
