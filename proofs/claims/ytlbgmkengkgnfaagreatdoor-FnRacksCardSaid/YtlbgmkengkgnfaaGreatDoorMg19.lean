/- A part (number 19) of the proof of the law FnRacks: what each of its sections proves stands in the section's own first remark. No conditions beside those that each theorem states. -/
import Derived.Laws.IdiomStrings
import Derived.Test.YtlbgmkengkgnfaaGreatDoorMg18
import Derived.Test.YtlbgmkengkgnfaaGreatDoorMg4
import Derived.Test.YtlbgmkengkgnfaaGreatDoorMg7
import Derived.Test.YtlbgmkengkgnfaaGreatDoorMg5
import Derived.Test.YtlbgmkengkgnfaaGreatDoorMg3
section
/- The text of a rack: the walks, and the law. -/
namespace Go.Proofs.YtlbgmkengkgnfaaGreatDoor
set_option linter.unusedSimpArgs false
set_option linter.unusedVariables false
set_option maxRecDepth 20000
open Go.RowKit
theorem tadd (a b : List UInt8) (ha : a.length ≤ 1000) (hb : b.length ≤ 1000) (w : World) : (Op.stringOp .add ⟨a.toArray⟩ ⟨b.toArray⟩).run Tryz.prog w = .ok (.string ⟨(a ++ b).toArray⟩) w := str_add a b (by omega) (by omega) w
/-- The text behind i tubes, the sign between, and k layers of the next. -/
def txk (f : Nat → Int) (i k : Nat) : List UInt8 := tx f i ++ (if i = 0 then [] else [47]) ++ tp f i k
theorem txk_step (f : Nat → Int) (i k : Nat) : txk f i (k + 1) = txk f i k ++ [sgn (f (i * 4 + k))] := by unfold txk; rw [tp, ← List.append_assoc]
theorem txk_four (f : Nat → Int) (i : Nat) : txk f i 4 = tx f (i + 1) := (tx_succ f i).symm
theorem byte_str (w : World) (x : Int) (b : UInt8) (hx : x = (b.toNat : Int)) :
    (convert 22 9 (.slice (some ⟨w.heap.size, 0, none⟩) 1 1)).run Tryz.prog (w.alloc (.cells #[.int .u8 x] 5)) = .ok (.string ⟨#[b]⟩) (w.alloc (.cells #[.int .u8 x] 5)) := by
  have := run_convert_bytes_back (P := Tryz.prog) (w.alloc (.cells #[.int .u8 x] 5)) 22 9 5 ⟨w.heap.size, 0, none⟩ 1 [b] Tryz.underlying22 Tryz.underlying5 Tryz.underlying9 (fun j hj => by
    have hj0 : j = 0 := by simpa using hj
    subst hj0
    rw [add_off]
    simp only [World.cell?, heap_alloc_new, Option.bind_some]
    simp [hx])
  exact this
theorem sgn_int (c : Int) (h0 : ¬ c = 0) (h1 : 0 ≤ c) (h2 : c ≤ 5) : 97 + c - 1 = ((sgn c).toNat : Int) := by
  have hc : c = 1 ∨ c = 2 ∨ c = 3 ∨ c = 4 ∨ c = 5 := by omega
  rcases hc with rfl | rfl | rfl | rfl | rfl <;> rfl
theorem colorText_any (c : Int) (h0 : 0 ≤ c) (h1 : c ≤ 5) (w : World) : Calls Tryz.prog 69 #[.int .i64 c] w fun e w' => e = .returned (.string ⟨#[sgn c]⟩) ∧ Below w.heap.size w w' := by
  have hbel := Below.refl w.heap.size w
  by_cases hz : c = 0
  · subst hz
    go_enter Tryz.func69, Tryz.ntmps69
    go_wp2
    go_ret
    exact ⟨rfl, hbel⟩
  · have hz' : ¬ c = 0 := hz
    have hcv := byte_str w _ _ (sgn_int c hz h0 h1)
    go_enter Tryz.func69, Tryz.ntmps69
    go_wp2
    go_ret
    exact ⟨rfl, hbel.alloc (Nat.le_refl _) _⟩
theorem tp_zero (f : Nat → Int) (i : Nat) : txk f i 0 = tx f i ++ (if i = 0 then [] else [47]) := by unfold txk; rw [tp, List.append_nil]
theorem txk_len (f : Nat → Int) (i k : Nat) (hi : i ≤ 6) (hk : k ≤ 4) : (txk f i k).length ≤ 100 := by
  unfold txk
  rw [List.length_append, List.length_append, tp_len]
  have := tx_len f i
  split <;> simp <;> omega
attribute [irreducible] txk
theorem l2Text_any (f : Nat → Int) (hc : ∀ j, j < 24 → 0 ≤ f j ∧ f j ≤ 5) (w : World) : Calls Tryz.prog 53 #[.agg (arr 24 f)] w fun e w' => e = .returned (.string ⟨(tx f 6).toArray⟩) ∧ Below w.heap.size w w' := by
  have h1 : (w.alloc (.cells (arr 24 f) 27)).heap[w.heap.size]? = some (.cells (arr 24 f) 27 (0, 0))   := heap_new rfl
  have hbel : Below w.heap.size w (w.alloc (.cells (arr 24 f) 27)) := (Below.refl _ _).alloc (by simp) _
  have HC : Hid _ := hc
  clear hc
  go_enter Tryz.func53, Tryz.ntmps53
  go_wp2
  go_loop [3, 4] (fun s i => ∃ n : Nat, n ≤ 6 ∧ i = .int .i64 n ∧ s = .string ⟨(tx f n).toArray⟩) (fun _ i => 6 - (intOf i).toNat)
  case atStart => exact ⟨0, by omega, rfl, by rw [tx_zero]⟩
  case round =>
    obtain ⟨n, hn, rfl, rfl⟩ := hrel
    by_cases hlt : n < 6
    · have hlt' : (n : Int) < 6 := by omega
      have hlen := tx_len f n
      by_cases h0 : n = 0
      · have hs : tx f n = txk f n 0 := by rw [tp_zero, if_pos h0, List.append_nil]
        rw [hs]
        have h0' : ¬ (0 : Int) < (n : Int) := by omega
        clear hs h0
        go_wp2
        go_loop [3, 5, 6] (fun s k c => ∃ q : Nat, q ≤ 4 ∧ k = .int .i64 q ∧ s = .string ⟨(txk f n q).toArray⟩) (fun _ k _ => 4 - (intOf k).toNat)
        case atStart => exact ⟨0, by omega, rfl, rfl⟩
        case round =>
          obtain ⟨q, hq, rfl, rfl⟩ := hrel
          by_cases hqt : q < 4
          · have hqt' : (q : Int) < 4 := by omega
            obtain ⟨c0, c1⟩ := HC.out (n * 4 + q) (by omega)
            have hl := txk_len f n q (by omega) (by omega)
            have hsg := sgn_slice (f (n * 4 + q)) c0 c1
            have hrc := rowcell h1 (show n * 4 + q < 24 by omega)
            have hadd2 : ∀ w, (Op.stringOp .add ⟨(txk f n q).toArray⟩ ⟨#[sgn (f (n * 4 + q))]⟩).run Tryz.prog w = .ok (.string ⟨(txk f n (q + 1)).toArray⟩) w := fun w => by
              rw [txk_step]
              exact tadd (txk f n q) [sgn (f (n * 4 + q))] (by omega) (by show 1 ≤ _; omega) w
            go_wp2
            go_round
            case rel => exact ⟨q + 1, by omega, by go_num, rfl⟩
            case measure => simp [intOf]; omega
          · obtain rfl : q = 4 := by omega
            go_wp2
            go_round
            case rel => exact ⟨n + 1, by omega, by go_num, by rw [txk_four]⟩
            case measure => simp [intOf]; omega
      · have hadd : ∀ w, (Op.stringOp .add ⟨(tx f n).toArray⟩ ⟨#[47]⟩).run Tryz.prog w = .ok (.string ⟨(txk f n 0).toArray⟩) w := fun w => by
          rw [tp_zero, if_neg h0]
          exact tadd (tx f n) [47] (by omega) (by show 1 ≤ _; omega) w
        have h0' : (0 : Int) < (n : Int) := by omega
        clear h0
        go_wp2
        go_loop [3, 5, 6] (fun s k c => ∃ q : Nat, q ≤ 4 ∧ k = .int .i64 q ∧ s = .string ⟨(txk f n q).toArray⟩) (fun _ k _ => 4 - (intOf k).toNat)
        case atStart => exact ⟨0, by omega, rfl, rfl⟩
        case round =>
          obtain ⟨q, hq, rfl, rfl⟩ := hrel
          by_cases hqt : q < 4
          · have hqt' : (q : Int) < 4 := by omega
            obtain ⟨c0, c1⟩ := HC.out (n * 4 + q) (by omega)
            have hl := txk_len f n q (by omega) (by omega)
            have hsg := sgn_slice (f (n * 4 + q)) c0 c1
            have hrc := rowcell h1 (show n * 4 + q < 24 by omega)
            have hadd2 : ∀ w, (Op.stringOp .add ⟨(txk f n q).toArray⟩ ⟨#[sgn (f (n * 4 + q))]⟩).run Tryz.prog w = .ok (.string ⟨(txk f n (q + 1)).toArray⟩) w := fun w => by
              rw [txk_step]
              exact tadd (txk f n q) [sgn (f (n * 4 + q))] (by omega) (by show 1 ≤ _; omega) w
            go_wp2
            go_round
            case rel => exact ⟨q + 1, by omega, by go_num, rfl⟩
            case measure => simp [intOf]; omega
          · obtain rfl : q = 4 := by omega
            go_wp2
            go_round
            case rel => exact ⟨n + 1, by omega, by go_num, by rw [txk_four]⟩
            case measure => simp [intOf]; omega
    · obtain rfl : n = 6 := by omega
      go_wp2
      go_ret
      exact ⟨rfl, hbel⟩
theorem tps_zero (f : Nat → Int) : tps f 0 = [] := rfl
theorem tp_len100 (f : Nat → Int) (i k : Nat) (h : k ≤ 4) : (tp f i k).length ≤ 100 := by rw [tp_len]; omega
theorem rackText_any (f : Nat → Int) (hc : ∀ j, j < 24 → 0 ≤ f j ∧ f j ≤ 5) (w : World) : Calls Tryz.prog 52 #[.agg (arr 24 f)] w fun e w' => e = .returned (.string ⟨(tx f 6).toArray⟩) ∧ Below w.heap.size w w' := by
  have h1 : (w.alloc (.cells (arr 24 f) 27)).heap[w.heap.size]? = some (.cells (arr 24 f) 27 (0, 0))   := heap_new rfl
  have hbel : Below w.heap.size w (w.alloc (.cells (arr 24 f) 27)) := (Below.refl _ _).alloc (by simp) _
  have HC : Hid _ := hc
  clear hc
  have hT := Tx.nil (w.alloc (.cells (arr 24 f) 27)) w.heap.size
  go_enter Tryz.func52, Tryz.ntmps52
  go_wp2_with first
    | (with_reducible refine wpList_loadW rfl _ _ rfl _ rfl h1 agg24 size24 ?_)
  go_loopw [3, 11] (fun o i wr => ∃ n : Nat, n ≤ 6 ∧ i = .int .i64 n ∧ Tx wr w.heap.size o (tps f n) ∧ Below w.heap.size w wr) (fun _ i _ => 6 - (intOf i).toNat)
  case atStart => exact ⟨0, by omega, rfl, hT, hbel⟩
  case round =>
    clear h1 hT hbel
    obtain ⟨n, hn, rfl, hT, hbo⟩ := hrel
    obtain ⟨wo, hwo⟩ : ∃ wo : World, wo = wr := ⟨_, rfl⟩
    subst hwo
    have hbel := Below.refl wo.heap.size wo
    by_cases hlt : n < 6
    · have hlt' : (n : Int) < 6 := by omega
      have tok_h4 : True := trivial
      go_wp2_with first
        | (with_reducible refine wpList_indexA rfl _ _ _ rfl rfl rfl 6 _ Tryz.underlying25 4 agg4 size4 (by omega) rfl ?_)
        | (have _t := tok_h4; with_reducible refine wpList_allocN rfl 24 rfl 4 zero4 ?_; intro Bh4 w1 hBh4 h4 hb1; have hWh4 := Nat.le_trans hbel.size hBh4; replace hbel := hbel.trans (hb1.mono hbel.size); clear hb1 _t tok_h4)
        | (with_reducible refine wpList_storeWN rfl _ _ _ rfl _ rfl rfl h4 size4 hbel hWh4 ?_; intro w1 g3 ho g4; clear h4 hbel; have h4 := g3; have hbel := g4; clear g3 g4 ho)
        | (with_reducible refine wpList_loadW rfl _ _ rfl _ rfl h4 agg4 size4 ?_)
      go_loopw [6, 15] (fun s k wr => ∃ q : Nat, q ≤ 4 ∧ k = .int .i64 q ∧ s = .string ⟨(tp f n q).toArray⟩ ∧ Below wo.heap.size wo wr) (fun _ k _ => 4 - (intOf k).toNat)
      case atStart => exact ⟨0, by omega, rfl, rfl, hbel⟩
      case round =>
        clear h4 hbel
        obtain ⟨q, hq, rfl, rfl, hbel⟩ := hrel
        by_cases hqt : q < 4
        · have hqt' : (q : Int) < 4 := by omega
          obtain ⟨c0, c1⟩ := HC.out (n * 4 + q) (by omega)
          have hl := tp_len100 f n q (by omega)
          have hadd2 : ∀ w, (Op.stringOp .add ⟨(tp f n q).toArray⟩ ⟨#[sgn (f (n * 4 + q))]⟩).run Tryz.prog w = .ok (.string ⟨(tp f n (q + 1)).toArray⟩) w := fun w => by
            rw [tp]
            exact tadd (tp f n q) [sgn (f (n * 4 + q))] (by omega) (by show 1 ≤ _; omega) w
          go_wp2_with first
            | (with_reducible refine wpList_indexI rfl _ _ _ rfl rfl rfl _ Tryz.underlying24 aggI undI size1 (by omega) ?_)
            | (go_at_call 69; (with_reducible refine (colorText_any _ c0 c1 _).mono ?_); rintro e w1 ⟨rfl, hb1⟩; replace hbel := hbel.trans (hb1.mono hbel.size); clear hb1)
          go_roundw
          case rel => exact ⟨q + 1, by omega, by go_num, rfl, hbel⟩
          case measure => simp [intOf]; omega
        · obtain rfl : q = 4 := by omega
          go_wp2_with first
            | ((with_reducible refine wpList_appendT rfl _ _ rfl rfl ((hT.keep hbel).keep ((Below.refl _ _).alloc (Nat.le_refl _) _)) rfl (heap_alloc_new _ _) (by rw [tps_len]; omega) (by have := hbel.size; have := hbo.size; simp; omega) ?_); intro v2 w2 hT2 hb2)
          go_roundw
          case rel => exact ⟨n + 1, by omega, by go_num, by rw [tps_succ]; exact hT2, ((hbo.trans (hbel.mono hbo.size)).alloc (by have := hbel.size; have := hbo.size; omega) _).trans hb2⟩
          case measure => simp [intOf]; omega
    · obtain rfl : n = 6 := by omega
      obtain ⟨a1, c1, rfl, H1⟩ := hT.st.shape
      obtain ⟨g1, rfl, _, q1, d1, _, K1⟩ := H1 (by rw [tps_len]; omega)
      have HJ : Hid _ := fun (_u : Unit) => joins_any (tps f 6) ⟨#[47]⟩ g1 c1 rfl d1 (by rw [tps_len]; omega) (by have := tx_len f 6; show (jn (tps f 6) 47).length ≤ _; rw [tps_jn]; omega) wo q1 K1
      clear H1 K1 hT
      go_wp2_with first
        | (go_at_call 70; (with_reducible refine (HJ.out ()).mono ?_); rintro e w1 ⟨rfl, hb1⟩; replace hbel := hbel.trans (hb1.mono hbel.size); clear hb1)
      go_ret
      exact ⟨by rw [← tps_jn]; rfl, hbo.trans (hbel.mono hbo.size)⟩
theorem rack_cells {f : Nat → Int} (h : rackB f = true) : ∀ j, j < 24 → 0 ≤ f j ∧ f j ≤ 5 := fun j hj => by
  have h1 := (tubeB_iff f (j / 4)).1 ((rackB_iff f).1 h (j / 4) (by omega)) (j % 4) (Nat.mod_lt _ (by omega))
  have h2 := h1.1
  rwa [show j / 4 * 4 + j % 4 = j by omega] at h2
def rtS (f : Nat → Int) : List UInt8 := if rackB f = true then tx f 6 else []
theorem specRT_any (f : Nat → Int) (w : World) : Calls Tryz.prog 26 #[.agg (arr 24 f)] w fun e w' => e = .returned (.tuple #[.string ⟨(rtS f).toArray⟩, .bool (rackB f)]) ∧ Below w.heap.size w w' := by
  have h1 : (w.alloc (.cells (arr 24 f) 27)).heap[w.heap.size]? = some (.cells (arr 24 f) 27 (0, 0))   := heap_new rfl
  have hbel : Below w.heap.size w (w.alloc (.cells (arr 24 f) 27)) := (Below.refl _ _).alloc (by simp) _
  unfold rtS
  cases hf : rackB f with
  | false =>
    have HF : Hid _ := hf
    simp only [Bool.false_eq_true, if_false]
    clear hf
    go_enter Tryz.func26, Tryz.ntmps26
    go_wp2_with first
      | (with_reducible refine wpList_loadW rfl _ _ rfl _ rfl h1 agg24r size24r ?_)
      | (go_at_call 34; (with_reducible refine (l2Rack_any _ _).mono ?_); rw [HF.out]; rintro e w1 ⟨rfl, hb1⟩; replace hbel := hbel.trans (hb1.mono hbel.size); replace h1 := row_keep hb1 h1; clear hb1)
      | (go_at_call 53; (with_reducible refine (l2Text_any f HC.out _).mono ?_); rintro e w1 ⟨rfl, hb1⟩; replace hbel := hbel.trans (hb1.mono hbel.size); replace h1 := row_keep hb1 h1; clear hb1)
    go_ret2
    exact ⟨rfl, hbel⟩
  | true =>
    have HF : Hid _ := hf
    have HC : Hid _ := rack_cells hf
    simp only [if_true]
    clear hf
    go_enter Tryz.func26, Tryz.ntmps26
    go_wp2_with first
      | (with_reducible refine wpList_loadW rfl _ _ rfl _ rfl h1 agg24r size24r ?_)
      | (go_at_call 34; (with_reducible refine (l2Rack_any _ _).mono ?_); rw [HF.out]; rintro e w1 ⟨rfl, hb1⟩; replace hbel := hbel.trans (hb1.mono hbel.size); replace h1 := row_keep hb1 h1; clear hb1)
      | (go_at_call 53; (with_reducible refine (l2Text_any f HC.out _).mono ?_); rintro e w1 ⟨rfl, hb1⟩; replace hbel := hbel.trans (hb1.mono hbel.size); replace h1 := row_keep hb1 h1; clear hb1)
    go_ret2
    exact ⟨rfl, hbel⟩
theorem implRT_any (f : Nat → Int) (w : World) : Calls Tryz.prog 25 #[.agg (arr 24 f)] w fun e w' => e = .returned (.tuple #[.string ⟨(rtS f).toArray⟩, .bool (rackB f)]) ∧ Below w.heap.size w w' := by
  have h1 : (w.alloc (.cells (arr 24 f) 27)).heap[w.heap.size]? = some (.cells (arr 24 f) 27 (0, 0))   := heap_new rfl
  have hbel : Below w.heap.size w (w.alloc (.cells (arr 24 f) 27)) := (Below.refl _ _).alloc (by simp) _
  unfold rtS
  cases hf : rackB f with
  | false =>
    have HF : Hid _ := hf
    simp only [Bool.false_eq_true, if_false]
    clear hf
    go_enter Tryz.func25, Tryz.ntmps25
    go_wp2_with first
      | (with_reducible refine wpList_loadW rfl _ _ rfl _ rfl h1 agg24r size24r ?_)
      | (go_at_call 27; (with_reducible refine (IsRack_any _ _).mono ?_); rw [HF.out]; rintro e w1 ⟨rfl, hb1⟩; replace hbel := hbel.trans (hb1.mono hbel.size); replace h1 := row_keep hb1 h1; clear hb1)
      | (go_at_call 52; (with_reducible refine (rackText_any f HC.out _).mono ?_); rintro e w1 ⟨rfl, hb1⟩; replace hbel := hbel.trans (hb1.mono hbel.size); replace h1 := row_keep hb1 h1; clear hb1)
    go_ret2
    exact ⟨rfl, hbel⟩
  | true =>
    have HF : Hid _ := hf
    have HC : Hid _ := rack_cells hf
    simp only [if_true]
    clear hf
    go_enter Tryz.func25, Tryz.ntmps25
    go_wp2_with first
      | (with_reducible refine wpList_loadW rfl _ _ rfl _ rfl h1 agg24r size24r ?_)
      | (go_at_call 27; (with_reducible refine (IsRack_any _ _).mono ?_); rw [HF.out]; rintro e w1 ⟨rfl, hb1⟩; replace hbel := hbel.trans (hb1.mono hbel.size); replace h1 := row_keep hb1 h1; clear hb1)
      | (go_at_call 52; (with_reducible refine (rackText_any f HC.out _).mono ?_); rintro e w1 ⟨rfl, hb1⟩; replace hbel := hbel.trans (hb1.mono hbel.size); replace h1 := row_keep hb1 h1; clear hb1)
    go_ret2
    exact ⟨rfl, hbel⟩
end Go.Proofs.YtlbgmkengkgnfaaGreatDoor
end

section
/- Reading a rack's own text: plain law. -/
namespace Go.Proofs.YtlbgmkengkgnfaaGreatDoor
set_option linter.unusedSimpArgs false
set_option linter.unusedVariables false
set_option maxRecDepth 20000
open Go.RowKit
theorem tx6 (f : Nat → Int) : tx f 6 = [sgn (f 0), sgn (f 1), sgn (f 2), sgn (f 3), 47, sgn (f 4), sgn (f 5), sgn (f 6), sgn (f 7), 47, sgn (f 8), sgn (f 9), sgn (f 10), sgn (f 11), 47, sgn (f 12), sgn (f 13), sgn (f 14), sgn (f 15), 47, sgn (f 16), sgn (f 17), sgn (f 18), sgn (f 19), 47, sgn (f 20), sgn (f 21), sgn (f 22), sgn (f 23)] := by
  simp only [tx_succ, tx_zero, tp]
  rfl
theorem txS (f : Nat → Int) : (⟨(tx f 6).toArray⟩ : ByteArray).size = 29 := by
  show (tx f 6).toArray.size = 29
  rw [tx6]; rfl
theorem bt_tx (f : Nat → Int) {n : Nat} (hn : n < 29) : bt ⟨(tx f 6).toArray⟩ n = if n % 5 = 4 then 47 else sgn (f (n / 5 * 4 + n % 5)) := by
  unfold bt
  show (tx f 6).getD n 0 = _
  rw [tx6]
  have h : n = 0 ∨ n = 1 ∨ n = 2 ∨ n = 3 ∨ n = 4 ∨ n = 5 ∨ n = 6 ∨ n = 7 ∨ n = 8 ∨ n = 9 ∨ n = 10 ∨ n = 11 ∨ n = 12 ∨ n = 13 ∨ n = 14 ∨ n = 15 ∨ n = 16 ∨ n = 17 ∨ n = 18 ∨ n = 19 ∨ n = 20 ∨ n = 21 ∨ n = 22 ∨ n = 23 ∨ n = 24 ∨ n = 25 ∨ n = 26 ∨ n = 27 ∨ n = 28 := by omega
  rcases h with rfl | rfl | rfl | rfl | rfl | rfl | rfl | rfl | rfl | rfl | rfl | rfl | rfl | rfl | rfl | rfl | rfl | rfl | rfl | rfl | rfl | rfl | rfl | rfl | rfl | rfl | rfl | rfl | rfl <;> rfl
theorem sgB_sgn {c : Int} (h : 0 ≤ c ∧ c ≤ 5) : sgB (sgn c) = c := by
  have : c = 0 ∨ c = 1 ∨ c = 2 ∨ c = 3 ∨ c = 4 ∨ c = 5 := by omega
  rcases this with rfl | rfl | rfl | rfl | rfl | rfl <;> decide
theorem parse_text {f : Nat → Int} (hf : rackB f = true) : prB ⟨(tx f 6).toArray⟩ = true ∧ eqv 24 (prF ⟨(tx f 6).toArray⟩) f = true := by
  have hc := rack_cells hf
  have hO : ∀ j, j < 24 → prO ⟨(tx f 6).toArray⟩ 29 j = f j := fun j hj => by
    unfold prO
    rw [if_pos (show j / 4 * 5 + j % 4 < 29 by omega), bt_tx f (show j / 4 * 5 + j % 4 < 29 by omega), if_neg (show ¬ (j / 4 * 5 + j % 4) % 5 = 4 by omega)]
    rw [show (j / 4 * 5 + j % 4) / 5 * 4 + (j / 4 * 5 + j % 4) % 5 = j by omega]
    exact sgB_sgn (hc j hj)
  have hg : gdN ⟨(tx f 6).toArray⟩ 29 := fun i hi => by
    rw [bt_tx f hi]
    by_cases q : i % 5 = 4
    · rw [if_pos q, if_pos q]
    · rw [if_neg q, if_neg q, sgB_sgn (hc _ (by omega))]
      exact (hc _ (by omega)).1
  have hr : rackB (prO ⟨(tx f 6).toArray⟩ 29) = true := rackB_true fun i hi k hk => by
    have := (tubeB_iff f i).1 ((rackB_iff f).1 hf i hi) k hk
    unfold okP at this ⊢
    rw [hO _ (by omega), hO _ (by omega)]
    exact this
  obtain ⟨e1, e2⟩ := pr_yes (txS f) hg hr
  exact ⟨e1, eqv_iff.2 fun j hj => by rw [e2]; exact hO j hj⟩
end Go.Proofs.YtlbgmkengkgnfaaGreatDoor
end

section
/- The law on racks: facts for its walk. -/
namespace Go.Proofs.YtlbgmkengkgnfaaGreatDoor
set_option linter.unusedSimpArgs false
set_option linter.unusedVariables false
set_option maxRecDepth 20000
open Go.RowKit
theorem eqv_self (n : Nat) (f : Nat → Int) : eqv n f f = true := eqv_iff.2 fun _ _ => rfl
theorem gd24 : Tryz.prog.eqGuardType Tryz.prog.depth 27 = false := by kernel_rfl
theorem rBig_is (p : Option Addr) (n c : Nat) (w : World) : Calls Tryz.prog 4 #[.slice p n c] w fun e w' => e = .returned (.bool (decide ((65536 : Int) < (n : Int)))) ∧ w = w' := by
  go_enter Tryz.func4, Tryz.ntmps4
  go_wp2
  go_ret
  exact ⟨rfl, rfl⟩
theorem lay_ok (f : Nat → Int) (i : Int) : (layersOf f i).2 = roB f i := by
  unfold layersOf roB
  by_cases h : rackB f = true ∧ 0 ≤ i ∧ i ≤ 5
  · rw [if_pos h, if_pos h]
  · rw [if_neg h, if_neg h]
theorem top_two (f : Nat → Int) (i : Int) : (topR f i).2.2 = (roB f i && decide (0 < (layersOf f i).1)) := by
  unfold topR roB layersOf
  by_cases h : rackB f = true ∧ 0 ≤ i ∧ i ≤ 5
  · rw [if_pos h, if_pos h]
    by_cases h2 : 0 < nlay (tub f i.toNat)
    · rw [if_pos ⟨h.1, h.2, h2⟩]; simp; exact h2
    · rw [if_neg fun q => h2 q.2.2]; simp; omega
  · rw [if_neg h, if_neg h, if_neg fun q => h ⟨q.1, q.2.1⟩]; rfl
theorem ro_sum {f : Nat → Int} {i : Int} (h : roB f i = true) : rSum (roF f i) (roN f i) = (layersOf f i).1 := by
  by_cases hk : rackB f = true ∧ (0 ≤ i ∧ i ≤ 5)
  · have e1 : roN f i = rN (tub f i.toNat) (nlay (tub f i.toNat)) := if_pos hk
    have e2 : roF f i = rF (tub f i.toNat) (nlay (tub f i.toNat)) := if_pos hk
    have e3 : layersOf f i = ((nlay (tub f i.toNat) : Int), true) := if_pos hk
    rw [e1, e2, e3, rSum_all]
  · rw [(ro_bad hk).2.2] at h; cases h
theorem ro_ne {f : Nat → Int} {i : Int} (h : roB f i = true) : ∀ r, 0 < r → r < roN f i → roF f i (r * 2) ≠ roF f i ((r - 1) * 2) := by
  by_cases hk : rackB f = true ∧ (0 ≤ i ∧ i ≤ 5)
  · have e1 : roN f i = rN (tub f i.toNat) (nlay (tub f i.toNat)) := if_pos hk
    have e2 : roF f i = rF (tub f i.toNat) (nlay (tub f i.toNat)) := if_pos hk
    rw [e1, e2]
    exact rF_ne _ _
  · rw [(ro_bad hk).2.2] at h; cases h
theorem ro_bd {f : Nat → Int} {i : Int} (h : roB f i = true) : roN f i ≤ 4 ∧ ∀ r, r < roN f i → 0 ≤ roF f i (r * 2 + 1) ∧ roF f i (r * 2 + 1) ≤ 4 := by
  by_cases hk : rackB f = true ∧ (0 ≤ i ∧ i ≤ 5)
  · have e1 : roN f i = rN (tub f i.toNat) (nlay (tub f i.toNat)) := if_pos hk
    have e2 : roF f i = rF (tub f i.toNat) (nlay (tub f i.toNat)) := if_pos hk
    rw [e1, e2]
    have h4 := nlay_le (tub f i.toNat)
    refine ⟨Nat.le_trans (rN_le _ _) h4, fun r hr => ?_⟩
    have := rF_bd (tub f i.toNat) (nlay (tub f i.toNat)) r hr
    omega
  · rw [(ro_bad hk).2.2] at h; cases h
theorem ro_last {f : Nat → Int} {i : Int} (h : (topR f i).2.2 = true) : 0 < roN f i ∧ roF f i ((roN f i - 1) * 2) = (topR f i).1 ∧ roF f i ((roN f i - 1) * 2 + 1) = (topR f i).2.1 := by
  by_cases hk : rackB f = true ∧ (0 ≤ i ∧ i ≤ 5) ∧ 0 < nlay (tub f i.toNat)
  · have e0 : topR f i = ((tpF (tub f i.toNat)).1, (tpF (tub f i.toNat)).2, true) := if_pos hk
    have e1 : roN f i = rN (tub f i.toNat) (nlay (tub f i.toNat)) := if_pos ⟨hk.1, hk.2.1⟩
    have e2 : roF f i = rF (tub f i.toNat) (nlay (tub f i.toNat)) := if_pos ⟨hk.1, hk.2.1⟩
    rw [e0, e1, e2, tpF_pos hk.2.2]
    exact ⟨rN_pos _ _ hk.2.2, rF_last _ _ hk.2.2, rfl⟩
  · rw [show topR f i = (0, 0, false) from if_neg hk] at h; cases h
end Go.Proofs.YtlbgmkengkgnfaaGreatDoor
end

section
/- Reading a rack's text: the walks. -/
namespace Go.Proofs.YtlbgmkengkgnfaaGreatDoor
set_option linter.unusedSimpArgs false
set_option linter.unusedVariables false
set_option maxRecDepth 20000
open Go.RowKit
def sgL (c : Nat) : Int := if c = 0 then 46 else 96 + (c : Int)
theorem sgB_none {b : UInt8} (h : ∀ c, c < 6 → (b.toNat : Int) ≠ sgL c) : sgB b = -1 := by
  have h0 := h 0 (by omega); have h1 := h 1 (by omega); have h2 := h 2 (by omega); have h3 := h 3 (by omega); have h4 := h 4 (by omega); have h5 := h 5 (by omega)
  unfold sgL at *
  simp at h0 h1 h2 h3 h4 h5
  unfold sgB
  rw [if_neg (fun e => h0 (by rw [e]; rfl)), if_neg (by omega)]
theorem sgB_some {b : UInt8} {c : Nat} (hc : c < 6) (h : (b.toNat : Int) = sgL c) : sgB b = c := by
  unfold sgL at h
  unfold sgB
  by_cases e : c = 0
  · subst e
    rw [if_pos rfl] at h
    rw [if_pos (UInt8.toNat_inj.1 (by show b.toNat = 46; omega))]; rfl
  · rw [if_neg e] at h
    rw [if_neg (fun e2 => by rw [e2] at h; have : (46 : UInt8).toNat = 46 := rfl; omega), if_pos (by omega)]
    omega
def sigs : ByteArray := ⟨#[46, 97, 98, 99, 100, 101]⟩
theorem sigs_get (c : Nat) (h : c < 6) : ((sigs[c]'h).toNat : Int) = sgL c := by
  match c, h with
  | 0, _ => rfl
  | 1, _ => rfl
  | 2, _ => rfl
  | 3, _ => rfl
  | 4, _ => rfl
  | 5, _ => rfl
theorem l2Sign_any (b : UInt8) (w : World) : Calls Tryz.prog 75 #[.int .u8 (b.toNat : Int)] w fun e w' => e = .returned (.int .i64 (sgB b)) ∧ Below w.heap.size w w' := by
  have hbel := Below.refl w.heap.size w
  go_enter Tryz.func75, Tryz.ntmps75
  go_wp2
  go_loop [3] (fun i => ∃ c : Nat, c ≤ 6 ∧ i = .int .i64 c ∧ ∀ j, j < c → (b.toNat : Int) ≠ sgL j) (fun i => 6 - (intOf i).toNat)
  case atStart => exact ⟨0, by omega, rfl, fun j hj => by omega⟩
  case round =>
    obtain ⟨c, hc, rfl, hno⟩ := hrel
    have HNO : Hid _ := hno
    clear hno
    by_cases hlt : c < 6
    · have hlt' : (c : Int) ≤ 5 := by omega
      have hg := sigs_get c hlt
      by_cases he : (b.toNat : Int) = sgL c
      · have hcmp : ((((⟨#[46, 97, 98, 99, 100, 101]⟩ : ByteArray)[c]'hlt).toNat : Int) == (b.toNat : Int)) = true := by rw [beq_iff_eq, he]; exact hg
        have HE : Hid _ := sgB_some hlt he
        clear he hg
        go_wp2
        go_ret
        exact ⟨by rw [HE.out]; rfl, hbel⟩
      · have hcmp : ((((⟨#[46, 97, 98, 99, 100, 101]⟩ : ByteArray)[c]'hlt).toNat : Int) == (b.toNat : Int)) = false := by
          rw [Bool.eq_false_iff, ne_eq, beq_iff_eq]
          exact fun e => he (by rw [← e]; exact hg)
        have HN2 : Hid (∀ j, j < c + 1 → (b.toNat : Int) ≠ sgL j) := fun j hj => by
          by_cases e : j = c
          · subst e; exact he
          · exact HNO.out j (by omega)
        clear he hg
        go_wp2
        go_round
        case rel => exact ⟨c + 1, by omega, by go_num, HN2.out⟩
        case measure => simp [intOf]; omega
    · obtain rfl : c = 6 := by omega
      go_wp2
      go_ret
      exact ⟨by rw [sgB_none HNO.out]; rfl, hbel⟩
def RetR (f : Nat → Int) (b : Bool) (w : World) (e : Ending) (w' : World) : Prop := e = .returned (.tuple #[.agg (arr 24 f), .bool b]) ∧ Below w.heap.size w w'
theorem l2Parse_any (s : ByteArray) (hs : s.size ≤ 4000000) (w : World) : Calls Tryz.prog 58 #[.string s] w (RetR (prF s) (prB s) w) := by
  have h2 : (w.alloc (.cells (arr 24 fun _ => 0) 27)).heap[w.heap.size]? = some (.cells (arr 24 fun _ => 0) 27 (0, 0)) := heap_new (by simp)
  have hbel : Below w.heap.size w (w.alloc (.cells (arr 24 fun _ => 0) 27)) := (Below.refl _ _).alloc (by simp) _
  have tok_r : True := trivial
  have tok_h4 : True := trivial
  by_cases hz : s.size = 29
  · have hz' : (s.size : Int) = 29 := by omega
    have hne : ((s.size : Int) != 29) = false := by rw [hz']; rfl
    go_enter Tryz.func58, Tryz.ntmps58
    go_wp2_with first
      | (have _t := tok_r; (with_reducible refine wpList_allocA rfl 27 rfl 24 zero24r ?_; (try simp only [size_al])); clear _t tok_r)
      | (with_reducible refine wpList_build0 rfl 27 rfl 24 zbuild24 ?_)
      | (have _t := tok_h4; with_reducible refine wpList_allocN rfl 27 rfl 24 zero24r ?_; intro Bh4 w1 hBh4 h4 hb1; have hWh4 := Nat.le_trans hbel.size hBh4; have hLh2h4 := Nat.lt_of_lt_of_le (row_lt h2) hBh4; replace hbel := hbel.trans (hb1.mono hbel.size); replace h2 := row_keep hb1 h2; clear hb1 _t tok_h4)
      | (with_reducible refine wpList_storeWN rfl _ _ _ rfl _ rfl rfl h4 size24r hbel hWh4 ?_; intro w1 g3 ho g4; replace h2 := (ho _ (by omega)).trans h2; clear h4 hbel; have h4 := g3; have hbel := g4; clear g3 g4 ho)
    go_loopw [5] (fun i wr => ∃ n : Nat, n ≤ 29 ∧ i = .int .i64 n ∧ Hid (gdN s n) ∧ wr.heap[w.heap.size]? = some (.cells (arr 24 fun _ => 0) 27 (0, 0)) ∧ wr.heap[Bh4]? = some (.cells (arr 24 (prO s n)) 27 (0, 0)) ∧ Below w.heap.size w wr) (fun i _ => 29 - (intOf i).toNat)
    case atStart => exact ⟨0, by omega, rfl, gdN_zero s, h2, by rw [prO_zero]; exact h4, hbel⟩
    case round =>
      clear h2 h4 hbel
      obtain ⟨n, hn, rfl, HG, h2, h4, hbel⟩ := hrel
      by_cases hlt : n < 29
      · have hlt' : (n : Int) < 29 := by omega
        have hns : n < s.size := by omega
        have HB : Hid _ := bt_at s n hns
        have hsb := sgB_bd (s[n])
        by_cases h4r : n % 5 = 4
        · by_cases he : bt s n = 47
          · have h47 : (((s[n]'hns).toNat : Int) != 47) = false := by rw [HB.out, he]; rfl
            have HG2 : Hid _ := gdN_slash HG.out h4r he
            have HP : Hid _ := prO_slash s n h4r
            clear he
            go_wp2_with first
              | (go_at_call 75; (with_reducible refine (l2Sign_any _ _).mono ?_); rintro e w1 ⟨rfl, hb1⟩; replace hbel := hbel.trans (hb1.mono hbel.size); replace h2 := row_keep hb1 h2; replace h4 := row_keep hb1 h4; clear hb1)
            go_roundw
            case rel => exact ⟨n + 1, by omega, by go_num, HG2.out, h2, by rw [HP.out]; exact h4, hbel⟩
            case measure => simp [intOf]; omega
          · have h47 : (((s[n]'hns).toNat : Int) != 47) = true := by
              rw [bne_iff_ne, HB.out]
              exact fun e => he (UInt8.toNat_inj.1 (by show (bt s n).toNat = 47; omega))
            have HE : Hid _ := gd_slash hlt h4r he
            clear he
            go_wp2_with first
              | (go_at_call 75; (with_reducible refine (l2Sign_any _ _).mono ?_); rintro e w1 ⟨rfl, hb1⟩; replace hbel := hbel.trans (hb1.mono hbel.size); replace h2 := row_keep hb1 h2; replace h4 := row_keep hb1 h4; clear hb1)
              | (with_reducible refine wpList_build0 rfl 27 rfl 24 zbuild24 ?_)
              | (with_reducible refine wpList_storeW rfl _ _ _ rfl _ rfl rfl h2 size24r ?_)
            exact bodyPost_ret_by (results_ct _ _ _ _ _ _ _ rfl rfl (setRow_heap _ _ _ _ _ _ h2) agg24r size24r) rfl ⟨by rw [HE.out.1, HE.out.2]; rfl, below_setRow2 hbel (by omega) _⟩
        · have HSB : Hid (sgB s[n] = sgB (bt s n)) := by show sgB s[n] = _; rw [HB.out]
          have hr5 := Nat.mod_lt n (show 0 < 5 by omega)
          obtain ⟨r, hr⟩ : ∃ r, n % 5 = r := ⟨_, rfl⟩
          have hr4 : r < 4 := by omega
          by_cases he : sgB (bt s n) < 0
          · have he' : sgB s[n] < 0 := by rw [HB.out]; exact he
            have HE : Hid _ := gd_sign hlt h4r he
            have h44 : ¬ r = 4 := by omega
            clear he h4r hr5
            go_wp2_with first
              | (go_at_call 75; (with_reducible refine (l2Sign_any _ _).mono ?_); rintro e w1 ⟨rfl, hb1⟩; replace hbel := hbel.trans (hb1.mono hbel.size); replace h2 := row_keep hb1 h2; replace h4 := row_keep hb1 h4; clear hb1)
              | (with_reducible refine wpList_build0 rfl 27 rfl 24 zbuild24 ?_)
              | (with_reducible refine wpList_storeW rfl _ _ _ rfl _ rfl rfl h2 size24r ?_)
            exact bodyPost_ret_by (results_ct _ _ _ _ _ _ _ rfl rfl (setRow_heap _ _ _ _ _ _ h2) agg24r size24r) rfl ⟨by rw [HE.out.1, HE.out.2]; rfl, below_setRow2 hbel (by omega) _⟩
          · have he' : ¬ sgB s[n] < 0 := by rw [HB.out]; exact he
            have HG2 : Hid _ := gdN_sign HG.out h4r (by omega)
            have HP : Hid _ := prO_sign s n h4r
            have h44 : ¬ r = 4 := by omega
            have HR : Hid (n % 5 = r) := hr
            have hq6 : n / 5 < 6 := by omega
            clear he h4r hr5
            go_wp2_with first
              | (go_at_call 75; (with_reducible refine (l2Sign_any _ _).mono ?_); rintro e w1 ⟨rfl, hb1⟩; replace hbel := hbel.trans (hb1.mono hbel.size); replace h2 := row_keep hb1 h2; replace h4 := row_keep hb1 h4; clear hb1)
              | (with_reducible refine wpList_storeI rfl 3 _ _ rfl _ _ rfl rfl h4 size1 (by omega) ?_)
            go_roundw
            case rel => exact ⟨n + 1, by omega, by go_num, HG2.out, by rw [setRow_other _ _ _ _ (by omega)]; exact h2, by rw [HP.out, HR.out, ← HSB.out]; exact setRow_heap _ _ _ _ _ _ h4, below_setRow2 hbel (by omega) _⟩
            case measure => simp [intOf]; omega
      · obtain rfl : n = 29 := by omega
        cases hrk : rackB (prO s 29) with
        | false =>
          have HE : Hid _ := gd_rack hrk
          have HF : Hid _ := hrk
          clear hrk
          go_wp2_with first
            | (with_reducible refine wpList_loadW rfl _ _ rfl _ rfl h4 agg24r size24r ?_)
            | (go_at_call 34; (with_reducible refine (l2Rack_any _ _).mono ?_); rw [HF.out]; rintro e w1 ⟨rfl, hb1⟩; replace hbel := hbel.trans (hb1.mono hbel.size); replace h2 := row_keep hb1 h2; replace h4 := row_keep hb1 h4; clear hb1)
            | (with_reducible refine wpList_build0 rfl 27 rfl 24 zbuild24 ?_)
            | (with_reducible refine wpList_storeW rfl _ _ _ rfl _ rfl rfl h2 size24r ?_)
          exact bodyPost_ret_by (results_ct _ _ _ _ _ _ _ rfl rfl (setRow_heap _ _ _ _ _ _ h2) agg24r size24r) rfl ⟨by rw [HE.out.1, HE.out.2]; rfl, below_setRow2 hbel (by omega) _⟩
        | true =>
          have HE : Hid _ := pr_yes hz HG.out hrk
          have HF : Hid _ := hrk
          clear hrk
          go_wp2_with first
            | (with_reducible refine wpList_loadW rfl _ _ rfl _ rfl h4 agg24r size24r ?_)
            | (go_at_call 34; (with_reducible refine (l2Rack_any _ _).mono ?_); rw [HF.out]; rintro e w1 ⟨rfl, hb1⟩; replace hbel := hbel.trans (hb1.mono hbel.size); replace h2 := row_keep hb1 h2; replace h4 := row_keep hb1 h4; clear hb1)
            | (with_reducible refine wpList_storeW rfl _ _ _ rfl _ rfl rfl h2 size24r ?_)
          exact bodyPost_ret_by (results_ct _ _ _ _ _ _ _ rfl rfl (setRow_heap _ _ _ _ _ _ h2) agg24r size24r) rfl ⟨by rw [HE.out.1, HE.out.2]; rfl, below_setRow2 hbel (by omega) _⟩
  · have hne : ((s.size : Int) != 29) = true := by rw [bne_iff_ne]; omega
    have HE : Hid _ := gd_size hz
    clear hz
    rw [HE.out.1, HE.out.2]
    go_enter Tryz.func58, Tryz.ntmps58
    go_wp2_with first
      | (have _t := tok_r; (with_reducible refine wpList_allocA rfl 27 rfl 24 zero24r ?_; (try simp only [size_al])); clear _t tok_r)
      | (with_reducible refine wpList_build0 rfl 27 rfl 24 zbuild24 ?_)
      | (have _t := tok_h4; with_reducible refine wpList_allocN rfl 27 rfl 24 zero24r ?_; intro Bh4 w1 hBh4 h4 hb1; have hWh4 := Nat.le_trans hbel.size hBh4; have hLh2h4 := Nat.lt_of_lt_of_le (row_lt h2) hBh4; replace hbel := hbel.trans (hb1.mono hbel.size); replace h2 := row_keep hb1 h2; clear hb1 _t tok_h4)
      | (with_reducible refine wpList_storeWN rfl _ _ _ rfl _ rfl rfl h4 size24r hbel hWh4 ?_; intro w1 g3 ho g4; replace h2 := (ho _ (by omega)).trans h2; clear h4 hbel; have h4 := g3; have hbel := g4; clear g3 g4 ho)
      | (with_reducible refine wpList_storeW rfl _ _ _ rfl _ rfl rfl h2 size24r ?_)
    exact bodyPost_ret_by (results_ct _ _ _ _ _ _ _ rfl rfl (setRow_heap _ _ _ _ _ _ h2) agg24r size24r) rfl ⟨rfl, below_setRow2 hbel (by omega) _⟩
theorem specPR_any (s : ByteArray) (hs : s.size ≤ 4000000) (w : World) : Calls Tryz.prog 30 #[.string s] w (RetR (prF s) (prB s) w) := by
  have h2 : (w.alloc (.cells (arr 24 fun _ => 0) 27)).heap[w.heap.size]? = some (.cells (arr 24 fun _ => 0) 27 (0, 0)) := heap_new (by simp)
  have hbel : Below w.heap.size w (w.alloc (.cells (arr 24 fun _ => 0) 27)) := (Below.refl _ _).alloc (by simp) _
  generalize hB : prB s = b at *
  generalize hF : prF s = F at *
  have HS : Hid (∀ w, Calls Tryz.prog 58 #[.string s] w (RetR F b w)) := fun w => by rw [← hB, ← hF]; exact l2Parse_any s hs w
  clear hB hF
  go_enter Tryz.func30, Tryz.ntmps30
  go_wp2_with first
    | (with_reducible refine wpList_allocA rfl 27 rfl 24 zero24r ?_; (try simp only [size_al]))
    | (go_at_call 58; (with_reducible refine (HS.out _).mono ?_); rintro e w1 ⟨rfl, hb1⟩; replace hbel := hbel.trans (hb1.mono hbel.size); replace h2 := row_keep hb1 h2; clear hb1)
    | (with_reducible refine wpList_storeW rfl _ _ _ rfl _ rfl rfl h2 size24r ?_)
  exact bodyPost_ret_by (results_ct _ _ _ _ _ _ _ rfl rfl (setRow_heap _ _ _ _ _ _ h2) agg24r size24r) rfl ⟨rfl, below_setRow2 hbel (by omega) _⟩
end Go.Proofs.YtlbgmkengkgnfaaGreatDoor
end

section
/- Reading a rack's text: the program's walk, and the law. -/
namespace Go.Proofs.YtlbgmkengkgnfaaGreatDoor
set_option linter.unusedSimpArgs false
set_option linter.unusedVariables false
set_option maxRecDepth 20000
open Go.RowKit
theorem geo {b : UInt8} (h : 97 ≤ b.toNat ∧ b.toNat ≤ 101) : sgB b = (b.toNat : Int) - 97 + 1 := by
  unfold sgB
  rw [if_neg (fun e => by rw [e] at h; have : (46 : UInt8).toNat = 46 := rfl; omega), if_pos h]; omega
theorem dot {b : UInt8} (h : b.toNat = 46) : sgB b = 0 := by
  have : b = 46 := UInt8.toNat_inj.1 (by rw [h]; rfl)
  rw [this]; rfl
theorem nosg {b : UInt8} (h : ¬ (97 ≤ b.toNat ∧ b.toNat ≤ 101)) (h2 : ¬ b.toNat = 46) : sgB b = -1 := by
  unfold sgB
  rw [if_neg (fun e => h2 (by rw [e]; rfl)), if_neg h]
theorem split47 (s : ByteArray) (hs : s.size ≤ 4000000) {l : List ByteArray} (hl : partsB s 47 = l) (w : World) (hm : MaxS w) : Calls Tryz.prog 74 #[.string s, .string ⟨#[47]⟩] w fun e w' => ∃ (a : Option Addr) (c : Nat), e = .returned (.slice a l.length c) ∧
    (0 < l.length → ∃ g, a = some ⟨g, 0, none⟩ ∧ g < w'.heap.size ∧ l.length ≤ c ∧ ∀ (j : Nat) (x : ByteArray), l[j]? = some x → w'.cell? ⟨g, j, none⟩ = some (.string x)) ∧ Below w.heap.size w w' := by
  subst hl
  refine (splits_any s ⟨#[47]⟩ hs rfl w hm).mono ?_
  rintro e w1 ⟨v, rfl, hT, hb1⟩
  have hT2 : St w1 w.heap.size v (partsB s 47) := hT
  obtain ⟨a, c, rfl, H⟩ := hT2.shape
  refine ⟨a, c, rfl, fun hp => ?_, hb1⟩
  obtain ⟨g, h1, _, h3, h4, _, h6⟩ := H hp
  exact ⟨g, h1, h3, h4, h6⟩
set_option maxHeartbeats 1000000 in
theorem parseRack_any (s : ByteArray) (hs : s.size ≤ 4000000) (w : World) (hm : MaxS w) : Calls Tryz.prog 57 #[.string s] w (RetR (prF s) (prB s) w) := by
  have h2 : (w.alloc (.cells (arr 24 fun _ => 0) 27)).heap[w.heap.size]? = some (.cells (arr 24 fun _ => 0) 27 (0, 0)) := heap_new (by simp)
  have hbel : Below w.heap.size w (w.alloc (.cells (arr 24 fun _ => 0) 27)) := (Below.refl _ _).alloc (by simp) _
  have hm2 := hm.keep hbel
  have hno := fun (h : ¬ (partsB s 47).length = 6) => pn_len h
  have hns := fun (i : Nat) (hi : i < 6) (x : ByteArray) (hx : (partsB s 47)[i]? = some x) (h : ¬ x.size = 4) => pn_size hi hx h
  have hng := fun (i k : Nat) (hi : i < 6) (hk : k < 4) (x : ByteArray) (hx : (partsB s 47)[i]? = some x) (h : sgB (bt x k) < 0) => pn_sign hi hk hx h
  have hend := fun h6 h4 ho => parts_end (s := s) h6 h4 ho
  have hpr := fun h1 h2 h3 => pr_yes (s := s) h1 h2 h3
  have hrk := fun h => gd_rack (s := s) h
  have HSP := fun (l : List ByteArray) (hl : partsB s 47 = l) => split47 s hs hl _ hm2
  obtain ⟨l, hl⟩ : ∃ l, partsB s 47 = l := ⟨_, rfl⟩
  replace HSP := HSP l hl
  rw [hl] at hno hns hng hend
  have HSP2 : Hid _ := fun (_u : Unit) => HSP
  have tok_r : True := trivial
  have tok_h5 : True := trivial
  clear hm hm2 hl HSP
  by_cases h6 : l.length = 6
  · have h6' : (l.length : Int) = 6 := by omega
    have hne : ((l.length : Int) != 6) = false := by rw [h6']; rfl
    have HNS : Hid _ := hns
    have HNG : Hid _ := hng
    have HEND : Hid _ := hend h6
    have HPR : Hid _ := hpr
    have HRK : Hid _ := hrk
    clear hno hns hng hend hpr hrk
    go_enter Tryz.func57, Tryz.ntmps57
    go_wp2_with first
      | (have _t := tok_r; (with_reducible refine wpList_allocA rfl 27 rfl 24 zero24r ?_; (try simp only [size_al])); clear _t tok_r)
      | (go_at_call 74; (with_reducible refine (HSP2.out ()).mono ?_); (rintro e w1 ⟨a1, c1, rfl, H1, hb1⟩; obtain ⟨g1, rfl, q1, d1, K1⟩ := H1 (by omega); replace hbel := hbel.trans (hb1.mono hbel.size); replace h2 := row_keep hb1 h2; clear hb1 H1; have HK1 : Hid _ := K1; clear K1; obtain ⟨wb, hwb⟩ : ∃ x : World, x = w1 := ⟨_, rfl⟩; rw [← hwb] at hbel h2 HK1 q1 ⊢; clear hwb; have hbw := hbel; clear hbel; have hbel := Below.refl wb.heap.size wb))
      | (have _t := tok_h5; with_reducible refine wpList_allocN rfl 27 rfl 24 zero24r ?_; intro Bh5 w1 hBh5 h5 hb1; have hWh5 := Nat.le_trans hbel.size hBh5; replace hbel := hbel.trans (hb1.mono hbel.size); clear hb1 _t tok_h5)
    go_loopw [18] (fun i wr => ∃ n : Nat, n ≤ 6 ∧ i = .int .i64 n ∧ Hid (∀ (j : Nat) (x : ByteArray), j < n → l[j]? = some x → x.size = 4) ∧ Hid (okN l (n * 4)) ∧ wr.heap[Bh5]? = some (.cells (arr 24 (lO l (n * 4))) 27 (0, 0)) ∧ Below wb.heap.size wb wr) (fun i _ => 6 - (intOf i).toNat)
    case atStart => exact ⟨0, by omega, rfl, fun j x hj => by omega, okN_zero l, by rw [Nat.zero_mul, lO_zero]; exact h5, hbel⟩
    case round =>
      clear h5 hbel
      obtain ⟨n, hn, rfl, HSZ, HOK, h5, hbel⟩ := hrel
      obtain ⟨wo, hwo⟩ : ∃ wo : World, wo = wr := ⟨_, rfl⟩
      subst hwo
      by_cases hlt : n < 6
      · have hlt' : (n : Int) < 6 := by omega
        have hx0 : l[n]? = some (l[n]'(by omega)) := List.getElem?_eq_getElem (by omega)
        generalize l[n]'(by omega) = x at hx0
        have hcx := (hbel.cell (p := ⟨g1, n, none⟩) q1).trans (HK1.out n x hx0)
        have HX : Hid (l[n]? = some x) := hx0
        clear hx0
        by_cases hx4 : x.size = 4
        · have hx4' : (x.size : Int) = 4 := by omega
          have hnx : ((x.size : Int) != 4) = false := by rw [hx4']; rfl
          have HSZ2 : Hid (∀ (j : Nat) (y : ByteArray), j < n + 1 → l[j]? = some y → y.size = 4) := fun j y hj hy => by
            by_cases e : j = n
            · subst e; have := HX.out; rw [this] at hy; cases hy; exact hx4
            · exact HSZ.out j y (by omega) hy
          obtain ⟨C, cap, hcv, hC⟩ := bytes_conv (P := Tryz.prog) wo 9 22 5 x Tryz.underlying9 Tryz.underlying22 Tryz.underlying5
          have hB5 := row_lt h5
          have h5c : (wo.drew.alloc (.cells C 5 (C.size, C.size + 1))).heap[Bh5]? = some (.cells (arr 24 (lO l (n * 4))) 27 (0, 0)) := row_alloc (w := wo.drew) h5
          have hcc : (wo.drew.alloc (.cells C 5 (C.size, C.size + 1))).heap[wo.heap.size]? = some (.cells C 5 (C.size, C.size + 1)) := heap_alloc_new wo.drew _
          have hbw2 : Below wb.heap.size wb (wo.drew.alloc (.cells C 5 (C.size, C.size + 1))) := (hbel.trans (Below.refl _ _).drew).alloc hbel.size _
          have hC4 : ∀ k, k < 4 → C[k]? = some (.int .u8 ((bt x k).toNat : Int)) := fun k hk => by rw [hC k (by omega), bt_at]
          clear hC
          have HC4 : Hid _ := hC4
          clear hC4
          go_wp2_with fail
          go_loopw [30] (fun j wr => ∃ k : Nat, k ≤ 4 ∧ j = .int .i64 k ∧ Hid (okN l (n * 4 + k)) ∧ wr.heap[wo.heap.size]? = some (.cells C 5 (C.size, C.size + 1)) ∧ wr.heap[Bh5]? = some (.cells (arr 24 (lO l (n * 4 + k))) 27 (0, 0)) ∧ Below wb.heap.size wb wr) (fun j _ => 4 - (intOf j).toNat)
          case atStart => exact ⟨0, by omega, rfl, HOK.out, hcc, h5c, hbw2⟩
          case round =>
            clear h5c hcc hbw2 h5 hbel
            obtain ⟨k, hk, rfl, HOK2, hcc, h5, hbel⟩ := hrel
            by_cases hkt : k < 4
            · have hkt' : (k : Int) < 4 := by omega
              have hck : wr.cell? ⟨wo.heap.size, k, none⟩ = some (.int .u8 ((bt x k).toNat : Int)) := by
                rw [cell_of_row wr wo.heap.size k _ _ _ hcc]; exact HC4.out k hkt
              have hbt := (bt x k).toNat_lt
              have HST : Hid _ := lO_step l n k hkt HX.out
              have HSD : Hid _ := lO_dot l n k hkt HX.out
              have HIX : Hid _ := HNG.out n k hlt hkt x HX.out
              by_cases hg : 97 ≤ (bt x k).toNat ∧ (bt x k).toNat ≤ 101
              · have HS : Hid _ := geo hg
                have HOK3 : Hid _ := okN_step hkt HX.out HOK2.out (by rw [geo hg]; omega)
                obtain ⟨b, hb⟩ : ∃ b, (bt x k).toNat = b := ⟨_, rfl⟩
                have HBT : Hid _ := hb
                rw [hb] at hck hg hbt
                clear hb
                have hg1 : (97 : Int) ≤ (b : Int) := by omega
                have hg2 : (b : Int) < 102 := by omega
                go_wp2_with first
                  | (with_reducible refine wpList_storeI rfl 3 _ _ rfl _ _ rfl rfl h5 size1 (by omega) ?_)
                go_roundw
                case rel => exact ⟨k + 1, by omega, by go_num, HOK3.out, by rw [setRow_other _ _ _ _ (by omega)]; exact hcc, by rw [show n * 4 + (k + 1) = n * 4 + k + 1 from rfl, HST.out, HS.out, HBT.out]; exact setRow_heap _ _ _ _ _ _ h5, below_setRow2 hbel (by omega) _⟩
                case measure => simp [intOf]; omega
              · by_cases hd : (bt x k).toNat = 46
                · have HS : Hid _ := dot hd
                  have HOK3 : Hid _ := okN_step hkt HX.out HOK2.out (by rw [dot hd]; omega)
                  rw [hd] at hck hg hbt
                  clear hd hg
                  go_wp2_with fail
                  go_roundw
                  case rel => exact ⟨k + 1, by omega, by go_num, HOK3.out, hcc, by rw [show n * 4 + (k + 1) = n * 4 + k + 1 from rfl, HSD.out HS.out]; exact h5, hbel⟩
                  case measure => simp [intOf]; omega
                · have HE : Hid _ := HIX.out (by rw [nosg hg hd]; omega)
                  obtain ⟨b, hb⟩ : ∃ b, (bt x k).toNat = b := ⟨_, rfl⟩
                  rw [hb] at hck hg hbt hd
                  clear hb
                  have hd' : ((b : Int) != 46) = true := by rw [bne_iff_ne]; omega
                  have h2 := row_kept hbel h2 (row_lt h2)
                  replace hbel := hbw.trans (hbel.mono hbw.size)
                  by_cases hg1 : 97 ≤ b
                  · have hg1' : (97 : Int) ≤ (b : Int) := by omega
                    have hg2 : ¬ (b : Int) < 102 := by omega
                    go_wp2_with first
                      | (with_reducible refine wpList_build0 rfl 27 rfl 24 zbuild24 ?_)
                      | (with_reducible refine wpList_storeW rfl _ _ _ rfl _ rfl rfl h2 size24r ?_)
                    exact bodyPost_ret_by (results_ct _ _ _ _ _ _ _ rfl rfl (setRow_heap _ _ _ _ _ _ h2) agg24r size24r) rfl ⟨by (rw [HE.out.1, HE.out.2]; rfl), below_setRow2 hbel (by omega) _⟩
                  · have hg1' : ¬ (97 : Int) ≤ (b : Int) := by omega
                    go_wp2_with first
                      | (with_reducible refine wpList_build0 rfl 27 rfl 24 zbuild24 ?_)
                      | (with_reducible refine wpList_storeW rfl _ _ _ rfl _ rfl rfl h2 size24r ?_)
                    exact bodyPost_ret_by (results_ct _ _ _ _ _ _ _ rfl rfl (setRow_heap _ _ _ _ _ _ h2) agg24r size24r) rfl ⟨by (rw [HE.out.1, HE.out.2]; rfl), below_setRow2 hbel (by omega) _⟩
            · obtain rfl : k = 4 := by omega
              go_wp2_with fail
              go_roundw
              case rel => exact ⟨n + 1, by omega, by go_num, HSZ2.out, by rw [show (n + 1) * 4 = n * 4 + 4 by omega]; exact HOK2.out, by rw [show (n + 1) * 4 = n * 4 + 4 by omega]; exact h5, hbel⟩
              case measure => simp [intOf]; omega
        · have HE : Hid _ := HNS.out n hlt x HX.out hx4
          have hnx : ((x.size : Int) != 4) = true := by rw [bne_iff_ne]; omega
          have h2 := row_kept hbel h2 (row_lt h2)
          replace hbel := hbw.trans (hbel.mono hbw.size)
          go_wp2_with first
            | (with_reducible refine wpList_build0 rfl 27 rfl 24 zbuild24 ?_)
            | (with_reducible refine wpList_storeW rfl _ _ _ rfl _ rfl rfl h2 size24r ?_)
          exact bodyPost_ret_by (results_ct _ _ _ _ _ _ _ rfl rfl (setRow_heap _ _ _ _ _ _ h2) agg24r size24r) rfl ⟨by (rw [HE.out.1, HE.out.2]; rfl), below_setRow2 hbel (by omega) _⟩
      · obtain rfl : n = 6 := by omega
        obtain ⟨hz, hgd, harr⟩ := HEND.out (fun i x hx => HSZ.out i x (by have := (List.getElem?_eq_some_iff.1 hx).1; omega) hx) HOK.out
        rw [show 6 * 4 = 24 from rfl, harr] at h5
        cases hrb : rackB (prO s 29) with
        | false =>
          have HE : Hid _ := HRK.out hrb
          have HF : Hid _ := hrb
          clear hrb hgd harr hz
          have h2 := row_kept hbel h2 (row_lt h2)
          replace hbel := hbw.trans (hbel.mono hbw.size)
          go_wp2_with first
            | (with_reducible refine wpList_loadW rfl _ _ rfl _ rfl h5 agg24r size24r ?_)
            | (go_at_call 27; (with_reducible refine (IsRack_any _ _).mono ?_); rw [HF.out]; rintro e w1 ⟨rfl, hb1⟩; replace hbel := hbel.trans (hb1.mono hbel.size); replace h2 := row_keep hb1 h2; replace h5 := row_keep hb1 h5; clear hb1)
            | (with_reducible refine wpList_build0 rfl 27 rfl 24 zbuild24 ?_)
            | (with_reducible refine wpList_storeW rfl _ _ _ rfl _ rfl rfl h2 size24r ?_)
          exact bodyPost_ret_by (results_ct _ _ _ _ _ _ _ rfl rfl (setRow_heap _ _ _ _ _ _ h2) agg24r size24r) rfl ⟨by (rw [HE.out.1, HE.out.2]; rfl), below_setRow2 hbel (by omega) _⟩
        | true =>
          have HE : Hid _ := HPR.out hz hgd hrb
          have HF : Hid _ := hrb
          clear hrb hgd harr hz
          have h2 := row_kept hbel h2 (row_lt h2)
          replace hbel := hbw.trans (hbel.mono hbw.size)
          go_wp2_with first
            | (with_reducible refine wpList_loadW rfl _ _ rfl _ rfl h5 agg24r size24r ?_)
            | (go_at_call 27; (with_reducible refine (IsRack_any _ _).mono ?_); rw [HF.out]; rintro e w1 ⟨rfl, hb1⟩; replace hbel := hbel.trans (hb1.mono hbel.size); replace h2 := row_keep hb1 h2; replace h5 := row_keep hb1 h5; clear hb1)
            | (with_reducible refine wpList_storeW rfl _ _ _ rfl _ rfl rfl h2 size24r ?_)
          exact bodyPost_ret_by (results_ct _ _ _ _ _ _ _ rfl rfl (setRow_heap _ _ _ _ _ _ h2) agg24r size24r) rfl ⟨by (rw [HE.out.1, HE.out.2]; rfl), below_setRow2 hbel (by omega) _⟩
  · have HE : Hid _ := hno h6
    have hne : ((l.length : Int) != 6) = true := by rw [bne_iff_ne]; omega
    clear h6 hns hng hend hpr hno hrk
    go_enter Tryz.func57, Tryz.ntmps57
    go_wp2_with first
      | (have _t := tok_r; (with_reducible refine wpList_allocA rfl 27 rfl 24 zero24r ?_; (try simp only [size_al])); clear _t tok_r)
      | (go_at_call 74; (with_reducible refine (HSP2.out ()).mono ?_); (rintro e w1 ⟨a1, c1, rfl, _, hb1⟩; replace hbel := hbel.trans (hb1.mono hbel.size); replace h2 := row_keep hb1 h2; clear hb1))
      | (with_reducible refine wpList_build0 rfl 27 rfl 24 zbuild24 ?_)
      | (with_reducible refine wpList_storeW rfl _ _ _ rfl _ rfl rfl h2 size24r ?_)
    exact bodyPost_ret_by (results_ct _ _ _ _ _ _ _ rfl rfl (setRow_heap _ _ _ _ _ _ h2) agg24r size24r) rfl ⟨by (rw [HE.out.1, HE.out.2]; rfl), below_setRow2 hbel (by omega) _⟩
theorem implPR_any (s : ByteArray) (hs : s.size ≤ 4000000) (w : World) (hm : MaxS w) : Calls Tryz.prog 29 #[.string s] w (RetR (prF s) (prB s) w) := by
  have h2 : (w.alloc (.cells (arr 24 fun _ => 0) 27)).heap[w.heap.size]? = some (.cells (arr 24 fun _ => 0) 27 (0, 0)) := heap_new (by simp)
  have hbel : Below w.heap.size w (w.alloc (.cells (arr 24 fun _ => 0) 27)) := (Below.refl _ _).alloc (by simp) _
  have hm2 := hm.keep hbel
  generalize hB : prB s = b at *
  generalize hF : prF s = F at *
  have HS : Hid _ := fun (_u : Unit) => (show Calls Tryz.prog 57 #[.string s] _ (RetR F b _) from hB ▸ hF ▸ parseRack_any s hs _ hm2)
  clear hB hF hm hm2
  go_enter Tryz.func29, Tryz.ntmps29
  go_wp2_with first
    | (with_reducible refine wpList_allocA rfl 27 rfl 24 zero24r ?_; (try simp only [size_al]))
    | (go_at_call 57; (with_reducible refine (HS.out ()).mono ?_); rintro e w1 ⟨rfl, hb1⟩; replace hbel := hbel.trans (hb1.mono hbel.size); replace h2 := row_keep hb1 h2; clear hb1)
    | (with_reducible refine wpList_storeW rfl _ _ _ rfl _ rfl rfl h2 size24r ?_)
  exact bodyPost_ret_by (results_ct _ _ _ _ _ _ _ rfl rfl (setRow_heap _ _ _ _ _ _ h2) agg24r size24r) rfl ⟨rfl, below_setRow2 hbel (by omega) _⟩
end Go.Proofs.YtlbgmkengkgnfaaGreatDoor
end
