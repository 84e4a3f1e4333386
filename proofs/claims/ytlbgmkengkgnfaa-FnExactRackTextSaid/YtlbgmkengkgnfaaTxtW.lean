/- The text of a rack: the walks, and the law. -/
import Derived.Laws.IdiomStrings
import Derived.Test.YtlbgmkengkgnfaaTxt
import Derived.Test.YtlbgmkengkgnfaaJoinW
import Derived.Test.YtlbgmkengkgnfaaIdx
import Derived.Test.YtlbgmkengkgnfaaFork
namespace Go.Proofs.Ytlbgmkengkgnfaa
set_option linter.unusedSimpArgs false
set_option linter.unusedVariables false
set_option maxRecDepth 20000
open Go.RowKit
theorem tadd (a b : List UInt8) (ha : a.length ≤ 1000) (hb : b.length ≤ 1000) (w : World) : (Op.stringOp .add ⟨a.toArray⟩ ⟨b.toArray⟩).run Try.prog w = .ok (.string ⟨(a ++ b).toArray⟩) w := str_add a b (by omega) (by omega) w
/-- The text behind i tubes, the sign between, and k layers of the next. -/
def txk (f : Nat → Int) (i k : Nat) : List UInt8 := tx f i ++ (if i = 0 then [] else [47]) ++ tp f i k
theorem txk_step (f : Nat → Int) (i k : Nat) : txk f i (k + 1) = txk f i k ++ [sgn (f (i * 4 + k))] := by unfold txk; rw [tp, ← List.append_assoc]
theorem txk_four (f : Nat → Int) (i : Nat) : txk f i 4 = tx f (i + 1) := (tx_succ f i).symm
theorem byte_str (w : World) (x : Int) (b : UInt8) (hx : x = (b.toNat : Int)) :
    (convert 52 9 (.slice (some ⟨w.heap.size, 0, none⟩) 1 1)).run Try.prog (w.alloc (.cells #[.int .u8 x] 5)) = .ok (.string ⟨#[b]⟩) (w.alloc (.cells #[.int .u8 x] 5)) := by
  have := run_convert_bytes_back (P := Try.prog) (w.alloc (.cells #[.int .u8 x] 5)) 52 9 5 ⟨w.heap.size, 0, none⟩ 1 [b] Try.underlying52 Try.underlying5 Try.underlying9 (fun j hj => by
    have hj0 : j = 0 := by simpa using hj
    subst hj0
    rw [add_off]
    simp only [World.cell?, heap_alloc_new, Option.bind_some]
    simp [hx])
  exact this
theorem sgn_int (c : Int) (h0 : ¬ c = 0) (h1 : 0 ≤ c) (h2 : c ≤ 5) : 97 + c - 1 = ((sgn c).toNat : Int) := by
  have hc : c = 1 ∨ c = 2 ∨ c = 3 ∨ c = 4 ∨ c = 5 := by omega
  rcases hc with rfl | rfl | rfl | rfl | rfl <;> rfl
theorem colorText_any (c : Int) (h0 : 0 ≤ c) (h1 : c ≤ 5) (w : World) : Calls Try.prog 22 #[.int .i64 c] w fun e w' => e = .returned (.string ⟨#[sgn c]⟩) ∧ Below w.heap.size w w' := by
  have hbel := Below.refl w.heap.size w
  by_cases hz : c = 0
  · subst hz
    go_enter Try.func22, Try.ntmps22
    go_wp2
    go_ret
    exact ⟨rfl, hbel⟩
  · have hz' : ¬ c = 0 := hz
    have hcv := byte_str w _ _ (sgn_int c hz h0 h1)
    go_enter Try.func22, Try.ntmps22
    go_wp2
    go_ret
    exact ⟨rfl, hbel.alloc (Nat.le_refl _) _⟩
theorem tp_zero (f : Nat → Int) (i : Nat) : txk f i 0 = tx f i ++ (if i = 0 then [] else [47]) := by unfold txk; rw [tp, List.append_nil]
theorem txk_len (f : Nat → Int) (i k : Nat) (hi : i ≤ 6) (hk : k ≤ 4) : (txk f i k).length ≤ 100 := by
  unfold txk
  rw [List.length_append, List.length_append, tp_len]
  have := tx_len f i
  split <;> simp <;> omega
attribute [irreducible] txk
theorem l2Text_any (f : Nat → Int) (hc : ∀ j, j < 24 → 0 ≤ f j ∧ f j ≤ 5) (w : World) : Calls Try.prog 15 #[.agg (arr 24 f)] w fun e w' => e = .returned (.string ⟨(tx f 6).toArray⟩) ∧ Below w.heap.size w w' := by
  have h1 : (w.alloc (.cells (arr 24 f) 28)).heap[w.heap.size]? = some (.cells (arr 24 f) 28 (0, 0))   := heap_new rfl
  have hbel : Below w.heap.size w (w.alloc (.cells (arr 24 f) 28)) := (Below.refl _ _).alloc (by simp) _
  have HC : Hid _ := hc
  clear hc
  go_enter Try.func15, Try.ntmps15
  go_wp2
  go_loop [3, 4] (fun s i => ∃ n : Nat, n ≤ 6 ∧ i = .int .i64 n ∧ s = .string ⟨(tx f n).toArray⟩) (fun _ i => 6 - (intOf i).toNat)
  case atStart => exact ⟨0, by omega, rfl, by rw [tx_zero]⟩
  case round =>
    obtain ⟨n, hn, rfl, rfl⟩ := hrel
    by_cases hlt : n < 6
    · have hlt' : (n : Int) < 6 := by omega
      have hlen := tx_len f n
      by_cases h0 : n = 0
      · have hs : tx f n = txk f n 0 := by rw [tp_zero, if_pos h0, List.append_nil]
        rw [hs]
        have h0' : ¬ (0 : Int) < (n : Int) := by omega
        clear hs h0
        go_wp2
        go_loop [3, 5, 6] (fun s k c => ∃ q : Nat, q ≤ 4 ∧ k = .int .i64 q ∧ s = .string ⟨(txk f n q).toArray⟩) (fun _ k _ => 4 - (intOf k).toNat)
        case atStart => exact ⟨0, by omega, rfl, rfl⟩
        case round =>
          obtain ⟨q, hq, rfl, rfl⟩ := hrel
          by_cases hqt : q < 4
          · have hqt' : (q : Int) < 4 := by omega
            obtain ⟨c0, c1⟩ := HC.out (n * 4 + q) (by omega)
            have hl := txk_len f n q (by omega) (by omega)
            have hsg := sgn_slice (f (n * 4 + q)) c0 c1
            have hrc := rowcell h1 (show n * 4 + q < 24 by omega)
            have hadd2 : ∀ w, (Op.stringOp .add ⟨(txk f n q).toArray⟩ ⟨#[sgn (f (n * 4 + q))]⟩).run Try.prog w = .ok (.string ⟨(txk f n (q + 1)).toArray⟩) w := fun w => by
              rw [txk_step]
              exact tadd (txk f n q) [sgn (f (n * 4 + q))] (by omega) (by show 1 ≤ _; omega) w
            go_wp2
            go_round
            case rel => exact ⟨q + 1, by omega, by go_num, rfl⟩
            case measure => simp [intOf]; omega
          · obtain rfl : q = 4 := by omega
            go_wp2
            go_round
            case rel => exact ⟨n + 1, by omega, by go_num, by rw [txk_four]⟩
            case measure => simp [intOf]; omega
      · have hadd : ∀ w, (Op.stringOp .add ⟨(tx f n).toArray⟩ ⟨#[47]⟩).run Try.prog w = .ok (.string ⟨(txk f n 0).toArray⟩) w := fun w => by
          rw [tp_zero, if_neg h0]
          exact tadd (tx f n) [47] (by omega) (by show 1 ≤ _; omega) w
        have h0' : (0 : Int) < (n : Int) := by omega
        clear h0
        go_wp2
        go_loop [3, 5, 6] (fun s k c => ∃ q : Nat, q ≤ 4 ∧ k = .int .i64 q ∧ s = .string ⟨(txk f n q).toArray⟩) (fun _ k _ => 4 - (intOf k).toNat)
        case atStart => exact ⟨0, by omega, rfl, rfl⟩
        case round =>
          obtain ⟨q, hq, rfl, rfl⟩ := hrel
          by_cases hqt : q < 4
          · have hqt' : (q : Int) < 4 := by omega
            obtain ⟨c0, c1⟩ := HC.out (n * 4 + q) (by omega)
            have hl := txk_len f n q (by omega) (by omega)
            have hsg := sgn_slice (f (n * 4 + q)) c0 c1
            have hrc := rowcell h1 (show n * 4 + q < 24 by omega)
            have hadd2 : ∀ w, (Op.stringOp .add ⟨(txk f n q).toArray⟩ ⟨#[sgn (f (n * 4 + q))]⟩).run Try.prog w = .ok (.string ⟨(txk f n (q + 1)).toArray⟩) w := fun w => by
              rw [txk_step]
              exact tadd (txk f n q) [sgn (f (n * 4 + q))] (by omega) (by show 1 ≤ _; omega) w
            go_wp2
            go_round
            case rel => exact ⟨q + 1, by omega, by go_num, rfl⟩
            case measure => simp [intOf]; omega
          · obtain rfl : q = 4 := by omega
            go_wp2
            go_round
            case rel => exact ⟨n + 1, by omega, by go_num, by rw [txk_four]⟩
            case measure => simp [intOf]; omega
    · obtain rfl : n = 6 := by omega
      go_wp2
      go_ret
      exact ⟨rfl, hbel⟩
theorem tps_zero (f : Nat → Int) : tps f 0 = [] := rfl
theorem tp_len100 (f : Nat → Int) (i k : Nat) (h : k ≤ 4) : (tp f i k).length ≤ 100 := by rw [tp_len]; omega
theorem rackText_any (f : Nat → Int) (hc : ∀ j, j < 24 → 0 ≤ f j ∧ f j ≤ 5) (w : World) : Calls Try.prog 16 #[.agg (arr 24 f)] w fun e w' => e = .returned (.string ⟨(tx f 6).toArray⟩) ∧ Below w.heap.size w w' := by
  have h1 : (w.alloc (.cells (arr 24 f) 28)).heap[w.heap.size]? = some (.cells (arr 24 f) 28 (0, 0))   := heap_new rfl
  have hbel : Below w.heap.size w (w.alloc (.cells (arr 24 f) 28)) := (Below.refl _ _).alloc (by simp) _
  have HC : Hid _ := hc
  clear hc
  have hT := Tx.nil (w.alloc (.cells (arr 24 f) 28)) w.heap.size
  go_enter Try.func16, Try.ntmps16
  go_wp2_with first
    | (with_reducible refine wpList_loadW rfl _ _ rfl _ rfl h1 agg24 size24 ?_)
  go_loopw [3, 11] (fun o i wr => ∃ n : Nat, n ≤ 6 ∧ i = .int .i64 n ∧ Tx wr w.heap.size o (tps f n) ∧ Below w.heap.size w wr) (fun _ i _ => 6 - (intOf i).toNat)
  case atStart => exact ⟨0, by omega, rfl, hT, hbel⟩
  case round =>
    clear h1 hT hbel
    obtain ⟨n, hn, rfl, hT, hbo⟩ := hrel
    obtain ⟨wo, hwo⟩ : ∃ wo : World, wo = wr := ⟨_, rfl⟩
    subst hwo
    have hbel := Below.refl wo.heap.size wo
    by_cases hlt : n < 6
    · have hlt' : (n : Int) < 6 := by omega
      have tok_h4 : True := trivial
      go_wp2_with first
        | (with_reducible refine wpList_indexA rfl _ _ _ rfl rfl rfl 6 _ Try.underlying23 4 agg4 size4 (by omega) rfl ?_)
        | (have _t := tok_h4; with_reducible refine wpList_allocN rfl 22 rfl 4 zero4 ?_; intro Bh4 w1 hBh4 h4 hb1; have hWh4 := Nat.le_trans hbel.size hBh4; replace hbel := hbel.trans (hb1.mono hbel.size); clear hb1 _t tok_h4)
        | (with_reducible refine wpList_storeWN rfl _ _ _ rfl _ rfl rfl h4 size4 hbel hWh4 ?_; intro w1 g3 ho g4; clear h4 hbel; have h4 := g3; have hbel := g4; clear g3 g4 ho)
        | (with_reducible refine wpList_loadW rfl _ _ rfl _ rfl h4 agg4 size4 ?_)
      go_loopw [6, 15] (fun s k wr => ∃ q : Nat, q ≤ 4 ∧ k = .int .i64 q ∧ s = .string ⟨(tp f n q).toArray⟩ ∧ Below wo.heap.size wo wr) (fun _ k _ => 4 - (intOf k).toNat)
      case atStart => exact ⟨0, by omega, rfl, rfl, hbel⟩
      case round =>
        clear h4 hbel
        obtain ⟨q, hq, rfl, rfl, hbel⟩ := hrel
        by_cases hqt : q < 4
        · have hqt' : (q : Int) < 4 := by omega
          obtain ⟨c0, c1⟩ := HC.out (n * 4 + q) (by omega)
          have hl := tp_len100 f n q (by omega)
          have hadd2 : ∀ w, (Op.stringOp .add ⟨(tp f n q).toArray⟩ ⟨#[sgn (f (n * 4 + q))]⟩).run Try.prog w = .ok (.string ⟨(tp f n (q + 1)).toArray⟩) w := fun w => by
            rw [tp]
            exact tadd (tp f n q) [sgn (f (n * 4 + q))] (by omega) (by show 1 ≤ _; omega) w
          go_wp2_with first
            | (with_reducible refine wpList_indexI rfl _ _ _ rfl rfl rfl _ Try.underlying22 aggI undI size1 (by omega) ?_)
            | (go_at_call 22; (with_reducible refine (colorText_any _ c0 c1 _).mono ?_); rintro e w1 ⟨rfl, hb1⟩; replace hbel := hbel.trans (hb1.mono hbel.size); clear hb1)
          go_roundw
          case rel => exact ⟨q + 1, by omega, by go_num, rfl, hbel⟩
          case measure => simp [intOf]; omega
        · obtain rfl : q = 4 := by omega
          go_wp2_with first
            | ((with_reducible refine wpList_appendT rfl _ _ rfl rfl ((hT.keep hbel).keep ((Below.refl _ _).alloc (Nat.le_refl _) _)) rfl (heap_alloc_new _ _) (by rw [tps_len]; omega) (by have := hbel.size; have := hbo.size; simp; omega) ?_); intro v2 w2 hT2 hb2)
          go_roundw
          case rel => exact ⟨n + 1, by omega, by go_num, by rw [tps_succ]; exact hT2, ((hbo.trans (hbel.mono hbo.size)).alloc (by have := hbel.size; have := hbo.size; omega) _).trans hb2⟩
          case measure => simp [intOf]; omega
    · obtain rfl : n = 6 := by omega
      obtain ⟨a1, c1, rfl, H1⟩ := hT.st.shape
      obtain ⟨g1, rfl, _, q1, d1, _, K1⟩ := H1 (by rw [tps_len]; omega)
      have HJ : Hid _ := fun (_u : Unit) => joins_any (tps f 6) ⟨#[47]⟩ g1 c1 rfl d1 (by rw [tps_len]; omega) (by have := tx_len f 6; show (jn (tps f 6) 47).length ≤ _; rw [tps_jn]; omega) wo q1 K1
      clear H1 K1 hT
      go_wp2_with first
        | (go_at_call 23; (with_reducible refine (HJ.out ()).mono ?_); rintro e w1 ⟨rfl, hb1⟩; replace hbel := hbel.trans (hb1.mono hbel.size); clear hb1)
      go_ret
      exact ⟨by rw [← tps_jn]; rfl, hbo.trans (hbel.mono hbo.size)⟩
theorem rack_cells {f : Nat → Int} (h : rackB f = true) : ∀ j, j < 24 → 0 ≤ f j ∧ f j ≤ 5 := fun j hj => by
  have h1 := (tubeB_iff f (j / 4)).1 ((rackB_iff f).1 h (j / 4) (by omega)) (j % 4) (Nat.mod_lt _ (by omega))
  have h2 := h1.1
  rwa [show j / 4 * 4 + j % 4 = j by omega] at h2
def rtS (f : Nat → Int) : List UInt8 := if rackB f = true then tx f 6 else []
theorem specRT_any (f : Nat → Int) (w : World) : Calls Try.prog 8 #[.agg (arr 24 f)] w fun e w' => e = .returned (.tuple #[.string ⟨(rtS f).toArray⟩, .bool (rackB f)]) ∧ Below w.heap.size w w' := by
  have h1 : (w.alloc (.cells (arr 24 f) 28)).heap[w.heap.size]? = some (.cells (arr 24 f) 28 (0, 0))   := heap_new rfl
  have hbel : Below w.heap.size w (w.alloc (.cells (arr 24 f) 28)) := (Below.refl _ _).alloc (by simp) _
  unfold rtS
  cases hf : rackB f with
  | false =>
    have HF : Hid _ := hf
    simp only [Bool.false_eq_true, if_false]
    clear hf
    go_enter Try.func8, Try.ntmps8
    go_wp2_with first
      | (with_reducible refine wpList_loadW rfl _ _ rfl _ rfl h1 agg24r size24r ?_)
      | (go_at_call 10; (with_reducible refine (l2Rack_any _ _).mono ?_); rw [HF.out]; rintro e w1 ⟨rfl, hb1⟩; replace hbel := hbel.trans (hb1.mono hbel.size); replace h1 := row_keep hb1 h1; clear hb1)
      | (go_at_call 15; (with_reducible refine (l2Text_any f HC.out _).mono ?_); rintro e w1 ⟨rfl, hb1⟩; replace hbel := hbel.trans (hb1.mono hbel.size); replace h1 := row_keep hb1 h1; clear hb1)
    go_ret2
    exact ⟨rfl, hbel⟩
  | true =>
    have HF : Hid _ := hf
    have HC : Hid _ := rack_cells hf
    simp only [if_true]
    clear hf
    go_enter Try.func8, Try.ntmps8
    go_wp2_with first
      | (with_reducible refine wpList_loadW rfl _ _ rfl _ rfl h1 agg24r size24r ?_)
      | (go_at_call 10; (with_reducible refine (l2Rack_any _ _).mono ?_); rw [HF.out]; rintro e w1 ⟨rfl, hb1⟩; replace hbel := hbel.trans (hb1.mono hbel.size); replace h1 := row_keep hb1 h1; clear hb1)
      | (go_at_call 15; (with_reducible refine (l2Text_any f HC.out _).mono ?_); rintro e w1 ⟨rfl, hb1⟩; replace hbel := hbel.trans (hb1.mono hbel.size); replace h1 := row_keep hb1 h1; clear hb1)
    go_ret2
    exact ⟨rfl, hbel⟩
theorem implRT_any (f : Nat → Int) (w : World) : Calls Try.prog 9 #[.agg (arr 24 f)] w fun e w' => e = .returned (.tuple #[.string ⟨(rtS f).toArray⟩, .bool (rackB f)]) ∧ Below w.heap.size w w' := by
  have h1 : (w.alloc (.cells (arr 24 f) 28)).heap[w.heap.size]? = some (.cells (arr 24 f) 28 (0, 0))   := heap_new rfl
  have hbel : Below w.heap.size w (w.alloc (.cells (arr 24 f) 28)) := (Below.refl _ _).alloc (by simp) _
  unfold rtS
  cases hf : rackB f with
  | false =>
    have HF : Hid _ := hf
    simp only [Bool.false_eq_true, if_false]
    clear hf
    go_enter Try.func9, Try.ntmps9
    go_wp2_with first
      | (with_reducible refine wpList_loadW rfl _ _ rfl _ rfl h1 agg24r size24r ?_)
      | (go_at_call 13; (with_reducible refine (IsRack_any _ _).mono ?_); rw [HF.out]; rintro e w1 ⟨rfl, hb1⟩; replace hbel := hbel.trans (hb1.mono hbel.size); replace h1 := row_keep hb1 h1; clear hb1)
      | (go_at_call 16; (with_reducible refine (rackText_any f HC.out _).mono ?_); rintro e w1 ⟨rfl, hb1⟩; replace hbel := hbel.trans (hb1.mono hbel.size); replace h1 := row_keep hb1 h1; clear hb1)
    go_ret2
    exact ⟨rfl, hbel⟩
  | true =>
    have HF : Hid _ := hf
    have HC : Hid _ := rack_cells hf
    simp only [if_true]
    clear hf
    go_enter Try.func9, Try.ntmps9
    go_wp2_with first
      | (with_reducible refine wpList_loadW rfl _ _ rfl _ rfl h1 agg24r size24r ?_)
      | (go_at_call 13; (with_reducible refine (IsRack_any _ _).mono ?_); rw [HF.out]; rintro e w1 ⟨rfl, hb1⟩; replace hbel := hbel.trans (hb1.mono hbel.size); replace h1 := row_keep hb1 h1; clear hb1)
      | (go_at_call 16; (with_reducible refine (rackText_any f HC.out _).mono ?_); rintro e w1 ⟨rfl, hb1⟩; replace hbel := hbel.trans (hb1.mono hbel.size); replace h1 := row_keep hb1 h1; clear hb1)
    go_ret2
    exact ⟨rfl, hbel⟩
end Go.Proofs.Ytlbgmkengkgnfaa
