/- CountCandidates: the program's and the reference's, and the law. -/
import Derived.Test.YtbiplciklmagoaaCntHid
namespace Go.Proofs.Ytbiplciklmagoaa
set_option linter.unusedSimpArgs false
set_option linter.unusedVariables false
set_option maxRecDepth 20000
open Go.RowKit
/-- a, multiplied and divided k times more, n having come before. -/
def wIn (a : Int) (n : Nat) : Nat → Int
  | 0 => a
  | k + 1 => wrap64 (Int.tdiv (wrap64 (wIn a n k * ((n : Int) + (k : Int) + 1))) ((k : Int) + 1))
def nS (L : Nat → Int) : Nat → Nat
  | 0 => 0
  | c + 1 => nS L c + (L c).toNat
def wA (L : Nat → Int) : Nat → Int
  | 0 => 1
  | c + 1 => wIn (wA L c) (nS L c) (L c).toNat
theorem nS_bd {L : Nat → Int} (hL : ∀ c, c < 6 → 0 ≤ L c ∧ L c ≤ 1000) : ∀ c, c ≤ 6 → nS L c ≤ 1000 * c
  | 0, _ => by simp [nS]
  | c + 1, h => by
    have := nS_bd hL c (by omega)
    have := hL c (by omega)
    unfold nS
    omega
theorem l7Ways_any (L : Nat → Int) (hL : ∀ c, c < 6 → 0 ≤ L c ∧ L c ≤ 1000) (h0 : L 0 = 0) (w : World) : Calls Try.prog 94 #[.agg (arr 6 L)] w fun e w' => e = .returned (.int .i64 (wA L 6)) ∧ Below w.heap.size w w' := by
  have h1 : (w.alloc (.cells (arr 6 L) 43)).heap[w.heap.size]? = some (.cells (arr 6 L) 43 (0, 0))   := heap_new rfl
  have hbel : Below w.heap.size w (w.alloc (.cells (arr 6 L) 43)) := (Below.refl _ _).alloc (by simp) _
  have e1 : wA L 1 = 1 := by simp [wA, nS, wIn, h0]
  have n1 : nS L 1 = 0 := by simp [nS, h0]
  go_enter Try.func94, Try.ntmps94
  go_wp2_with first
    | fail
  go_loop [3, 4, 5] (fun a n i => ∃ c : Nat, 1 ≤ c ∧ c ≤ 6 ∧ i = .int .i64 c ∧ a = .int .i64 (wA L c) ∧ n = .int .i64 (nS L c : Nat)) (fun _ _ i => 6 - (intOf i).toNat)
  case atStart => exact ⟨1, by omega, by omega, rfl, by rw [e1], by rw [n1]; rfl⟩
  case round =>
    obtain ⟨c, hc1, hc, rfl, rfl, rfl⟩ := hrel
    have hb := nS_bd hL c hc
    by_cases hlt : c < 6
    · obtain ⟨hl1, hl2⟩ := hL c hlt
      obtain ⟨l, hl⟩ : ∃ l : Nat, L c = l := ⟨(L c).toNat, by omega⟩
      have hcl := rowcell h1 hlt
      rw [hl] at hcl
      have HS : Hid (wA L (c + 1) = wIn (wA L c) (nS L c) l ∧ nS L (c + 1) = nS L c + l) := ⟨by rw [wA, hl, Int.toNat_natCast], by rw [nS, hl, Int.toNat_natCast]⟩
      have hl3 : l ≤ 1000 := by omega
      clear hl hl1 hl2
      go_wp2_with first
        | fail
      go_loop [3, 4, 6] (fun a n j => ∃ k : Nat, k ≤ l ∧ j = .int .i64 (k + 1 : Nat) ∧ a = .int .i64 (wIn (wA L c) (nS L c) k) ∧ n = .int .i64 (nS L c + k : Nat)) (fun _ _ j => l + 1 - (intOf j).toNat)
      case atStart => exact ⟨0, by omega, rfl, rfl, rfl⟩
      case round =>
        obtain ⟨k, hk, rfl, rfl, rfl⟩ := hrel
        by_cases hkl : k < l
        · have HW : Hid (wIn (wA L c) (nS L c) (k + 1) = wrap64 (Int.tdiv (wrap64 (wIn (wA L c) (nS L c) k * ((nS L c : Int) + (k : Int) + 1))) ((k : Int) + 1))) := rfl
          go_wp2_with first
            | fail
          go_round
          case rel => exact ⟨k + 1, by omega, by go_num, by rw [HW.out], by go_num⟩
          case measure => simp [intOf]; omega
        · obtain rfl : k = l := by omega
          go_wp2_with first
            | fail
          go_round
          case rel => exact ⟨c + 1, by omega, by omega, by go_num, by rw [HS.out.1], by rw [HS.out.2]⟩
          case measure => simp [intOf]; omega
    · obtain rfl : c = 6 := by omega
      go_wp2_with first
        | fail
      go_ret
      exact ⟨rfl, hbel⟩
theorem arrangements_any (L : Nat → Int) (hL : ∀ c, c < 6 → 0 ≤ L c ∧ L c ≤ 1000) (w : World) : Calls Try.prog 76 #[.agg (arr 6 L)] w fun e w' => e = .returned (.int .i64 (wA L 6)) ∧ Below w.heap.size w w' := by
  have h1 : (w.alloc (.cells (arr 6 L) 43)).heap[w.heap.size]? = some (.cells (arr 6 L) 43 (0, 0))   := heap_new rfl
  have hbel : Below w.heap.size w (w.alloc (.cells (arr 6 L) 43)) := (Below.refl _ _).alloc (by simp) _
  go_enter Try.func76, Try.ntmps76
  go_wp2_with first
    | (with_reducible refine wpList_loadW rfl _ _ rfl _ rfl h1 v6a v6s ?_)
  go_loop [3, 4, 9] (fun a n i => ∃ c : Nat, c ≤ 6 ∧ i = .int .i64 c ∧ a = .int .i64 (wA L c) ∧ n = .int .i64 (nS L c : Nat)) (fun _ _ i => 6 - (intOf i).toNat)
  case atStart => exact ⟨0, by omega, rfl, rfl, rfl⟩
  case round =>
    obtain ⟨c, hc, rfl, rfl, rfl⟩ := hrel
    have hb := nS_bd hL c hc
    by_cases hlt : c < 6
    · obtain ⟨hl1, hl2⟩ := hL c hlt
      have hlt' : (c : Int) < 6 := by omega
      obtain ⟨l, hl⟩ : ∃ l : Nat, L c = l := ⟨(L c).toNat, by omega⟩
      have HL : Hid (L c = l) := hl
      have HS : Hid (wA L (c + 1) = wIn (wA L c) (nS L c) l ∧ nS L (c + 1) = nS L c + l) := ⟨by rw [wA, hl, Int.toNat_natCast], by rw [nS, hl, Int.toNat_natCast]⟩
      have hl3 : l ≤ 1000 := by omega
      clear hl hl1 hl2
      go_wp2_with first
        | ((with_reducible refine wpList_indexI rfl _ _ _ rfl rfl rfl _ Try.underlying43 aggI undI size1 (by omega) ?_); rw [HL.out])
      go_loop [3, 4, 13] (fun a n j => ∃ k : Nat, k ≤ l ∧ j = .int .i64 k ∧ a = .int .i64 (wIn (wA L c) (nS L c) k) ∧ n = .int .i64 (nS L c + k : Nat)) (fun _ _ j => l - (intOf j).toNat)
      case atStart => exact ⟨0, by omega, rfl, rfl, rfl⟩
      case round =>
        obtain ⟨k, hk, rfl, rfl, rfl⟩ := hrel
        by_cases hkl : k < l
        · have HW : Hid (wIn (wA L c) (nS L c) (k + 1) = wrap64 (Int.tdiv (wrap64 (wIn (wA L c) (nS L c) k * ((nS L c : Int) + (k : Int) + 1))) ((k : Int) + 1))) := rfl
          go_wp2_with first
            | fail
          go_round
          case rel => exact ⟨k + 1, by omega, by go_num, by rw [HW.out], by go_num⟩
          case measure => simp [intOf]; omega
        · obtain rfl : k = l := by omega
          go_wp2_with first
            | fail
          go_round
          case rel => exact ⟨c + 1, by omega, by go_num, by rw [HS.out.1], by rw [HS.out.2]⟩
          case measure => simp [intOf]; omega
    · obtain rfl : c = 6 := by omega
      go_wp2_with first
        | fail
      go_ret
      exact ⟨rfl, hbel⟩
theorem lft_small {v : Nat → Int} (hx : ∀ j, I64 (v j)) (h : viewB v = true) : (∀ c, c < 6 → 0 ≤ lft v 6 c ∧ lft v 6 c ≤ 1000) ∧ lft v 6 0 = 0 := by
  obtain ⟨hv, hc, hz, hs⟩ := viewB_iff.1 h
  refine ⟨fun c hc => by have := (hid_sum hx h).1 c hc; rwa [Nat.zero_add] at this, ?_⟩
  rw [lft_eq hx 6 0, (cnt_all hv 6 (by omega)).2.1, show v (12 + 0) = 0 from hz]
  unfold wrap64; omega
noncomputable def candF (v : Nat → Int) : Int × Bool := if viewB v = true then (wA (lft v 6) 6, true) else (0, false)
theorem specCand_any (v : Nat → Int) (hx : ∀ j, I64 (v j)) (w : World) : Calls Try.prog 72 #[.agg (arr 18 v)] w fun e w' => e = .returned (.tuple #[.int .i64 (candF v).1, .bool (candF v).2]) ∧ Below w.heap.size w w' := by
  have h1 : (w.alloc (.cells (arr 18 v) 48)).heap[w.heap.size]? = some (.cells (arr 18 v) 48 (0, 0))   := heap_new rfl
  have hbel : Below w.heap.size w (w.alloc (.cells (arr 18 v) 48)) := (Below.refl _ _).alloc (by simp) _
  have tok_h5 : True := trivial
  unfold candF
  cases hf : viewB v with
  | false =>
    have HF : Hid _ := hf
    simp only [Bool.false_eq_true, if_false]
    clear hf
    go_enter Try.func72, Try.ntmps72
    go_wp2_with first
      | (with_reducible refine wpList_loadW rfl _ _ rfl _ rfl h1 agg18r size18r ?_)
      | (go_at_call 60; (with_reducible refine (l7Good_any v hx _).mono ?_); rw [HF.out]; rintro e w1 ⟨rfl, hb1⟩; replace hbel := hbel.trans (hb1.mono hbel.size); replace h1 := row_keep hb1 h1; clear hb1)
    go_ret2
    exact ⟨rfl, hbel⟩
  | true =>
    have HF : Hid _ := hf
    have HV : Hid (∀ i, i < 6 → vok v i) := (viewB_iff.1 hf).1
    have HS : Hid _ := lft_small hx hf
    simp only [if_true]
    clear hf
    go_enter Try.func72, Try.ntmps72
    go_wp2_with first
      | (with_reducible refine wpList_loadW rfl _ _ rfl _ rfl h1 agg18r size18r ?_)
      | (with_reducible refine wpList_loadW rfl _ _ rfl _ rfl h5 v6a v6s ?_)
      | (go_at_call 60; (with_reducible refine (l7Good_any v hx _).mono ?_); rw [HF.out]; rintro e w1 ⟨rfl, hb1⟩; replace hbel := hbel.trans (hb1.mono hbel.size); replace h1 := row_keep hb1 h1; clear hb1)
      | (go_at_call 93; (with_reducible refine (l7Hidden_any v HV.out _).mono ?_); rintro e w1 ⟨rfl, hb1⟩; replace hbel := hbel.trans (hb1.mono hbel.size); replace h1 := row_keep hb1 h1; clear hb1)
      | (with_reducible refine wpList_allocA rfl 43 rfl 6 v6z ?_; (try simp only [size_al]))
      | (have _t := tok_h5; with_reducible refine wpList_storeN rfl _ _ _ rfl rfl rfl v6s ?_; intro w1 h5 hb1; replace hbel := hbel.trans (hb1.mono hbel.size); replace h1 := row_keep hb1 h1; clear hb1 _t tok_h5)
      | (go_at_call 94; (with_reducible refine (l7Ways_any _ HS.out.1 HS.out.2 _).mono ?_); rintro e w1 ⟨rfl, hb1⟩; replace hbel := hbel.trans (hb1.mono hbel.size); replace h1 := row_keep hb1 h1; clear hb1)
    go_ret2
    exact ⟨rfl, hbel⟩
end Go.Proofs.Ytbiplciklmagoaa
