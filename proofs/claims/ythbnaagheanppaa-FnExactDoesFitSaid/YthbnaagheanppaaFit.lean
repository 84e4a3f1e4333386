/- DoesFit: the program's and the reference's, and the law. -/
import Derived.Test.YthbnaagheanppaaCnt
import Derived.Test.YthbnaagheanppaaHeld
namespace Go.Proofs.Ythbnaagheanppaa
set_option linter.unusedSimpArgs false
set_option linter.unusedVariables false
open Go.RowKit
/-- The greatest of the first k. -/
def mxl (f : Nat → Int) : Nat → Int
  | 0 => f 0
  | k + 1 => if k = 0 then f 0 else max (mxl f k) (f k)
theorem mxl_le {f : Nat → Int} {b : Int} : ∀ k, 1 ≤ k → (mxl f k ≤ b ↔ ∀ j, j < k → f j ≤ b)
  | 0, h => by omega
  | k + 1, _ => by
    unfold mxl
    by_cases hk : k = 0
    · subst hk
      simp only [if_true]
      exact ⟨fun h j hj => by obtain rfl : j = 0 := by omega
                              exact h, fun h => h 0 (by omega)⟩
    · rw [if_neg hk]
      have ih := mxl_le (f := f) (b := b) k (by omega)
      constructor
      · intro h j hj
        by_cases e : j = k
        · subst e; omega
        · exact ih.1 (by omega) j (by omega)
      · intro h
        have h1 := ih.2 fun j hj => h j (by omega)
        have h2 := h k (by omega)
        omega
theorem Max_any {B off len cap n : Nat} {f : Nat → Int} {T : TypeId} {fr : Nat × Nat} (w : World) (hg : w.heap[B]? = some (.cells (arr n f) T fr)) (hle : off + len ≤ n) (h1 : 1 ≤ len) (hm : len ≤ 1000000) :
    Calls Try.prog 62 #[.slice (some ⟨B, off, none⟩) len cap] w fun e w' => e = .returned (.int .i64 (mxl (fun k => f (off + k)) len)) ∧ Below w.heap.size w w' := by
  have hc0 := rowcell hg (i := off + 0) (by omega)
  have hc1 := rowcell hg (i := off) (by omega)
  have hlen : ¬ ((len : Int) < 1) := by omega
  have hpos : 0 < len := by omega
  go_enter Try.func62, Try.ntmps62
  go_wp2
  go_loop [3, 4] (fun s i => ∃ k : Nat, 1 ≤ k ∧ k ≤ len ∧ i = .int .i64 k ∧ s = .int .i64 (mxl (fun k => f (off + k)) k)) (fun _ i => len - (intOf i).toNat)
  case atStart => exact ⟨1, by omega, by omega, rfl, rfl⟩
  case round =>
    obtain ⟨k, hk1, hk, rfl, rfl⟩ := hrel
    by_cases hlt : k < len
    · have hc := rowcell hg (i := off + k) (by omega)
      have HS : Hid (mxl (fun k => f (off + k)) (k + 1) = max (mxl (fun k => f (off + k)) k) (f (off + k))) := if_neg (by omega)
      go_wp2
      go_round
      case rel => exact ⟨k + 1, by omega, by omega, by go_num, by
        rw [HS.out]
        refine congrArg _ ?_
        split <;> omega⟩
      case measure => simp [intOf]; omega
    · obtain rfl : k = len := by omega
      go_wp2
      go_ret
      exact ⟨rfl, Below.refl _ _⟩
def fitB (f : Nat → Int) : Bool := decide (mxl (fun k => tally f 24 (1 + k)) 5 ≤ 4)
theorem fit_iff (f : Nat → Int) : fitB f = true ↔ ∀ c, 1 ≤ c → c < 6 → tally f 24 c ≤ 4 := by
  unfold fitB
  rw [decide_eq_true_eq, mxl_le 5 (by omega)]
  constructor
  · intro h c h1 h2
    have := h (c - 1) (by omega)
    rwa [show 1 + (c - 1) = c by omega] at this
  · intro h j hj
    exact h (1 + j) (by omega) (by omega)
def doesFit (f : Nat → Int) : Bool × Bool := if rackB f = true then (fitB f, true) else (false, false)
theorem specFit_any (f : Nat → Int) (w : World) : Calls Try.prog 29 #[.agg (arr 24 f)] w fun e w' => e = .returned (.tuple #[.bool (doesFit f).1, .bool (doesFit f).2]) ∧ Below w.heap.size w w' := by
  have h1 : (w.alloc (.cells (arr 24 f) 29)).heap[w.heap.size]? = some (.cells (arr 24 f) 29 (0, 0))   := heap_new rfl
  have hbel : Below w.heap.size w (w.alloc (.cells (arr 24 f) 29)) := (Below.refl _ _).alloc (by simp) _
  have tok_h5 : True := trivial
  unfold doesFit
  cases hf : rackB f with
  | false =>
    have HF : Hid _ := hf
    simp only [Bool.false_eq_true, if_false]
    clear hf
    go_enter Try.func29, Try.ntmps29
    go_wp2_with first
      | (with_reducible refine wpList_loadW rfl _ _ rfl _ rfl h1 agg24r size24r ?_)
      | (go_at_call 43; (with_reducible refine (l2Rack_any _ _).mono ?_); rw [HF.out]; rintro e w1 ⟨rfl, hb1⟩; replace hbel := hbel.trans (hb1.mono hbel.size); replace h1 := row_keep hb1 h1; clear hb1)
    go_ret2
    exact ⟨rfl, hbel⟩
  | true =>
    have HF : Hid _ := hf
    simp only [if_true]
    clear hf
    go_enter Try.func29, Try.ntmps29
    go_wp2_with first
      | (with_reducible refine wpList_loadW rfl _ _ rfl _ rfl h1 agg24r size24r ?_)
      | (go_at_call 43; (with_reducible refine (l2Rack_any _ _).mono ?_); rw [HF.out]; rintro e w1 ⟨rfl, hb1⟩; replace hbel := hbel.trans (hb1.mono hbel.size); replace h1 := row_keep hb1 h1; clear hb1)
      | (go_at_call 58; (with_reducible refine (l2Counts_any f HF.out _).mono ?_); (rintro e w2 ⟨rfl, hb1⟩; replace hbel := hbel.trans (hb1.mono hbel.size); replace h1 := row_keep hb1 h1; clear hb1))
      | (with_reducible refine wpList_allocA rfl 26 rfl 6 zero6 ?_; (try simp only [size_al]))
      | (have _t := tok_h5; with_reducible refine wpList_storeN rfl _ _ _ rfl rfl rfl size6 ?_; intro w1 h5 hb1; replace hbel := hbel.trans (hb1.mono hbel.size); replace h1 := row_keep hb1 h1; clear hb1 _t tok_h5)
    go_loopw [5] (fun i wr => ∃ m : Nat, 1 ≤ m ∧ m ≤ 6 ∧ i = .int .i64 m ∧ (∀ c, 1 ≤ c → c < m → tally f 24 c ≤ 4) ∧ wr.heap[w2.heap.size]? = some (.cells (arr 6 (tally f 24)) 26 (0, 0)) ∧ Below w.heap.size w wr) (fun i _ => 6 - (intOf i).toNat)
    case atStart => exact ⟨1, by omega, by omega, rfl, by intro c h1 h2; omega, h5, hbel⟩
    case round =>
      clear h1 h5 hbel
      obtain ⟨m, hm1, hm6, rfl, hL, h5, hbel⟩ := hrel
      have HL : Hid _ := hL
      clear hL
      by_cases hlt : m < 6
      · by_cases hc : 4 < tally f 24 m
        · have HV : Hid (fitB f = false) := by
            cases h : fitB f with
            | false => exact rfl
            | true => have := (fit_iff f).1 h m hm1 hlt; omega
          go_wp2_with first
            | (with_reducible refine wpList_loadI rfl _ _ rfl _ _ rfl h5 aggI undI (by omega) ?_)
          go_ret2
          exact ⟨by rw [HV.out]; rfl, hbel⟩
        · have HN : Hid (∀ c, 1 ≤ c → c < m + 1 → tally f 24 c ≤ 4) := fun c h1 h2 => by
            by_cases e : c = m
            · subst e; omega
            · exact HL.out c h1 (by omega)
          go_wp2_with first
            | (with_reducible refine wpList_loadI rfl _ _ rfl _ _ rfl h5 aggI undI (by omega) ?_)
          go_roundw
          case rel => exact ⟨m + 1, by omega, by omega, by go_num, HN.out, h5, hbel⟩
          case measure => simp [intOf]; omega
      · obtain rfl : m = 6 := by omega
        have HV : Hid (fitB f = true) := (fit_iff f).2 HL.out
        go_wp2_with first
          | fail
        go_ret2
        exact ⟨by rw [HV.out]; rfl, hbel⟩
theorem implFit_any (f : Nat → Int) (w : World) : Calls Try.prog 30 #[.agg (arr 24 f)] w fun e w' => e = .returned (.tuple #[.bool (doesFit f).1, .bool (doesFit f).2]) ∧ Below w.heap.size w w' := by
  have h1 : (w.alloc (.cells (arr 24 f) 29)).heap[w.heap.size]? = some (.cells (arr 24 f) 29 (0, 0))   := heap_new rfl
  have hbel : Below w.heap.size w (w.alloc (.cells (arr 24 f) 29)) := (Below.refl _ _).alloc (by simp) _
  have tok_h5 : True := trivial
  unfold doesFit
  cases hf : rackB f with
  | false =>
    have HF : Hid _ := hf
    simp only [Bool.false_eq_true, if_false]
    clear hf
    go_enter Try.func30, Try.ntmps30
    go_wp2_with first
      | (with_reducible refine wpList_loadW rfl _ _ rfl _ rfl h1 agg24r size24r ?_)
      | (go_at_call 46; (with_reducible refine (IsRack_any _ _).mono ?_); rw [HF.out]; rintro e w1 ⟨rfl, hb1⟩; replace hbel := hbel.trans (hb1.mono hbel.size); replace h1 := row_keep hb1 h1; clear hb1)
    go_ret2
    exact ⟨rfl, hbel⟩
  | true =>
    have HF : Hid _ := hf
    simp only [if_true]
    clear hf
    go_enter Try.func30, Try.ntmps30
    go_wp2_with first
      | (with_reducible refine wpList_loadW rfl _ _ rfl _ rfl h1 agg24r size24r ?_)
      | (go_at_call 46; (with_reducible refine (IsRack_any _ _).mono ?_); rw [HF.out]; rintro e w1 ⟨rfl, hb1⟩; replace hbel := hbel.trans (hb1.mono hbel.size); replace h1 := row_keep hb1 h1; clear hb1)
      | (go_at_call 59; (with_reducible refine (countColors_any f HF.out _).mono ?_); rintro e w1 ⟨rfl, hb1⟩; replace hbel := hbel.trans (hb1.mono hbel.size); replace h1 := row_keep hb1 h1; clear hb1)
      | (with_reducible refine wpList_allocA rfl 26 rfl 6 zero6 ?_; (try simp only [size_al]))
      | (have _t := tok_h5; with_reducible refine wpList_storeN rfl _ _ _ rfl rfl rfl size6 ?_; intro w1 h5 hb1; replace hbel := hbel.trans (hb1.mono hbel.size); replace h1 := row_keep hb1 h1; clear hb1 _t tok_h5)
      | (go_at_call 62; (with_reducible refine (Max_any _ h5 (by omega) (by omega) (by omega)).mono ?_); rintro e w1 ⟨rfl, hb1⟩; replace hbel := hbel.trans (hb1.mono hbel.size); replace h1 := row_keep hb1 h1; clear hb1)
    go_ret2
    exact ⟨rfl, hbel⟩
set_option linter.unusedVariables false in
theorem FnExactDoesFit_walk (x0 : Nat → Int) (hx0 : ∀ j, I64 (x0 j)) (w : World) : Calls Try.prog 8 #[.agg (arr 24 x0)] w fun e w' => e = .returned (.bool true) ∧ Below w.heap.size w w' := by
  have hr0 : (w.alloc (.cells (arr 24 x0) 25)).heap[w.heap.size]? = some (.cells (arr 24 x0) 25 (0, 0)) := by rw [heap_new (by simp)]
  have hbel : Below w.heap.size w (w.alloc (.cells (arr 24 x0) 25)) := ((Below.refl _ _).alloc (by simp) _)
  go_enter Try.func8, Try.ntmps8
  go_wp2_with first
    | (with_reducible refine wpList_loadW rfl _ _ rfl _ rfl hr0 agg24l size24l ?_)
    | (go_at_call 16; (with_reducible refine (toRack_any _ _).mono ?_); (rintro e w1 ⟨rfl, hb1⟩; replace hbel := hbel.trans (hb1.mono hbel.size); replace hr0 := row_keep hb1 hr0; clear hb1))
    | (go_at_call 29; (with_reducible refine (specFit_any _ _).mono ?_); (rintro e w1 ⟨rfl, hb1⟩; replace hbel := hbel.trans (hb1.mono hbel.size); replace hr0 := row_keep hb1 hr0; clear hb1))
    | (go_at_call 30; (with_reducible refine (implFit_any _ _).mono ?_); (rintro e w1 ⟨rfl, hb1⟩; replace hbel := hbel.trans (hb1.mono hbel.size); replace hr0 := row_keep hb1 hr0; clear hb1))
  go_ret
  exact ⟨rfl, hbel⟩
end Go.Proofs.Ythbnaagheanppaa
