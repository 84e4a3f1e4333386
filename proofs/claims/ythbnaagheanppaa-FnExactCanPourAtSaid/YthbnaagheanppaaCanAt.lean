/- CanPourAt: the program's and the reference's, and the law. -/
import Derived.Test.YthbnaagheanppaaCanA
import Derived.Test.YthbnaagheanppaaView3
import Derived.Test.YthbnaagheanppaaConvV
import Derived.Test.YthbnaagheanppaaRackD
namespace Go.Proofs.Ythbnaagheanppaa
set_option linter.unusedSimpArgs false
set_option linter.unusedVariables false
open Go.RowKit
theorem isViewAt_bad (v : Nat → Int) (hx : ∀ j, I64 (v j)) (hf : viewB v = false) (x : Value) (w : World) : Calls Try.prog 52 #[.agg (arr 18 v), x] w fun e w' => e = .returned (.bool false) ∧ Below w.heap.size w w' := by
  have h1 : (w.alloc (.cells (arr 18 v) 37)).heap[w.heap.size]? = some (.cells (arr 18 v) 37 (0, 0))   := heap_new rfl
  have hbel : Below w.heap.size w (w.alloc (.cells (arr 18 v) 37)) := (Below.refl _ _).alloc (by simp) _
  go_enter Try.func52, Try.ntmps52
  go_wp2_with first
    | (with_reducible refine wpList_loadW rfl _ _ rfl _ rfl h1 agg18r size18r ?_)
    | (go_at_call 55; (with_reducible refine (IsView_any _ hx _).mono ?_); rw [hf]; rintro e w1 ⟨rfl, hb1⟩; replace hbel := hbel.trans (hb1.mono hbel.size); replace h1 := row_keep hb1 h1; clear hb1)
  go_ret
  exact ⟨rfl, hbel⟩
theorem isViewAt_any (v : Nat → Int) (hx : ∀ j, I64 (v j)) (hf : viewB v = true) {B len cap n : Nat} {q : Nat → Int} {T : TypeId} {fr : Nat × Nat} (w : World) (hg : w.heap[B]? = some (.cells (arr n q) T fr)) (hle : len ≤ n) (hm : len ≤ 1000000) :
    Calls Try.prog 52 #[.agg (arr 18 v), .slice (some ⟨B, 0, none⟩) len cap] w fun e w' => e = .returned (.bool ((List.range len).all fun k => decide (0 ≤ q k) && decide (q k ≤ 5))) ∧ Below w.heap.size w w' := by
  have h1 : (w.alloc (.cells (arr 18 v) 37)).heap[w.heap.size]? = some (.cells (arr 18 v) 37 (0, 0))   := heap_new rfl
  have hbel : Below w.heap.size w (w.alloc (.cells (arr 18 v) 37)) := (Below.refl _ _).alloc (by simp) _
  have h2 := row_keep hbel hg
  go_enter Try.func52, Try.ntmps52
  go_wp2_with first
    | (with_reducible refine wpList_loadW rfl _ _ rfl _ rfl h1 agg18r size18r ?_)
    | (go_at_call 55; (with_reducible refine (IsView_any _ hx _).mono ?_); rw [hf]; rintro e w1 ⟨rfl, hb1⟩; replace hbel := hbel.trans (hb1.mono hbel.size); replace h1 := row_keep hb1 h1; replace h2 := row_keep hb1 h2; clear hb1)
    | (go_at_call 78; (with_reducible refine (areAll_int 79 _ isPlace_pred _ h2 (by omega) hm).mono ?_); simp only [Nat.zero_add]; rintro e w1 ⟨rfl, hb1⟩; replace hbel := hbel.trans (hb1.mono hbel.size); replace h1 := row_keep hb1 h1; clear hb1)
  go_ret
  exact ⟨rfl, hbel⟩
theorem isViewAt_two (v : Nat → Int) (hx : ∀ j, I64 (v j)) (hf : viewB v = true) (i k : Int) {B cap : Nat} {T : TypeId} {fr : Nat × Nat} (w : World) (hg : w.heap[B]? = some (.cells #[.int .i64 i, .int .i64 k] T fr)) :
    Calls Try.prog 52 #[.agg (arr 18 v), .slice (some ⟨B, 0, none⟩) 2 cap] w fun e w' => e = .returned (.bool ((decide (0 ≤ i) && decide (i ≤ 5)) && (decide (0 ≤ k) && decide (k ≤ 5)))) ∧ Below w.heap.size w w' := by
  rw [arr_two] at hg
  refine (isViewAt_any v hx hf w hg (by omega) (by omega)).mono fun e w' ⟨he, hb⟩ => ⟨he.trans (ret_bool ?_), hb⟩
  simp [List.range_succ]
theorem isViewAt_one (v : Nat → Int) (hx : ∀ j, I64 (v j)) (hf : viewB v = true) (i : Int) {B cap : Nat} {T : TypeId} {fr : Nat × Nat} (w : World) (hg : w.heap[B]? = some (.cells #[.int .i64 i] T fr)) :
    Calls Try.prog 52 #[.agg (arr 18 v), .slice (some ⟨B, 0, none⟩) 1 cap] w fun e w' => e = .returned (.bool (decide (0 ≤ i) && decide (i ≤ 5))) ∧ Below w.heap.size w w' := by
  rw [arr_one] at hg
  refine (isViewAt_any v hx hf w hg (by omega) (by omega)).mono fun e w' ⟨he, hb⟩ => ⟨he.trans (ret_bool ?_), hb⟩
  simp [List.range_succ]

noncomputable def canAt (v : Nat → Int) (i k : Int) : Bool × Bool := if viewB v = true ∧ (0 ≤ i ∧ i ≤ 5) ∧ (0 ≤ k ∧ k ≤ 5) ∧ ¬ i = k then (canB v i.toNat k.toNat, true) else (false, false)
theorem canAt_bad {v : Nat → Int} {i k : Int} (h : ¬ (viewB v = true ∧ (0 ≤ i ∧ i ≤ 5) ∧ (0 ≤ k ∧ k ≤ 5) ∧ ¬ i = k)) : canAt v i k = (false, false) := if_neg h
theorem specCanAt_any (v : Nat → Int) (hx : ∀ j, I64 (v j)) (i k : Int) (w : World) : Calls Try.prog 19 #[.agg (arr 18 v), .int .i64 i, .int .i64 k] w fun e w' => e = .returned (.tuple #[.bool (canAt v i k).1, .bool (canAt v i k).2]) ∧ Below w.heap.size w w' := by
  have h1 : (w.alloc (.cells (arr 18 v) 37)).heap[w.heap.size]? = some (.cells (arr 18 v) 37 (0, 0))   := heap_new rfl
  have hbel : Below w.heap.size w (w.alloc (.cells (arr 18 v) 37)) := (Below.refl _ _).alloc (by simp) _
  cases hf : viewB v with
  | false =>
    rw [canAt_bad (by simp [hf])]
    have HF : Hid _ := hf
    have HI : Hid (1 = 1) := rfl
    have HK : Hid (1 = 1) := rfl
    clear hf
    go_enter Try.func19, Try.ntmps19
    go_wp2_with first
      | (with_reducible refine wpList_loadW rfl _ _ rfl _ rfl h1 agg18r size18r ?_)
      | (go_at_call 48; (with_reducible refine (l7Good_any v hx _).mono ?_); rw [HF.out]; rintro e w1 ⟨rfl, hb1⟩; replace hbel := hbel.trans (hb1.mono hbel.size); replace h1 := row_keep hb1 h1; clear hb1)
      | (go_at_call 49; (with_reducible refine (l2Place_any _ _).mono ?_); (first | rw [HI.out] | rw [HK.out]); rintro e w' ⟨rfl, rfl⟩)
      | (go_at_call 50; (with_reducible refine (l7Can_any v n m hn hm HN.out _).mono ?_); rintro e w1 ⟨rfl, hb1⟩; replace hbel := hbel.trans (hb1.mono hbel.size); replace h1 := row_keep hb1 h1; clear hb1)
    go_ret2
    exact ⟨rfl, hbel⟩
  | true =>
    have HF : Hid _ := hf
    by_cases hi : 0 ≤ i ∧ i ≤ 5
    · have HI : Hid _ := show (decide (0 ≤ i) && decide (i ≤ 5)) = true by simpa using hi
      by_cases hk : 0 ≤ k ∧ k ≤ 5
      · have HK : Hid _ := show (decide (0 ≤ k) && decide (k ≤ 5)) = true by simpa using hk
        by_cases hne : i = k
        · rw [canAt_bad (by simp [hne])]
          have hq : (i == k) = true := by simpa using hne
          clear hf hi hk hne
          go_enter Try.func19, Try.ntmps19
          go_wp2_with first
            | (with_reducible refine wpList_loadW rfl _ _ rfl _ rfl h1 agg18r size18r ?_)
            | (go_at_call 48; (with_reducible refine (l7Good_any v hx _).mono ?_); rw [HF.out]; rintro e w1 ⟨rfl, hb1⟩; replace hbel := hbel.trans (hb1.mono hbel.size); replace h1 := row_keep hb1 h1; clear hb1)
            | (go_at_call 49; (with_reducible refine (l2Place_any _ _).mono ?_); (first | rw [HI.out] | rw [HK.out]); rintro e w' ⟨rfl, rfl⟩)
            | (go_at_call 50; (with_reducible refine (l7Can_any v n m hn hm HN.out _).mono ?_); rintro e w1 ⟨rfl, hb1⟩; replace hbel := hbel.trans (hb1.mono hbel.size); replace h1 := row_keep hb1 h1; clear hb1)
          go_ret2
          exact ⟨rfl, hbel⟩
        · obtain ⟨n, rfl⟩ : ∃ n : Nat, i = n := ⟨i.toNat, by omega⟩
          obtain ⟨m, rfl⟩ : ∃ m : Nat, k = m := ⟨k.toNat, by omega⟩
          have hn : n < 6 := by omega
          have hm : m < 6 := by omega
          have HN : Hid (¬ n = m) := fun h => hne (by rw [h])
          have hq : ((n : Int) == (m : Int)) = false := by have := HN.out; simp; omega
          have HV : Hid (∀ i, i < 6 → vok v i) := (viewB_iff.1 hf).1
          have e : canAt v n m = (canB v n m, true) := if_pos ⟨hf, hi, hk, hne⟩
          rw [e]
          clear hf hi hk hne e
          go_enter Try.func19, Try.ntmps19
          go_wp2_with first
            | (with_reducible refine wpList_loadW rfl _ _ rfl _ rfl h1 agg18r size18r ?_)
            | (go_at_call 48; (with_reducible refine (l7Good_any v hx _).mono ?_); rw [HF.out]; rintro e w1 ⟨rfl, hb1⟩; replace hbel := hbel.trans (hb1.mono hbel.size); replace h1 := row_keep hb1 h1; clear hb1)
            | (go_at_call 49; (with_reducible refine (l2Place_any _ _).mono ?_); (first | rw [HI.out] | rw [HK.out]); rintro e w' ⟨rfl, rfl⟩)
            | (go_at_call 50; (with_reducible refine (l7Can_any v n m hn hm HN.out _).mono ?_); rintro e w1 ⟨rfl, hb1⟩; replace hbel := hbel.trans (hb1.mono hbel.size); replace h1 := row_keep hb1 h1; clear hb1)
          go_ret2
          exact ⟨rfl, hbel⟩
      · rw [canAt_bad (by simp [hk])]
        have HK : Hid _ := show (decide (0 ≤ k) && decide (k ≤ 5)) = false by simpa using hk
        clear hf hi hk
        go_enter Try.func19, Try.ntmps19
        go_wp2_with first
          | (with_reducible refine wpList_loadW rfl _ _ rfl _ rfl h1 agg18r size18r ?_)
          | (go_at_call 48; (with_reducible refine (l7Good_any v hx _).mono ?_); rw [HF.out]; rintro e w1 ⟨rfl, hb1⟩; replace hbel := hbel.trans (hb1.mono hbel.size); replace h1 := row_keep hb1 h1; clear hb1)
          | (go_at_call 49; (with_reducible refine (l2Place_any _ _).mono ?_); (first | rw [HI.out] | rw [HK.out]); rintro e w' ⟨rfl, rfl⟩)
          | (go_at_call 50; (with_reducible refine (l7Can_any v n m hn hm HN.out _).mono ?_); rintro e w1 ⟨rfl, hb1⟩; replace hbel := hbel.trans (hb1.mono hbel.size); replace h1 := row_keep hb1 h1; clear hb1)
        go_ret2
        exact ⟨rfl, hbel⟩
    · rw [canAt_bad (by simp [hi])]
      have HI : Hid _ := show (decide (0 ≤ i) && decide (i ≤ 5)) = false by simpa using hi
      obtain ⟨b, hb⟩ : ∃ b, (decide (0 ≤ k) && decide (k ≤ 5)) = b := ⟨_, rfl⟩
      have HK : Hid _ := hb
      clear hf hi hb
      go_enter Try.func19, Try.ntmps19
      go_wp2_with first
        | (with_reducible refine wpList_loadW rfl _ _ rfl _ rfl h1 agg18r size18r ?_)
        | (go_at_call 48; (with_reducible refine (l7Good_any v hx _).mono ?_); rw [HF.out]; rintro e w1 ⟨rfl, hb1⟩; replace hbel := hbel.trans (hb1.mono hbel.size); replace h1 := row_keep hb1 h1; clear hb1)
        | (go_at_call 49; (with_reducible refine (l2Place_any _ _).mono ?_); (first | rw [HI.out] | rw [HK.out]); rintro e w' ⟨rfl, rfl⟩)
        | (go_at_call 50; (with_reducible refine (l7Can_any v n m hn hm HN.out _).mono ?_); rintro e w1 ⟨rfl, hb1⟩; replace hbel := hbel.trans (hb1.mono hbel.size); replace h1 := row_keep hb1 h1; clear hb1)
      go_ret2
      exact ⟨rfl, hbel⟩
theorem implCanAt_any (v : Nat → Int) (hx : ∀ j, I64 (v j)) (i k : Int) (w : World) : Calls Try.prog 21 #[.agg (arr 18 v), .int .i64 i, .int .i64 k] w fun e w' => e = .returned (.tuple #[.bool (canAt v i k).1, .bool (canAt v i k).2]) ∧ Below w.heap.size w w' := by
  have h1 : (w.alloc (.cells (arr 18 v) 37)).heap[w.heap.size]? = some (.cells (arr 18 v) 37 (0, 0))   := heap_new rfl
  have hbel : Below w.heap.size w (w.alloc (.cells (arr 18 v) 37)) := (Below.refl _ _).alloc (by simp) _
  have h5 : ((w.alloc (.cells (arr 18 v) 37)).alloc (.cells #[.int .i64 i, .int .i64 k] 3)).heap[w.heap.size + 1]? = some (.cells #[.int .i64 i, .int .i64 k] 3 (0, 0)) := heap_new (by simp)
  cases hf : viewB v with
  | false =>
    rw [canAt_bad (by simp [hf])]
    have HF : Hid _ := hf
    have HI : Hid (1 = 1) := rfl
    have HK : Hid (1 = 1) := rfl
    clear hf
    go_enter Try.func21, Try.ntmps21
    go_wp2_with first
      | (with_reducible refine wpList_loadW rfl _ _ rfl _ rfl h1 agg18r size18r ?_)
      | (go_at_call 52; (with_reducible refine (isViewAt_bad v hx HF.out _ _).mono ?_); rintro e w1 ⟨rfl, hb1⟩; replace hb1 := below_of_alloc hb1; replace hbel := hbel.trans (hb1.mono hbel.size); replace h1 := row_keep hb1 h1; clear hb1)
      | (go_at_call 52; (with_reducible refine (isViewAt_two v hx HF.out _ _ _ h5).mono ?_); rw [HI.out, HK.out]; rintro e w1 ⟨rfl, hb1⟩; replace hb1 := below_of_alloc hb1; replace hbel := hbel.trans (hb1.mono hbel.size); replace h1 := row_keep hb1 h1; clear hb1)
      | (go_at_call 53; (with_reducible refine (canPour_any v HV.out n m hn hm HN.out _).mono ?_); rintro e w1 ⟨rfl, hb1⟩; replace hbel := hbel.trans (hb1.mono hbel.size); replace h1 := row_keep hb1 h1; clear hb1)
    go_ret2
    exact ⟨rfl, hbel⟩
  | true =>
    have HF : Hid _ := hf
    by_cases hi : 0 ≤ i ∧ i ≤ 5
    · have HI : Hid _ := show (decide (0 ≤ i) && decide (i ≤ 5)) = true by simpa using hi
      by_cases hk : 0 ≤ k ∧ k ≤ 5
      · have HK : Hid _ := show (decide (0 ≤ k) && decide (k ≤ 5)) = true by simpa using hk
        by_cases hne : i = k
        · rw [canAt_bad (by simp [hne])]
          have hq : (i == k) = true := by simpa using hne
          clear hf hi hk hne
          go_enter Try.func21, Try.ntmps21
          go_wp2_with first
            | (with_reducible refine wpList_loadW rfl _ _ rfl _ rfl h1 agg18r size18r ?_)
            | (go_at_call 52; (with_reducible refine (isViewAt_bad v hx HF.out _ _).mono ?_); rintro e w1 ⟨rfl, hb1⟩; replace hb1 := below_of_alloc hb1; replace hbel := hbel.trans (hb1.mono hbel.size); replace h1 := row_keep hb1 h1; clear hb1)
            | (go_at_call 52; (with_reducible refine (isViewAt_two v hx HF.out _ _ _ h5).mono ?_); rw [HI.out, HK.out]; rintro e w1 ⟨rfl, hb1⟩; replace hb1 := below_of_alloc hb1; replace hbel := hbel.trans (hb1.mono hbel.size); replace h1 := row_keep hb1 h1; clear hb1)
            | (go_at_call 53; (with_reducible refine (canPour_any v HV.out n m hn hm HN.out _).mono ?_); rintro e w1 ⟨rfl, hb1⟩; replace hbel := hbel.trans (hb1.mono hbel.size); replace h1 := row_keep hb1 h1; clear hb1)
          go_ret2
          exact ⟨rfl, hbel⟩
        · obtain ⟨n, rfl⟩ : ∃ n : Nat, i = n := ⟨i.toNat, by omega⟩
          obtain ⟨m, rfl⟩ : ∃ m : Nat, k = m := ⟨k.toNat, by omega⟩
          have hn : n < 6 := by omega
          have hm : m < 6 := by omega
          have HN : Hid (¬ n = m) := fun h => hne (by rw [h])
          have hq : ((n : Int) == (m : Int)) = false := by have := HN.out; simp; omega
          have HV : Hid (∀ i, i < 6 → vok v i) := (viewB_iff.1 hf).1
          have e : canAt v n m = (canB v n m, true) := if_pos ⟨hf, hi, hk, hne⟩
          rw [e]
          clear hf hi hk hne e
          go_enter Try.func21, Try.ntmps21
          go_wp2_with first
            | (with_reducible refine wpList_loadW rfl _ _ rfl _ rfl h1 agg18r size18r ?_)
            | (go_at_call 52; (with_reducible refine (isViewAt_bad v hx HF.out _ _).mono ?_); rintro e w1 ⟨rfl, hb1⟩; replace hb1 := below_of_alloc hb1; replace hbel := hbel.trans (hb1.mono hbel.size); replace h1 := row_keep hb1 h1; clear hb1)
            | (go_at_call 52; (with_reducible refine (isViewAt_two v hx HF.out _ _ _ h5).mono ?_); rw [HI.out, HK.out]; rintro e w1 ⟨rfl, hb1⟩; replace hb1 := below_of_alloc hb1; replace hbel := hbel.trans (hb1.mono hbel.size); replace h1 := row_keep hb1 h1; clear hb1)
            | (go_at_call 53; (with_reducible refine (canPour_any v HV.out n m hn hm HN.out _).mono ?_); rintro e w1 ⟨rfl, hb1⟩; replace hbel := hbel.trans (hb1.mono hbel.size); replace h1 := row_keep hb1 h1; clear hb1)
          go_ret2
          exact ⟨rfl, hbel⟩
      · rw [canAt_bad (by simp [hk])]
        have HK : Hid _ := show (decide (0 ≤ k) && decide (k ≤ 5)) = false by simpa using hk
        clear hf hi hk
        go_enter Try.func21, Try.ntmps21
        go_wp2_with first
          | (with_reducible refine wpList_loadW rfl _ _ rfl _ rfl h1 agg18r size18r ?_)
          | (go_at_call 52; (with_reducible refine (isViewAt_bad v hx HF.out _ _).mono ?_); rintro e w1 ⟨rfl, hb1⟩; replace hb1 := below_of_alloc hb1; replace hbel := hbel.trans (hb1.mono hbel.size); replace h1 := row_keep hb1 h1; clear hb1)
          | (go_at_call 52; (with_reducible refine (isViewAt_two v hx HF.out _ _ _ h5).mono ?_); rw [HI.out, HK.out]; rintro e w1 ⟨rfl, hb1⟩; replace hb1 := below_of_alloc hb1; replace hbel := hbel.trans (hb1.mono hbel.size); replace h1 := row_keep hb1 h1; clear hb1)
          | (go_at_call 53; (with_reducible refine (canPour_any v HV.out n m hn hm HN.out _).mono ?_); rintro e w1 ⟨rfl, hb1⟩; replace hbel := hbel.trans (hb1.mono hbel.size); replace h1 := row_keep hb1 h1; clear hb1)
        go_ret2
        exact ⟨rfl, hbel⟩
    · rw [canAt_bad (by simp [hi])]
      have HI : Hid _ := show (decide (0 ≤ i) && decide (i ≤ 5)) = false by simpa using hi
      obtain ⟨b, hb⟩ : ∃ b, (decide (0 ≤ k) && decide (k ≤ 5)) = b := ⟨_, rfl⟩
      have HK : Hid _ := hb
      clear hf hi hb
      go_enter Try.func21, Try.ntmps21
      go_wp2_with first
        | (with_reducible refine wpList_loadW rfl _ _ rfl _ rfl h1 agg18r size18r ?_)
        | (go_at_call 52; (with_reducible refine (isViewAt_bad v hx HF.out _ _).mono ?_); rintro e w1 ⟨rfl, hb1⟩; replace hb1 := below_of_alloc hb1; replace hbel := hbel.trans (hb1.mono hbel.size); replace h1 := row_keep hb1 h1; clear hb1)
        | (go_at_call 52; (with_reducible refine (isViewAt_two v hx HF.out _ _ _ h5).mono ?_); rw [HI.out, HK.out]; rintro e w1 ⟨rfl, hb1⟩; replace hb1 := below_of_alloc hb1; replace hbel := hbel.trans (hb1.mono hbel.size); replace h1 := row_keep hb1 h1; clear hb1)
        | (go_at_call 53; (with_reducible refine (canPour_any v HV.out n m hn hm HN.out _).mono ?_); rintro e w1 ⟨rfl, hb1⟩; replace hbel := hbel.trans (hb1.mono hbel.size); replace h1 := row_keep hb1 h1; clear hb1)
      go_ret2
      exact ⟨rfl, hbel⟩
set_option linter.unusedVariables false in
theorem FnExactCanPourAt_walk (x0 : Nat → Int) (hx0 : ∀ j, I64 (x0 j)) (x1 : Int) (hx1 : I64 x1) (x2 : Int) (hx2 : I64 x2) (w : World) : Calls Try.prog 4 #[.agg (arr 18 x0), .int .i64 x1, .int .i64 x2] w fun e w' => e = .returned (.bool true) ∧ Below w.heap.size w w' := by
  have hr0 : (w.alloc (.cells (arr 18 x0) 34)).heap[w.heap.size]? = some (.cells (arr 18 x0) 34 (0, 0)) := by rw [heap_new (by simp)]
  have hbel : Below w.heap.size w (w.alloc (.cells (arr 18 x0) 34)) := ((Below.refl _ _).alloc (by simp) _)
  go_enter Try.func4, Try.ntmps4
  go_wp2_with first
    | (with_reducible refine wpList_loadW rfl _ _ rfl _ rfl hr0 agg18l size18l ?_)
    | (go_at_call 20; (with_reducible refine (toView_any _ _).mono ?_); (rintro e w1 ⟨rfl, hb1⟩; replace hbel := hbel.trans (hb1.mono hbel.size); replace hr0 := row_keep hb1 hr0; clear hb1))
    | (go_at_call 19; (with_reducible refine (specCanAt_any _ hx0 _ _ _).mono ?_); (rintro e w1 ⟨rfl, hb1⟩; replace hbel := hbel.trans (hb1.mono hbel.size); replace hr0 := row_keep hb1 hr0; clear hb1))
    | (go_at_call 21; (with_reducible refine (implCanAt_any _ hx0 _ _ _).mono ?_); (rintro e w1 ⟨rfl, hb1⟩; replace hbel := hbel.trans (hb1.mono hbel.size); replace hr0 := row_keep hb1 hr0; clear hb1))
  go_ret
  exact ⟨rfl, hbel⟩
end Go.Proofs.Ythbnaagheanppaa
