/- Racks and places; how many layers a tube has. -/
import Derived.Test.YtbiplciklmagoaaRackC
namespace Go.Proofs.Ytbiplciklmagoaa
set_option linter.unusedSimpArgs false
set_option linter.unusedVariables false
set_option maxRecDepth 20000
open Go.RowKit
theorem l2Place_any (x : Int) (w : World) : Calls Try.prog 44 #[.int .i64 x] w fun e w' => e = .returned (.bool (decide (0 ≤ x) && decide (x ≤ 5))) ∧ w = w' := by
  go_enter Try.func44, Try.ntmps44
  go_wp2_with (go_at_call 73; (with_reducible refine (l1In_any _ _ _ _).mono ?_); rintro e w' ⟨rfl, rfl⟩)
  go_ret
  exact ⟨rfl, rfl⟩

theorem l2Many_any (g : Nat → Int) (w : World) : Calls Try.prog 79 #[.agg (arr 4 g)] w fun e w' => e = .returned (.int .i64 (cnt (fun k => decide (0 < g k)) 4)) ∧ Below w.heap.size w w' := by
  have h1 : (w.alloc (.cells (arr 4 g) 22)).heap[w.heap.size]? = some (.cells (arr 4 g) 22 (0, 0)) := heap_new rfl
  have hbel : Below w.heap.size w (w.alloc (.cells (arr 4 g) 22)) := (Below.refl _ _).alloc (by simp) _
  go_enter Try.func79, Try.ntmps79
  go_wp2
  go_loop [3, 4] (fun n i => ∃ k : Nat, k ≤ 4 ∧ i = .int .i64 k ∧ n = .int .i64 (cnt (fun k => decide (0 < g k)) k)) (fun _ i => 4 - (intOf i).toNat)
  case atStart => exact ⟨0, by omega, rfl, rfl⟩
  case round =>
    obtain ⟨k, hk, rfl, rfl⟩ := hrel
    have hle := cnt_le (fun k => decide (0 < g k)) k
    by_cases hlt : k < 4
    · have hc := rowcell h1 hlt
      by_cases hp : 0 < g k
      · have HS : Hid _ := cnt_yes (p := fun k => decide (0 < g k)) (k := k) (by simpa using hp)
        go_wp2
        go_round
        case rel => exact ⟨k + 1, by omega, by go_num, by rw [HS.out]; go_num⟩
        case measure => simp [intOf]; omega
      · have HS : Hid _ := cnt_no (p := fun k => decide (0 < g k)) (k := k) (by simpa using hp)
        go_wp2
        go_round
        case rel => exact ⟨k + 1, by omega, by go_num, by rw [HS.out]⟩
        case measure => simp [intOf]; omega
    · obtain rfl : k = 4 := by omega
      go_wp2
      go_ret
      exact ⟨rfl, hbel⟩
theorem l2Many_ok (g : Nat → Int) (h : tubeB g = true) (w : World) : Calls Try.prog 79 #[.agg (arr 4 g)] w fun e w' => e = .returned (.int .i64 (nlay g)) ∧ Below w.heap.size w w' :=
  (l2Many_any g w).mono fun _ _ ⟨he, hb⟩ => ⟨by rw [he, cnt_layers g h], hb⟩

theorem isAt_bad (f : Nat → Int) (hf : rackB f = false) (v : Value) (w : World) : Calls Try.prog 47 #[.agg (arr 24 f), v] w fun e w' => e = .returned (.bool false) ∧ Below w.heap.size w w' := by
  have h1 : (w.alloc (.cells (arr 24 f) 28)).heap[w.heap.size]? = some (.cells (arr 24 f) 28 (0, 0)) := heap_new rfl
  have hbel : Below w.heap.size w (w.alloc (.cells (arr 24 f) 28)) := (Below.refl _ _).alloc (by simp) _
  go_enter Try.func47, Try.ntmps47
  go_wp2_with first | (with_reducible refine wpList_loadW rfl _ _ rfl _ rfl h1 agg24r size24r ?_) | (go_at_call 51; (with_reducible refine (IsRack_any _ _).mono ?_); rw [hf]; rintro e w1 ⟨rfl, hb1⟩)
  go_ret
  exact ⟨rfl, hbel.trans (hb1.mono hbel.size)⟩
theorem isAt_any (f : Nat → Int) (hf : rackB f = true) {B len cap n : Nat} {q : Nat → Int} {T : TypeId} {fr : Nat × Nat} (w : World) (hg : w.heap[B]? = some (.cells (arr n q) T fr)) (hle : len ≤ n) (hm : len ≤ 1000000) :
    Calls Try.prog 47 #[.agg (arr 24 f), .slice (some ⟨B, 0, none⟩) len cap] w fun e w' => e = .returned (.bool ((List.range len).all fun k => decide (0 ≤ q k) && decide (q k ≤ 5))) ∧ Below w.heap.size w w' := by
  have h1 : (w.alloc (.cells (arr 24 f) 28)).heap[w.heap.size]? = some (.cells (arr 24 f) 28 (0, 0)) := heap_new rfl
  have hbel : Below w.heap.size w (w.alloc (.cells (arr 24 f) 28)) := (Below.refl _ _).alloc (by simp) _
  go_enter Try.func47, Try.ntmps47
  go_wp2_with first
    | (with_reducible refine wpList_loadW rfl _ _ rfl _ rfl h1 agg24r size24r ?_)
    | (go_at_call 51; (with_reducible refine (IsRack_any _ _).mono ?_); rw [hf]; rintro e w1 ⟨rfl, hb1⟩; have h2 := row_keep hb1 (row_keep hbel hg))
    | (go_at_call 85; (with_reducible refine (areAll_int 86 _ isPlace_pred _ h2 (by omega) hm).mono ?_); simp only [Nat.zero_add]; rintro e w2 ⟨rfl, hb2⟩)
  go_ret
  exact ⟨rfl, hbel.trans ((hb1.trans (hb2.mono hb1.size)).mono hbel.size)⟩
theorem isAt_one (f : Nat → Int) (hf : rackB f = true) (i : Int) {B cap : Nat} {T : TypeId} {fr : Nat × Nat} (w : World) (hg : w.heap[B]? = some (.cells #[.int .i64 i] T fr)) :
    Calls Try.prog 47 #[.agg (arr 24 f), .slice (some ⟨B, 0, none⟩) 1 cap] w fun e w' => e = .returned (.bool (decide (0 ≤ i) && decide (i ≤ 5))) ∧ Below w.heap.size w w' := by
  rw [arr_one] at hg
  refine (isAt_any f hf w hg (by omega) (by omega)).mono fun e w' ⟨he, hb⟩ => ⟨he.trans (ret_bool ?_), hb⟩
  simp [List.range_succ]
theorem isAt_two (f : Nat → Int) (hf : rackB f = true) (i k : Int) {B cap : Nat} {T : TypeId} {fr : Nat × Nat} (w : World) (hg : w.heap[B]? = some (.cells #[.int .i64 i, .int .i64 k] T fr)) :
    Calls Try.prog 47 #[.agg (arr 24 f), .slice (some ⟨B, 0, none⟩) 2 cap] w fun e w' => e = .returned (.bool ((decide (0 ≤ i) && decide (i ≤ 5)) && (decide (0 ≤ k) && decide (k ≤ 5)))) ∧ Below w.heap.size w w' := by
  rw [arr_two] at hg
  refine (isAt_any f hf w hg (by omega) (by omega)).mono fun e w' ⟨he, hb⟩ => ⟨he.trans (ret_bool ?_), hb⟩
  simp [List.range_succ]
end Go.Proofs.Ytbiplciklmagoaa
