/- Orders of six: the reference's test. -/
import Derived.Test.YtljajgaicdffkaaRackD
import Derived.Test.YtljajgaicdffkaaSl
import Derived.Test.YtljajgaicdffkaaSto
import Derived.Test.YtljajgaicdffkaaSortI
namespace Go.Proofs.Ytljajgaicdffkaa
set_option linter.unusedSimpArgs false
set_option linter.unusedVariables false
set_option maxRecDepth 20000
open Go.RowKit
/-- Is x among the first m? -/
def hsB (h : Nat → Int) (m : Nat) (x : Int) : Bool := (List.range m).any fun j => h j == x
theorem hsB_yes {h : Nat → Int} {m j : Nat} {x : Int} (hj : j < m) (e : h j = x) : hsB h m x = true := by
  unfold hsB
  rw [List.any_eq_true]
  exact ⟨j, List.mem_range.2 hj, by simpa using e⟩
theorem hsB_no {h : Nat → Int} {m : Nat} {x : Int} (e : ∀ j, j < m → h j ≠ x) : hsB h m x = false := by
  unfold hsB
  rw [List.any_eq_false]
  intro j hj
  simpa using e j (List.mem_range.1 hj)
theorem hsB_iff {h : Nat → Int} {m : Nat} {x : Int} : hsB h m x = false ↔ ∀ j, j < m → h j ≠ x := by
  unfold hsB
  rw [List.any_eq_false]
  exact ⟨fun e j hj => by simpa using e j (List.mem_range.2 hj), fun e j hj => by simpa using e j (List.mem_range.1 hj)⟩
theorem l1HasR_any {B n m cap : Nat} {f : Nat → Int} {T : TypeId} {fr : Nat × Nat} (x : Int) (hmn : m ≤ n) (hn : n ≤ 1000) (w : World) (g1 : w.heap[B]? = some (.cells (arr n f) T fr)) : Calls Try.prog 60 #[.slice (some ⟨B, 0, none⟩) m cap, .int .i64 x] w fun e w' => e = .returned (.bool (hsB f m x)) ∧ w = w' := by
  go_enter Try.func60, Try.ntmps60
  go_wp2_with fail
  go_loop [5] (fun i => ∃ k : Nat, k ≤ m ∧ i = .int .i64 k ∧ ∀ j, j < k → f j ≠ x) (fun i => m - (intOf i).toNat)
  case atStart => exact ⟨0, by omega, rfl, by intro j hj; omega⟩
  case round =>
    obtain ⟨k, hk, rfl, hno⟩ := hrel
    have HNO : Hid _ := hno
    clear hno
    by_cases hlt : k < m
    · have hlt' : (k : Int) < (m : Int) := by omega
      have hc := rowcell g1 (i := k) (by omega)
      by_cases he : f k = x
      · have hed : (f k == x) = true := by simpa using he
        have HH : Hid _ := hsB_yes hlt he
        clear he
        go_wp2_with fail
        go_ret
        exact ⟨ret_bool HH.out.symm, rfl⟩
      · have hed : (f k == x) = false := by simpa using he
        have HE : Hid _ := he
        clear he
        go_wp2_with fail
        go_round
        case rel => exact ⟨k + 1, by omega, by go_num, fun j hj => by
          by_cases e : j = k
          · subst e; exact HE.out
          · exact HNO.out j (by omega)⟩
        case measure => simp [intOf]; omega
    · obtain rfl : k = m := by omega
      go_wp2_with fail
      go_ret
      exact ⟨ret_bool (hsB_no HNO.out).symm, rfl⟩
/-- Are the first i ints of 0 to 5, and each another? -/
def pB (f : Nat → Int) : Nat → Bool
  | 0 => true
  | i + 1 => pB f i && (decide (0 ≤ f i ∧ f i ≤ 5) && !hsB f i (f i))
theorem pB_no {f : Nat → Int} {i : Nat} (h : pB f (i + 1) = false) : ∀ k, i + 1 ≤ k → pB f k = false
  | 0, hk => by omega
  | k + 1, hk => by
    by_cases e : i = k
    · subst e; exact h
    · have := pB_no h k (by omega)
      rw [pB, this]; rfl
theorem l1HasR_at {B n m cap : Nat} {f : Nat → Int} {T : TypeId} {fr : Nat × Nat} {x : Int} {d : Bool} (h : hsB f m x = d) (hmn : m ≤ n) (hn : n ≤ 1000) (w : World) (g1 : w.heap[B]? = some (.cells (arr n f) T fr)) : Calls Try.prog 60 #[.slice (some ⟨B, 0, none⟩) m cap, .int .i64 x] w fun e w' => e = .returned (.bool d) ∧ Below w.heap.size w w' := by
  rw [← h]
  exact (l1HasR_any x hmn hn w g1).mono fun _ _ ⟨he, hw⟩ => ⟨he, hw ▸ Below.refl _ _⟩
theorem l1InB (x a b : Int) (w : World) : Calls Try.prog 59 #[.int .i64 x, .int .i64 a, .int .i64 b] w fun e w' => e = .returned (.bool (decide (a ≤ x ∧ x ≤ b))) ∧ Below w.heap.size w w' :=
  (l1In_any x a b w).mono fun _ _ ⟨he, hw⟩ => ⟨he, hw ▸ Below.refl _ _⟩
theorem l1In_at {x a b : Int} {d : Bool} (h : decide (a ≤ x ∧ x ≤ b) = d) (w : World) : Calls Try.prog 59 #[.int .i64 x, .int .i64 a, .int .i64 b] w fun e w' => e = .returned (.bool d) ∧ Below w.heap.size w w' := by
  rw [← h]
  exact l1InB x a b w
theorem l4Perm_any (f : Nat → Int) (w : World) : Calls Try.prog 40 #[.agg (arr 6 f)] w fun e w' => e = .returned (.bool (pB f 6)) ∧ Below w.heap.size w w' := by
  have h1 : (w.alloc (.cells (arr 6 f) 22)).heap[w.heap.size]? = some (.cells (arr 6 f) 22 (0, 0))   := heap_new rfl
  have hbel : Below w.heap.size w (w.alloc (.cells (arr 6 f) 22)) := (Below.refl _ _).alloc (by simp) _
  go_enter Try.func40, Try.ntmps40
  go_wp2_with fail
  go_loopw [3] (fun i wr => ∃ n : Nat, n ≤ 6 ∧ i = .int .i64 n ∧ pB f n = true ∧ wr.heap[w.heap.size]? = some (.cells (arr 6 f) 22 (0, 0)) ∧ Below w.heap.size w wr) (fun i _ => 6 - (intOf i).toNat)
  case atStart => exact ⟨0, by omega, rfl, rfl, h1, hbel⟩
  case round =>
    clear h1 hbel
    obtain ⟨n, hn, rfl, hok, h1, hbel⟩ := hrel
    have HOK : Hid _ := hok
    clear hok
    by_cases hlt : n < 6
    · have hlt' : (n : Int) < 6 := by omega
      have hn0 : (0 : Int) ≤ n := by omega
      have hn6 : (n : Int) ≤ 6 := by omega
      cases hd : decide (0 ≤ f n ∧ f n ≤ 5) with
      | false =>
        obtain ⟨d, hdd⟩ : ∃ d, d = false := ⟨_, rfl⟩
        have HD : Hid (decide (0 ≤ f n ∧ f n ≤ 5) = d) := by show _ = d; rw [hd, hdd]
        obtain ⟨d2, hd2⟩ : ∃ d2, hsB f n (f n) = d2 := ⟨_, rfl⟩
        have HH : Hid _ := hd2
        have HS : Hid (pB f 6 = false) := pB_no (i := n) (by rw [pB, hd, Bool.false_and, Bool.and_false]) 6 (by omega)
        clear hd hd2
        go_wp2_with fail
        refine wp_region_held 13 (Cls w _) (by kernel_rfl) (by kernel_rfl) (Cls.one h1 hbel) ?_; simp only [List.take_succ_cons, List.take_zero, List.drop_succ_cons, List.drop_zero]
        repeat (first
          | (with_reducible refine wpQuiet_loadI rfl _ _ rfl _ _ rfl (fun _ h => h.r1) aggI undI (by omega) ?_)
          | ((with_reducible refine wpQuiet_call rfl 59 _ _ rfl (.bool d) ?_ ?_ ?_); (exact enters_of Try.func59 (by kernel_rfl) rfl); (intro w' h'; exact (l1In_at HD.out w').mono fun _ _ ⟨he, hb⟩ => ⟨he, h'.keep hb⟩))
          | ((with_reducible refine wpQuiet_call rfl 60 _ _ rfl (.bool d2) ?_ ?_ ?_); (exact enters_of Try.func60 (by kernel_rfl) rfl); (intro w' h'; exact (l1HasR_at HH.out (by omega) (by omega) w' h'.r1).mono fun _ _ ⟨he, hb⟩ => ⟨he, h'.keep hb⟩))
          | ((with_reducible refine wpQuiet_step (fun K hK => ?_)); go_simp; (first | (refine ⟨_, fun _ _ => rfl, hK _ ?_⟩) | (refine ⟨_, fun _ _ => ⟨rfl, rfl⟩, hK _ ?_⟩) | (refine hK _ ?_)); clear hK K))
        refine wpQuiet_nil ?_
        intro wt hCt
        replace h1 := hCt.r1
        replace hbel := hCt.2
        clear hCt
        try rw [hdd]
        go_wp2_with fail
        go_ret
        exact ⟨ret_bool HS.out.symm, hbel⟩
      | true =>
        obtain ⟨d, hdd⟩ : ∃ d, d = true := ⟨_, rfl⟩
        have HD : Hid (decide (0 ≤ f n ∧ f n ≤ 5) = d) := by show _ = d; rw [hd, hdd]
        cases hd2 : hsB f n (f n) with
        | true =>
          obtain ⟨d2, hdd2⟩ : ∃ d2, d2 = true := ⟨_, rfl⟩
          have HH : Hid (hsB f n (f n) = d2) := by show _ = d2; rw [hd2, hdd2]
          have HS : Hid (pB f 6 = false) := pB_no (i := n) (by rw [pB, hd2, Bool.not_true, Bool.and_false, Bool.and_false]) 6 (by omega)
          clear hd hd2
          go_wp2_with fail
          refine wp_region_held 13 (Cls w _) (by kernel_rfl) (by kernel_rfl) (Cls.one h1 hbel) ?_; simp only [List.take_succ_cons, List.take_zero, List.drop_succ_cons, List.drop_zero]
          repeat (first
            | (with_reducible refine wpQuiet_loadI rfl _ _ rfl _ _ rfl (fun _ h => h.r1) aggI undI (by omega) ?_)
            | ((with_reducible refine wpQuiet_call rfl 59 _ _ rfl (.bool d) ?_ ?_ ?_); (exact enters_of Try.func59 (by kernel_rfl) rfl); (intro w' h'; exact (l1In_at HD.out w').mono fun _ _ ⟨he, hb⟩ => ⟨he, h'.keep hb⟩))
            | ((with_reducible refine wpQuiet_call rfl 60 _ _ rfl (.bool d2) ?_ ?_ ?_); (exact enters_of Try.func60 (by kernel_rfl) rfl); (intro w' h'; exact (l1HasR_at HH.out (by omega) (by omega) w' h'.r1).mono fun _ _ ⟨he, hb⟩ => ⟨he, h'.keep hb⟩))
            | ((with_reducible refine wpQuiet_step (fun K hK => ?_)); go_simp; (first | (refine ⟨_, fun _ _ => rfl, hK _ ?_⟩) | (refine ⟨_, fun _ _ => ⟨rfl, rfl⟩, hK _ ?_⟩) | (refine hK _ ?_)); clear hK K))
          refine wpQuiet_nil ?_
          intro wt hCt
          replace h1 := hCt.r1
          replace hbel := hCt.2
          clear hCt
          try rw [hdd]
          go_wp2_with fail
          go_ret
          exact ⟨ret_bool HS.out.symm, hbel⟩
        | false =>
          obtain ⟨d2, hdd2⟩ : ∃ d2, d2 = false := ⟨_, rfl⟩
          have HH : Hid (hsB f n (f n) = d2) := by show _ = d2; rw [hd2, hdd2]
          have HS : Hid (pB f (n + 1) = true) := by show pB f (n + 1) = true; rw [pB, HOK.out, hd, hd2]; rfl
          clear hd hd2
          go_wp2_with fail
          refine wp_region_held 13 (Cls w _) (by kernel_rfl) (by kernel_rfl) (Cls.one h1 hbel) ?_; simp only [List.take_succ_cons, List.take_zero, List.drop_succ_cons, List.drop_zero]
          repeat (first
            | (with_reducible refine wpQuiet_loadI rfl _ _ rfl _ _ rfl (fun _ h => h.r1) aggI undI (by omega) ?_)
            | ((with_reducible refine wpQuiet_call rfl 59 _ _ rfl (.bool d) ?_ ?_ ?_); (exact enters_of Try.func59 (by kernel_rfl) rfl); (intro w' h'; exact (l1In_at HD.out w').mono fun _ _ ⟨he, hb⟩ => ⟨he, h'.keep hb⟩))
            | ((with_reducible refine wpQuiet_call rfl 60 _ _ rfl (.bool d2) ?_ ?_ ?_); (exact enters_of Try.func60 (by kernel_rfl) rfl); (intro w' h'; exact (l1HasR_at HH.out (by omega) (by omega) w' h'.r1).mono fun _ _ ⟨he, hb⟩ => ⟨he, h'.keep hb⟩))
            | ((with_reducible refine wpQuiet_step (fun K hK => ?_)); go_simp; (first | (refine ⟨_, fun _ _ => rfl, hK _ ?_⟩) | (refine ⟨_, fun _ _ => ⟨rfl, rfl⟩, hK _ ?_⟩) | (refine hK _ ?_)); clear hK K))
          refine wpQuiet_nil ?_
          intro wt hCt
          replace h1 := hCt.r1
          replace hbel := hCt.2
          clear hCt
          try rw [hdd]
          go_wp2_with fail
          go_roundw
          case rel => exact ⟨n + 1, by omega, by go_num, HS.out, h1, hbel⟩
          case measure => simp [intOf]; omega
    · obtain rfl : n = 6 := by omega
      go_wp2_with fail
      go_ret
      exact ⟨ret_bool HOK.out.symm, hbel⟩
end Go.Proofs.Ytljajgaicdffkaa
