/- The contracts of the reference's test on racks. -/
import Derived.Test.YtlbgmkengkgnfaaDoorMem
import Derived.Test.YtlbgmkengkgnfaaDoorConv
import Derived.Test.YtlbgmkengkgnfaaDoorPure
namespace Go.Proofs.YtlbgmkengkgnfaaDoor
set_option linter.unusedSimpArgs false
set_option linter.unusedVariables false
set_option maxRecDepth 20000
open Go.RowKit
theorem l1In_any (x a b : Int) (w : World) : Calls Tryd.prog 15 #[.int .i64 x, .int .i64 a, .int .i64 b] w fun e w' => e = .returned (.bool (decide (a ≤ x ∧ x ≤ b))) ∧ w = w' := by
  by_cases h1 : a ≤ x <;> by_cases h2 : x ≤ b <;> (go_enter Tryd.func15, Tryd.ntmps15; go_wp2; go_ret; simp [h1, h2])

theorem l2Rack_any (f : Nat → Int) (w : World) : Calls Tryd.prog 11 #[.agg (arr 24 f)] w fun e w' => e = .returned (.bool (rackB f)) ∧ Below w.heap.size w w' := by
  have h1 : (w.alloc (.cells (arr 24 f) 25)).heap[w.heap.size]? = some (.cells (arr 24 f) 25 (0, 0)) := heap_new rfl
  have hbel : Below w.heap.size w (w.alloc (.cells (arr 24 f) 25)) := (Below.refl _ _).alloc (by simp) _
  go_enter Tryd.func11, Tryd.ntmps11
  go_wp2
  go_loop [3] (fun i => ∃ n : Nat, n ≤ 6 ∧ i = .int .i64 n ∧ ∀ n', n' < n → ∀ k, k < 4 → okP f n' k) (fun i => 6 - (intOf i).toNat)
  case atStart => exact ⟨0, by omega, rfl, by intro n' h; omega⟩
  case round =>
    obtain ⟨n, hn, rfl, hok⟩ := hrel
    have HOK : Hid _ := hok
    clear hok
    by_cases hlt : n < 6
    · go_wp2
      go_loop [4] (fun k => ∃ m : Nat, m ≤ 4 ∧ k = .int .i64 m ∧ ∀ k', k' < m → okP f n k') (fun k => 4 - (intOf k).toNat)
      case atStart => exact ⟨0, by omega, rfl, by intro n' h; omega⟩
      case round =>
        obtain ⟨m, hm, rfl, hok2⟩ := hrel
        have HOK2 : Hid _ := hok2
        clear hok2
        by_cases hlt2 : m < 4
        · have hc := rowcell h1 (i := n * 4 + m) (by omega)
          have hc2 := rowcell h1 (i := n * 4 + (m - 1)) (by omega)
          go_wp2_with (go_at_call 15; refine (l1In_any _ _ _ _).mono ?_; rintro e w' ⟨rfl, rfl⟩)
          all_goals first
            | (go_ret
               refine ⟨ret_bool (rackB_false hlt hlt2 ?_).symm, hbel⟩
               intro ⟨ha, hb⟩
               first
                 | exact absurd ha (by assumption)
                 | exact hb (by assumption) (by assumption) (by simpa using ‹(f (n * 4 + (m - 1)) == 0) = true›))
            | (go_roundw
               case rel =>
                 refine ⟨m + 1, by omega, by go_num, fun k' hk' => ?_⟩
                 by_cases e : k' = m
                 · subst e
                   refine ⟨by assumption, fun h0 h3 => ?_⟩
                   first
                     | exact absurd h0 (by assumption)
                     | exact absurd h3 (by assumption)
                     | (have e2 : (f (n * 4 + (k' - 1)) == 0) = false := by assumption
                        simpa using e2)
                 · exact HOK2.out k' (by omega)
               case measure => simp [intOf]; omega)
        · go_wp2
          go_roundw
          case rel => exact ⟨n + 1, by omega, by go_num, fun n' h k hk => by
            by_cases e : n' = n
            · subst e; exact HOK2.out k (by omega)
            · exact HOK.out n' (by omega) k hk⟩
          case measure => simp [intOf]; omega
    · go_wp2
      go_ret
      exact ⟨ret_bool (rackB_true fun i hi k hk => HOK.out i (by omega) k hk).symm, hbel⟩
end Go.Proofs.YtlbgmkengkgnfaaDoor
