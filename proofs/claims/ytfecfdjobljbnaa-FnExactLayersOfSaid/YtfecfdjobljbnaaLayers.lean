/- LayersOf: the program's and the reference's, and the law. -/
import Derived.Test.YtfecfdjobljbnaaRackD
namespace Go.Proofs.Ytfecfdjobljbnaa
open Go.RowKit
theorem size24l : (Try.prog.info? 30).map (·.size) = some 24 := by kernel_rfl
theorem agg24l : aggB Try.prog 30 = true := by kernel_rfl
def layersOf (f : Nat → Int) (i : Int) : Int × Bool := if rackB f = true ∧ 0 ≤ i ∧ i ≤ 5 then (nlay (tub f i.toNat), true) else (0, false)
theorem layersOf_bad {f : Nat → Int} {i : Int} (h : ¬ (rackB f = true ∧ 0 ≤ i ∧ i ≤ 5)) : layersOf f i = (0, false) := if_neg h
theorem layersOf_ok {f : Nat → Int} {n : Nat} (h : rackB f = true) (hn : n ≤ 5) : layersOf f n = ((nlay (tub f n) : Int), true) := by
  unfold layersOf; rw [if_pos ⟨h, by omega, by omega⟩]; rfl
theorem tube_of_rack {f : Nat → Int} (h : rackB f = true) {n : Nat} (hn : n ≤ 5) : tubeB (tub f n) = true := (rackB_iff f).1 h n (by omega)

theorem specLayersOf_any (f : Nat → Int) (i : Int) (w : World) : Calls Try.prog 24 #[.agg (arr 24 f), .int .i64 i] w fun e w' => e = .returned (.tuple #[.int .i64 (layersOf f i).1, .bool (layersOf f i).2]) ∧ Below w.heap.size w w' := by
  have h1 : (w.alloc (.cells (arr 24 f) 32)).heap[w.heap.size]? = some (.cells (arr 24 f) 32 (0, 0)) := heap_new rfl
  have hbel : Below w.heap.size w (w.alloc (.cells (arr 24 f) 32)) := (Below.refl _ _).alloc (by simp) _
  cases hf : rackB f with
  | false =>
    rw [layersOf_bad (by simp [hf])]
    go_enter Try.func24, Try.ntmps24
    go_wp2_with first
      | (with_reducible refine wpList_loadW rfl _ _ rfl _ rfl h1 agg24r size24r ?_)
      | (go_at_call 28; (with_reducible refine (l2Rack_any _ _).mono ?_); rw [hf]; rintro e w1 ⟨rfl, hb1⟩)
    go_ret2
    exact ⟨rfl, hbel.trans (hb1.mono hbel.size)⟩
  | true =>
    by_cases hi : 0 ≤ i ∧ i ≤ 5
    · obtain ⟨n, rfl⟩ : ∃ n : Nat, i = n := ⟨i.toNat, by omega⟩
      have hn : n ≤ 5 := by omega
      have ht := tube_of_rack hf hn
      have hi1 : (0 : Int) ≤ (n : Int) := by omega
      have hi2 : (n : Int) ≤ 5 := by omega
      have hi3 : (n : Int) < 6 := by omega
      rw [layersOf_ok hf hn]
      clear hi
      go_enter Try.func24, Try.ntmps24
      go_wp2_with first
        | (with_reducible refine wpList_loadW rfl _ _ rfl _ rfl h1 agg24r size24r ?_)
        | (go_at_call 28; (with_reducible refine (l2Rack_any _ _).mono ?_); rw [hf]; rintro e w1 ⟨rfl, hb1⟩; have h2 := row_keep hb1 h1)
        | (go_at_call 42; (with_reducible refine (l2Place_any _ _).mono ?_); rintro e w1 ⟨rfl, rfl⟩)
        | (with_reducible refine wpList_loadA rfl _ _ rfl _ _ rfl h2 4 agg4 size4 (by omega) ?_)
        | (go_at_call 43; (with_reducible refine (l2Many_ok (tub f n) ht _).mono ?_); rintro e w2 ⟨rfl, hb2⟩)
      go_ret2
      exact ⟨rfl, hbel.trans ((hb1.trans (hb2.mono hb1.size)).mono hbel.size)⟩
    · rw [layersOf_bad (by simp [hi])]
      have hbad : (decide (0 ≤ i) && decide (i ≤ 5)) = false := by simpa using hi
      clear hi
      go_enter Try.func24, Try.ntmps24
      go_wp2_with first
        | (with_reducible refine wpList_loadW rfl _ _ rfl _ rfl h1 agg24r size24r ?_)
        | (go_at_call 28; (with_reducible refine (l2Rack_any _ _).mono ?_); rw [hf]; rintro e w1 ⟨rfl, hb1⟩; have h2 := row_keep hb1 h1)
        | (go_at_call 42; (with_reducible refine (l2Place_any _ _).mono ?_); rw [hbad]; rintro e w1 ⟨rfl, rfl⟩)
      go_ret2
      exact ⟨rfl, hbel.trans (hb1.mono hbel.size)⟩

theorem implLayersOf_any (f : Nat → Int) (i : Int) (w : World) : Calls Try.prog 25 #[.agg (arr 24 f), .int .i64 i] w fun e w' => e = .returned (.tuple #[.int .i64 (layersOf f i).1, .bool (layersOf f i).2]) ∧ Below w.heap.size w w' := by
  have h1 : (w.alloc (.cells (arr 24 f) 32)).heap[w.heap.size]? = some (.cells (arr 24 f) 32 (0, 0)) := heap_new rfl
  have hbel : Below w.heap.size w (w.alloc (.cells (arr 24 f) 32)) := (Below.refl _ _).alloc (by simp) _
  cases hf : rackB f with
  | false =>
    rw [layersOf_bad (by simp [hf])]
    go_enter Try.func25, Try.ntmps25
    go_wp2_with first
      | (with_reducible refine wpList_loadW rfl _ _ rfl _ rfl h1 agg24r size24r ?_)
      | (go_at_call 44; (with_reducible refine (isAt_bad f hf _ _).mono ?_); rintro e w1 ⟨rfl, hb1⟩)
    go_ret2
    exact ⟨rfl, (hbel.alloc (by simp) _).trans (hb1.mono (by simp; omega))⟩
  | true =>
    have h2 : ((w.alloc (.cells (arr 24 f) 32)).alloc (.cells #[.int .i64 i] 3)).heap[w.heap.size + 1]? = some (.cells #[.int .i64 i] 3 (0, 0)) := heap_new (by simp)
    have hbel2 : Below w.heap.size w ((w.alloc (.cells (arr 24 f) 32)).alloc (.cells #[.int .i64 i] 3)) := hbel.alloc (by simp) _
    by_cases hi : 0 ≤ i ∧ i ≤ 5
    · have HG : Hid _ := show (decide (0 ≤ i) && decide (i ≤ 5)) = true by simpa using hi
      obtain ⟨n, rfl⟩ : ∃ n : Nat, i = n := ⟨i.toNat, by omega⟩
      have hn : n ≤ 5 := by omega
      have hi1 : (0 : Int) ≤ (n : Int) := by omega
      have hi3 : (n : Int) < 6 := by omega
      rw [layersOf_ok hf hn]
      clear hi
      have h1' := row_alloc (x := .cells #[.int .i64 n] 3) h1
      go_enter Try.func25, Try.ntmps25
      go_wp2_with first
        | (with_reducible refine wpList_loadW rfl _ _ rfl _ rfl h1 agg24r size24r ?_)
        | (go_at_call 44; (with_reducible refine (isAt_one f hf _ _ h2).mono ?_); rw [HG.out]; rintro e w1 ⟨rfl, hb1⟩; have h3 := row_keep hb1 h1')
        | (with_reducible refine wpList_loadA rfl _ _ rfl _ _ rfl h3 4 agg4 size4 (by omega) ?_)
        | (go_at_call 45; (with_reducible refine (layers_any _ _).mono ?_); rintro e w2 ⟨rfl, hb2⟩)
      go_ret2
      exact ⟨rfl, hbel2.trans ((hb1.trans (hb2.mono hb1.size)).mono hbel2.size)⟩
    · have HG : Hid _ := show (decide (0 ≤ i) && decide (i ≤ 5)) = false by simpa using hi
      rw [layersOf_bad (by simp [hi])]
      clear hi
      go_enter Try.func25, Try.ntmps25
      go_wp2_with first
        | (with_reducible refine wpList_loadW rfl _ _ rfl _ rfl h1 agg24r size24r ?_)
        | (go_at_call 44; (with_reducible refine (isAt_one f hf _ _ h2).mono ?_); rw [HG.out]; rintro e w1 ⟨rfl, hb1⟩)
      go_ret2
      exact ⟨rfl, hbel2.trans (hb1.mono hbel2.size)⟩

theorem FnExactLayersOf_walk (f : Nat → Int) (_ : ∀ j, I64 (f j)) (i : Int) (_ : I64 i) (w : World) : Calls Try.prog 9 #[.agg (arr 24 f), .int .i64 i] w fun e w' => e = .returned (.bool true) ∧ Below w.heap.size w w' := by
  have h1 : (w.alloc (.cells (arr 24 f) 30)).heap[w.heap.size]? = some (.cells (arr 24 f) 30 (0, 0)) := heap_new rfl
  have hbel : Below w.heap.size w (w.alloc (.cells (arr 24 f) 30)) := (Below.refl _ _).alloc (by simp) _
  go_enter Try.func9, Try.ntmps9
  go_wp2_with first
    | (with_reducible refine wpList_loadW rfl _ _ rfl _ rfl h1 agg24l size24l ?_)
    | (go_at_call 15; (with_reducible refine (toRack_any _ _).mono ?_); rintro e w1 ⟨rfl, hb1⟩; replace hbel := hbel.trans (hb1.mono hbel.size); replace h1 := row_keep hb1 h1; clear hb1)
    | (go_at_call 24; (with_reducible refine (specLayersOf_any _ _ _).mono ?_); rintro e w1 ⟨rfl, hb1⟩; replace hbel := hbel.trans (hb1.mono hbel.size); replace h1 := row_keep hb1 h1; clear hb1)
    | (go_at_call 25; (with_reducible refine (implLayersOf_any _ _ _).mono ?_); rintro e w1 ⟨rfl, hb1⟩; replace hbel := hbel.trans (hb1.mono hbel.size); replace h1 := row_keep hb1 h1; clear hb1)
  go_ret
  exact ⟨rfl, hbel⟩
theorem specIsRack_any (f : Nat → Int) (w : World) : Calls Try.prog 14 #[.agg (arr 24 f)] w fun e w' => e = .returned (.bool (rackB f)) ∧ Below w.heap.size w w' := by
  have h1 : (w.alloc (.cells (arr 24 f) 32)).heap[w.heap.size]? = some (.cells (arr 24 f) 32 (0, 0)) := heap_new rfl
  have hbel : Below w.heap.size w (w.alloc (.cells (arr 24 f) 32)) := (Below.refl _ _).alloc (by simp) _
  go_enter Try.func14, Try.ntmps14
  go_wp2_with first
    | (with_reducible refine wpList_loadW rfl _ _ rfl _ rfl h1 agg24r size24r ?_)
    | (go_at_call 28; (with_reducible refine (l2Rack_any _ _).mono ?_); rintro e w1 ⟨rfl, hb1⟩; replace hbel := hbel.trans (hb1.mono hbel.size); replace h1 := row_keep hb1 h1; clear hb1)
  go_ret
  exact ⟨rfl, hbel⟩
theorem FnExactIsRack_walk (f : Nat → Int) (_ : ∀ j, I64 (f j)) (w : World) : Calls Try.prog 6 #[.agg (arr 24 f)] w fun e w' => e = .returned (.bool true) ∧ Below w.heap.size w w' := by
  have h1 : (w.alloc (.cells (arr 24 f) 30)).heap[w.heap.size]? = some (.cells (arr 24 f) 30 (0, 0)) := heap_new rfl
  have hbel : Below w.heap.size w (w.alloc (.cells (arr 24 f) 30)) := (Below.refl _ _).alloc (by simp) _
  go_enter Try.func6, Try.ntmps6
  go_wp2_with first
    | (with_reducible refine wpList_loadW rfl _ _ rfl _ rfl h1 agg24l size24l ?_)
    | (go_at_call 15; (with_reducible refine (toRack_any _ _).mono ?_); rintro e w1 ⟨rfl, hb1⟩; replace hbel := hbel.trans (hb1.mono hbel.size); replace h1 := row_keep hb1 h1; clear hb1)
    | (go_at_call 14; (with_reducible refine (specIsRack_any _ _).mono ?_); rintro e w1 ⟨rfl, hb1⟩; replace hbel := hbel.trans (hb1.mono hbel.size); replace h1 := row_keep hb1 h1; clear hb1)
    | (go_at_call 16; (with_reducible refine (IsRack_any _ _).mono ?_); rintro e w1 ⟨rfl, hb1⟩; replace hbel := hbel.trans (hb1.mono hbel.size); replace h1 := row_keep hb1 h1; clear hb1)
  go_ret
  exact ⟨rfl, hbel⟩
end Go.Proofs.Ytfecfdjobljbnaa
