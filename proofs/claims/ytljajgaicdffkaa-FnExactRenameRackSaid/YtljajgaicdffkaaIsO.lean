/- isOrder and isRenaming: sorted, they are 0 to 5. -/
import Derived.Test.YtljajgaicdffkaaColl
import Derived.Test.YtljajgaicdffkaaPermP
import Derived.Test.YtljajgaicdffkaaNames
import Derived.Test.YtljajgaicdffkaaA6
namespace Go.Proofs.Ytljajgaicdffkaa
set_option linter.unusedSimpArgs false
set_option linter.unusedVariables false
set_option maxRecDepth 20000
open Go.RowKit Go.Shelf
theorem zI_ls6 {p : Nat → Int} : ∀ j, j < 6 → zI (ls6 p) j = p j := by
  intro j hj
  have hc : j = 0 ∨ j = 1 ∨ j = 2 ∨ j = 3 ∨ j = 4 ∨ j = 5 := by omega
  rcases hc with rfl | rfl | rfl | rfl | rfl | rfl <;> rfl
theorem appendSeq_any (Bs : Nat) (sv : Value) (xs : List Int) (hlen : xs.length ≤ 1000) (w : World) (hBs : Bs < w.heap.size) (hc0 : w.cell? ⟨Bs, 0, none⟩ = some sv) (hL : it_Ints w.heap.size w sv xs) :
    Calls Try.prog 91 #[.slice none 0 0, .func (.func 78) #[] #[.pointer (some ⟨Bs, 0, none⟩)]] w fun e W' => ∃ v, e = .returned v ∧ Sl W' w.heap.size 3 1 v xs.length (zI xs) ∧ Below w.heap.size w W' :=
  callsIn_wide.1 (it_appendSeq_in Fence.wide 3 trivial trivial rfl (Nat.le_refl _) Bs sv xs hlen w hBs hc0 hL)
theorem values_any (a : Option Addr) (len cap : Nat) (w : World) :
    Calls Try.prog 63 #[.slice a len cap] w fun e w' => e = .returned (.func (.func 78) #[] #[.pointer (some ⟨w.heap.size, 0, none⟩)]) ∧ w' = w.alloc (.cells #[.slice a len cap] 58) :=
  callsIn_wide.1 (it_values_in Fence.wide 1 trivial rfl a len cap w)
theorem collect_any (Bs : Nat) (sv : Value) (xs : List Int) (hlen : xs.length ≤ 1000) (w : World) (hBs : Bs < w.heap.size) (hc0 : w.cell? ⟨Bs, 0, none⟩ = some sv) (hL : it_Ints w.heap.size w sv xs) :
    Calls Try.prog 76 #[.func (.func 78) #[] #[.pointer (some ⟨Bs, 0, none⟩)]] w fun e W' => ∃ v, e = .returned v ∧ Sl W' w.heap.size 3 1 v xs.length (zI xs) ∧ Below w.heap.size w W' := by
  go_enter Try.func76, Try.ntmps76
  go_wp2_with first
    | (go_at_call 91; (with_reducible refine (appendSeq_any Bs sv xs hlen _ hBs hc0 hL).mono ?_); rintro e w1 ⟨v, rfl, hS, hb⟩)
  go_ret
  exact ⟨v, rfl, hS, hb⟩
theorem sorted_any {Bs B cap : Nat} {p : Nat → Int} {T : TypeId} {fr : Nat × Nat} (w : World) (hBs : Bs < w.heap.size) (hc0 : w.cell? ⟨Bs, 0, none⟩ = some (.slice (some ⟨B, 0, none⟩) 6 cap)) (hB : w.heap[B]? = some (.cells (arr 6 p) T fr)) :
    Calls Try.prog 62 #[.func (.func 78) #[] #[.pointer (some ⟨Bs, 0, none⟩)]] w fun e W' => ∃ g cap N F, e = .returned (.slice (some ⟨g, 0, none⟩) 6 cap) ∧ IsS p F ∧ 6 ≤ N ∧ W'.heap[g]? = some (.cells (arr N F) 3 (0, 0)) ∧ Below w.heap.size w W' := by
  obtain ⟨o2, ho2⟩ : ∃ o, w.heap[Bs]? = some o := ⟨_, Array.getElem?_eq_getElem hBs⟩
  have hL : it_Ints w.heap.size w (.slice (some ⟨B, 0, none⟩) 6 cap) (ls6 p) := .inr ⟨B, 0, cap, rfl, row_lt hB, fun j hj => by
    have hj6 : j < 6 := hj
    rw [Nat.zero_add]
    exact (rowcell hB hj6).trans (congrArg (fun x => some (Value.int .i64 x)) (zI_ls6 j hj6).symm)⟩
  have hcol : ∀ wI : World, Bs < wI.heap.size → wI.cell? ⟨Bs, 0, none⟩ = some (.slice (some ⟨B, 0, none⟩) 6 cap) → it_Ints wI.heap.size wI (.slice (some ⟨B, 0, none⟩) 6 cap) (ls6 p) →
      Calls Try.prog 76 #[.func (.func 78) #[] #[.pointer (some ⟨Bs, 0, none⟩)]] wI fun e W' => ∃ v, e = .returned v ∧ Sl W' wI.heap.size 3 1 v 6 (zI (ls6 p)) ∧ Below wI.heap.size wI W' :=
    fun wI a b c => collect_any Bs (.slice (some ⟨B, 0, none⟩) 6 cap) (ls6 p) (show 6 ≤ 1000 by decide) wI a b c
  go_enter Try.func62, Try.ntmps62
  go_wp2_with first
    | (go_at_call 76; go_loud ((with_reducible refine (hcol _ hBs hc0 hL).mono ?_); rintro e w1 ⟨v, rfl, hS, hb⟩; rcases hS with ⟨_, hz⟩ | ⟨g, cap2, F0, rfl, hge, hg, hle, hcm, hF⟩; (exact absurd hz (show ¬ 6 = 0 by decide)); have hle : 6 ≤ cap2 := hle; have hF : ∀ j, j < 6 → F0 j = zI (ls6 p) j := fun j hj => hF j hj))
    | (go_at_call 77; (with_reducible refine (sortI_any (by omega) w _ hb hge hg (row_keep hb ho2) (by omega)).mono ?_); rintro e w2 ⟨⟨u, rfl⟩, F, hFs, g1, g2, g3⟩)
  go_ret
  refine ⟨g, cap2, cap2 * 1, F, rfl, ⟨hFs.1.trans (by rw [show ls6 F0 = ls6 p by unfold ls6; rw [hF 0 (by omega), hF 1 (by omega), hF 2 (by omega), hF 3 (by omega), hF 4 (by omega), hF 5 (by omega), zI_ls6 0 (by omega), zI_ls6 1 (by omega), zI_ls6 2 (by omega), zI_ls6 3 (by omega), zI_ls6 4 (by omega), zI_ls6 5 (by omega)]]), hFs.2⟩, by omega, g1, g3⟩
theorem arr6id : arr 6 (fun j => (j : Int)) = #[.int .i64 0, .int .i64 1, .int .i64 2, .int .i64 3, .int .i64 4, .int .i64 5] := by
  refine Array.ext_getElem? fun j => ?_
  rw [arr_get]
  by_cases h : j < 6
  · rw [if_pos h]
    have hc : j = 0 ∨ j = 1 ∨ j = 2 ∨ j = 3 ∨ j = 4 ∨ j = 5 := by omega
    rcases hc with rfl | rfl | rfl | rfl | rfl | rfl <;> rfl
  · rw [if_neg h]; simp; omega
theorem perm_dec {n : Nat} {p F g : Nat → Int} (hn : n = 6) (hg : ∀ j : Nat, j < 6 → g j = (j : Int)) (h : IsS p F) : decide (∀ j, j < n → F j = g j) = pB p 6 := by
  subst hn
  rw [Bool.eq_iff_iff, decide_eq_true_iff]
  rw [← perm_iff h]
  exact ⟨fun h j hj => by rw [h j hj, hg j hj], fun h j hj => by rw [h j hj, hg j hj]⟩
theorem isOrder_any (p : Nat → Int) (w : World) : Calls Try.prog 41 #[.agg (arr 6 p)] w fun e w' => e = .returned (.bool (pB p 6)) ∧ Below w.heap.size w w' := by
  have h1 : (w.alloc (.cells (arr 6 p) 22)).heap[w.heap.size]? = some (.cells (arr 6 p) 22 (0, 0))   := heap_new rfl
  have hbel : Below w.heap.size w (w.alloc (.cells (arr 6 p) 22)) := (Below.refl _ _).alloc (by simp) _
  have hs := sorted_any (Bs := w.heap.size + 1) (B := w.heap.size) (cap := 6) (p := p) (T := 22) (fr := (0, 0)) ((w.alloc (.cells (arr 6 p) 22)).alloc (.cells #[.slice (some ⟨w.heap.size, 0, none⟩) 6 6] 58)) (by simp) (by rw [cell_of_row _ (w.heap.size + 1) 0 #[.slice (some ⟨w.heap.size, 0, none⟩) 6 6] 58 (0, 0) (heap_new (by simp))]; rfl) (row_alloc h1)
  go_enter Try.func41, Try.ntmps41
  go_wp2_with first
    | (go_at_call 63; (with_reducible refine (values_any _ _ _ _).mono ?_); rintro e w1 ⟨rfl, rfl⟩)
    | (go_at_call 62; (with_reducible refine hs.mono ?_); rintro e w1 ⟨g, cap, N, F, rfl, hFs, hN, hg, hb⟩; replace hbel := (hbel.alloc hbel.size _).trans (hb.mono (by simp <;> omega)); clear hs hb h1)
  have h6 : (w1.alloc (.cells #[.int .i64 0, .int .i64 1, .int .i64 2, .int .i64 3, .int .i64 4, .int .i64 5] 3)).heap[w1.heap.size]? = some (.cells (arr 6 fun j => (j : Int)) 3 (0, 0)) := by rw [arr6id]; exact heap_new rfl
  have he := eqS_any (n := 6) (c1 := cap) (c2 := 6) hN (Nat.le_refl 6) (by decide) _ (row_alloc hg) h6
  rw [perm_dec rfl (fun _ _ => rfl) hFs] at he
  replace hbel := hbel.alloc hbel.size (.cells #[.int .i64 0, .int .i64 1, .int .i64 2, .int .i64 3, .int .i64 4, .int .i64 5] 3)
  clear hFs hN hg h6
  go_wp2_with first
    | (go_at_call 61; (with_reducible refine he.mono ?_); rintro e w2 ⟨rfl, hb⟩; replace hbel := hbel.trans (hb.mono hbel.size))
  go_ret
  exact ⟨rfl, hbel⟩
theorem IsOrder_spec (p : Nat → Int) (w : World) : Calls Try.prog 14 #[.agg (arr 6 p)] w fun e w' => e = .returned (.bool (pB p 6)) ∧ Below w.heap.size w w' := by
  have h1 : (w.alloc (.cells (arr 6 p) 22)).heap[w.heap.size]? = some (.cells (arr 6 p) 22 (0, 0))   := heap_new rfl
  have hbel : Below w.heap.size w (w.alloc (.cells (arr 6 p) 22)) := (Below.refl _ _).alloc (by simp) _
  go_enter Try.func14, Try.ntmps14
  go_wp2_with first
    | (with_reducible refine wpList_loadW rfl _ _ rfl _ rfl h1 aggO sizeO ?_)
    | (go_at_call 40; (with_reducible refine (l4Perm_any p _).mono ?_); rintro e w1 ⟨rfl, hb1⟩; replace hbel := hbel.trans (hb1.mono hbel.size); replace h1 := row_keep hb1 h1; clear hb1)
  go_ret
  exact ⟨rfl, hbel⟩
theorem IsOrder_impl (p : Nat → Int) (w : World) : Calls Try.prog 16 #[.agg (arr 6 p)] w fun e w' => e = .returned (.bool (pB p 6)) ∧ Below w.heap.size w w' := by
  have h1 : (w.alloc (.cells (arr 6 p) 22)).heap[w.heap.size]? = some (.cells (arr 6 p) 22 (0, 0))   := heap_new rfl
  have hbel : Below w.heap.size w (w.alloc (.cells (arr 6 p) 22)) := (Below.refl _ _).alloc (by simp) _
  go_enter Try.func16, Try.ntmps16
  go_wp2_with first
    | (with_reducible refine wpList_loadW rfl _ _ rfl _ rfl h1 aggO sizeO ?_)
    | (go_at_call 41; (with_reducible refine (isOrder_any p _).mono ?_); rintro e w1 ⟨rfl, hb1⟩; replace hbel := hbel.trans (hb1.mono hbel.size); replace h1 := row_keep hb1 h1; clear hb1)
  go_ret
  exact ⟨rfl, hbel⟩
set_option linter.unusedVariables false in
theorem FnExactIsOrder_walk (x0 : Nat → Int) (hx0 : ∀ j, I64 (x0 j)) (w : World) : Calls Try.prog 3 #[.agg (arr 6 x0)] w fun e w' => e = .returned (.bool true) ∧ Below w.heap.size w w' := by
  have hr0 : (w.alloc (.cells (arr 6 x0) 22)).heap[w.heap.size]? = some (.cells (arr 6 x0) 22 (0, 0)) := by rw [heap_new (by simp)]
  have hbel : Below w.heap.size w (w.alloc (.cells (arr 6 x0) 22)) := ((Below.refl _ _).alloc (by simp) _)
  go_enter Try.func3, Try.ntmps3
  go_wp2_with first
    | (with_reducible refine wpList_loadW rfl _ _ rfl _ rfl hr0 agg6 size6 ?_)
    | (go_at_call 15; (with_reducible refine (toIntA6_any _ _).mono ?_); (rintro e w1 ⟨rfl, hb1⟩; replace hbel := hbel.trans (hb1.mono hbel.size); replace hr0 := row_keep hb1 hr0; clear hb1))
    | (go_at_call 14; (with_reducible refine (IsOrder_spec _ _).mono ?_); (rintro e w1 ⟨rfl, hb1⟩; replace hbel := hbel.trans (hb1.mono hbel.size); replace hr0 := row_keep hb1 hr0; clear hb1))
    | (go_at_call 16; (with_reducible refine (IsOrder_impl _ _).mono ?_); (rintro e w1 ⟨rfl, hb1⟩; replace hbel := hbel.trans (hb1.mono hbel.size); replace hr0 := row_keep hb1 hr0; clear hb1))
  go_ret
  exact ⟨rfl, hbel⟩
theorem isRenaming_any (f : Nat → Int) (w : World) : Calls Try.prog 43 #[.agg (arr 6 f)] w fun e w' => e = .returned (.bool ((f 0 == 0) && pB f 6)) ∧ Below w.heap.size w w' := by
  have h1 : (w.alloc (.cells (arr 6 f) 22)).heap[w.heap.size]? = some (.cells (arr 6 f) 22 (0, 0))   := heap_new rfl
  have hbel : Below w.heap.size w (w.alloc (.cells (arr 6 f) 22)) := (Below.refl _ _).alloc (by simp) _
  cases hz : f 0 == 0 with
  | true =>
    rw [Bool.true_and]
    have hs := sorted_any (Bs := w.heap.size + 1) (B := w.heap.size) (cap := 6) (p := f) (T := 22) (fr := (0, 0)) ((w.alloc (.cells (arr 6 f) 22)).alloc (.cells #[.slice (some ⟨w.heap.size, 0, none⟩) 6 6] 58)) (by simp) (by rw [cell_of_row _ (w.heap.size + 1) 0 #[.slice (some ⟨w.heap.size, 0, none⟩) 6 6] 58 (0, 0) (heap_new (by simp))]; rfl) (row_alloc h1)
    go_enter Try.func43, Try.ntmps43
    go_wp2_with first
      | (go_at_call 63; (with_reducible refine (values_any _ _ _ _).mono ?_); rintro e w1 ⟨rfl, rfl⟩)
      | (go_at_call 62; (with_reducible refine hs.mono ?_); rintro e w1 ⟨g, cap, N, F, rfl, hFs, hN, hg, hb⟩; replace hbel := (hbel.alloc hbel.size _).trans (hb.mono (by simp <;> omega)); clear hs hb h1)
      | (with_reducible refine wpList_loadI rfl _ _ rfl _ _ rfl h1 aggI undI (by omega) ?_)
    have h6 : (w1.alloc (.cells #[.int .i64 0, .int .i64 1, .int .i64 2, .int .i64 3, .int .i64 4, .int .i64 5] 3)).heap[w1.heap.size]? = some (.cells (arr 6 fun j => (j : Int)) 3 (0, 0)) := by rw [arr6id]; exact heap_new rfl
    have he := eqS_any (n := 6) (c1 := cap) (c2 := 6) hN (Nat.le_refl 6) (by decide) _ (row_alloc hg) h6
    rw [perm_dec rfl (fun _ _ => rfl) hFs] at he
    replace hbel := hbel.alloc hbel.size (.cells #[.int .i64 0, .int .i64 1, .int .i64 2, .int .i64 3, .int .i64 4, .int .i64 5] 3)
    clear hFs hN hg h6
    go_wp2_with first
      | (go_at_call 61; (with_reducible refine he.mono ?_); rintro e w2 ⟨rfl, hb⟩; replace hbel := hbel.trans (hb.mono hbel.size))
    go_ret
    exact ⟨rfl, hbel⟩
  | false =>
    rw [Bool.false_and]
    go_enter Try.func43, Try.ntmps43
    go_wp2_with first
      | (with_reducible refine wpList_loadI rfl _ _ rfl _ _ rfl h1 aggI undI (by omega) ?_)
    go_ret
    exact ⟨rfl, hbel⟩
theorem IsRenaming_spec (p : Nat → Int) (w : World) : Calls Try.prog 17 #[.agg (arr 6 p)] w fun e w' => e = .returned (.bool ((p 0 == 0) && pB p 6)) ∧ Below w.heap.size w w' := by
  have h1 : (w.alloc (.cells (arr 6 p) 22)).heap[w.heap.size]? = some (.cells (arr 6 p) 22 (0, 0))   := heap_new rfl
  have hbel : Below w.heap.size w (w.alloc (.cells (arr 6 p) 22)) := (Below.refl _ _).alloc (by simp) _
  go_enter Try.func17, Try.ntmps17
  go_wp2_with first
    | (with_reducible refine wpList_loadW rfl _ _ rfl _ rfl h1 aggO sizeO ?_)
    | (go_at_call 42; (with_reducible refine (l4Names_any p _).mono ?_); rintro e w1 ⟨rfl, hb1⟩; replace hbel := hbel.trans (hb1.mono hbel.size); replace h1 := row_keep hb1 h1; clear hb1)
  go_ret
  exact ⟨rfl, hbel⟩
theorem IsRenaming_impl (p : Nat → Int) (w : World) : Calls Try.prog 18 #[.agg (arr 6 p)] w fun e w' => e = .returned (.bool ((p 0 == 0) && pB p 6)) ∧ Below w.heap.size w w' := by
  have h1 : (w.alloc (.cells (arr 6 p) 22)).heap[w.heap.size]? = some (.cells (arr 6 p) 22 (0, 0))   := heap_new rfl
  have hbel : Below w.heap.size w (w.alloc (.cells (arr 6 p) 22)) := (Below.refl _ _).alloc (by simp) _
  go_enter Try.func18, Try.ntmps18
  go_wp2_with first
    | (with_reducible refine wpList_loadW rfl _ _ rfl _ rfl h1 aggO sizeO ?_)
    | (go_at_call 43; (with_reducible refine (isRenaming_any p _).mono ?_); rintro e w1 ⟨rfl, hb1⟩; replace hbel := hbel.trans (hb1.mono hbel.size); replace h1 := row_keep hb1 h1; clear hb1)
  go_ret
  exact ⟨rfl, hbel⟩
set_option linter.unusedVariables false in
theorem FnExactIsRenaming_walk (x0 : Nat → Int) (hx0 : ∀ j, I64 (x0 j)) (w : World) : Calls Try.prog 4 #[.agg (arr 6 x0)] w fun e w' => e = .returned (.bool true) ∧ Below w.heap.size w w' := by
  have hr0 : (w.alloc (.cells (arr 6 x0) 22)).heap[w.heap.size]? = some (.cells (arr 6 x0) 22 (0, 0)) := by rw [heap_new (by simp)]
  have hbel : Below w.heap.size w (w.alloc (.cells (arr 6 x0) 22)) := ((Below.refl _ _).alloc (by simp) _)
  go_enter Try.func4, Try.ntmps4
  go_wp2_with first
    | (with_reducible refine wpList_loadW rfl _ _ rfl _ rfl hr0 agg6 size6 ?_)
    | (go_at_call 15; (with_reducible refine (toIntA6_any _ _).mono ?_); (rintro e w1 ⟨rfl, hb1⟩; replace hbel := hbel.trans (hb1.mono hbel.size); replace hr0 := row_keep hb1 hr0; clear hb1))
    | (go_at_call 17; (with_reducible refine (IsRenaming_spec _ _).mono ?_); (rintro e w1 ⟨rfl, hb1⟩; replace hbel := hbel.trans (hb1.mono hbel.size); replace hr0 := row_keep hb1 hr0; clear hb1))
    | (go_at_call 18; (with_reducible refine (IsRenaming_impl _ _).mono ?_); (rintro e w1 ⟨rfl, hb1⟩; replace hbel := hbel.trans (hb1.mono hbel.size); replace hr0 := row_keep hb1 hr0; clear hb1))
  go_ret
  exact ⟨rfl, hbel⟩
end Go.Proofs.Ytljajgaicdffkaa
