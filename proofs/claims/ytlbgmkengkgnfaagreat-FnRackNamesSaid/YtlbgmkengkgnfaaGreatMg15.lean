/- A part (number 15) of the proof of the law FnRackNames: what each of its sections proves stands in the section's own first remark. No conditions beside those that each theorem states. -/
import Derived.Maps.AppendAt
import Derived.Test.YtlbgmkengkgnfaaGreatMg13
import Derived.Test.YtlbgmkengkgnfaaGreatMg14
import Derived.Test.YtlbgmkengkgnfaaGreatMg7
import Derived.Test.YtlbgmkengkgnfaaGreatMg6
import Derived.Test.YtlbgmkengkgnfaaGreatMg3
import Derived.Test.YtlbgmkengkgnfaaGreatMg8
section
/- slices.Sorted of slices.Values of a row of six ints (lines turned from the kit's worked text on collecting). -/
namespace Go.Proofs.YtlbgmkengkgnfaaGreat
set_option linter.unusedSimpArgs false
set_option linter.unusedVariables false
set_option maxRecDepth 20000
open Go.RowKit Go.Shelf
attribute [local go_sem] Oper.semAt_some
theorem Sl.own {w : World} {base : Nat} {e : TypeId} {s : Nat} {v : Value} {n : Nat} {f : Nat → Int} (h : Sl w base e s v n f) : w.ownsRow base e s v n (arr (n * s) f).toList := by
  refine ⟨by simp [arr_size], ?_⟩
  rcases h with h | ⟨g, cap, F, rfl, h1, h2, h3, h4, h5⟩
  · exact .inl h
  · exact .inr ⟨g, cap, _, rfl, h1, h2, h3, h4, arr_size _ _, by rw [arr_take _ _ _ (Nat.mul_le_mul_right _ h3), arr_congr h5]⟩
theorem Sl.grown {W W' : World} {row : Option Nat} {base : Nat} {e : TypeId} {s : Nat} {v : Value} {n : Nat} {f : Nat → Int} (h : Sl W base e s v n f) (hg : W.grownBy W' row) (hne : v.ownBlock ≠ row ∨ v = .slice none 0 0) : Sl W' base e s v n f := by
  rcases h with h | ⟨g, cap, F, rfl, h1, h2, h3, h4, h5⟩
  · exact .inl h
  · refine .inr ⟨g, cap, F, rfl, h1, ?_, h3, h4, h5⟩
    rcases hne with hne | hne
    · exact (hg.block g (Array.getElem?_eq_some_iff.1 h2).1 (fun e' => hne (by simpa [Value.ownBlock] using e'))).trans h2
    · cases hne
theorem Sl.cong {W : World} {base : Nat} {e : TypeId} {s : Nat} {v : Value} {n : Nat} {f g : Nat → Int} (h : Sl W base e s v n f) (hf : ∀ j, j < n * s → f j = g j) : Sl W base e s v n g := by
  rcases h with h | ⟨q, cap, F, rfl, h1, h2, h3, h4, h5⟩
  · exact .inl h
  · exact .inr ⟨q, cap, F, rfl, h1, h2, h3, h4, fun j hj => (h5 j hj).trans (hf j hj)⟩
theorem holdsSl_own {β : Type} (n₀ B : Nat) (t e : TypeId) (size : Nat) (k : β → Nat) (f : β → Nat → Int) : Own (fun s W => ∃ v, Boxed W B t v ∧ Sl W n₀ e size v (k s) (f s)) := by
  rintro s X Y row ⟨v, hv, hr⟩ hg hrow
  refine ⟨v, hv.kept hg (fun e' => ?_), hr.grown hg ?_⟩
  · obtain ⟨o, ho, hc⟩ := hrow B e'.symm
    rw [show X.heap[B]? = _ from hv] at ho; cases ho; cases hc
  · rcases hr with ⟨rfl, _⟩ | ⟨g, cap, F, rfl, _, hgb, _⟩
    · exact .inr rfl
    · refine .inl fun e' => ?_
      obtain ⟨o, ho, hc⟩ := hrow g (by simpa [Value.ownBlock] using e'.symm)
      rw [hgb] at ho; cases ho; cases hc
def zI (xs : List Int) : Nat → Int := fun j => xs[j]?.getD 0
theorem slI : SlOK Tryz.prog 66 3 1 8 := ⟨Tryz.underlying66, by kernel_rfl, by kernel_rfl⟩
theorem it_info : (Tryz.prog.info? 3).map (fun i => (i.zero, i.size, i.bytes)) = some (some (.int .i64 0), 1, 8) := by kernel_rfl
theorem arr1 (x : Int) : arr 1 (fun _ => x) = #[.int .i64 x] := by
  refine Array.ext_getElem? fun j => ?_
  rw [arr_get]
  by_cases h : j < 1
  · rw [if_pos h]
    obtain rfl : j = 0 := by omega
    rfl
  · rw [if_neg h]; simp; omega
theorem zI_snoc {pre : List Int} {x : Int} : ∀ j, j < (pre.length + 1) * 1 → app (zI pre) (pre.length * 1) (fun _ => x) j = zI (pre ++ [x]) j := by
  intro j hj
  unfold app zI
  by_cases h : j < pre.length * 1
  · rw [if_pos h, List.getElem?_append_left (by omega)]
  · rw [if_neg h, List.getElem?_append_right (by omega), show j - pre.length = 0 by omega]; rfl
set_option maxRecDepth 100000 in
set_option maxHeartbeats 2000000 in
theorem it_appendSeq_in (F : Fence) (n : Nat) (h3 : F.fn 88) (h5 : F.fn 71) (hro : F.round = none) (hn : 3 ≤ n) (Bs : Nat) (sv : Value) (xs : List Int) (hlen : xs.length ≤ 1000) (w : World) (hBs : Bs < w.heap.size) (hc0 : w.cell? ⟨Bs, 0, none⟩ = some sv) (hL : it_Ints w.heap.size w sv xs) :
    CallsIn F n Tryz.prog 88 #[.slice none 0 0, .func (.func 71) #[] #[.pointer (some ⟨Bs, 0, none⟩)]] w fun e W' => ∃ v, e = .returned v ∧ Sl W' w.heap.size 3 1 v xs.length (zI xs) ∧ Below w.heap.size w W' := by
  have h1 : 1 ≤ n := by omega
  obtain ⟨i0, hi, hz0, hz1, hz2⟩ := info_parts it_info
  refine callsIn_of_wp_marks Tryz.func88 rfl h3 ?_ hro
  simp only [Tryz.ntmps88, List.size_toArray, List.length_cons, List.length_nil, Nat.reduceAdd, Nat.reduceSub, Array.replicate_succ, Array.replicate_zero, List.push_toArray, List.append_toArray, List.nil_append, List.cons_append]
  gi_wp2
  have bO := Boxed.new w 66 (.slice none 0 0)
  have hB0 : Below w.heap.size w (w.alloc (.cells #[.slice none 0 0] 66)) := (Below.refl _ w).alloc (Nat.le_refl _) _
  refine wpIn_rangeFunc_ownG hro h1 (gf := 71) (lb := #[.pointer (some ⟨Bs, 0, none⟩)]) rfl h5 (enters_of Tryz.func71 (by kernel_rfl) rfl)
    (it_values_stops F (n - 1) h5 hro (by omega) Bs w.heap.size sv xs (by omega) _ (by simp <;> omega) (by simp) ((hB0.cell (p := ⟨Bs, 0, none⟩) hBs).trans hc0) (hL.below hB0)) belowK_t (belowK_b (by simp <;> omega)) (Below.refl _ _) (fun _ => rfl)
    (fun pre W => (∃ v, Boxed W w.heap.size 66 v ∧ Sl W w.heap.size 3 1 v pre.length (zI pre)) ∧ Below w.heap.size w W)
    (fun _ _ _ => False)
    (OwnFrom.and (Own.from (holdsSl_own w.heap.size w.heap.size 66 3 1 (fun pre : List Int => pre.length) (fun pre : List Int => zI pre)) _) (ownFrom_below (Nat.le_refl _) (by simp <;> omega)))
    (fun _ _ _ _ _ hs _ _ => hs)
    ⟨⟨_, bO, .inl ⟨rfl, rfl⟩⟩, hB0⟩
    (fun x => { tmps := #[.slice none 0 0, .func (.func 71) #[] #[.pointer (some ⟨Bs, 0, none⟩)], .pointer (some ⟨w.heap.size, 0, none⟩), undef, .slice none 0 0, .int .i64 x, .func (.func 71) #[] #[.pointer (some ⟨Bs, 0, none⟩)], .int .i64 x, undef, undef, undef, undef, undef], defers := [] }) ?assign ?body ?done ?stop
  case assign =>
    intro l x W K hK
    gi_wp2
    exact hK
  case body =>
    rintro l pre x W ⟨⟨v, hv, hrow⟩, hB⟩ hlt
    have hc := hv.cell
    gi_wp2_with (gi_at_builtin; refine wpListIn_append_both _ rfl _ _ 66 rfl w.heap.size 3 i0 (.int .i64 0) 1 8 Tryz.underlying66 hi hz0 hz1 hz2 rfl (by decide) _ _ _ rfl (hrow.own.alloc _) W.heap.size 0 1 1 [.int .i64 x] rfl rfl (cell_one_new _ _ _) (by simp [Value.oneCell']) (by unfold maxLen; omega) (by omega) (by have := hB.size; simp; omega) slI w.heap.size (by have := hB.size; simp; omega) (hrow.grown (World.grownBy_alloc W _ none) (by rcases hrow with ⟨rfl, _⟩ | ⟨_, _, _, rfl, _⟩; exact .inr rfl; exact .inl (by simp [Value.ownBlock]))) (N := 1) (g := fun _ => x) (by rw [arr1]; exact World.alloc_heap_new W _) (by omega) (by decide) ?_; intro v' w1 hown' hgrow hSl; obtain ⟨g', cap', rfl⟩ := ownsRow_succ hown'; obtain ⟨hv1, hv2, hr2, hk2, hb2⟩ := hv.appended (by decide) hrow.own hB.size (Nat.le_refl _) hown' hgrow; have hc1 := hv1.cell; have hf1 := hv1.frozen; have hS2 := hSl.grown (grownBy_setCell' w1 w.heap.size (.slice (some ⟨g', 0, none⟩) (pre.length + 1) cap')) (.inl (hv1.not_row (by decide) hown').symm))
    refine ⟨hk2.from _, hb2, ⟨_, hv2, ?_⟩, hB.trans hb2⟩
    rw [List.length_append]
    exact hS2.cong zI_snoc
  case done =>
    rintro D ys W hD rfl ⟨⟨v, hv, hrow⟩, hB⟩ hK
    have hc := hv.cell
    gi_wp2
    refine ⟨by simp, .inl ⟨_, _, rfl, run_takeDeferred hK, ?_⟩⟩
    refine ⟨_, results_tmp rfl _ _ _, v, rfl, ?_, hB.trans (belowK_b (w := w) (Nat.le_refl _) W D _ _ (by simp at hD; omega) hK rfl rfl)⟩
    refine hrow.grown (grownBy_putObj' W _ _) ?_
    rcases hrow with ⟨rfl, _⟩ | ⟨g, cap, cur, rfl, _, hgb, _⟩
    · exact .inr rfl
    · refine .inl fun e' => ?_
      obtain rfl : g = _ := by simpa [Value.ownBlock] using e'
      rw [hgb] at hK; cases hK
  case stop =>
    rintro D c pre W _ _ h _
    exact h.elim
end Go.Proofs.YtlbgmkengkgnfaaGreat
end

section
/- isOrder and isRenaming: sorted, they are 0 to 5. -/
namespace Go.Proofs.YtlbgmkengkgnfaaGreat
set_option linter.unusedSimpArgs false
set_option linter.unusedVariables false
set_option maxRecDepth 20000
open Go.RowKit Go.Shelf
theorem zI_ls6 {p : Nat → Int} : ∀ j, j < 6 → zI (ls6 p) j = p j := by
  intro j hj
  have hc : j = 0 ∨ j = 1 ∨ j = 2 ∨ j = 3 ∨ j = 4 ∨ j = 5 := by omega
  rcases hc with rfl | rfl | rfl | rfl | rfl | rfl <;> rfl
theorem appendSeq_any (Bs : Nat) (sv : Value) (xs : List Int) (hlen : xs.length ≤ 1000) (w : World) (hBs : Bs < w.heap.size) (hc0 : w.cell? ⟨Bs, 0, none⟩ = some sv) (hL : it_Ints w.heap.size w sv xs) :
    Calls Tryz.prog 88 #[.slice none 0 0, .func (.func 71) #[] #[.pointer (some ⟨Bs, 0, none⟩)]] w fun e W' => ∃ v, e = .returned v ∧ Sl W' w.heap.size 3 1 v xs.length (zI xs) ∧ Below w.heap.size w W' :=
  callsIn_wide.1 (it_appendSeq_in Fence.wide 3 trivial trivial rfl (Nat.le_refl _) Bs sv xs hlen w hBs hc0 hL)
theorem values_any (a : Option Addr) (len cap : Nat) (w : World) :
    Calls Tryz.prog 47 #[.slice a len cap] w fun e w' => e = .returned (.func (.func 71) #[] #[.pointer (some ⟨w.heap.size, 0, none⟩)]) ∧ w' = w.alloc (.cells #[.slice a len cap] 66) :=
  callsIn_wide.1 (it_values_in Fence.wide 1 trivial rfl a len cap w)
theorem collect_any (Bs : Nat) (sv : Value) (xs : List Int) (hlen : xs.length ≤ 1000) (w : World) (hBs : Bs < w.heap.size) (hc0 : w.cell? ⟨Bs, 0, none⟩ = some sv) (hL : it_Ints w.heap.size w sv xs) :
    Calls Tryz.prog 69 #[.func (.func 71) #[] #[.pointer (some ⟨Bs, 0, none⟩)]] w fun e W' => ∃ v, e = .returned v ∧ Sl W' w.heap.size 3 1 v xs.length (zI xs) ∧ Below w.heap.size w W' := by
  go_enter Tryz.func69, Tryz.ntmps69
  go_wp2_with first
    | (go_at_call 88; (with_reducible refine (appendSeq_any Bs sv xs hlen _ hBs hc0 hL).mono ?_); rintro e w1 ⟨v, rfl, hS, hb⟩)
  go_ret
  exact ⟨v, rfl, hS, hb⟩
theorem sorted_any {Bs B cap : Nat} {p : Nat → Int} {T : TypeId} {fr : Nat × Nat} (w : World) (hBs : Bs < w.heap.size) (hc0 : w.cell? ⟨Bs, 0, none⟩ = some (.slice (some ⟨B, 0, none⟩) 6 cap)) (hB : w.heap[B]? = some (.cells (arr 6 p) T fr)) :
    Calls Tryz.prog 46 #[.func (.func 71) #[] #[.pointer (some ⟨Bs, 0, none⟩)]] w fun e W' => ∃ g cap N F, e = .returned (.slice (some ⟨g, 0, none⟩) 6 cap) ∧ IsS p F ∧ 6 ≤ N ∧ W'.heap[g]? = some (.cells (arr N F) 3 (0, 0)) ∧ Below w.heap.size w W' := by
  obtain ⟨o2, ho2⟩ : ∃ o, w.heap[Bs]? = some o := ⟨_, Array.getElem?_eq_getElem hBs⟩
  have hL : it_Ints w.heap.size w (.slice (some ⟨B, 0, none⟩) 6 cap) (ls6 p) := .inr ⟨B, 0, cap, rfl, row_lt hB, fun j hj => by
    have hj6 : j < 6 := hj
    rw [Nat.zero_add]
    exact (rowcell hB hj6).trans (congrArg (fun x => some (Value.int .i64 x)) (zI_ls6 j hj6).symm)⟩
  have hcol : ∀ wI : World, Bs < wI.heap.size → wI.cell? ⟨Bs, 0, none⟩ = some (.slice (some ⟨B, 0, none⟩) 6 cap) → it_Ints wI.heap.size wI (.slice (some ⟨B, 0, none⟩) 6 cap) (ls6 p) →
      Calls Tryz.prog 69 #[.func (.func 71) #[] #[.pointer (some ⟨Bs, 0, none⟩)]] wI fun e W' => ∃ v, e = .returned v ∧ Sl W' wI.heap.size 3 1 v 6 (zI (ls6 p)) ∧ Below wI.heap.size wI W' :=
    fun wI a b c => collect_any Bs (.slice (some ⟨B, 0, none⟩) 6 cap) (ls6 p) (show 6 ≤ 1000 by decide) wI a b c
  go_enter Tryz.func46, Tryz.ntmps46
  go_wp2_with first
    | (go_at_call 69; go_loud ((with_reducible refine (hcol _ hBs hc0 hL).mono ?_); rintro e w1 ⟨v, rfl, hS, hb⟩; rcases hS with ⟨_, hz⟩ | ⟨g, cap2, F0, rfl, hge, hg, hle, hcm, hF⟩; (exact absurd hz (show ¬ 6 = 0 by decide)); have hle : 6 ≤ cap2 := hle; have hF : ∀ j, j < 6 → F0 j = zI (ls6 p) j := fun j hj => hF j hj))
    | (go_at_call 70; (with_reducible refine (sortI_any (by omega) w _ hb hge hg (row_keep hb ho2) (by omega)).mono ?_); rintro e w2 ⟨⟨u, rfl⟩, F, hFs, g1, g2, g3⟩)
  go_ret
  refine ⟨g, cap2, cap2 * 1, F, rfl, ⟨hFs.1.trans (by rw [show ls6 F0 = ls6 p by unfold ls6; rw [hF 0 (by omega), hF 1 (by omega), hF 2 (by omega), hF 3 (by omega), hF 4 (by omega), hF 5 (by omega), zI_ls6 0 (by omega), zI_ls6 1 (by omega), zI_ls6 2 (by omega), zI_ls6 3 (by omega), zI_ls6 4 (by omega), zI_ls6 5 (by omega)]]), hFs.2⟩, by omega, g1, g3⟩
theorem arr6id : arr 6 (fun j => (j : Int)) = #[.int .i64 0, .int .i64 1, .int .i64 2, .int .i64 3, .int .i64 4, .int .i64 5] := by
  refine Array.ext_getElem? fun j => ?_
  rw [arr_get]
  by_cases h : j < 6
  · rw [if_pos h]
    have hc : j = 0 ∨ j = 1 ∨ j = 2 ∨ j = 3 ∨ j = 4 ∨ j = 5 := by omega
    rcases hc with rfl | rfl | rfl | rfl | rfl | rfl <;> rfl
  · rw [if_neg h]; simp; omega
theorem perm_dec {n : Nat} {p F g : Nat → Int} (hn : n = 6) (hg : ∀ j : Nat, j < 6 → g j = (j : Int)) (h : IsS p F) : decide (∀ j, j < n → F j = g j) = pB p 6 := by
  subst hn
  rw [Bool.eq_iff_iff, decide_eq_true_iff]
  rw [← perm_iff h]
  exact ⟨fun h j hj => by rw [h j hj, hg j hj], fun h j hj => by rw [h j hj, hg j hj]⟩
theorem isRenaming_any (f : Nat → Int) (w : World) : Calls Tryz.prog 27 #[.agg (arr 6 f)] w fun e w' => e = .returned (.bool ((f 0 == 0) && pB f 6)) ∧ Below w.heap.size w w' := by
  have h1 : (w.alloc (.cells (arr 6 f) 28)).heap[w.heap.size]? = some (.cells (arr 6 f) 28 (0, 0))   := heap_new rfl
  have hbel : Below w.heap.size w (w.alloc (.cells (arr 6 f) 28)) := (Below.refl _ _).alloc (by simp) _
  cases hz : f 0 == 0 with
  | true =>
    rw [Bool.true_and]
    have hs := sorted_any (Bs := w.heap.size + 1) (B := w.heap.size) (cap := 6) (p := f) (T := 28) (fr := (0, 0)) ((w.alloc (.cells (arr 6 f) 28)).alloc (.cells #[.slice (some ⟨w.heap.size, 0, none⟩) 6 6] 66)) (by simp) (by rw [cell_of_row _ (w.heap.size + 1) 0 #[.slice (some ⟨w.heap.size, 0, none⟩) 6 6] 66 (0, 0) (heap_new (by simp))]; rfl) (row_alloc h1)
    go_enter Tryz.func27, Tryz.ntmps27
    go_wp2_with first
      | (go_at_call 47; (with_reducible refine (values_any _ _ _ _).mono ?_); rintro e w1 ⟨rfl, rfl⟩)
      | (go_at_call 46; (with_reducible refine hs.mono ?_); rintro e w1 ⟨g, cap, N, F, rfl, hFs, hN, hg, hb⟩; replace hbel := (hbel.alloc hbel.size _).trans (hb.mono (by simp <;> omega)); clear hs hb h1)
      | (with_reducible refine wpList_loadI rfl _ _ rfl _ _ rfl h1 aggI undI (by omega) ?_)
    have h6 : (w1.alloc (.cells #[.int .i64 0, .int .i64 1, .int .i64 2, .int .i64 3, .int .i64 4, .int .i64 5] 3)).heap[w1.heap.size]? = some (.cells (arr 6 fun j => (j : Int)) 3 (0, 0)) := by rw [arr6id]; exact heap_new rfl
    have he := eqS_any (n := 6) (c1 := cap) (c2 := 6) hN (Nat.le_refl 6) (by decide) _ (row_alloc hg) h6
    rw [perm_dec rfl (fun _ _ => rfl) hFs] at he
    replace hbel := hbel.alloc hbel.size (.cells #[.int .i64 0, .int .i64 1, .int .i64 2, .int .i64 3, .int .i64 4, .int .i64 5] 3)
    clear hFs hN hg h6
    go_wp2_with first
      | (go_at_call 45; (with_reducible refine he.mono ?_); rintro e w2 ⟨rfl, hb⟩; replace hbel := hbel.trans (hb.mono hbel.size))
    go_ret
    exact ⟨rfl, hbel⟩
  | false =>
    rw [Bool.false_and]
    go_enter Tryz.func27, Tryz.ntmps27
    go_wp2_with first
      | (with_reducible refine wpList_loadI rfl _ _ rfl _ _ rfl h1 aggI undI (by omega) ?_)
    go_ret
    exact ⟨rfl, hbel⟩
theorem IsRenaming_impl (p : Nat → Int) (w : World) : Calls Tryz.prog 9 #[.agg (arr 6 p)] w fun e w' => e = .returned (.bool ((p 0 == 0) && pB p 6)) ∧ Below w.heap.size w w' := by
  have h1 : (w.alloc (.cells (arr 6 p) 28)).heap[w.heap.size]? = some (.cells (arr 6 p) 28 (0, 0))   := heap_new rfl
  have hbel : Below w.heap.size w (w.alloc (.cells (arr 6 p) 28)) := (Below.refl _ _).alloc (by simp) _
  go_enter Tryz.func9, Tryz.ntmps9
  go_wp2_with first
    | (with_reducible refine wpList_loadW rfl _ _ rfl _ rfl h1 aggO sizeO ?_)
    | (go_at_call 27; (with_reducible refine (isRenaming_any p _).mono ?_); rintro e w1 ⟨rfl, hb1⟩; replace hbel := hbel.trans (hb1.mono hbel.size); replace h1 := row_keep hb1 h1; clear hb1)
  go_ret
  exact ⟨rfl, hbel⟩
end Go.Proofs.YtlbgmkengkgnfaaGreat
end

section
/- OrderRack and RenameRack: the program's and the reference's, and the laws. -/
namespace Go.Proofs.YtlbgmkengkgnfaaGreat
set_option linter.unusedSimpArgs false
set_option linter.unusedVariables false
set_option maxRecDepth 20000
open Go.RowKit
noncomputable def orR (f p : Nat → Int) : (Nat → Int) × Bool := if rackB f = true ∧ pB p 6 = true then (ordF f p, true) else (fun _ => 0, false)
noncomputable def rnR (f p : Nat → Int) : (Nat → Int) × Bool := if rackB f = true ∧ ((p 0 == 0) && pB p 6) = true then (fun j => p (f j).toNat, true) else (fun _ => 0, false)
theorem pB_bd {p : Nat → Int} (h : pB p 6 = true) : ∀ i, i < 6 → 0 ≤ p i ∧ p i ≤ 5 := fun i hi => ((pB_iff 6).1 h i hi).1
theorem rack_bd {f : Nat → Int} (h : rackB f = true) : ∀ j, j < 24 → 0 ≤ f j ∧ f j ≤ 5 := fun j hj => by
  have h1 := (tubeB_iff f (j / 4)).1 ((rackB_iff f).1 h (j / 4) (by omega)) (j % 4) (Nat.mod_lt _ (by omega))
  have h2 := h1.1
  rwa [show j / 4 * 4 + j % 4 = j by omega] at h2
theorem specRn_any (f p : Nat → Int) (w : World) : Calls Tryz.prog 7 #[.agg (arr 24 f), .agg (arr 6 p)] w fun e w' => e = .returned (.tuple #[.agg (arr 24 (rnR f p).1), .bool (rnR f p).2]) ∧ Below w.heap.size w w' := by
  have h1 : (((w.alloc (.cells (arr 24 f) 27)).alloc (.cells (arr 6 p) 28)).alloc (.cells (arr 24 fun _ => 0) 27)).heap[w.heap.size]? = some (.cells (arr 24 f) 27 (0, 0)) := by rw [heap_old (by simp <;> omega), heap_old (by simp), heap_new rfl]
  have h2 : (((w.alloc (.cells (arr 24 f) 27)).alloc (.cells (arr 6 p) 28)).alloc (.cells (arr 24 fun _ => 0) 27)).heap[w.heap.size + 1]? = some (.cells (arr 6 p) 28 (0, 0)) := by rw [heap_old (by simp), heap_new (by simp)]
  have h4 : (((w.alloc (.cells (arr 24 f) 27)).alloc (.cells (arr 6 p) 28)).alloc (.cells (arr 24 fun _ => 0) 27)).heap[w.heap.size + 1 + 1]? = some (.cells (arr 24 fun _ => 0) 27 (0, 0)) := heap_new (by simp)
  have hbel : Below w.heap.size w (((w.alloc (.cells (arr 24 f) 27)).alloc (.cells (arr 6 p) 28)).alloc (.cells (arr 24 fun _ => 0) 27)) := (((Below.refl _ _).alloc (by simp) _).alloc (by simp) _).alloc (by simp <;> omega) _
  cases hf : rackB f with
  | false =>
    rw [show rnR f p = (fun _ => 0, false) from if_neg (by simp [hf])]
    have HF : Hid _ := hf
    clear hf
    go_enter Tryz.func7, Tryz.ntmps7
    go_wp2_with first
      | (with_reducible refine wpList_allocA rfl 27 rfl 24 zero24r ?_; (try simp only [size_al]))
      | (with_reducible refine wpList_build0 rfl 27 rfl 24 zbuild24 ?_)
      | (with_reducible refine wpList_loadW rfl _ _ rfl _ rfl h1 agg24r size24r ?_)
      | (with_reducible refine wpList_loadW rfl _ _ rfl _ rfl h2 aggO sizeO ?_)
      | (with_reducible refine wpList_loadWG rfl _ _ rfl _ rfl h2 aggO sizeO ?_)
      | (with_reducible refine wpList_storeW rfl _ _ _ rfl _ rfl rfl h4 size24r ?_)
      | (go_at_call 29; (with_reducible refine (l2Rack_any f _).mono ?_); rw [HF.out]; rintro e w1 ⟨rfl, hb1⟩; replace hbel := hbel.trans (hb1.mono hbel.size); replace h1 := row_keep hb1 h1; replace h2 := row_keep hb1 h2; replace h4 := row_keep hb1 h4; clear hb1)
    exact bodyPost_ret_by (results_ct _ _ _ _ _ _ _ rfl rfl (setRow_heap _ _ _ _ _ _ h4) agg24r size24r) rfl ⟨rfl, below_setRow2 hbel (by omega) _⟩
  | true =>
    cases hp : (p 0 == 0) && pB p 6 with
    | false =>
      rw [show rnR f p = (fun _ => 0, false) from if_neg (fun h => by rw [hp] at h; cases h.2)]
      have HF : Hid _ := hf
      have HP : Hid _ := hp
      clear hf hp
      go_enter Tryz.func7, Tryz.ntmps7
      go_wp2_with first
        | (with_reducible refine wpList_allocA rfl 27 rfl 24 zero24r ?_; (try simp only [size_al]))
        | (with_reducible refine wpList_build0 rfl 27 rfl 24 zbuild24 ?_)
        | (with_reducible refine wpList_loadW rfl _ _ rfl _ rfl h1 agg24r size24r ?_)
        | (with_reducible refine wpList_loadW rfl _ _ rfl _ rfl h2 aggO sizeO ?_)
        | (with_reducible refine wpList_loadWG rfl _ _ rfl _ rfl h2 aggO sizeO ?_)
        | (with_reducible refine wpList_storeW rfl _ _ _ rfl _ rfl rfl h4 size24r ?_)
        | (go_at_call 29; (with_reducible refine (l2Rack_any f _).mono ?_); rw [HF.out]; rintro e w1 ⟨rfl, hb1⟩; replace hbel := hbel.trans (hb1.mono hbel.size); replace h1 := row_keep hb1 h1; replace h2 := row_keep hb1 h2; replace h4 := row_keep hb1 h4; clear hb1)
        | (go_at_call 30; (with_reducible refine (l4Names_any p _).mono ?_); rw [HP.out]; rintro e w1 ⟨rfl, hb1⟩; replace hbel := hbel.trans (hb1.mono hbel.size); replace h1 := row_keep hb1 h1; replace h2 := row_keep hb1 h2; replace h4 := row_keep hb1 h4; clear hb1)
      exact bodyPost_ret_by (results_ct _ _ _ _ _ _ _ rfl rfl (setRow_heap _ _ _ _ _ _ h4) agg24r size24r) rfl ⟨rfl, below_setRow2 hbel (by omega) _⟩
    | true =>
      rw [show rnR f p = (fun j => p (f j).toNat, true) from if_pos ⟨hf, hp⟩]
      have HI : Hid _ := rack_bd hf
      have HF : Hid _ := hf
      have HP : Hid _ := hp
      clear hf hp
      go_enter Tryz.func7, Tryz.ntmps7
      go_wp2_with first
        | (with_reducible refine wpList_allocA rfl 27 rfl 24 zero24r ?_; (try simp only [size_al]))
        | (with_reducible refine wpList_build0 rfl 27 rfl 24 zbuild24 ?_)
        | (with_reducible refine wpList_loadW rfl _ _ rfl _ rfl h1 agg24r size24r ?_)
        | (with_reducible refine wpList_loadW rfl _ _ rfl _ rfl h2 aggO sizeO ?_)
        | (with_reducible refine wpList_loadWG rfl _ _ rfl _ rfl h2 aggO sizeO ?_)
        | (with_reducible refine wpList_storeW rfl _ _ _ rfl _ rfl rfl h4 size24r ?_)
        | (go_at_call 29; (with_reducible refine (l2Rack_any f _).mono ?_); rw [HF.out]; rintro e w1 ⟨rfl, hb1⟩; replace hbel := hbel.trans (hb1.mono hbel.size); replace h1 := row_keep hb1 h1; replace h2 := row_keep hb1 h2; replace h4 := row_keep hb1 h4; clear hb1)
        | (go_at_call 30; (with_reducible refine (l4Names_any p _).mono ?_); rw [HP.out]; rintro e w1 ⟨rfl, hb1⟩; replace hbel := hbel.trans (hb1.mono hbel.size); replace h1 := row_keep hb1 h1; replace h2 := row_keep hb1 h2; replace h4 := row_keep hb1 h4; clear hb1)
        | (go_at_call 31; (with_reducible refine (l4Rename_any f p HI.out _).mono ?_); rintro e w1 ⟨rfl, hb1⟩; replace hbel := hbel.trans (hb1.mono hbel.size); replace h1 := row_keep hb1 h1; replace h2 := row_keep hb1 h2; replace h4 := row_keep hb1 h4; clear hb1)
      exact bodyPost_ret_by (results_ct _ _ _ _ _ _ _ rfl rfl (setRow_heap _ _ _ _ _ _ h4) agg24r size24r) rfl ⟨rfl, below_setRow2 hbel (by omega) _⟩
theorem implRn_any (f p : Nat → Int) (w : World) : Calls Tryz.prog 6 #[.agg (arr 24 f), .agg (arr 6 p)] w fun e w' => e = .returned (.tuple #[.agg (arr 24 (rnR f p).1), .bool (rnR f p).2]) ∧ Below w.heap.size w w' := by
  have h1 : (((w.alloc (.cells (arr 24 f) 27)).alloc (.cells (arr 6 p) 28)).alloc (.cells (arr 24 fun _ => 0) 27)).heap[w.heap.size]? = some (.cells (arr 24 f) 27 (0, 0)) := by rw [heap_old (by simp <;> omega), heap_old (by simp), heap_new rfl]
  have h2 : (((w.alloc (.cells (arr 24 f) 27)).alloc (.cells (arr 6 p) 28)).alloc (.cells (arr 24 fun _ => 0) 27)).heap[w.heap.size + 1]? = some (.cells (arr 6 p) 28 (0, 0)) := by rw [heap_old (by simp), heap_new (by simp)]
  have h4 : (((w.alloc (.cells (arr 24 f) 27)).alloc (.cells (arr 6 p) 28)).alloc (.cells (arr 24 fun _ => 0) 27)).heap[w.heap.size + 1 + 1]? = some (.cells (arr 24 fun _ => 0) 27 (0, 0)) := heap_new (by simp)
  have hbel : Below w.heap.size w (((w.alloc (.cells (arr 24 f) 27)).alloc (.cells (arr 6 p) 28)).alloc (.cells (arr 24 fun _ => 0) 27)) := (((Below.refl _ _).alloc (by simp) _).alloc (by simp) _).alloc (by simp <;> omega) _
  cases hf : rackB f with
  | false =>
    rw [show rnR f p = (fun _ => 0, false) from if_neg (by simp [hf])]
    have HF : Hid _ := hf
    clear hf
    go_enter Tryz.func6, Tryz.ntmps6
    go_wp2_with first
      | (with_reducible refine wpList_allocA rfl 27 rfl 24 zero24r ?_; (try simp only [size_al]))
      | (with_reducible refine wpList_build0 rfl 27 rfl 24 zbuild24 ?_)
      | (with_reducible refine wpList_loadW rfl _ _ rfl _ rfl h1 agg24r size24r ?_)
      | (with_reducible refine wpList_loadW rfl _ _ rfl _ rfl h2 aggO sizeO ?_)
      | (with_reducible refine wpList_loadWG rfl _ _ rfl _ rfl h2 aggO sizeO ?_)
      | (with_reducible refine wpList_storeW rfl _ _ _ rfl _ rfl rfl h4 size24r ?_)
      | (go_at_call 8; (with_reducible refine (IsRack_any f _).mono ?_); rw [HF.out]; rintro e w1 ⟨rfl, hb1⟩; replace hbel := hbel.trans (hb1.mono hbel.size); replace h1 := row_keep hb1 h1; replace h2 := row_keep hb1 h2; replace h4 := row_keep hb1 h4; clear hb1)
    exact bodyPost_ret_by (results_ct _ _ _ _ _ _ _ rfl rfl (setRow_heap _ _ _ _ _ _ h4) agg24r size24r) rfl ⟨rfl, below_setRow2 hbel (by omega) _⟩
  | true =>
    cases hp : (p 0 == 0) && pB p 6 with
    | false =>
      rw [show rnR f p = (fun _ => 0, false) from if_neg (fun h => by rw [hp] at h; cases h.2)]
      have HF : Hid _ := hf
      have HP : Hid _ := hp
      clear hf hp
      go_enter Tryz.func6, Tryz.ntmps6
      go_wp2_with first
        | (with_reducible refine wpList_allocA rfl 27 rfl 24 zero24r ?_; (try simp only [size_al]))
        | (with_reducible refine wpList_build0 rfl 27 rfl 24 zbuild24 ?_)
        | (with_reducible refine wpList_loadW rfl _ _ rfl _ rfl h1 agg24r size24r ?_)
        | (with_reducible refine wpList_loadW rfl _ _ rfl _ rfl h2 aggO sizeO ?_)
        | (with_reducible refine wpList_loadWG rfl _ _ rfl _ rfl h2 aggO sizeO ?_)
        | (with_reducible refine wpList_storeW rfl _ _ _ rfl _ rfl rfl h4 size24r ?_)
        | (go_at_call 8; (with_reducible refine (IsRack_any f _).mono ?_); rw [HF.out]; rintro e w1 ⟨rfl, hb1⟩; replace hbel := hbel.trans (hb1.mono hbel.size); replace h1 := row_keep hb1 h1; replace h2 := row_keep hb1 h2; replace h4 := row_keep hb1 h4; clear hb1)
        | (go_at_call 27; (with_reducible refine (isRenaming_any p _).mono ?_); rw [HP.out]; rintro e w1 ⟨rfl, hb1⟩; replace hbel := hbel.trans (hb1.mono hbel.size); replace h1 := row_keep hb1 h1; replace h2 := row_keep hb1 h2; replace h4 := row_keep hb1 h4; clear hb1)
      exact bodyPost_ret_by (results_ct _ _ _ _ _ _ _ rfl rfl (setRow_heap _ _ _ _ _ _ h4) agg24r size24r) rfl ⟨rfl, below_setRow2 hbel (by omega) _⟩
    | true =>
      rw [show rnR f p = (fun j => p (f j).toNat, true) from if_pos ⟨hf, hp⟩]
      have HI : Hid _ := rack_bd hf
      have HF : Hid _ := hf
      have HP : Hid _ := hp
      clear hf hp
      go_enter Tryz.func6, Tryz.ntmps6
      go_wp2_with first
        | (with_reducible refine wpList_allocA rfl 27 rfl 24 zero24r ?_; (try simp only [size_al]))
        | (with_reducible refine wpList_build0 rfl 27 rfl 24 zbuild24 ?_)
        | (with_reducible refine wpList_loadW rfl _ _ rfl _ rfl h1 agg24r size24r ?_)
        | (with_reducible refine wpList_loadW rfl _ _ rfl _ rfl h2 aggO sizeO ?_)
        | (with_reducible refine wpList_loadWG rfl _ _ rfl _ rfl h2 aggO sizeO ?_)
        | (with_reducible refine wpList_storeW rfl _ _ _ rfl _ rfl rfl h4 size24r ?_)
        | (go_at_call 8; (with_reducible refine (IsRack_any f _).mono ?_); rw [HF.out]; rintro e w1 ⟨rfl, hb1⟩; replace hbel := hbel.trans (hb1.mono hbel.size); replace h1 := row_keep hb1 h1; replace h2 := row_keep hb1 h2; replace h4 := row_keep hb1 h4; clear hb1)
        | (go_at_call 27; (with_reducible refine (isRenaming_any p _).mono ?_); rw [HP.out]; rintro e w1 ⟨rfl, hb1⟩; replace hbel := hbel.trans (hb1.mono hbel.size); replace h1 := row_keep hb1 h1; replace h2 := row_keep hb1 h2; replace h4 := row_keep hb1 h4; clear hb1)
        | (go_at_call 28; (with_reducible refine (renamed_any f p HI.out _).mono ?_); rintro e w1 ⟨rfl, hb1⟩; replace hbel := hbel.trans (hb1.mono hbel.size); replace h1 := row_keep hb1 h1; replace h2 := row_keep hb1 h2; replace h4 := row_keep hb1 h4; clear hb1)
      exact bodyPost_ret_by (results_ct _ _ _ _ _ _ _ rfl rfl (setRow_heap _ _ _ _ _ _ h4) agg24r size24r) rfl ⟨rfl, below_setRow2 hbel (by omega) _⟩
end Go.Proofs.YtlbgmkengkgnfaaGreat
end

section
/- The names behind, and the names behind names: the program's; the laws. -/
namespace Go.Proofs.YtlbgmkengkgnfaaGreat
set_option linter.unusedSimpArgs false
set_option linter.unusedVariables false
set_option maxRecDepth 20000
open Go.RowKit
theorem implBack_any (p : Nat → Int) (w : World) : Calls Tryz.prog 10 #[.agg (arr 6 p)] w fun e w' => e = .returned (.tuple #[.agg (arr 6 (bnR p).1), .bool (bnR p).2]) ∧ Below w.heap.size w w' := by
  have h1 : ((w.alloc (.cells (arr 6 p) 28)).alloc (.cells (arr 6 fun _ => 0) 28)).heap[w.heap.size]? = some (.cells (arr 6 p) 28 (0, 0)) := by rw [heap_old (by simp), heap_new rfl]
  have h2 : ((w.alloc (.cells (arr 6 p) 28)).alloc (.cells (arr 6 fun _ => 0) 28)).heap[w.heap.size + 1]? = some (.cells (arr 6 fun _ => 0) 28 (0, 0)) := heap_new (by simp)
  have hbel : Below w.heap.size w ((w.alloc (.cells (arr 6 p) 28)).alloc (.cells (arr 6 fun _ => 0) 28)) := ((Below.refl _ _).alloc (by simp) _).alloc (by simp) _
  have tok_h4 : True := trivial
  have tok_r : True := trivial
  cases hf : (p 0 == 0) && pB p 6 with
  | false =>
    rw [show bnR p = (fun _ => 0, false) from if_neg (by simp [hf])]
    have HF : Hid _ := hf
    clear hf
    go_enter Tryz.func10, Tryz.ntmps10
    go_wp2_with first
      | (have _t := tok_r; (with_reducible refine wpList_allocA rfl 28 rfl 6 zeroO ?_; (try simp only [size_al])); clear _t tok_r)
      | (with_reducible refine wpList_build0 rfl 28 rfl 6 builtO ?_)
      | (with_reducible refine wpList_loadW rfl _ _ rfl _ rfl h1 aggO sizeO ?_)
      | (go_at_call 27; (with_reducible refine (isRenaming_any p _).mono ?_); rw [HF.out]; rintro e w1 ⟨rfl, hb1⟩; replace hbel := hbel.trans (hb1.mono hbel.size); replace h1 := row_keep hb1 h1; replace h2 := row_keep hb1 h2; clear hb1)
      | (with_reducible refine wpList_storeW rfl _ _ _ rfl _ rfl rfl h2 sizeO ?_)
    exact bodyPost_ret_by (results_ct _ _ _ _ _ _ _ rfl rfl (setRow_heap _ _ _ _ _ _ h2) aggO sizeO) rfl ⟨rfl, below_setRow2 hbel (by omega) _⟩
  | true =>
    rw [show bnR p = (bN p 6, true) from if_pos hf]
    have HF : Hid _ := hf
    have HB : Hid _ := (pB_iff 6).1 (by rw [Bool.and_eq_true] at hf; exact hf.2)
    clear hf
    go_enter Tryz.func10, Tryz.ntmps10
    go_wp2_with first
      | (have _t := tok_r; (with_reducible refine wpList_allocA rfl 28 rfl 6 zeroO ?_; (try simp only [size_al])); clear _t tok_r)
      | (have _t := tok_h4; with_reducible refine wpList_allocN rfl 28 rfl 6 zeroO ?_; intro Bh4 w1 hBh4 h4 hb1; have hWh4 := Nat.le_trans hbel.size hBh4; have hLh1h4 := Nat.lt_of_lt_of_le (row_lt h1) hBh4; have hLh2h4 := Nat.lt_of_lt_of_le (row_lt h2) hBh4; replace hbel := hbel.trans (hb1.mono hbel.size); replace h1 := row_keep hb1 h1; replace h2 := row_keep hb1 h2; clear hb1 _t tok_h4)
      | (with_reducible refine wpList_loadW rfl _ _ rfl _ rfl h1 aggO sizeO ?_)
      | (go_at_call 27; (with_reducible refine (isRenaming_any p _).mono ?_); rw [HF.out]; rintro e w1 ⟨rfl, hb1⟩; replace hbel := hbel.trans (hb1.mono hbel.size); replace h1 := row_keep hb1 h1; replace h2 := row_keep hb1 h2; clear hb1)
    go_loopw [12] (fun i wr => ∃ n : Nat, n ≤ 6 ∧ i = .int .i64 n ∧ wr.heap[w.heap.size]? = some (.cells (arr 6 p) 28 (0, 0)) ∧ wr.heap[w.heap.size + 1]? = some (.cells (arr 6 fun _ => 0) 28 (0, 0)) ∧ wr.heap[Bh4]? = some (.cells (arr 6 (bN p n)) 28 (0, 0)) ∧ Below w.heap.size w wr) (fun i _ => 6 - (intOf i).toNat)
    case atStart => exact ⟨0, by omega, rfl, h1, h2, h4, hbel⟩
    case round =>
      clear h1 h2 h4 hbel
      obtain ⟨n, hn, rfl, h1, h2, h4, hbel⟩ := hrel
      by_cases hlt : n < 6
      · have hlt' : (n : Int) < 6 := by omega
        obtain ⟨⟨pa, pb⟩, _⟩ := HB.out n hlt
        obtain ⟨c, hc⟩ : ∃ c : Nat, p n = c := ⟨(p n).toNat, by omega⟩
        have hc6 : c < 6 := by omega
        have hc6' : (c : Int) < 6 := by omega
        have HC : Hid _ := hc
        have HS : Hid (bN p (n + 1) = upd (bN p n) c n) := by show bN p (n + 1) = _; rw [bN, hc, Int.toNat_natCast]
        clear pa pb hc
        go_wp2_with first
          | ((with_reducible refine wpList_indexI rfl _ _ _ rfl rfl rfl _ Tryz.underlying28 aggI undI size1 (by omega) ?_); rw [HC.out])
          | (with_reducible refine wpList_storePI rfl 3 _ _ rfl _ _ rfl rfl h4 size1 (by omega) hbel (by omega) ?_; intro w1 g3 ho g4; replace h1 := (ho _ (by omega)).trans h1; replace h2 := (ho _ (by omega)).trans h2; clear h4 hbel; have h4 := g3; have hbel := g4; clear g3 g4 ho)
        go_roundw
        case rel => exact ⟨n + 1, by omega, by go_num, h1, h2, by rw [HS.out]; exact h4, hbel⟩
        case measure => simp [intOf]; omega
      · obtain rfl : n = 6 := by omega
        go_wp2_with first
          | (with_reducible refine wpList_loadW rfl _ _ rfl _ rfl h4 aggO sizeO ?_)
          | (with_reducible refine wpList_storeW rfl _ _ _ rfl _ rfl rfl h2 sizeO ?_)
        exact bodyPost_ret_by (results_ct _ _ _ _ _ _ _ rfl rfl (setRow_heap _ _ _ _ _ _ h2) aggO sizeO) rfl ⟨rfl, below_setRow2 hbel (by omega) _⟩
theorem implNb_any (p g : Nat → Int) (w : World) : Calls Tryz.prog 13 #[.agg (arr 6 p), .agg (arr 6 g)] w fun e w' => e = .returned (.tuple #[.agg (arr 6 (nbR p g).1), .bool (nbR p g).2]) ∧ Below w.heap.size w w' := by
  have h1 : (((w.alloc (.cells (arr 6 p) 28)).alloc (.cells (arr 6 g) 28)).alloc (.cells (arr 6 fun _ => 0) 28)).heap[w.heap.size]? = some (.cells (arr 6 p) 28 (0, 0)) := by rw [heap_old (by simp <;> omega), heap_old (by simp), heap_new rfl]
  have h3 : (((w.alloc (.cells (arr 6 p) 28)).alloc (.cells (arr 6 g) 28)).alloc (.cells (arr 6 fun _ => 0) 28)).heap[w.heap.size + 1]? = some (.cells (arr 6 g) 28 (0, 0)) := by rw [heap_old (by simp), heap_new (by simp)]
  have h2 : (((w.alloc (.cells (arr 6 p) 28)).alloc (.cells (arr 6 g) 28)).alloc (.cells (arr 6 fun _ => 0) 28)).heap[w.heap.size + 1 + 1]? = some (.cells (arr 6 fun _ => 0) 28 (0, 0)) := heap_new (by simp)
  have hbel : Below w.heap.size w (((w.alloc (.cells (arr 6 p) 28)).alloc (.cells (arr 6 g) 28)).alloc (.cells (arr 6 fun _ => 0) 28)) := (((Below.refl _ _).alloc (by simp) _).alloc (by simp) _).alloc (by simp <;> omega) _
  have tok_h4 : True := trivial
  have tok_r : True := trivial
  cases hf : (p 0 == 0) && pB p 6 with
  | false =>
    rw [show nbR p g = (fun _ => 0, false) from if_neg (by simp [hf])]
    have HG : Hid (1 = 1) := rfl
    have HF : Hid _ := hf
    clear hf
    go_enter Tryz.func13, Tryz.ntmps13
    go_wp2_with first
      | (have _t := tok_r; (with_reducible refine wpList_allocA rfl 28 rfl 6 zeroO ?_; (try simp only [size_al])); clear _t tok_r)
      | (with_reducible refine wpList_build0 rfl 28 rfl 6 builtO ?_)
      | (with_reducible refine wpList_loadW rfl _ _ rfl _ rfl h1 aggO sizeO ?_)
      | (with_reducible refine wpList_loadWG rfl _ _ rfl _ rfl h3 aggO sizeO ?_)
      | (go_at_call 27; (with_reducible refine (isRenaming_any p _).mono ?_); rw [HF.out]; rintro e w1 ⟨rfl, hb1⟩; replace hbel := hbel.trans (hb1.mono hbel.size); replace h1 := row_keep hb1 h1; replace h2 := row_keep hb1 h2; replace h3 := row_keep hb1 h3; clear hb1)
      | (go_at_call 27; (with_reducible refine (isRenaming_any g _).mono ?_); rw [HG.out]; rintro e w1 ⟨rfl, hb1⟩; replace hbel := hbel.trans (hb1.mono hbel.size); replace h1 := row_keep hb1 h1; replace h2 := row_keep hb1 h2; replace h3 := row_keep hb1 h3; clear hb1)
      | (with_reducible refine wpList_storeW rfl _ _ _ rfl _ rfl rfl h2 sizeO ?_)
    exact bodyPost_ret_by (results_ct _ _ _ _ _ _ _ rfl rfl (setRow_heap _ _ _ _ _ _ h2) aggO sizeO) rfl ⟨rfl, below_setRow2 hbel (by omega) _⟩
  | true =>
    cases hg : (g 0 == 0) && pB g 6 with
    | false =>
      rw [show nbR p g = (fun _ => 0, false) from if_neg (by simp [hg])]
      have HG : Hid _ := hg
      clear hg
      have HF : Hid _ := hf
      clear hf
      go_enter Tryz.func13, Tryz.ntmps13
      go_wp2_with first
        | (have _t := tok_r; (with_reducible refine wpList_allocA rfl 28 rfl 6 zeroO ?_; (try simp only [size_al])); clear _t tok_r)
        | (with_reducible refine wpList_build0 rfl 28 rfl 6 builtO ?_)
        | (with_reducible refine wpList_loadW rfl _ _ rfl _ rfl h1 aggO sizeO ?_)
        | (with_reducible refine wpList_loadWG rfl _ _ rfl _ rfl h3 aggO sizeO ?_)
        | (go_at_call 27; (with_reducible refine (isRenaming_any p _).mono ?_); rw [HF.out]; rintro e w1 ⟨rfl, hb1⟩; replace hbel := hbel.trans (hb1.mono hbel.size); replace h1 := row_keep hb1 h1; replace h2 := row_keep hb1 h2; replace h3 := row_keep hb1 h3; clear hb1)
        | (go_at_call 27; (with_reducible refine (isRenaming_any g _).mono ?_); rw [HG.out]; rintro e w1 ⟨rfl, hb1⟩; replace hbel := hbel.trans (hb1.mono hbel.size); replace h1 := row_keep hb1 h1; replace h2 := row_keep hb1 h2; replace h3 := row_keep hb1 h3; clear hb1)
        | (with_reducible refine wpList_storeW rfl _ _ _ rfl _ rfl rfl h2 sizeO ?_)
      exact bodyPost_ret_by (results_ct _ _ _ _ _ _ _ rfl rfl (setRow_heap _ _ _ _ _ _ h2) aggO sizeO) rfl ⟨rfl, below_setRow2 hbel (by omega) _⟩
    | true =>
      rw [show nbR p g = (nN p g 6, true) from if_pos ⟨hf, hg⟩]
      have HG : Hid _ := hg
      clear hg
      have HF : Hid _ := hf
      have HB : Hid _ := (pB_iff 6).1 (by rw [Bool.and_eq_true] at hf; exact hf.2)
      clear hf
      go_enter Tryz.func13, Tryz.ntmps13
      go_wp2_with first
        | (have _t := tok_r; (with_reducible refine wpList_allocA rfl 28 rfl 6 zeroO ?_; (try simp only [size_al])); clear _t tok_r)
        | (have _t := tok_h4; with_reducible refine wpList_allocN rfl 28 rfl 6 zeroO ?_; intro Bh4 w1 hBh4 h4 hb1; have hWh4 := Nat.le_trans hbel.size hBh4; have hLh1h4 := Nat.lt_of_lt_of_le (row_lt h1) hBh4; have hLh2h4 := Nat.lt_of_lt_of_le (row_lt h2) hBh4; have hLh3h4 := Nat.lt_of_lt_of_le (row_lt h3) hBh4; replace hbel := hbel.trans (hb1.mono hbel.size); replace h1 := row_keep hb1 h1; replace h2 := row_keep hb1 h2; replace h3 := row_keep hb1 h3; clear hb1 _t tok_h4)
        | (with_reducible refine wpList_loadW rfl _ _ rfl _ rfl h1 aggO sizeO ?_)
        | (with_reducible refine wpList_loadWG rfl _ _ rfl _ rfl h3 aggO sizeO ?_)
        | (go_at_call 27; (with_reducible refine (isRenaming_any p _).mono ?_); rw [HF.out]; rintro e w1 ⟨rfl, hb1⟩; replace hbel := hbel.trans (hb1.mono hbel.size); replace h1 := row_keep hb1 h1; replace h2 := row_keep hb1 h2; replace h3 := row_keep hb1 h3; (try replace h4 := row_keep hb1 h4); clear hb1)
        | (go_at_call 27; (with_reducible refine (isRenaming_any g _).mono ?_); rw [HG.out]; rintro e w1 ⟨rfl, hb1⟩; replace hbel := hbel.trans (hb1.mono hbel.size); replace h1 := row_keep hb1 h1; replace h2 := row_keep hb1 h2; replace h3 := row_keep hb1 h3; (try replace h4 := row_keep hb1 h4); clear hb1)
      rw [nN_start p g] at h4
      go_loopw [19] (fun i wr => ∃ n : Nat, n ≤ 6 ∧ i = .int .i64 n ∧ wr.heap[w.heap.size]? = some (.cells (arr 6 p) 28 (0, 0)) ∧ wr.heap[w.heap.size + 1]? = some (.cells (arr 6 g) 28 (0, 0)) ∧ wr.heap[w.heap.size + 1 + 1]? = some (.cells (arr 6 fun _ => 0) 28 (0, 0)) ∧ wr.heap[Bh4]? = some (.cells (arr 6 (nN p g n)) 28 (0, 0)) ∧ Below w.heap.size w wr) (fun i _ => 6 - (intOf i).toNat)
      case atStart => exact ⟨0, by omega, rfl, h1, h3, h2, h4, hbel⟩
      case round =>
        clear h1 h2 h3 h4 hbel
        obtain ⟨n, hn, rfl, h1, h3, h2, h4, hbel⟩ := hrel
        by_cases hlt : n < 6
        · have hlt' : (n : Int) < 6 := by omega
          obtain ⟨⟨pa, pb⟩, _⟩ := HB.out n hlt
          obtain ⟨c, hc⟩ : ∃ c : Nat, p n = c := ⟨(p n).toNat, by omega⟩
          have hc6 : c < 6 := by omega
          have hc6' : (c : Int) < 6 := by omega
          have HC : Hid _ := hc
          clear pa pb hc
          go_wp2_with first
            | ((with_reducible refine wpList_indexI rfl _ _ _ rfl rfl rfl _ Tryz.underlying28 aggI undI size1 (by omega) ?_); rw [HC.out])
            | (with_reducible refine wpList_loadI rfl _ _ rfl _ _ rfl h3 aggI undI (by omega) ?_)
            | (with_reducible refine wpList_storePI rfl 3 _ _ rfl _ _ rfl rfl h4 size1 (by omega) hbel (by omega) ?_; intro w1 g3 ho g4; replace h1 := (ho _ (by omega)).trans h1; replace h2 := (ho _ (by omega)).trans h2; replace h3 := (ho _ (by omega)).trans h3; clear h4 hbel; have h4 := g3; have hbel := g4; clear g3 g4 ho)
          rw [nN_step p g HC.out] at h4
          go_roundw
          case rel => exact ⟨n + 1, by omega, by go_num, h1, h3, h2, h4, hbel⟩
          case measure => simp [intOf]; omega
        · obtain rfl : n = 6 := by omega
          go_wp2_with first
            | (with_reducible refine wpList_loadW rfl _ _ rfl _ rfl h4 aggO sizeO ?_)
            | (with_reducible refine wpList_storeW rfl _ _ _ rfl _ rfl rfl h2 sizeO ?_)
          exact bodyPost_ret_by (results_ct _ _ _ _ _ _ _ rfl rfl (setRow_heap _ _ _ _ _ _ h2) aggO sizeO) rfl ⟨rfl, below_setRow2 hbel (by omega) _⟩
end Go.Proofs.YtlbgmkengkgnfaaGreat
end
