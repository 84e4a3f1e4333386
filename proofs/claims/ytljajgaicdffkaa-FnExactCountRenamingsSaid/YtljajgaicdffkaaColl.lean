/- slices.Sorted of slices.Values of a row of six ints (lines turned from the kit's worked text on collecting). -/
import Derived.Maps.AppendAt
import Derived.Test.YtljajgaicdffkaaIter
import Derived.Test.YtljajgaicdffkaaAppB
import Derived.Test.YtljajgaicdffkaaEqI
namespace Go.Proofs.Ytljajgaicdffkaa
set_option linter.unusedSimpArgs false
set_option linter.unusedVariables false
set_option maxRecDepth 20000
open Go.RowKit Go.Shelf
attribute [local go_sem] Oper.semAt_some
theorem Sl.own {w : World} {base : Nat} {e : TypeId} {s : Nat} {v : Value} {n : Nat} {f : Nat → Int} (h : Sl w base e s v n f) : w.ownsRow base e s v n (arr (n * s) f).toList := by
  refine ⟨by simp [arr_size], ?_⟩
  rcases h with h | ⟨g, cap, F, rfl, h1, h2, h3, h4, h5⟩
  · exact .inl h
  · exact .inr ⟨g, cap, _, rfl, h1, h2, h3, h4, arr_size _ _, by rw [arr_take _ _ _ (Nat.mul_le_mul_right _ h3), arr_congr h5]⟩
theorem Sl.grown {W W' : World} {row : Option Nat} {base : Nat} {e : TypeId} {s : Nat} {v : Value} {n : Nat} {f : Nat → Int} (h : Sl W base e s v n f) (hg : W.grownBy W' row) (hne : v.ownBlock ≠ row ∨ v = .slice none 0 0) : Sl W' base e s v n f := by
  rcases h with h | ⟨g, cap, F, rfl, h1, h2, h3, h4, h5⟩
  · exact .inl h
  · refine .inr ⟨g, cap, F, rfl, h1, ?_, h3, h4, h5⟩
    rcases hne with hne | hne
    · exact (hg.block g (Array.getElem?_eq_some_iff.1 h2).1 (fun e' => hne (by simpa [Value.ownBlock] using e'))).trans h2
    · cases hne
theorem Sl.cong {W : World} {base : Nat} {e : TypeId} {s : Nat} {v : Value} {n : Nat} {f g : Nat → Int} (h : Sl W base e s v n f) (hf : ∀ j, j < n * s → f j = g j) : Sl W base e s v n g := by
  rcases h with h | ⟨q, cap, F, rfl, h1, h2, h3, h4, h5⟩
  · exact .inl h
  · exact .inr ⟨q, cap, F, rfl, h1, h2, h3, h4, fun j hj => (h5 j hj).trans (hf j hj)⟩
theorem holdsSl_own {β : Type} (n₀ B : Nat) (t e : TypeId) (size : Nat) (k : β → Nat) (f : β → Nat → Int) : Own (fun s W => ∃ v, Boxed W B t v ∧ Sl W n₀ e size v (k s) (f s)) := by
  rintro s X Y row ⟨v, hv, hr⟩ hg hrow
  refine ⟨v, hv.kept hg (fun e' => ?_), hr.grown hg ?_⟩
  · obtain ⟨o, ho, hc⟩ := hrow B e'.symm
    rw [show X.heap[B]? = _ from hv] at ho; cases ho; cases hc
  · rcases hr with ⟨rfl, _⟩ | ⟨g, cap, F, rfl, _, hgb, _⟩
    · exact .inr rfl
    · refine .inl fun e' => ?_
      obtain ⟨o, ho, hc⟩ := hrow g (by simpa [Value.ownBlock] using e'.symm)
      rw [hgb] at ho; cases ho; cases hc
def zI (xs : List Int) : Nat → Int := fun j => xs[j]?.getD 0
theorem slI : SlOK Try.prog 58 3 1 8 := ⟨Try.underlying58, by kernel_rfl, by kernel_rfl⟩
theorem it_info : (Try.prog.info? 3).map (fun i => (i.zero, i.size, i.bytes)) = some (some (.int .i64 0), 1, 8) := by kernel_rfl
theorem arr1 (x : Int) : arr 1 (fun _ => x) = #[.int .i64 x] := by
  refine Array.ext_getElem? fun j => ?_
  rw [arr_get]
  by_cases h : j < 1
  · rw [if_pos h]
    obtain rfl : j = 0 := by omega
    rfl
  · rw [if_neg h]; simp; omega
theorem zI_snoc {pre : List Int} {x : Int} : ∀ j, j < (pre.length + 1) * 1 → app (zI pre) (pre.length * 1) (fun _ => x) j = zI (pre ++ [x]) j := by
  intro j hj
  unfold app zI
  by_cases h : j < pre.length * 1
  · rw [if_pos h, List.getElem?_append_left (by omega)]
  · rw [if_neg h, List.getElem?_append_right (by omega), show j - pre.length = 0 by omega]; rfl
set_option maxRecDepth 100000 in
set_option maxHeartbeats 2000000 in
theorem it_appendSeq_in (F : Fence) (n : Nat) (h3 : F.fn 91) (h5 : F.fn 78) (hro : F.round = none) (hn : 3 ≤ n) (Bs : Nat) (sv : Value) (xs : List Int) (hlen : xs.length ≤ 1000) (w : World) (hBs : Bs < w.heap.size) (hc0 : w.cell? ⟨Bs, 0, none⟩ = some sv) (hL : it_Ints w.heap.size w sv xs) :
    CallsIn F n Try.prog 91 #[.slice none 0 0, .func (.func 78) #[] #[.pointer (some ⟨Bs, 0, none⟩)]] w fun e W' => ∃ v, e = .returned v ∧ Sl W' w.heap.size 3 1 v xs.length (zI xs) ∧ Below w.heap.size w W' := by
  have h1 : 1 ≤ n := by omega
  obtain ⟨i0, hi, hz0, hz1, hz2⟩ := info_parts it_info
  refine callsIn_of_wp_marks Try.func91 rfl h3 ?_ hro
  simp only [Try.ntmps91, List.size_toArray, List.length_cons, List.length_nil, Nat.reduceAdd, Nat.reduceSub, Array.replicate_succ, Array.replicate_zero, List.push_toArray, List.append_toArray, List.nil_append, List.cons_append]
  gi_wp2
  have bO := Boxed.new w 58 (.slice none 0 0)
  have hB0 : Below w.heap.size w (w.alloc (.cells #[.slice none 0 0] 58)) := (Below.refl _ w).alloc (Nat.le_refl _) _
  refine wpIn_rangeFunc_ownG hro h1 (gf := 78) (lb := #[.pointer (some ⟨Bs, 0, none⟩)]) rfl h5 (enters_of Try.func78 (by kernel_rfl) rfl)
    (it_values_stops F (n - 1) h5 hro (by omega) Bs w.heap.size sv xs (by omega) _ (by simp <;> omega) (by simp) ((hB0.cell (p := ⟨Bs, 0, none⟩) hBs).trans hc0) (hL.below hB0)) belowK_t (belowK_b (by simp <;> omega)) (Below.refl _ _) (fun _ => rfl)
    (fun pre W => (∃ v, Boxed W w.heap.size 58 v ∧ Sl W w.heap.size 3 1 v pre.length (zI pre)) ∧ Below w.heap.size w W)
    (fun _ _ _ => False)
    (OwnFrom.and (Own.from (holdsSl_own w.heap.size w.heap.size 58 3 1 (fun pre : List Int => pre.length) (fun pre : List Int => zI pre)) _) (ownFrom_below (Nat.le_refl _) (by simp <;> omega)))
    (fun _ _ _ _ _ hs _ _ => hs)
    ⟨⟨_, bO, .inl ⟨rfl, rfl⟩⟩, hB0⟩
    (fun x => { tmps := #[.slice none 0 0, .func (.func 78) #[] #[.pointer (some ⟨Bs, 0, none⟩)], .pointer (some ⟨w.heap.size, 0, none⟩), undef, .slice none 0 0, .int .i64 x, .func (.func 78) #[] #[.pointer (some ⟨Bs, 0, none⟩)], .int .i64 x, undef, undef, undef, undef, undef], defers := [] }) ?assign ?body ?done ?stop
  case assign =>
    intro l x W K hK
    gi_wp2
    exact hK
  case body =>
    rintro l pre x W ⟨⟨v, hv, hrow⟩, hB⟩ hlt
    have hc := hv.cell
    gi_wp2_with (gi_at_builtin; refine wpListIn_append_both _ rfl _ _ 58 rfl w.heap.size 3 i0 (.int .i64 0) 1 8 Try.underlying58 hi hz0 hz1 hz2 rfl (by decide) _ _ _ rfl (hrow.own.alloc _) W.heap.size 0 1 1 [.int .i64 x] rfl rfl (cell_one_new _ _ _) (by simp [Value.oneCell']) (by unfold maxLen; omega) (by omega) (by have := hB.size; simp; omega) slI w.heap.size (by have := hB.size; simp; omega) (hrow.grown (World.grownBy_alloc W _ none) (by rcases hrow with ⟨rfl, _⟩ | ⟨_, _, _, rfl, _⟩; exact .inr rfl; exact .inl (by simp [Value.ownBlock]))) (N := 1) (g := fun _ => x) (by rw [arr1]; exact World.alloc_heap_new W _) (by omega) (by decide) ?_; intro v' w1 hown' hgrow hSl; obtain ⟨g', cap', rfl⟩ := ownsRow_succ hown'; obtain ⟨hv1, hv2, hr2, hk2, hb2⟩ := hv.appended (by decide) hrow.own hB.size (Nat.le_refl _) hown' hgrow; have hc1 := hv1.cell; have hf1 := hv1.frozen; have hS2 := hSl.grown (grownBy_setCell' w1 w.heap.size (.slice (some ⟨g', 0, none⟩) (pre.length + 1) cap')) (.inl (hv1.not_row (by decide) hown').symm))
    refine ⟨hk2.from _, hb2, ⟨_, hv2, ?_⟩, hB.trans hb2⟩
    rw [List.length_append]
    exact hS2.cong zI_snoc
  case done =>
    rintro D ys W hD rfl ⟨⟨v, hv, hrow⟩, hB⟩ hK
    have hc := hv.cell
    gi_wp2
    refine ⟨by simp, .inl ⟨_, _, rfl, run_takeDeferred hK, ?_⟩⟩
    refine ⟨_, results_tmp rfl _ _ _, v, rfl, ?_, hB.trans (belowK_b (w := w) (Nat.le_refl _) W D _ _ (by simp at hD; omega) hK rfl rfl)⟩
    refine hrow.grown (grownBy_putObj' W _ _) ?_
    rcases hrow with ⟨rfl, _⟩ | ⟨g, cap, cur, rfl, _, hgb, _⟩
    · exact .inr rfl
    · refine .inl fun e' => ?_
      obtain rfl : g = _ := by simpa [Value.ownBlock] using e'
      rw [hgb] at hK; cases hK
  case stop =>
    rintro D c pre W _ _ h _
    exact h.elim
end Go.Proofs.Ytljajgaicdffkaa
