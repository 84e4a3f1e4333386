/- The laws' own copying of views. -/
import Derived.Test.YtbiplciklmagoaaView
namespace Go.Proofs.Ytbiplciklmagoaa
set_option linter.unusedSimpArgs false
set_option linter.unusedVariables false
set_option maxRecDepth 20000
open Go.RowKit
theorem size18l : (Try.prog.info? 45).map (·.size) = some 18 := by kernel_rfl
theorem agg18l : aggB Try.prog 45 = true := by kernel_rfl
theorem zero18r : ((Try.prog.info? 48).bind (·.zero)).map (·.cells) = some (arr 18 fun _ => 0) := by kernel_rfl
theorem toIntA6_any (g : Nat → Int) (w : World) : Calls Try.prog 62 #[.agg (arr 6 g)] w fun e w' => e = .returned (.agg (arr 6 g)) ∧ Below w.heap.size w w' := by
  go_enter Try.func62, Try.ntmps62
  go_wp2_with (with_reducible refine wpList_allocA rfl 43 rfl 6 v6z ?_)
  go_loopw [4] (fun i wr => ∃ k : Nat, k ≤ 6 ∧ i = .int .i64 k ∧ wr.heap[w.heap.size]? = some (.cells (arr 6 g) 43 (0, 0)) ∧ wr.heap[w.heap.size + 1]? = some (.cells (arr 6 fun _ => 0) 43 (0, 0)) ∧
    wr.heap[w.heap.size + 2]? = some (.cells (arr 6 fun j => if j < k then g j else 0) 43 (0, 0)) ∧ Below w.heap.size w wr) (fun i _ => 6 - (intOf i).toNat)
  case atStart =>
    refine ⟨0, by omega, rfl, ?_, ?_, ?_, ?_⟩
    · rw [heap_old (by simp; omega), heap_old (by simp), heap_new rfl]
    · rw [heap_old (by simp), heap_new (by simp)]
    · rw [heap_new (by simp)]; simp
    · exact (((Below.refl _ _).alloc (by simp) _).alloc (by simp) _).alloc (by simp; omega) _
  case round =>
    obtain ⟨k, hk, rfl, h1, h2, h3, hb⟩ := hrel
    by_cases hlt : k < 6
    · have hc := rowcell h1 hlt
      go_wp2_with (with_reducible refine wpList_storeI rfl 3 _ _ rfl _ _ rfl rfl h3 size1 hlt ?_)
      go_roundw
      case rel =>
        refine ⟨k + 1, by omega, by go_num, ?_, ?_, ?_, below_setRow2 hb (by omega) _⟩
        · rw [setRow_other _ _ _ _ (by omega), h1]
        · rw [setRow_other _ _ _ _ (by omega), h2]
        · rw [setRow_heap _ _ _ _ _ _ h3]
          congr 2
          refine arr_congr fun j hj => ?_
          unfold upd
          by_cases e : j = k
          · subst e; simp
          · have : j < k + 1 ↔ j < k := by omega
            simp [e, this]
      case measure => simp [intOf]; omega
    · go_wp2_with first | (with_reducible refine wpList_loadW rfl _ _ rfl _ rfl h3 v6a v6s ?_) | (with_reducible refine wpList_storeW rfl _ _ _ rfl _ rfl rfl h2 v6s ?_)
      refine bodyPost_ret_by (results_cellA rfl _ _ _ _ _ _ _ rfl (setRow_heap _ _ _ _ _ _ h2) v6a v6s) rfl ⟨?_, below_setRow2 hb (by omega) _⟩
      congr 2
      refine arr_congr fun j hj => ?_
      rw [if_pos (by omega)]
/-- The row where the first a have been copied. -/
def part18 (g : Nat → Int) (a : Nat) : Nat → Int := fun j => if j < a then g j else 0
theorem part18_step (g : Nat → Int) (a : Nat) (j : Nat) : updN (part18 g a) a 6 (fun j => g (a + j)) j = part18 g (a + 6) j := by
  unfold updN part18
  by_cases h1 : a ≤ j ∧ j < a + 6
  · rw [if_pos h1, if_pos h1.2]; show g (a + (j - a)) = g j; congr 1; omega
  · rw [if_neg h1]
    by_cases h2 : j < a
    · rw [if_pos h2, if_pos (by omega)]
    · rw [if_neg h2, if_neg (by omega)]
theorem part18_s0 (g : Nat → Int) (j : Nat) : updN (part18 g 0) 0 6 (fun j => g j) j = part18 g 6 j := by simpa using part18_step g 0 j
theorem part18_s6 (g : Nat → Int) (j : Nat) : updN (part18 g 6) 6 6 (fun j => g (6 + j)) j = part18 g 12 j := part18_step g 6 j
theorem part18_s12 (g : Nat → Int) (j : Nat) : updN (part18 g 12) 12 6 (fun j => g (12 + j)) j = part18 g 18 j := part18_step g 12 j
theorem part18_all (g : Nat → Int) : arr 18 (part18 g 18) = arr 18 g := arr_congr fun j hj => if_pos hj
variable {P : Program}
theorem wpList_storeAN {ops : Array Oper} {rest : List Oper} {o : Oper} {a : Act} {w : World} {Q : Exit → Act → World → Prop} (hgd : o.guard = none) (ty : TypeId) (x y : Operand) (ho : o.op = .store ty x y)
    (B off : Nat) (hx : a.eval x = .pointer (some ⟨B, off, none⟩)) {m : Nat} {g : Nat → Int} (hy : a.eval y = .agg (arr m g)) {T : TypeId} {n : Nat} {f : Nat → Int} (hg : w.heap[B]? = some (.cells (arr n f) T (0, 0)))
    (hi : (P.info? ty).map (·.size) = some m) (hle : off + m ≤ n) (f2 : Nat → Int) (hf2 : ∀ j, updN f off m g j = f2 j) {k : Nat} {w0 : World} (hb : Below k w0 w) (hk : k ≤ B)
    (h : ∀ w', w'.heap[B]? = some (.cells (arr n f2) T (0, 0)) → (∀ B', B' ≠ B → w'.heap[B']? = w.heap[B']?) → Below k w0 w' → wpList P ops Q rest (a.put o.dst undef) w') : wpList P ops Q (o :: rest) a w :=
  wpList_storeA hgd ty x y ho B off hx hy hg hi hle (by
    rw [show updN f off m g = f2 from funext hf2]
    exact h _ (setRow_heap _ _ _ _ _ _ hg) (fun B' hB => setRow_other _ _ _ _ hB) (below_setRow2 hb hk _))
theorem toView_any (g : Nat → Int) (w : World) : Calls Try.prog 27 #[.agg (arr 18 g)] w fun e w' => e = .returned (.agg (arr 18 g)) ∧ Below w.heap.size w w' := by
  have h1 : (((w.alloc (.cells (arr 18 g) 45)).alloc (.cells (arr 18 fun _ => 0) 48)).alloc (.cells (arr 18 fun _ => 0) 48)).heap[w.heap.size]? = some (.cells (arr 18 g) 45 (0, 0)) := by rw [heap_old (by simp; omega), heap_old (by simp), heap_new rfl]
  have h2 : (((w.alloc (.cells (arr 18 g) 45)).alloc (.cells (arr 18 fun _ => 0) 48)).alloc (.cells (arr 18 fun _ => 0) 48)).heap[w.heap.size + 1]? = some (.cells (arr 18 fun _ => 0) 48 (0, 0)) := by rw [heap_old (by simp), heap_new (by simp)]
  have h3 : (((w.alloc (.cells (arr 18 g) 45)).alloc (.cells (arr 18 fun _ => 0) 48)).alloc (.cells (arr 18 fun _ => 0) 48)).heap[w.heap.size + 1 + 1]? = some (.cells (arr 18 (part18 g 0)) 48 (0, 0)) := by rw [heap_new (by simp)]; exact congrArg (fun f => some (Obj.cells (arr 18 f) _ (0, 0))) (funext fun j => by simp [part18])
  have hbel : Below w.heap.size w (((w.alloc (.cells (arr 18 g) 45)).alloc (.cells (arr 18 fun _ => 0) 48)).alloc (.cells (arr 18 fun _ => 0) 48)) := (((Below.refl _ _).alloc (by simp) _).alloc (by simp) _).alloc (by simp; omega) _
  go_enter Try.func27, Try.ntmps27
  go_wp2_with first
    | (with_reducible refine wpList_allocA rfl 48 rfl 18 zero18r ?_; (try simp only [size_al]))
    | (with_reducible refine wpList_loadA rfl _ _ rfl _ _ rfl h1 6 v6a v6s (by omega) ?_)
    | (go_at_call 62; (with_reducible refine (toIntA6_any _ _).mono ?_); rintro e w1 ⟨rfl, hb1⟩; replace hbel := hbel.trans (hb1.mono hbel.size); replace h1 := row_keep hb1 h1; replace h2 := row_keep hb1 h2; replace h3 := row_keep hb1 h3; clear hb1)
    | (with_reducible refine wpList_storeAN rfl _ _ _ rfl _ 0 rfl rfl h3 v6s (by omega) (part18 g 6) (part18_s0 g) hbel (by omega) ?_; intro wp g3 ho g4; replace h1 := (ho _ (by omega)).trans h1; replace h2 := (ho _ (by omega)).trans h2; clear h3 hbel; have h3 := g3; have hbel := g4; clear g3 g4 ho)
    | (with_reducible refine wpList_storeAN rfl _ _ _ rfl _ 6 rfl rfl h3 v6s (by omega) (part18 g 12) (part18_s6 g) hbel (by omega) ?_; intro wp g3 ho g4; replace h1 := (ho _ (by omega)).trans h1; replace h2 := (ho _ (by omega)).trans h2; clear h3 hbel; have h3 := g3; have hbel := g4; clear g3 g4 ho)
    | (with_reducible refine wpList_storeAN rfl _ _ _ rfl _ 12 rfl rfl h3 v6s (by omega) (part18 g 18) (part18_s12 g) hbel (by omega) ?_; intro wp g3 ho g4; replace h1 := (ho _ (by omega)).trans h1; replace h2 := (ho _ (by omega)).trans h2; clear h3 hbel; have h3 := g3; have hbel := g4; clear g3 g4 ho)
    | (with_reducible refine wpList_loadW rfl _ _ rfl _ rfl h3 agg18r size18r ?_)
    | (with_reducible refine wpList_storeW rfl _ _ _ rfl _ rfl rfl h2 size18r ?_)
  exact bodyPost_ret_by (results_cellA rfl _ _ _ _ _ _ _ rfl (setRow_heap _ _ _ _ _ _ h2) agg18r size18r) rfl ⟨by rw [part18_all], below_setRow2 hbel (by omega) _⟩
end Go.Proofs.Ytbiplciklmagoaa
