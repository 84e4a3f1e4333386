/- The view of a rack: the program's and the reference's, and the law. -/
import Derived.Test.YtogdmacndokmhaaCanP
import Derived.Test.YtogdmacndokmhaaCnt
import Derived.Test.YtogdmacndokmhaaView
import Derived.Test.YtogdmacndokmhaaConvV
import Derived.Test.YtogdmacndokmhaaFork
import Derived.Test.YtogdmacndokmhaaEq6
namespace Go.Proofs.Ytogdmacndokmhaa
set_option linter.unusedSimpArgs false
set_option linter.unusedVariables false
set_option maxRecDepth 20000
open Go.RowKit
theorem v18z : ((Try.prog.info? 28).bind (·.zero)).map (·.cells) = some (arr 18 fun _ => 0) := by kernel_rfl
theorem v18b : Try.prog.built 28 [] = some (arr 18 fun _ => 0) := by kernel_rfl
variable {P : Program} in
/-- One int of a row is overwritten; behind it the world is a name. -/
theorem wpList_storePI {ops : Array Oper} {rest : List Oper} {o : Oper} {a : Act} {w : World} {Q : Exit → Act → World → Prop} (hgd : o.guard = none) (ty : TypeId) (x y : Operand) (ho : o.op = .store ty x y)
    (B off : Nat) (hx : a.eval x = .pointer (some ⟨B, off, none⟩)) {v : Int} (hy : a.eval y = .int .i64 v) {T : TypeId} {n : Nat} {f : Nat → Int} (hg : w.heap[B]? = some (.cells (arr n f) T (0, 0)))
    (hi : (P.info? ty).map (·.size) = some 1) (hle : off < n) {k : Nat} {w0 : World} (hb : Below k w0 w) (hk : k ≤ B)
    (h : ∀ w', w'.heap[B]? = some (.cells (arr n (upd f off v)) T (0, 0)) → (∀ B', B' ≠ B → w'.heap[B']? = w.heap[B']?) → Below k w0 w' → wpList P ops Q rest (a.put o.dst undef) w') : wpList P ops Q (o :: rest) a w :=
  wpList_storeI hgd ty x y ho B off hx hy hg hi hle (h _ (setRow_heap _ _ _ _ _ _ hg) (fun B' hB => setRow_other _ _ _ _ hB) (below_setRow2 hb hk _))
theorem v18c (g : Nat → Int) : Try.prog.built 28 [(2, .agg (arr 6 g))] = some (arr 18 (updN (fun _ => 0) 12 6 g)) := by kernel_rfl
/-- What one sees of a rack. -/
def viewF (f : Nat → Int) : Nat → Int := fun q => if q < 6 then (tpF (tub f q)).1 else if q < 12 then (nlay (tub f (q - 6)) : Nat) else if q = 12 then 0 else tally f 24 (q - 12)
/-- Behind n tubes, the counts being c. -/
def vI (f c : Nat → Int) (n : Nat) : Nat → Int := fun q => if q < 6 then (if q < n then (tpF (tub f q)).1 else 0) else if q < 12 then (if q - 6 < n then ((nlay (tub f (q - 6)) : Nat) : Int) else 0) else c (q - 12)
theorem vI_step (f c : Nat → Int) {n : Nat} (hn : n < 6) : arr 18 (upd (upd (vI f c n) n (tpF (tub f n)).1) (6 + n) (nlay (tub f n) : Nat)) = arr 18 (vI f c (n + 1)) := by
  refine arr_congr fun q hq => ?_
  unfold upd vI
  by_cases e1 : q = 6 + n
  · subst e1
    rw [if_pos rfl, if_neg (by omega), if_pos (by omega), if_pos (by omega), show 6 + n - 6 = n by omega]
  · rw [if_neg e1]
    by_cases e2 : q = n
    · subst e2
      rw [if_pos rfl, if_pos (by omega), if_pos (by omega)]
    · rw [if_neg e2]
      by_cases h1 : q < 6
      · rw [if_pos h1, if_pos h1]
        by_cases h2 : q < n
        · rw [if_pos h2, if_pos (by omega)]
        · rw [if_neg h2, if_neg (by omega)]
      · rw [if_neg h1, if_neg h1]
        by_cases h3 : q < 12
        · rw [if_pos h3, if_pos h3]
          by_cases h2 : q - 6 < n
          · rw [if_pos h2, if_pos (by omega)]
          · rw [if_neg h2, if_neg (by omega)]
        · rw [if_neg h3, if_neg h3]
theorem vI_zero : arr 18 (fun _ => (0 : Int)) = arr 18 (vI (fun _ => 0) (fun _ => 0) 0) := by
  refine arr_congr fun q hq => ?_
  unfold vI
  (repeat' split) <;> first | rfl | omega
theorem vI_start (f : Nat → Int) : arr 18 (fun _ => (0 : Int)) = arr 18 (vI f (fun _ => 0) 0) := by
  refine arr_congr fun q hq => ?_
  unfold vI
  (repeat' split) <;> first | rfl | omega
/-- The program's end. -/
theorem vI_done (f : Nat → Int) : arr 18 (upd (updN (vI f (fun _ => 0) 6) 12 6 (tally f 24)) 12 0) = arr 18 (viewF f) := by
  refine arr_congr fun q hq => ?_
  unfold upd updN vI viewF
  by_cases e : q = 12
  · subst e; simp
  · rw [if_neg e]
    by_cases h : 12 ≤ q ∧ q < 12 + 6
    · rw [if_pos h, if_neg (by omega), if_neg (by omega), if_neg e]
    · rw [if_neg h]
      by_cases h1 : q < 6
      · rw [if_pos h1, if_pos h1, if_pos h1]
      · rw [if_neg h1, if_neg h1, if_pos (by omega), if_pos (by omega), if_pos (by omega)]
def cn0 (f : Nat → Int) : Nat → Int := upd (tally f 24) 0 0
/-- The reference's end. -/
theorem vI_done2 (f : Nat → Int) : arr 18 (vI f (cn0 f) 6) = arr 18 (viewF f) := by
  refine arr_congr fun q hq => ?_
  unfold vI viewF cn0 upd
  by_cases h1 : q < 6
  · rw [if_pos h1, if_pos h1, if_pos h1]
  · rw [if_neg h1, if_neg h1]
    by_cases h2 : q < 12
    · rw [if_pos h2, if_pos h2, if_pos (by omega)]
    · rw [if_neg h2, if_neg h2]
      by_cases e : q = 12
      · subst e; simp
      · rw [if_neg e, if_neg (by omega)]
theorem vI_start2 (f : Nat → Int) : arr 18 (upd (updN (fun _ => 0) 12 6 (tally f 24)) 12 0) = arr 18 (vI f (cn0 f) 0) := by
  refine arr_congr fun q hq => ?_
  unfold vI cn0 upd updN
  by_cases e : q = 12
  · subst e; simp
  · rw [if_neg e]
    by_cases h : 12 ≤ q ∧ q < 12 + 6
    · rw [if_pos h, if_neg (by omega), if_neg (by omega), if_neg (by omega)]
    · rw [if_neg h]
      by_cases h1 : q < 6
      · rw [if_pos h1, if_neg (by omega)]
      · rw [if_neg h1, if_pos (by omega), if_neg (by omega)]
theorem viewOf_any (f : Nat → Int) (hf : rackB f = true) (w : World) : Calls Try.prog 83 #[.agg (arr 24 f)] w fun e w' => e = .returned (.agg (arr 18 (viewF f))) ∧ Below w.heap.size w w' := by
  have h1 : ((((w.alloc (.cells (arr 24 f) 38)).alloc (.cells (arr 18 fun _ => 0) 28)).alloc (.cells (arr 18 fun _ => 0) 28))).heap[w.heap.size]? = some (.cells (arr 24 f) 38 (0, 0)) := by rw [heap_old (by simp; omega), heap_old (by simp), heap_new rfl]
  have h2 : ((((w.alloc (.cells (arr 24 f) 38)).alloc (.cells (arr 18 fun _ => 0) 28)).alloc (.cells (arr 18 fun _ => 0) 28))).heap[w.heap.size + 1]? = some (.cells (arr 18 fun _ => 0) 28 (0, 0)) := by rw [heap_old (by simp), heap_new (by simp)]
  have h3 : ((((w.alloc (.cells (arr 24 f) 38)).alloc (.cells (arr 18 fun _ => 0) 28)).alloc (.cells (arr 18 fun _ => 0) 28))).heap[w.heap.size + 1 + 1]? = some (.cells (arr 18 fun _ => 0) 28 (0, 0)) := heap_new (by simp)
  have hbel : Below w.heap.size w ((((w.alloc (.cells (arr 24 f) 38)).alloc (.cells (arr 18 fun _ => 0) 28)).alloc (.cells (arr 18 fun _ => 0) 28))) := (((Below.refl _ _).alloc (by simp) _).alloc (by simp) _).alloc (by simp; omega) _
  go_enter Try.func83, Try.ntmps83
  go_wp2_with first
    | (with_reducible refine wpList_allocA rfl 28 rfl 18 v18z ?_; (try simp only [size_al]))
    | (with_reducible refine wpList_loadW rfl _ _ rfl _ rfl h1 agg24 size24 ?_)
  go_loopw [8] (fun i wr => ∃ n : Nat, n ≤ 6 ∧ i = .int .i64 n ∧ wr.heap[w.heap.size]? = some (.cells (arr 24 f) 38 (0, 0)) ∧ wr.heap[w.heap.size + 1]? = some (.cells (arr 18 fun _ => 0) 28 (0, 0)) ∧
    wr.heap[w.heap.size + 1 + 1]? = some (.cells (arr 18 (vI f (fun _ => 0) n)) 28 (0, 0)) ∧ Below w.heap.size w wr) (fun i _ => 6 - (intOf i).toNat)
  case atStart => exact ⟨0, by omega, rfl, h1, h2, by rw [← vI_start f]; exact h3, hbel⟩
  case round =>
    clear h1 h2 h3 hbel
    obtain ⟨n, hn, rfl, h1, h2, h3, hbel⟩ := hrel
    by_cases hlt : n < 6
    · have hlt' : (n : Int) < 6 := by omega
      have ht := tube_of_rack hf (show n ≤ 5 by omega)
      have tok_hA : True := trivial
      go_wp2_with first
        | (with_reducible refine wpList_indexA rfl _ _ _ rfl rfl rfl 6 _ Try.underlying33 4 agg4 size4 (by omega) rfl ?_)
        | (have _t := tok_hA; with_reducible refine wpList_allocN rfl 32 rfl 4 zero4 ?_; intro BhA w1 hBhA hA hb1; have hWhA := Nat.le_trans hbel.size hBhA; have hLh1hA := Nat.lt_of_lt_of_le (row_lt h1) hBhA; have hLh2hA := Nat.lt_of_lt_of_le (row_lt h2) hBhA; have hLh3hA := Nat.lt_of_lt_of_le (row_lt h3) hBhA; replace hbel := hbel.trans (hb1.mono hbel.size); replace h1 := row_keep hb1 h1; replace h2 := row_keep hb1 h2; replace h3 := row_keep hb1 h3; clear hb1 _t tok_hA)
        | (with_reducible refine wpList_storeWN rfl _ _ _ rfl _ rfl rfl hA size4 hbel hWhA ?_; intro w1 g3 ho g4; replace h1 := (ho _ (by omega)).trans h1; replace h2 := (ho _ (by omega)).trans h2; replace h3 := (ho _ (by omega)).trans h3; clear hA hbel; have hA := g3; have hbel := g4; clear g3 g4 ho)
        | (with_reducible refine wpList_loadW rfl _ _ rfl _ rfl hA agg4 size4 ?_)
        | (go_at_call 95; (with_reducible refine (top_any (tub f n) ht _).mono ?_); rintro e w1 ⟨rfl, hb1⟩; replace hbel := hbel.trans (hb1.mono hbel.size); replace h1 := row_keep hb1 h1; replace h2 := row_keep hb1 h2; replace h3 := row_keep hb1 h3; replace hA := row_keep hb1 hA; clear hb1)
        | (go_at_call 96; (with_reducible refine (layers_any (tub f n) _).mono ?_); rintro e w1 ⟨rfl, hb1⟩; replace hbel := hbel.trans (hb1.mono hbel.size); replace h1 := row_keep hb1 h1; replace h2 := row_keep hb1 h2; replace h3 := row_keep hb1 h3; replace hA := row_keep hb1 hA; clear hb1)
        | (with_reducible refine wpList_storePI rfl 3 _ _ rfl _ _ rfl rfl h3 size1 (by omega) hbel (by omega) ?_; intro w1 g3 ho g4; replace h1 := (ho _ (by omega)).trans h1; replace h2 := (ho _ (by omega)).trans h2; replace hA := (ho _ (by omega)).trans hA; clear h3 hbel; have h3 := g3; have hbel := g4; clear g3 g4 ho)
      go_roundw
      case rel => exact ⟨n + 1, by omega, by go_num, h1, h2, by rw [← vI_step f _ hlt]; exact h3, hbel⟩
      case measure => simp [intOf]; omega
    · obtain rfl : n = 6 := by omega
      go_wp2_with first
        | (with_reducible refine wpList_loadW rfl _ _ rfl _ rfl h1 agg24r size24r ?_)
        | (with_reducible refine wpList_loadW rfl _ _ rfl _ rfl h3 agg18r size18r ?_)
        | (go_at_call 74; (with_reducible refine (countColors_any f hf _).mono ?_); rintro e w1 ⟨rfl, hb1⟩; replace hbel := hbel.trans (hb1.mono hbel.size); replace h1 := row_keep hb1 h1; replace h2 := row_keep hb1 h2; replace h3 := row_keep hb1 h3; clear hb1)
        | (with_reducible refine wpList_storePN rfl _ _ _ rfl _ _ rfl rfl h3 v6s (by omega) hbel (by omega) ?_; intro w1 g3 ho g4; replace h2 := (ho _ (by omega)).trans h2; clear h1 h3 hbel; have h3 := g3; have hbel := g4; clear g3 g4 ho)
        | (with_reducible refine wpList_storePI rfl 3 _ _ rfl _ _ rfl rfl h3 size1 (by omega) hbel (by omega) ?_; intro w1 g3 ho g4; replace h2 := (ho _ (by omega)).trans h2; clear h3 hbel; have h3 := g3; have hbel := g4; clear g3 g4 ho)
        | (with_reducible refine wpList_storeW rfl _ _ _ rfl _ rfl rfl h2 size18r ?_)
      refine bodyPost_ret_by (results_cellA rfl _ _ _ _ _ _ _ rfl (setRow_heap _ _ _ _ _ _ h2) agg18r size18r) rfl ⟨?_, below_setRow2 hbel (by omega) _⟩
      rw [vI_done]
variable {P : Program} in
/-- A composite value of one part. -/
theorem wpList_build1 {ops : Array Oper} {rest : List Oper} {o : Oper} {a : Act} {w : World} {Q : Exit → Act → World → Prop} (hgd : o.guard = none) (ty : TypeId) (i : Nat) (x : Operand) (ho : o.op = .build ty #[(i, x)]) {m : Nat} {g : Nat → Int} (hx : a.eval x = .agg (arr m g)) {cs : Array Value}
    (hz : P.built ty [(i, .agg (arr m g))] = some cs) (h : wpList P ops Q rest (a.put o.dst (.agg cs)) w) : wpList P ops Q (o :: rest) a w :=
  wpList_build hgd ty #[(i, x)] ho (by simp [hx, hz]) (by simpa [hx, hz] using h)
theorem l7View_any (f : Nat → Int) (hf : rackB f = true) (w : World) : Calls Try.prog 82 #[.agg (arr 24 f)] w fun e w' => e = .returned (.agg (arr 18 (viewF f))) ∧ Below w.heap.size w w' := by
  have h1 : (((w.alloc (.cells (arr 24 f) 38)).alloc (.cells (arr 18 fun _ => 0) 28))).heap[w.heap.size]? = some (.cells (arr 24 f) 38 (0, 0)) := by rw [heap_old (by simp), heap_new rfl]
  have h2 : (((w.alloc (.cells (arr 24 f) 38)).alloc (.cells (arr 18 fun _ => 0) 28))).heap[w.heap.size + 1]? = some (.cells (arr 18 fun _ => 0) 28 (0, 0)) := heap_new (by simp)
  have hbel : Below w.heap.size w (((w.alloc (.cells (arr 24 f) 38)).alloc (.cells (arr 18 fun _ => 0) 28))) := ((Below.refl _ _).alloc (by simp) _).alloc (by simp) _
  have tok_h3 : True := trivial
  have tok_r : True := trivial
  go_enter Try.func82, Try.ntmps82
  go_wp2_with first
    | (with_reducible refine wpList_loadW rfl _ _ rfl _ rfl h1 agg24r size24r ?_)
    | (go_at_call 71; (with_reducible refine (l2Counts_any f hf _).mono ?_); rintro e w1 ⟨rfl, hb1⟩; replace hbel := hbel.trans (hb1.mono hbel.size); replace h1 := row_keep hb1 h1; replace h2 := row_keep hb1 h2; clear hb1)
    | (with_reducible refine wpList_build1 rfl _ _ _ rfl rfl (v18c _) ?_)
    | (have _t := tok_r; (with_reducible refine wpList_allocA rfl 28 rfl 18 v18z ?_; (try simp only [size_al])); clear _t tok_r)
    | (have _t := tok_h3; with_reducible refine wpList_allocN rfl 28 rfl 18 v18z ?_; intro Bh3 w1 hBh3 h3 hb1; have hWh3 := Nat.le_trans hbel.size hBh3; have hLh1h3 := Nat.lt_of_lt_of_le (row_lt h1) hBh3; have hLh2h3 := Nat.lt_of_lt_of_le (row_lt h2) hBh3; replace hbel := hbel.trans (hb1.mono hbel.size); replace h1 := row_keep hb1 h1; replace h2 := row_keep hb1 h2; clear hb1 _t tok_h3)
    | (with_reducible refine wpList_storeWN rfl _ _ _ rfl _ rfl rfl h3 size18r hbel hWh3 ?_; intro w1 g3 ho g4; replace h1 := (ho _ (by omega)).trans h1; replace h2 := (ho _ (by omega)).trans h2; clear h3 hbel; have h3 := g3; have hbel := g4; clear g3 g4 ho)
    | (with_reducible refine wpList_storePI rfl 3 _ _ rfl _ _ rfl rfl h3 size1 (by omega) hbel hWh3 ?_; intro w1 g3 ho g4; replace h1 := (ho _ (by omega)).trans h1; replace h2 := (ho _ (by omega)).trans h2; clear h3 hbel; have h3 := g3; have hbel := g4; clear g3 g4 ho)
  rw [vI_start2] at h3
  go_loopw [4] (fun i wr => ∃ n : Nat, n ≤ 6 ∧ i = .int .i64 n ∧ wr.heap[w.heap.size]? = some (.cells (arr 24 f) 38 (0, 0)) ∧ wr.heap[w.heap.size + 1]? = some (.cells (arr 18 fun _ => 0) 28 (0, 0)) ∧
    wr.heap[Bh3]? = some (.cells (arr 18 (vI f (cn0 f) n)) 28 (0, 0)) ∧ Below w.heap.size w wr) (fun i _ => 6 - (intOf i).toNat)
  case atStart => exact ⟨0, by omega, rfl, h1, h2, h3, hbel⟩
  case round =>
    clear h1 h2 h3 hbel
    obtain ⟨n, hn, rfl, h1, h2, h3, hbel⟩ := hrel
    by_cases hlt : n < 6
    · have hlt' : (n : Int) < 6 := by omega
      have ht := tube_of_rack hf (show n ≤ 5 by omega)
      go_wp2_with first
        | (with_reducible refine wpList_loadA rfl _ _ rfl _ _ rfl h1 4 agg4 size4 (by omega) ?_)
        | (go_at_call 92; (with_reducible refine (l2Top_any (tub f n) ht _).mono ?_); rintro e w1 ⟨rfl, hb1⟩; replace hbel := hbel.trans (hb1.mono hbel.size); replace h1 := row_keep hb1 h1; replace h2 := row_keep hb1 h2; replace h3 := row_keep hb1 h3; clear hb1)
        | (go_at_call 93; (with_reducible refine (l2Many_ok (tub f n) ht _).mono ?_); rintro e w1 ⟨rfl, hb1⟩; replace hbel := hbel.trans (hb1.mono hbel.size); replace h1 := row_keep hb1 h1; replace h2 := row_keep hb1 h2; replace h3 := row_keep hb1 h3; clear hb1)
        | (with_reducible refine wpList_storePI rfl 3 _ _ rfl _ _ rfl rfl h3 size1 (by omega) hbel hWh3 ?_; intro w1 g3 ho g4; replace h1 := (ho _ (by omega)).trans h1; replace h2 := (ho _ (by omega)).trans h2; clear h3 hbel; have h3 := g3; have hbel := g4; clear g3 g4 ho)
      go_roundw
      case rel => exact ⟨n + 1, by omega, by go_num, h1, h2, by rw [← vI_step f _ hlt]; exact h3, hbel⟩
      case measure => simp [intOf]; omega
    · obtain rfl : n = 6 := by omega
      go_wp2_with first
        | (with_reducible refine wpList_loadW rfl _ _ rfl _ rfl h3 agg18r size18r ?_)
        | (with_reducible refine wpList_storeW rfl _ _ _ rfl _ rfl rfl h2 size18r ?_)
      refine bodyPost_ret_by (results_cellA rfl _ _ _ _ _ _ _ rfl (setRow_heap _ _ _ _ _ _ h2) agg18r size18r) rfl ⟨?_, below_setRow2 hbel (by omega) _⟩
      rw [vI_done2]
theorem eqView_same (g : Nat → Int) (w : World) : Calls Try.prog 43 #[.agg (arr 18 g), .agg (arr 18 g)] w fun e w' => e = .returned (.bool true) ∧ Below w.heap.size w w' := by
  have h1 : ((w.alloc (.cells (arr 18 g) 28)).alloc (.cells (arr 18 g) 28)).heap[w.heap.size]? = some (.cells (arr 18 g) 28 (0, 0)) := by rw [heap_old (by simp), heap_new rfl]
  have h2 : ((w.alloc (.cells (arr 18 g) 28)).alloc (.cells (arr 18 g) 28)).heap[w.heap.size + 1]? = some (.cells (arr 18 g) 28 (0, 0)) := heap_new (by simp)
  have hbel : Below w.heap.size w ((w.alloc (.cells (arr 18 g) 28)).alloc (.cells (arr 18 g) 28)) := ((Below.refl _ _).alloc (by simp) _).alloc (by simp) _
  go_enter Try.func43, Try.ntmps43
  go_wp2_with first
    | (with_reducible refine wpList_loadA rfl _ _ rfl _ _ rfl h1 6 v6a v6s (by omega) ?_)
    | (with_reducible refine wpList_loadA rfl _ _ rfl _ _ rfl h2 6 v6a v6s (by omega) ?_)
    | (go_at_call 84; (with_reducible refine (eqIntA6_same _ _).mono ?_); rintro e w1 ⟨rfl, hb1⟩; replace hbel := hbel.trans (hb1.mono hbel.size); replace h1 := row_keep hb1 h1; replace h2 := row_keep hb1 h2; clear hb1)
  go_ret
  exact ⟨rfl, hbel⟩
/-! ### the law -/
def vwOf (f : Nat → Int) : (Nat → Int) × Bool := if rackB f = true then (viewF f, true) else (fun _ => 0, false)
theorem specVw_any (f : Nat → Int) (w : World) : Calls Try.prog 41 #[.agg (arr 24 f)] w fun e w' => e = .returned (.tuple #[.agg (arr 18 (vwOf f).1), .bool (vwOf f).2]) ∧ Below w.heap.size w w' := by
  have h1 : (((w.alloc (.cells (arr 24 f) 38)).alloc (.cells (arr 18 fun _ => 0) 28))).heap[w.heap.size]? = some (.cells (arr 24 f) 38 (0, 0)) := by rw [heap_old (by simp), heap_new rfl]
  have h2 : (((w.alloc (.cells (arr 24 f) 38)).alloc (.cells (arr 18 fun _ => 0) 28))).heap[w.heap.size + 1]? = some (.cells (arr 18 fun _ => 0) 28 (0, 0)) := heap_new (by simp)
  have hbel : Below w.heap.size w (((w.alloc (.cells (arr 24 f) 38)).alloc (.cells (arr 18 fun _ => 0) 28))) := ((Below.refl _ _).alloc (by simp) _).alloc (by simp) _
  unfold vwOf
  cases hf : rackB f with
  | false =>
    have HF : Hid _ := hf
    simp only [Bool.false_eq_true, if_false]
    clear hf
    go_enter Try.func41, Try.ntmps41
    go_wp2_with first
      | (with_reducible refine wpList_allocA rfl 28 rfl 18 v18z ?_; (try simp only [size_al]))
      | (with_reducible refine wpList_loadW rfl _ _ rfl _ rfl h1 agg24r size24r ?_)
      | (with_reducible refine wpList_build0 rfl 28 rfl 18 v18b ?_)
      | (with_reducible refine wpList_storeW rfl _ _ _ rfl _ rfl rfl h2 size18r ?_)
      | (go_at_call 57; (with_reducible refine (l2Rack_any _ _).mono ?_); rw [HF.out]; rintro e w1 ⟨rfl, hb1⟩; replace hbel := hbel.trans (hb1.mono hbel.size); replace h1 := row_keep hb1 h1; replace h2 := row_keep hb1 h2; clear hb1)
      | (go_at_call 82; (with_reducible refine (l7View_any f HF.out _).mono ?_); rintro e w1 ⟨rfl, hb1⟩; replace hbel := hbel.trans (hb1.mono hbel.size); replace h1 := row_keep hb1 h1; replace h2 := row_keep hb1 h2; clear hb1)
    exact bodyPost_ret_by (results_ct _ _ _ _ _ _ _ rfl rfl (setRow_heap _ _ _ _ _ _ h2) agg18r size18r) rfl ⟨rfl, below_setRow2 hbel (by omega) _⟩
  | true =>
    have HF : Hid _ := hf
    simp only [if_true]
    clear hf
    go_enter Try.func41, Try.ntmps41
    go_wp2_with first
      | (with_reducible refine wpList_allocA rfl 28 rfl 18 v18z ?_; (try simp only [size_al]))
      | (with_reducible refine wpList_loadW rfl _ _ rfl _ rfl h1 agg24r size24r ?_)
      | (with_reducible refine wpList_build0 rfl 28 rfl 18 v18b ?_)
      | (with_reducible refine wpList_storeW rfl _ _ _ rfl _ rfl rfl h2 size18r ?_)
      | (go_at_call 57; (with_reducible refine (l2Rack_any _ _).mono ?_); rw [HF.out]; rintro e w1 ⟨rfl, hb1⟩; replace hbel := hbel.trans (hb1.mono hbel.size); replace h1 := row_keep hb1 h1; replace h2 := row_keep hb1 h2; clear hb1)
      | (go_at_call 82; (with_reducible refine (l7View_any f HF.out _).mono ?_); rintro e w1 ⟨rfl, hb1⟩; replace hbel := hbel.trans (hb1.mono hbel.size); replace h1 := row_keep hb1 h1; replace h2 := row_keep hb1 h2; clear hb1)
    exact bodyPost_ret_by (results_ct _ _ _ _ _ _ _ rfl rfl (setRow_heap _ _ _ _ _ _ h2) agg18r size18r) rfl ⟨rfl, below_setRow2 hbel (by omega) _⟩
theorem implVw_any (f : Nat → Int) (w : World) : Calls Try.prog 42 #[.agg (arr 24 f)] w fun e w' => e = .returned (.tuple #[.agg (arr 18 (vwOf f).1), .bool (vwOf f).2]) ∧ Below w.heap.size w w' := by
  have h1 : (((w.alloc (.cells (arr 24 f) 38)).alloc (.cells (arr 18 fun _ => 0) 28))).heap[w.heap.size]? = some (.cells (arr 24 f) 38 (0, 0)) := by rw [heap_old (by simp), heap_new rfl]
  have h2 : (((w.alloc (.cells (arr 24 f) 38)).alloc (.cells (arr 18 fun _ => 0) 28))).heap[w.heap.size + 1]? = some (.cells (arr 18 fun _ => 0) 28 (0, 0)) := heap_new (by simp)
  have hbel : Below w.heap.size w (((w.alloc (.cells (arr 24 f) 38)).alloc (.cells (arr 18 fun _ => 0) 28))) := ((Below.refl _ _).alloc (by simp) _).alloc (by simp) _
  unfold vwOf
  cases hf : rackB f with
  | false =>
    have HF : Hid _ := hf
    simp only [Bool.false_eq_true, if_false]
    clear hf
    go_enter Try.func42, Try.ntmps42
    go_wp2_with first
      | (with_reducible refine wpList_allocA rfl 28 rfl 18 v18z ?_; (try simp only [size_al]))
      | (with_reducible refine wpList_loadW rfl _ _ rfl _ rfl h1 agg24r size24r ?_)
      | (with_reducible refine wpList_build0 rfl 28 rfl 18 v18b ?_)
      | (with_reducible refine wpList_storeW rfl _ _ _ rfl _ rfl rfl h2 size18r ?_)
      | (go_at_call 63; (with_reducible refine (IsRack_any _ _).mono ?_); rw [HF.out]; rintro e w1 ⟨rfl, hb1⟩; replace hbel := hbel.trans (hb1.mono hbel.size); replace h1 := row_keep hb1 h1; replace h2 := row_keep hb1 h2; clear hb1)
      | (go_at_call 83; (with_reducible refine (viewOf_any f HF.out _).mono ?_); rintro e w1 ⟨rfl, hb1⟩; replace hbel := hbel.trans (hb1.mono hbel.size); replace h1 := row_keep hb1 h1; replace h2 := row_keep hb1 h2; clear hb1)
    exact bodyPost_ret_by (results_ct _ _ _ _ _ _ _ rfl rfl (setRow_heap _ _ _ _ _ _ h2) agg18r size18r) rfl ⟨rfl, below_setRow2 hbel (by omega) _⟩
  | true =>
    have HF : Hid _ := hf
    simp only [if_true]
    clear hf
    go_enter Try.func42, Try.ntmps42
    go_wp2_with first
      | (with_reducible refine wpList_allocA rfl 28 rfl 18 v18z ?_; (try simp only [size_al]))
      | (with_reducible refine wpList_loadW rfl _ _ rfl _ rfl h1 agg24r size24r ?_)
      | (with_reducible refine wpList_build0 rfl 28 rfl 18 v18b ?_)
      | (with_reducible refine wpList_storeW rfl _ _ _ rfl _ rfl rfl h2 size18r ?_)
      | (go_at_call 63; (with_reducible refine (IsRack_any _ _).mono ?_); rw [HF.out]; rintro e w1 ⟨rfl, hb1⟩; replace hbel := hbel.trans (hb1.mono hbel.size); replace h1 := row_keep hb1 h1; replace h2 := row_keep hb1 h2; clear hb1)
      | (go_at_call 83; (with_reducible refine (viewOf_any f HF.out _).mono ?_); rintro e w1 ⟨rfl, hb1⟩; replace hbel := hbel.trans (hb1.mono hbel.size); replace h1 := row_keep hb1 h1; replace h2 := row_keep hb1 h2; clear hb1)
    exact bodyPost_ret_by (results_ct _ _ _ _ _ _ _ rfl rfl (setRow_heap _ _ _ _ _ _ h2) agg18r size18r) rfl ⟨rfl, below_setRow2 hbel (by omega) _⟩
set_option linter.unusedVariables false in
theorem FnExactViewOf_walk (x0 : Nat → Int) (hx0 : ∀ j, I64 (x0 j)) (w : World) : Calls Try.prog 13 #[.agg (arr 24 x0)] w fun e w' => e = .returned (.bool true) ∧ Below w.heap.size w w' := by
  have hr0 : (w.alloc (.cells (arr 24 x0) 35)).heap[w.heap.size]? = some (.cells (arr 24 x0) 35 (0, 0)) := by rw [heap_new (by simp)]
  have hbel : Below w.heap.size w (w.alloc (.cells (arr 24 x0) 35)) := ((Below.refl _ _).alloc (by simp) _)
  have tok_hA0 : True := trivial
  have tok_hB0 : True := trivial
  go_enter Try.func13, Try.ntmps13
  go_wp2_with first
    | (with_reducible refine wpList_loadW rfl _ _ rfl _ rfl hr0 agg24l size24l ?_)
    | (go_at_call 20; (with_reducible refine (toRack_any _ _).mono ?_); (rintro e w1 ⟨rfl, hb1⟩; replace hbel := hbel.trans (hb1.mono hbel.size); replace hr0 := row_keep hb1 hr0; (try replace hA0 := row_keep hb1 hA0); (try replace hB0 := row_keep hb1 hB0); clear hb1))
    | (go_at_call 41; (with_reducible refine (specVw_any _ _).mono ?_); (rintro e w1 ⟨rfl, hb1⟩; replace hbel := hbel.trans (hb1.mono hbel.size); replace hr0 := row_keep hb1 hr0; (try replace hA0 := row_keep hb1 hA0); (try replace hB0 := row_keep hb1 hB0); clear hb1))
    | (go_at_call 42; (with_reducible refine (implVw_any _ _).mono ?_); (rintro e w1 ⟨rfl, hb1⟩; replace hbel := hbel.trans (hb1.mono hbel.size); replace hr0 := row_keep hb1 hr0; (try replace hA0 := row_keep hb1 hA0); (try replace hB0 := row_keep hb1 hB0); clear hb1))
    | (with_reducible refine wpList_allocA rfl 28 rfl 18 zero18r ?_; (try simp only [size_al]))
    | (go_at_call 43; (with_reducible refine (eqView_same _ _).mono ?_); (rintro e w1 ⟨rfl, hb1⟩; replace hbel := hbel.trans (hb1.mono hbel.size); replace hr0 := row_keep hb1 hr0; (try replace hA0 := row_keep hb1 hA0); (try replace hB0 := row_keep hb1 hB0); clear hb1))
    | (have _t := tok_hA0; with_reducible refine wpList_storeN rfl _ _ _ rfl rfl rfl size18r ?_; intro w1 hA0 hb1; replace hbel := hbel.trans (hb1.mono hbel.size); replace hr0 := row_keep hb1 hr0; clear hb1 _t tok_hA0)
    | (with_reducible refine wpList_loadWG rfl _ _ rfl _ rfl hA0 agg18r size18r ?_)
    | (have _t := tok_hB0; with_reducible refine wpList_storeN rfl _ _ _ rfl rfl rfl size18r ?_; intro w1 hB0 hb1; replace hbel := hbel.trans (hb1.mono hbel.size); replace hr0 := row_keep hb1 hr0; replace hA0 := row_keep hb1 hA0; clear hb1 _t tok_hB0)
    | (with_reducible refine wpList_loadWG rfl _ _ rfl _ rfl hB0 agg18r size18r ?_)
  go_ret
  exact ⟨rfl, hbel⟩
end Go.Proofs.Ytogdmacndokmhaa
