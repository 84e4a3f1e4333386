/- IsSorted: the program's and the reference's, and the law. -/
import Derived.Test.YtogdmacndokmhaaCr
import Derived.Test.YtogdmacndokmhaaBool
namespace Go.Proofs.Ytogdmacndokmhaa
set_option linter.unusedSimpArgs false
set_option linter.unusedVariables false
set_option maxRecDepth 20000
open Go.RowKit
theorem zeroB6 : ((Try.prog.info? 97).bind (·.zero)).map (·.cells) = some (brr 6 fun _ => false) := by kernel_rfl
theorem sizeB1 : (Try.prog.info? 4).map (·.size) = some 1 := by kernel_rfl
theorem aggBo : aggB Try.prog 4 = false := by kernel_rfl
theorem undBo : (Try.prog.underlying 4).isSome = true := by kernel_rfl
theorem slI : SlOK Try.prog 68 3 1 8 := ⟨by kernel_rfl, by kernel_rfl, by kernel_rfl⟩
/-- The runs of tube i. -/
@[reducible] def rnI (f : Nat → Int) (i : Nat) : Nat := rN (tub f i) (nlay (tub f i))
/-- Has one of the first i tubes the colour c? -/
def sn (f : Nat → Int) : Nat → Nat → Bool
  | 0, _ => false
  | i + 1, c => sn f i c || (decide (0 < rnI f i) && decide (tub f i 0 = c))
/-- Has each of the first i tubes one run at most, and each another colour? -/
def okS (f : Nat → Int) : Nat → Bool
  | 0 => true
  | i + 1 => okS f i && (decide (rnI f i = 0) || (decide (rnI f i = 1) && !sn f i (tub f i 0).toNat))
theorem okS_no {f : Nat → Int} {i : Nat} (h : okS f (i + 1) = false) : ∀ k, i + 1 ≤ k → okS f k = false
  | 0, hk => by omega
  | k + 1, hk => by
    by_cases e : i = k
    · subst e; exact h
    · have := okS_no h k (by omega)
      rw [okS, this]; rfl
theorem rF_first {g : Nat → Int} : ∀ k, 0 < k → rF g k 0 = g 0
  | k + 1, _ => by
    by_cases h : 0 < k ∧ g k = g (k - 1)
    · obtain ⟨h1, h2⟩ := rN_yes h.1 h.2
      rw [h2]
      unfold upd
      rw [if_neg (by omega)]
      exact rF_first k h.1
    · obtain ⟨h1, h2⟩ := rN_no h
      rw [h2]
      unfold app
      by_cases hk : 0 < k
      · have := rN_pos g k hk
        rw [if_pos (by omega)]
        exact rF_first k hk
      · obtain rfl : k = 0 := by omega
        rw [if_neg (by simp [rN])]
        rfl
theorem rn_first {f : Nat → Int} {i : Nat} (h : 0 < rnI f i) : rF (tub f i) (nlay (tub f i)) 0 = tub f i 0 ∧ 0 < nlay (tub f i) := by
  have : 0 < nlay (tub f i) := by
    rcases Nat.eq_zero_or_pos (nlay (tub f i)) with e | e
    · unfold rnI at h; rw [e] at h; simp [rN] at h
    · exact e
  exact ⟨rF_first _ this, this⟩
/-- What the tube says. -/
theorem isSorted_any (f : Nat → Int) (hf : rackB f = true) (w : World) : Calls Try.prog 68 #[.agg (arr 24 f)] w fun e w' => e = .returned (.bool (okS f 6)) ∧ Below w.heap.size w w' := by
  have h1 : (w.alloc (.cells (arr 24 f) 38)).heap[w.heap.size]? = some (.cells (arr 24 f) 38 (0, 0))   := heap_new rfl
  have hbel : Below w.heap.size w (w.alloc (.cells (arr 24 f) 38)) := (Below.refl _ _).alloc (by simp) _
  go_enter Try.func68, Try.ntmps68
  go_wp2_with first
    | (with_reducible refine wpList_allocB rfl 97 rfl 6 zeroB6 ?_; intro Bs w1 hBs h3 hb1; have hWs := Nat.le_trans hbel.size hBs; replace hbel := hbel.trans (hb1.mono hbel.size); replace h1 := row_keep hb1 h1; clear hb1)
    | (with_reducible refine wpList_loadW rfl _ _ rfl _ rfl h1 agg24 size24 ?_)
  go_loopw [9] (fun i wr => ∃ n : Nat, n ≤ 6 ∧ i = .int .i64 n ∧ okS f n = true ∧ wr.heap[Bs]? = some (.cells (brr 6 fun c => sn f n c) 97 (0, 0)) ∧ Below w.heap.size w wr) (fun i _ => 6 - (intOf i).toNat)
  case atStart => exact ⟨0, by omega, rfl, rfl, h3, hbel⟩
  case round =>
    clear h1 h3 hbel
    obtain ⟨n, hn, rfl, hok, h3, hbel⟩ := hrel
    have HOK : Hid _ := hok
    clear hok
    by_cases hlt : n < 6
    · have hlt' : (n : Int) < 6 := by omega
      have ht := tube_of_rack hf (show n ≤ 5 by omega)
      have tok_hA : True := trivial
      by_cases h0 : rnI f n = 0
      · have HZ : Hid (rN (tub f n) (nlay (tub f n)) = 0) := h0
        have HS : Hid (okS f (n + 1) = true ∧ ∀ c, sn f (n + 1) c = sn f n c) := ⟨by rw [okS, HOK.out, decide_eq_true h0]; rfl, fun c => by rw [sn, show decide (0 < rnI f n) = false from decide_eq_false (by omega)]; simp⟩
        clear h0
        go_wp2_with first
          | (with_reducible refine wpList_indexA rfl _ _ _ rfl rfl rfl 6 _ Try.underlying33 4 agg4 size4 (by omega) rfl ?_)
          | (with_reducible refine wpList_allocA rfl 32 rfl 4 zero4 ?_; (try simp only [size_al]))
          | (have _t := tok_hA; with_reducible refine wpList_storeN rfl _ _ _ rfl rfl rfl size4 ?_; intro w1 hA hb1; replace hbel := hbel.trans (hb1.mono hbel.size); replace h3 := row_keep hb1 h3; clear hb1 _t tok_hA)
          | (with_reducible refine wpList_loadW rfl _ _ rfl _ rfl hA agg4 size4 ?_)
          | (go_at_call 70; (with_reducible refine (runs_any (tub f n) ht _).mono ?_); rintro e w1 ⟨v, rfl, hS, hb1⟩; rw [HZ.out] at hS; replace hbel := hbel.trans (hb1.mono hbel.size); replace h3 := row_keep hb1 h3; clear hb1)
          | (with_reducible refine wpList_lenS slP.ht rfl _ rfl rfl hS ?_)
        go_roundw
        case rel => exact ⟨n + 1, by omega, by go_num, HS.out.1, by rw [h3]; exact congrArg (fun x => some (Obj.cells x 97 (0, 0))) (brr_congr fun c _ => (HS.out.2 c).symm), hbel⟩
        case measure => simp [intOf]; omega
      · by_cases h1 : rnI f n = 1
        · obtain ⟨e0, hp⟩ := rn_first (f := f) (i := n) (by omega)
          obtain ⟨c, hc⟩ : ∃ c : Nat, tub f n 0 = c := ⟨(tub f n 0).toNat, by have := nlay_pos ht 0 hp; omega⟩
          have hc5 : 1 ≤ c ∧ c ≤ 5 := by have := nlay_pos ht 0 hp; omega
          have hci : (c : Int) < 6 := by omega
          have HC : Hid _ := hc
          have HSN : Hid (∀ c', sn f (n + 1) c' = (sn f n c' || decide (c = c'))) := fun c' => by
            rw [sn, hc, show decide (0 < rnI f n) = true from decide_eq_true (by omega), Bool.true_and]
            congr 1
            rw [Bool.eq_iff_iff, decide_eq_true_iff, decide_eq_true_iff]
            omega
          have HONE : Hid (rN (tub f n) (nlay (tub f n)) = 1) := h1
          have HQ : Hid (rF (tub f n) (nlay (tub f n)) 0 = c) := by rw [e0]; exact hc
          cases hs : sn f n c with
          | true =>
            have HS : Hid (okS f 6 = false) := okS_no (i := n) (by rw [okS, HOK.out, decide_eq_false h0, hc, Int.toNat_natCast, hs]; simp) 6 (by omega)
            have HSC : Hid _ := hs
            clear h0 h1 e0 hp hc hs
            go_wp2_with first
              | (with_reducible refine wpList_indexA rfl _ _ _ rfl rfl rfl 6 _ Try.underlying33 4 agg4 size4 (by omega) rfl ?_)
              | (with_reducible refine wpList_allocA rfl 32 rfl 4 zero4 ?_; (try simp only [size_al]))
              | (have _t := tok_hA; with_reducible refine wpList_storeN rfl _ _ _ rfl rfl rfl size4 ?_; intro w1 hA hb1; replace hbel := hbel.trans (hb1.mono hbel.size); replace h3 := row_keep hb1 h3; clear hb1 _t tok_hA)
              | (with_reducible refine wpList_loadW rfl _ _ rfl _ rfl hA agg4 size4 ?_)
              | (go_at_call 70; (with_reducible refine (runs_any (tub f n) ht _).mono ?_); rintro e w1 ⟨v, rfl, hS, hb1⟩; rw [HONE.out] at hS; replace hbel := hbel.trans (hb1.mono hbel.size); replace h3 := row_keep hb1 h3; obtain ⟨q, cap, F, rfl, hq1, hq2, hq3, hq4, hq5⟩ := hS.blk (by omega); clear hS hb1; have HF : Hid (F 0 = c) := (hq5 0 (by omega)).trans HQ.out; clear hq5)
              | ((with_reducible refine wpList_loadI rfl _ _ rfl _ _ rfl hq2 aggI undI (by omega) ?_); rw [HF.out])
              | ((with_reducible refine wpList_loadB rfl _ _ rfl _ _ rfl h3 aggBo undBo (by omega) ?_); rw [HSC.out])
            go_ret
            exact ⟨ret_bool HS.out.symm, hbel⟩
          | false =>
            have HS : Hid (okS f (n + 1) = true) := by show okS f (n + 1) = true; rw [okS, HOK.out, decide_eq_true h1, hc, Int.toNat_natCast, hs]; simp
            have HSC : Hid _ := hs
            clear h0 h1 e0 hp hc hs
            go_wp2_with first
              | (with_reducible refine wpList_indexA rfl _ _ _ rfl rfl rfl 6 _ Try.underlying33 4 agg4 size4 (by omega) rfl ?_)
              | (with_reducible refine wpList_allocA rfl 32 rfl 4 zero4 ?_; (try simp only [size_al]))
              | (have _t := tok_hA; with_reducible refine wpList_storeN rfl _ _ _ rfl rfl rfl size4 ?_; intro w1 hA hb1; replace hbel := hbel.trans (hb1.mono hbel.size); replace h3 := row_keep hb1 h3; clear hb1 _t tok_hA)
              | (with_reducible refine wpList_loadW rfl _ _ rfl _ rfl hA agg4 size4 ?_)
              | (go_at_call 70; (with_reducible refine (runs_any (tub f n) ht _).mono ?_); rintro e w1 ⟨v, rfl, hS, hb1⟩; rw [HONE.out] at hS; replace hbel := hbel.trans (hb1.mono hbel.size); replace h3 := row_keep hb1 h3; obtain ⟨q, cap, F, rfl, hq1, hq2, hq3, hq4, hq5⟩ := hS.blk (by omega); clear hS hb1; have HF : Hid (F 0 = c) := (hq5 0 (by omega)).trans HQ.out; clear hq5)
              | ((with_reducible refine wpList_loadI rfl _ _ rfl _ _ rfl hq2 aggI undI (by omega) ?_); rw [HF.out])
              | ((with_reducible refine wpList_loadB rfl _ _ rfl _ _ rfl h3 aggBo undBo (by omega) ?_); rw [HSC.out])
              | (with_reducible refine wpList_storeB rfl _ _ _ rfl _ _ rfl rfl h3 sizeB1 (by omega) ?_)
            go_roundw
            case rel =>
              refine ⟨n + 1, by omega, by go_num, HS.out, ?_, below_setRow2 hbel hWs _⟩
              rw [setRow_heap _ _ _ _ _ _ h3]
              refine congrArg (fun x => some (Obj.cells x 97 (0, 0))) (brr_congr fun c' _ => ?_)
              rw [HSN.out]
              unfold bup
              by_cases e : c' = c
              · rw [if_pos e, e]; simp
              · rw [if_neg e, decide_eq_false (fun h => e h.symm)]; simp
            case measure => simp [intOf]; omega
        · obtain ⟨m, hm⟩ : ∃ m, rnI f n = m + 2 := ⟨rnI f n - 2, by omega⟩
          have hm4 : m + 2 ≤ 4 := by have := rN_le (tub f n) (nlay (tub f n)); have := nlay_le (tub f n); unfold rnI at hm; omega
          have HS : Hid (okS f 6 = false) := okS_no (i := n) (by rw [okS, HOK.out, decide_eq_false h0, decide_eq_false h1]; rfl) 6 (by omega)
          have HM : Hid (rN (tub f n) (nlay (tub f n)) = m + 2) := hm
          have hmd : decide (1 < (m : Int) + 2) = true := decide_eq_true (by omega)
          have hmz : ((m : Int) + 2 == 0) = false := by simp; omega
          clear h0 h1 hm
          go_wp2_with first
            | (with_reducible refine wpList_indexA rfl _ _ _ rfl rfl rfl 6 _ Try.underlying33 4 agg4 size4 (by omega) rfl ?_)
            | (with_reducible refine wpList_allocA rfl 32 rfl 4 zero4 ?_; (try simp only [size_al]))
            | (have _t := tok_hA; with_reducible refine wpList_storeN rfl _ _ _ rfl rfl rfl size4 ?_; intro w1 hA hb1; replace hbel := hbel.trans (hb1.mono hbel.size); replace h3 := row_keep hb1 h3; clear hb1 _t tok_hA)
            | (with_reducible refine wpList_loadW rfl _ _ rfl _ rfl hA agg4 size4 ?_)
            | (go_at_call 70; (with_reducible refine (runs_any (tub f n) ht _).mono ?_); rintro e w1 ⟨v, rfl, hS, hb1⟩; rw [HM.out] at hS; replace hbel := hbel.trans (hb1.mono hbel.size); replace h3 := row_keep hb1 h3; clear hb1)
            | (with_reducible refine wpList_lenS slP.ht rfl _ rfl rfl hS ?_)
          go_ret
          exact ⟨ret_bool HS.out.symm, hbel⟩
    · obtain rfl : n = 6 := by omega
      go_wp2_with fail
      go_ret
      exact ⟨ret_bool HOK.out.symm, hbel⟩
/-- Is x among the first m? -/
def hasB (h : Nat → Int) (m : Nat) (x : Int) : Bool := (List.range m).any fun j => h j == x
theorem hasB_yes {h : Nat → Int} {m j : Nat} {x : Int} (hj : j < m) (e : h j = x) : hasB h m x = true := by
  unfold hasB
  rw [List.any_eq_true]
  exact ⟨j, List.mem_range.2 hj, by simpa using e⟩
theorem hasB_no {h : Nat → Int} {m : Nat} {x : Int} (e : ∀ j, j < m → h j ≠ x) : hasB h m x = false := by
  unfold hasB
  rw [List.any_eq_false]
  intro j hj
  simpa using e j (List.mem_range.1 hj)
theorem hasB_app (h : Nat → Int) (m : Nat) (g : Nat → Int) (x : Int) : hasB (app h m g) (m + 1) x = (hasB h m x || g 0 == x) := by
  unfold hasB
  rw [List.range_succ, List.any_append]
  congr 1
  · rw [Bool.eq_iff_iff, List.any_eq_true, List.any_eq_true]
    constructor
    · rintro ⟨j, hj, e⟩
      have := List.mem_range.1 hj
      unfold app at e
      rw [if_pos this] at e
      exact ⟨j, hj, e⟩
    · rintro ⟨j, hj, e⟩
      have := List.mem_range.1 hj
      refine ⟨j, hj, ?_⟩
      unfold app
      rw [if_pos this]
      exact e
  · simp [app]
theorem hasB_congr {h h' : Nat → Int} {m : Nat} (x : Int) (e : ∀ j, j < m → h j = h' j) : hasB h m x = hasB h' m x := by
  unfold hasB
  rw [Bool.eq_iff_iff, List.any_eq_true, List.any_eq_true]
  constructor <;> rintro ⟨j, hj, e2⟩ <;> refine ⟨j, hj, ?_⟩ <;> have := e j (List.mem_range.1 hj)
  · rw [← this]; exact e2
  · rw [this]; exact e2
theorem l1Has_any {m : Nat} {h : Nat → Int} {b : Nat} {v : Value} (hm : m ≤ 1000000) (x : Int) (w : World) (hS : Sl w b 3 1 v m h) : Calls Try.prog 102 #[v, .int .i64 x] w fun e w' => e = .returned (.bool (hasB h m x)) ∧ w = w' := by
  by_cases h0 : m = 0
  · subst h0
    go_enter Try.func102, Try.ntmps102
    go_wp2_with fail
    go_loop [5] (fun i => i = .int .i64 0) (fun i => 0)
    case atStart => exact rfl
    case round =>
      obtain rfl := hrel
      go_wp2_with first
        | (with_reducible refine wpList_lenS slI.ht rfl _ rfl rfl hS ?_)
      go_ret
      exact ⟨rfl, rfl⟩
  · obtain ⟨q, c, F, rfl, _, g1, d1, e1, z1⟩ := hS.blk (by omega)
    clear hS
    have HZ : Hid _ := z1
    clear z1
    go_enter Try.func102, Try.ntmps102
    go_wp2_with fail
    go_loop [5] (fun i => ∃ k : Nat, k ≤ m ∧ i = .int .i64 k ∧ ∀ j, j < k → h j ≠ x) (fun i => m - (intOf i).toNat)
    case atStart => exact ⟨0, by omega, rfl, by intro j hj; omega⟩
    case round =>
      obtain ⟨k, hk, rfl, hno⟩ := hrel
      have HNO : Hid _ := hno
      clear hno
      by_cases hlt : k < m
      · have hlt' : (k : Int) < (m : Int) := by omega
        have hv : F k = h k := HZ.out k (by omega)
        have hc := rowcell g1 (i := k) (by omega)
        rw [hv] at hc
        by_cases he : h k = x
        · have hed : (h k == x) = true := by simpa using he
          have HH : Hid _ := hasB_yes hlt he
          clear hv he
          go_wp2_with fail
          go_ret
          exact ⟨ret_bool HH.out.symm, rfl⟩
        · have hed : (h k == x) = false := by simpa using he
          have HE : Hid _ := he
          clear hv he
          go_wp2_with fail
          go_round
          case rel => exact ⟨k + 1, by omega, by go_num, fun j hj => by
            by_cases e : j = k
            · subst e; exact HE.out
            · exact HNO.out j (by omega)⟩
          case measure => simp [intOf]; omega
      · obtain rfl : k = m := by omega
        go_wp2_with fail
        go_ret
        exact ⟨ret_bool (hasB_no HNO.out).symm, rfl⟩
theorem l2Sorted_any (f : Nat → Int) (hf : rackB f = true) (w : World) : Calls Try.prog 67 #[.agg (arr 24 f)] w fun e w' => e = .returned (.bool (okS f 6)) ∧ Below w.heap.size w w' := by
  have h0 : (w.alloc (.cells (arr 24 f) 38)).heap[w.heap.size]? = some (.cells (arr 24 f) 38 (0, 0)) := heap_new rfl
  have h1 := row_alloc (x := .cells #[] 3) h0
  have hbel : Below w.heap.size w ((w.alloc (.cells (arr 24 f) 38)).alloc (.cells #[] 3)) := ((Below.refl _ _).alloc (by simp) _).alloc (by simp) _
  have hS0 : Sl ((w.alloc (.cells (arr 24 f) 38)).alloc (.cells #[] 3)) (w.heap.size + 1) 3 1 (.slice (some ⟨w.heap.size + 1, 0, none⟩) 0 0) 0 (fun _ => 0) := by
    have := Sl.made (w := w.alloc (.cells (arr 24 f) 38)) (base := w.heap.size + 1) (e := 3) (s := 1) (f := fun _ => 0) (by simp)
    simpa using this
  go_enter Try.func67, Try.ntmps67
  go_wp2_with fail
  go_loopw [3, 4] (fun o i wr => ∃ n : Nat, ∃ v m h, n ≤ 6 ∧ i = .int .i64 n ∧ o = v ∧ okS f n = true ∧ m ≤ n ∧ Sl wr (w.heap.size + 1) 3 1 v m h ∧ (∀ c : Nat, hasB h m c = sn f n c) ∧ wr.heap[w.heap.size]? = some (.cells (arr 24 f) 38 (0, 0)) ∧ Below w.heap.size w wr) (fun _ i _ => 6 - (intOf i).toNat)
  case atStart => exact ⟨0, _, 0, _, by omega, rfl, rfl, rfl, by omega, hS0, fun c => rfl, h1, hbel⟩
  case round =>
    clear h0 h1 hS0 hbel
    obtain ⟨n, v, m, h, hn, rfl, rfl, hok, hmn, hSL, hsn, h1, hbel⟩ := hrel
    have HOK : Hid _ := hok
    have HB : Hid _ := hsn
    clear hok hsn
    have hsz := row_lt h1
    by_cases hlt : n < 6
    · have hlt' : (n : Int) < 6 := by omega
      have ht := tube_of_rack hf (show n ≤ 5 by omega)
      by_cases h0 : rnI f n = 0
      · have HZ : Hid (rN (tub f n) (nlay (tub f n)) = 0) := h0
        have HS : Hid (okS f (n + 1) = true ∧ ∀ c, sn f (n + 1) c = sn f n c) := ⟨by rw [okS, HOK.out, decide_eq_true h0]; rfl, fun c => by rw [sn, show decide (0 < rnI f n) = false from decide_eq_false (by omega)]; simp⟩
        clear h0
        go_wp2_with first
          | (with_reducible refine wpList_loadA rfl _ _ rfl _ _ rfl h1 4 agg4 size4 (by omega) ?_)
          | (go_at_call 69; (with_reducible refine (l2Runs_any (tub f n) ht _).mono ?_); rintro e w1 ⟨v, rfl, hS, hb1⟩; rw [HZ.out] at hS; replace hbel := hbel.trans (hb1.mono hbel.size); replace h1 := row_keep hb1 h1; replace hSL := hSL.keep hb1; clear hb1)
          | (with_reducible refine wpList_lenS slP.ht rfl _ rfl rfl hS ?_)
        go_roundw
        case rel => exact ⟨n + 1, _, m, h, by omega, by go_num, rfl, HS.out.1, by omega, hSL, fun c => by rw [HS.out.2]; exact HB.out c, h1, hbel⟩
        case measure => simp [intOf]; omega
      · by_cases hone : rnI f n = 1
        · obtain ⟨e0, hp⟩ := rn_first (f := f) (i := n) (by omega)
          obtain ⟨c, hc⟩ : ∃ c : Nat, tub f n 0 = c := ⟨(tub f n 0).toNat, by have := nlay_pos ht 0 hp; omega⟩
          have hc5 : 1 ≤ c ∧ c ≤ 5 := by have := nlay_pos ht 0 hp; omega
          have hci : (c : Int) < 6 := by omega
          have HC : Hid _ := hc
          have HSN : Hid (∀ c', sn f (n + 1) c' = (sn f n c' || decide (c = c'))) := fun c' => by
            rw [sn, hc, show decide (0 < rnI f n) = true from decide_eq_true (by omega), Bool.true_and]
            congr 1
            rw [Bool.eq_iff_iff, decide_eq_true_iff, decide_eq_true_iff]
            omega
          have HONE : Hid (rN (tub f n) (nlay (tub f n)) = 1) := hone
          have HQ : Hid (rF (tub f n) (nlay (tub f n)) 0 = c) := by rw [e0]; exact hc
          cases hs : sn f n c with
          | true =>
            have HS : Hid (okS f 6 = false) := okS_no (i := n) (by rw [okS, HOK.out, decide_eq_false h0, hc, Int.toNat_natCast, hs]; simp) 6 (by omega)
            have HSC : Hid (hasB h m c = true) := by rw [HB.out]; exact hs
            clear h0 hone e0 hp hc hs
            go_wp2_with first
              | (with_reducible refine wpList_loadA rfl _ _ rfl _ _ rfl h1 4 agg4 size4 (by omega) ?_)
              | (go_at_call 69; (with_reducible refine (l2Runs_any (tub f n) ht _).mono ?_); rintro e w1 ⟨v, rfl, hS, hb1⟩; rw [HONE.out] at hS; replace hbel := hbel.trans (hb1.mono hbel.size); replace h1 := row_keep hb1 h1; replace hSL := hSL.keep hb1; obtain ⟨q, cap, F, rfl, hq1, hq2, hq3, hq4, hq5⟩ := hS.blk (by omega); clear hS hb1; have HF : Hid (F 0 = c) := (hq5 0 (by omega)).trans HQ.out; clear hq5)
              | ((with_reducible refine wpList_loadI rfl _ _ rfl _ _ rfl hq2 aggI undI (by omega) ?_); rw [HF.out])
              | (go_at_call 102; (with_reducible refine (l1Has_any (by omega) c _ hSL).mono ?_); rw [HSC.out]; rintro e w1 ⟨rfl, rfl⟩)
            go_ret
            exact ⟨ret_bool HS.out.symm, hbel⟩
          | false =>
            have HS : Hid (okS f (n + 1) = true) := by show okS f (n + 1) = true; rw [okS, HOK.out, decide_eq_true hone, hc, Int.toNat_natCast, hs]; simp
            have HSC : Hid (hasB h m c = false) := by rw [HB.out]; exact hs
            clear h0 hone e0 hp hc hs
            go_wp2_with first
              | (with_reducible refine wpList_loadA rfl _ _ rfl _ _ rfl h1 4 agg4 size4 (by omega) ?_)
              | (go_at_call 69; (with_reducible refine (l2Runs_any (tub f n) ht _).mono ?_); rintro e w1 ⟨v, rfl, hS, hb1⟩; rw [HONE.out] at hS; replace hbel := hbel.trans (hb1.mono hbel.size); replace h1 := row_keep hb1 h1; replace hSL := hSL.keep hb1; obtain ⟨q, cap, F, rfl, hq1, hq2, hq3, hq4, hq5⟩ := hS.blk (by omega); clear hS hb1; have HF : Hid (F 0 = c) := (hq5 0 (by omega)).trans HQ.out; clear hq5; have hz := row_lt h1; have hBB : (w1.alloc (.cells #[.int .i64 c] 3)).heap[w1.heap.size]? = some (.cells (arr 1 fun _ => (c : Int)) 3 (0, 0)) := (by rw [arr_one]; exact heap_new rfl))
              | ((with_reducible refine wpList_loadI rfl _ _ rfl _ _ rfl hq2 aggI undI (by omega) ?_); rw [HF.out])
              | (go_at_call 102; (with_reducible refine (l1Has_any (by omega) c _ hSL).mono ?_); rw [HSC.out]; rintro e w1 ⟨rfl, rfl⟩)
              | ((with_reducible refine wpList_appendS slI (by omega) rfl _ _ rfl rfl (hSL.keep ((Below.refl _ _).alloc (Nat.le_refl _) _)) rfl hBB (by omega) (by omega) (by unfold maxLen; omega) (by omega) (by simp; omega) ?_); intro v2 w2 hS2 hb2)
            go_roundw
            case rel =>
              refine ⟨n + 1, v2, m + 1, _, by omega, by go_num, rfl, HS.out, by omega, hS2, fun c' => ?_, row_kept hb2 (row_alloc h1) (by omega), hbel.trans (((Below.refl _ _).alloc (Nat.le_of_lt hz) _).trans (hb2.mono (by omega)))⟩
              rw [Nat.mul_one, hasB_app, HB.out, HSN.out]
              congr 1
              rw [Bool.eq_iff_iff, beq_iff_eq, decide_eq_true_iff]
              omega
            case measure => simp [intOf]; omega
        · obtain ⟨k, hm⟩ : ∃ k, rnI f n = k + 2 := ⟨rnI f n - 2, by omega⟩
          have hm4 : k + 2 ≤ 4 := by have := rN_le (tub f n) (nlay (tub f n)); have := nlay_le (tub f n); unfold rnI at hm; omega
          have HS : Hid (okS f 6 = false) := okS_no (i := n) (by rw [okS, HOK.out, decide_eq_false h0, decide_eq_false hone]; rfl) 6 (by omega)
          have HM : Hid (rN (tub f n) (nlay (tub f n)) = k + 2) := hm
          have hmd : decide (1 < (k : Int) + 2) = true := decide_eq_true (by omega)
          clear h0 hone hm
          go_wp2_with first
            | (with_reducible refine wpList_loadA rfl _ _ rfl _ _ rfl h1 4 agg4 size4 (by omega) ?_)
            | (go_at_call 69; (with_reducible refine (l2Runs_any (tub f n) ht _).mono ?_); rintro e w1 ⟨v, rfl, hS, hb1⟩; rw [HM.out] at hS; replace hbel := hbel.trans (hb1.mono hbel.size); replace h1 := row_keep hb1 h1; clear hb1)
            | (with_reducible refine wpList_lenS slP.ht rfl _ rfl rfl hS ?_)
          go_ret
          exact ⟨ret_bool HS.out.symm, hbel⟩
    · obtain rfl : n = 6 := by omega
      go_wp2_with fail
      go_ret
      exact ⟨ret_bool HOK.out.symm, hbel⟩
def isOf (f : Nat → Int) : Bool × Bool := if rackB f = true then (okS f 6, true) else (false, false)
theorem specIs_any (f : Nat → Int) (w : World) : Calls Try.prog 26 #[.agg (arr 24 f)] w fun e w' => e = .returned (.tuple #[.bool (isOf f).1, .bool (isOf f).2]) ∧ Below w.heap.size w w' := by
  have h1 : (w.alloc (.cells (arr 24 f) 38)).heap[w.heap.size]? = some (.cells (arr 24 f) 38 (0, 0))   := heap_new rfl
  have hbel : Below w.heap.size w (w.alloc (.cells (arr 24 f) 38)) := (Below.refl _ _).alloc (by simp) _
  unfold isOf
  cases hf : rackB f with
  | false =>
    have HF : Hid _ := hf
    simp only [Bool.false_eq_true, if_false]
    clear hf
    go_enter Try.func26, Try.ntmps26
    go_wp2_with first
      | (with_reducible refine wpList_loadW rfl _ _ rfl _ rfl h1 agg24r size24r ?_)
      | (go_at_call 57; (with_reducible refine (l2Rack_any _ _).mono ?_); rw [HF.out]; rintro e w1 ⟨rfl, hb1⟩; replace hbel := hbel.trans (hb1.mono hbel.size); replace h1 := row_keep hb1 h1; clear hb1)
    go_ret2
    exact ⟨rfl, hbel⟩
  | true =>
    have HF : Hid _ := hf
    simp only [if_true]
    go_enter Try.func26, Try.ntmps26
    go_wp2_with first
      | (with_reducible refine wpList_loadW rfl _ _ rfl _ rfl h1 agg24r size24r ?_)
      | (go_at_call 57; (with_reducible refine (l2Rack_any _ _).mono ?_); rw [HF.out]; rintro e w1 ⟨rfl, hb1⟩; replace hbel := hbel.trans (hb1.mono hbel.size); replace h1 := row_keep hb1 h1; clear hb1)
      | (go_at_call 67; (with_reducible refine (l2Sorted_any f HF.out _).mono ?_); rintro e w1 ⟨rfl, hb1⟩; replace hbel := hbel.trans (hb1.mono hbel.size); replace h1 := row_keep hb1 h1; clear hb1)
    go_ret2
    exact ⟨rfl, hbel⟩
theorem implIs_any (f : Nat → Int) (w : World) : Calls Try.prog 27 #[.agg (arr 24 f)] w fun e w' => e = .returned (.tuple #[.bool (isOf f).1, .bool (isOf f).2]) ∧ Below w.heap.size w w' := by
  have h1 : (w.alloc (.cells (arr 24 f) 38)).heap[w.heap.size]? = some (.cells (arr 24 f) 38 (0, 0))   := heap_new rfl
  have hbel : Below w.heap.size w (w.alloc (.cells (arr 24 f) 38)) := (Below.refl _ _).alloc (by simp) _
  unfold isOf
  cases hf : rackB f with
  | false =>
    have HF : Hid _ := hf
    simp only [Bool.false_eq_true, if_false]
    clear hf
    go_enter Try.func27, Try.ntmps27
    go_wp2_with first
      | (with_reducible refine wpList_loadW rfl _ _ rfl _ rfl h1 agg24r size24r ?_)
      | (go_at_call 63; (with_reducible refine (IsRack_any _ _).mono ?_); rw [HF.out]; rintro e w1 ⟨rfl, hb1⟩; replace hbel := hbel.trans (hb1.mono hbel.size); replace h1 := row_keep hb1 h1; clear hb1)
    go_ret2
    exact ⟨rfl, hbel⟩
  | true =>
    have HF : Hid _ := hf
    simp only [if_true]
    go_enter Try.func27, Try.ntmps27
    go_wp2_with first
      | (with_reducible refine wpList_loadW rfl _ _ rfl _ rfl h1 agg24r size24r ?_)
      | (go_at_call 63; (with_reducible refine (IsRack_any _ _).mono ?_); rw [HF.out]; rintro e w1 ⟨rfl, hb1⟩; replace hbel := hbel.trans (hb1.mono hbel.size); replace h1 := row_keep hb1 h1; clear hb1)
      | (go_at_call 68; (with_reducible refine (isSorted_any f HF.out _).mono ?_); rintro e w1 ⟨rfl, hb1⟩; replace hbel := hbel.trans (hb1.mono hbel.size); replace h1 := row_keep hb1 h1; clear hb1)
    go_ret2
    exact ⟨rfl, hbel⟩
set_option linter.unusedVariables false in
theorem FnExactIsSorted_walk (x0 : Nat → Int) (hx0 : ∀ j, I64 (x0 j)) (w : World) : Calls Try.prog 7 #[.agg (arr 24 x0)] w fun e w' => e = .returned (.bool true) ∧ Below w.heap.size w w' := by
  have hr0 : (w.alloc (.cells (arr 24 x0) 35)).heap[w.heap.size]? = some (.cells (arr 24 x0) 35 (0, 0)) := by rw [heap_new (by simp)]
  have hbel : Below w.heap.size w (w.alloc (.cells (arr 24 x0) 35)) := ((Below.refl _ _).alloc (by simp) _)
  go_enter Try.func7, Try.ntmps7
  go_wp2_with first
    | (with_reducible refine wpList_loadW rfl _ _ rfl _ rfl hr0 agg24l size24l ?_)
    | (go_at_call 20; (with_reducible refine (toRack_any _ _).mono ?_); (rintro e w1 ⟨rfl, hb1⟩; replace hbel := hbel.trans (hb1.mono hbel.size); replace hr0 := row_keep hb1 hr0; clear hb1))
    | (go_at_call 26; (with_reducible refine (specIs_any _ _).mono ?_); (rintro e w1 ⟨rfl, hb1⟩; replace hbel := hbel.trans (hb1.mono hbel.size); replace hr0 := row_keep hb1 hr0; clear hb1))
    | (go_at_call 27; (with_reducible refine (implIs_any _ _).mono ?_); (rintro e w1 ⟨rfl, hb1⟩; replace hbel := hbel.trans (hb1.mono hbel.size); replace hr0 := row_keep hb1 hr0; clear hb1))
  go_ret
  exact ⟨rfl, hbel⟩
end Go.Proofs.Ytogdmacndokmhaa
