/- The draws of texts that the laws on splitting ask for. -/
import Derived.Test.YthljicikedlkbaaDoorDraw
namespace Go.Proofs.YthljicikedlkbaaDoor
set_option linter.unusedSimpArgs false
set_option linter.unusedVariables false
set_option maxRecDepth 20000
open Go.RowKit
theorem cur_new {p : Option Addr} {n c : Nat} {T : TypeId} (w : World) : Cur (w.alloc (.cells #[.slice p n c, .int .i64 0, .int .u64 0] T)) w.heap.size p n c 0 := by
  have h : (w.alloc (.cells #[.slice p n c, .int .i64 0, .int .u64 0] T)).heap[w.heap.size]? = some (.cells #[.slice p n c, .int .i64 0, .int .u64 0] T (0, 0)) := heap_alloc_new _ _
  refine ⟨by simp, fun j => ?_, ?_, ?_, 0, ?_, by omega, by omega⟩
  · unfold World.frozen?; rw [h]; simp
  · simp only [World.cell?, h]; rfl
  · simp only [World.cell?, h]; rfl
  · simp only [World.cell?, h]; rfl
theorem grown_below {w0 w w' : World} {B : Nat} (h : w.grownBy w' (some B)) (hB : w0.heap.size ≤ B) (hw : Below w0.heap.size w0 w) : Below w0.heap.size w0 w' :=
  hw.trans ⟨h.os, h.tape, h.output, h.size, fun k hk => h.block k (by have := hw.size; omega) (fun e => by injection e; omega)⟩
theorem By.up {w : World} {K K2 : Nat} {p : Option Addr} {n c : Nat} (h : By w K p n c) (hK : K ≤ K2) : By w K2 p n c := by
  obtain ⟨h1, h2, h3⟩ := h
  refine ⟨h1, h2, fun j hj => ?_⟩
  obtain ⟨a, x, e, ha, hc⟩ := h3 j hj
  exact ⟨a, x, e, by omega, hc⟩
theorem draw_split {p : Option Addr} {n c : Nat} (w : World) (hB : By w w.heap.size p n c) :
    Calls Tryd.prog 22 #[.slice p n c] w fun e w' => ∃ x y : ByteArray, e = .returned (.tuple #[.string x, .string y]) ∧ x.size ≤ 10 ∧ y.size ≤ 10 ∧ Below w.heap.size w w' := by
  have hb0 : Below w.heap.size w (w.alloc (.cells #[.slice p n c, .int .i64 0, .int .u64 0] 57)) := (Below.refl _ _).alloc (Nat.le_refl _) _
  have HC : Hid (Cur (w.alloc (.cells #[.slice p n c, .int .i64 0, .int .u64 0] 57)) w.heap.size p n c 0) := cur_new w
  have HB : Hid (By (w.alloc (.cells #[.slice p n c, .int .i64 0, .int .u64 0] 57)) w.heap.size p n c) := hB.below hb0 (Nat.le_refl _)
  clear hB
  go_enter Tryd.func22, Tryd.ntmps22
  go_wp2_with first
    | (go_at_call 47; (with_reducible refine (any1_any _ (Nat.le_refl _) (by omega) HC.out HB.out).mono ?_); rintro e w1 ⟨x, i1, rfl, hx, hi1, hC1, hg1⟩; have hb1 := grown_below hg1 (Nat.le_refl _) hb0; have HC1 : Hid (Cur w1 w.heap.size p n c i1) := hC1; have HB1 : Hid (By w1 w.heap.size p n c) := HB.out.grown hg1 (Nat.le_refl _) hb0.size; clear hC1 hg1)
    | (go_at_call 48; refine Calls.mono (ofl_any [⟨#[44]⟩, ⟨#[44]⟩, ⟨#[32]⟩, ⟨#[]⟩, ⟨#[44, 44]⟩] 10 (by decide) (by decide) (by decide) w1 (Nat.le_refl _) (by omega) HC1.out HB1.out) ?_; rintro e w2 ⟨y, i2, rfl, hy, hi2, hC2, hg2⟩; have hb2 := grown_below hg2 (Nat.le_refl _) hb1; clear hC2 hg2)
  go_ret2
  exact ⟨x, y, rfl, hx, hy, hb2⟩
theorem draw_less {p : Option Addr} {n c : Nat} (w : World) (hB : By w w.heap.size p n c) :
    Calls Tryd.prog 26 #[.slice p n c] w fun e w' => ∃ x y : ByteArray, e = .returned (.tuple #[.string x, .string y]) ∧ Below w.heap.size w w' := by
  have hb0 : Below w.heap.size w (w.alloc (.cells #[.slice p n c, .int .i64 0, .int .u64 0] 57)) := (Below.refl _ _).alloc (Nat.le_refl _) _
  have HC : Hid (Cur (w.alloc (.cells #[.slice p n c, .int .i64 0, .int .u64 0] 57)) w.heap.size p n c 0) := cur_new w
  have HB : Hid (By (w.alloc (.cells #[.slice p n c, .int .i64 0, .int .u64 0] 57)) w.heap.size p n c) := hB.below hb0 (Nat.le_refl _)
  clear hB
  have tok : True := trivial
  go_enter Tryd.func26, Tryd.ntmps26
  go_wp2_with first
    | (have _t := tok; (go_at_call 47; (with_reducible refine (any1_any _ (Nat.le_refl _) (by omega) HC.out HB.out).mono ?_); (rintro e w1 ⟨x, i1, rfl, hx, hi1, hC1, hg1⟩; have hb1 := grown_below hg1 (Nat.le_refl _) hb0; have HC1 : Hid (Cur w1 w.heap.size p n c i1) := hC1; have HB1 : Hid (By w1 w.heap.size p n c) := HB.out.grown hg1 (Nat.le_refl _) hb0.size; clear hC1 hg1 _t tok)))
    | (go_at_call 47; (with_reducible refine (any1_any _ (Nat.le_refl _) (by omega) HC1.out HB1.out).mono ?_); rintro e w2 ⟨y, i2, rfl, hy, hi2, hC2, hg2⟩; have hb2 := grown_below hg2 (Nat.le_refl _) hb1; clear hC2 hg2)
  go_ret2
  exact ⟨x, y, rfl, hb2⟩
theorem Cur.belowK {w w' : World} {B K : Nat} {p : Option Addr} {n c i : Nat} (h : Cur w B p n c i) (hb : Below K w w') (hK : B < K) : Cur w' B p n c i := by
  obtain ⟨h1, h2, h3, h4, s, h5, h6⟩ := h
  exact ⟨Nat.lt_of_lt_of_le h1 hb.size, fun j => (hb.frozen (p := ⟨B, j, none⟩) hK).trans (h2 j), (hb.cell (p := ⟨B, 0, none⟩) hK).trans h3, (hb.cell (p := ⟨B, 1, none⟩) hK).trans h4, s, (hb.cell (p := ⟨B, 2, none⟩) hK).trans h5, h6⟩
theorem By.belowK {w w' : World} {K K2 : Nat} {p : Option Addr} {n c : Nat} (h : By w K p n c) (hb : Below K2 w w') (hK : K ≤ K2) : By w' K p n c := by
  obtain ⟨h1, h2, h3⟩ := h
  refine ⟨h1, h2, fun j hj => ?_⟩
  obtain ⟨a, x, e, ha, hc, hx⟩ := h3 j hj
  exact ⟨a, x, e, ha, (hb.cell (by rw [add_blk]; omega)).trans hc, hx⟩
theorem Tx.grown {w w' : World} {base B : Nat} {v : Value} {l : List ByteArray} (h : Tx w base v l) (hg : w.grownBy w' (some B)) (hB : B < base) : Tx w' base v l :=
  World.ownsRow.kept h hg (by
    cases hv : v.ownBlock with
    | none => exact .inl rfl
    | some k =>
      refine .inr fun e => ?_
      have := (World.ownsRow.lt h k hv).1
      injection e with e
      omega)
theorem St.lower {w : World} {base b2 : Nat} {v : Value} {l : List ByteArray} (h : St w base v l) (hb : b2 ≤ base) : St w b2 v l := by
  rcases h with h | ⟨g, cap, h1, h2, h3⟩
  · exact .inl h
  · exact .inr ⟨g, cap, h1, Nat.le_trans hb h2, h3⟩
theorem Tx.grown0 {w w' : World} {base : Nat} {v : Value} {l : List ByteArray} (h : Tx w base v l) (hg : w.grownBy w' none) : Tx w' base v l :=
  World.ownsRow.kept h hg (by
    cases hv : v.ownBlock with
    | none => exact .inl rfl
    | some k => exact .inr fun e => by cases e)
theorem u8_info : (Tryd.prog.info? 5).map (fun i => (i.zero, i.size, i.bytes)) = some (some (.int .u8 0), 1, 1) := by kernel_rfl
def blanks (m : Nat) : ByteArray := ⟨(List.replicate m (0 : UInt8)).toArray⟩
theorem blanks_size (m : Nat) : (blanks m).size = m := by
  show (List.replicate m (0 : UInt8)).toArray.size = m
  simp
theorem made_list0 (x : Value) (n : Nat) : (madeCells #[x] n).toList = List.replicate n x := by
  apply List.ext_getElem?
  intro i
  unfold madeCells
  rw [List.getElem?_replicate]
  by_cases h : i < n
  · simp [h, Nat.mod_one]
  · simp [h]
theorem blank_text {w : World} {base g m : Nat} (h : w.ownsRow base 5 1 (.slice (some ⟨g, 0, none⟩) m m) m (madeCells (Value.int .u8 0).cells (m * 1)).toList) :
    (convert 33 9 (.slice (some ⟨g, 0, none⟩) m m)).run Tryd.prog w = .ok (.string (blanks m)) w := by
  have hc := World.ownsRow.cells h (g := g) rfl
  have e : (List.replicate m (0 : UInt8)).length = m := by simp
  have := run_convert_bytes_back (P := Tryd.prog) w 33 9 5 ⟨g, 0, none⟩ m (List.replicate m 0) Tryd.underlying33 Tryd.underlying5 Tryd.underlying9 (fun j hj => by
    rw [e] at hj
    refine hc j _ ?_
    rw [show (Value.int IntKind.u8 0).cells = #[Value.int .u8 0] from rfl, made_list0, Nat.mul_one, List.getElem?_replicate, if_pos hj]
    simp)
  rw [e] at this
  exact this
theorem draw_join {p : Option Addr} {n c : Nat} (w : World) (hB : By w w.heap.size p n c) :
    Calls Tryd.prog 23 #[.slice p n c] w fun e w' => ∃ (v : Value) (l : List ByteArray) (y : ByteArray), e = .returned (.tuple #[v, .string y]) ∧ St w' w.heap.size v l ∧ l.length ≤ 10 ∧ (∀ x, x ∈ l → x.size ≤ 5000) ∧ y.size ≤ 10 ∧ Below w.heap.size w w' := by
  have hb0 : Below w.heap.size w (w.alloc (.cells #[.slice p n c, .int .i64 0, .int .u64 0] 57)) := (Below.refl _ _).alloc (Nat.le_refl _) _
  have HC : Hid (Cur (w.alloc (.cells #[.slice p n c, .int .i64 0, .int .u64 0] 57)) w.heap.size p n c 0) := cur_new w
  have HB : Hid (By (w.alloc (.cells #[.slice p n c, .int .i64 0, .int .u64 0] 57)) w.heap.size p n c) := hB.below hb0 (Nat.le_refl _)
  clear hB
  have hb1 := hb0.alloc hb0.size (.cells #[] 9)
  have hT0 : Tx ((w.alloc (.cells #[.slice p n c, .int .i64 0, .int .u64 0] 57)).alloc (.cells #[] 9)) (w.heap.size + 1) (.slice (some ⟨w.heap.size + 1, 0, none⟩) 0 0) [] := by
    have := Tx.made (w := w.alloc (.cells #[.slice p n c, .int .i64 0, .int .u64 0] 57)) (base := w.heap.size + 1) (by simp)
    simpa using this
  have hbx : Below (w.alloc (.cells #[.slice p n c, .int .i64 0, .int .u64 0] 57)).heap.size (w.alloc (.cells #[.slice p n c, .int .i64 0, .int .u64 0] 57)) ((w.alloc (.cells #[.slice p n c, .int .i64 0, .int .u64 0] 57)).alloc (.cells #[] 9)) := (Below.refl _ _).alloc (Nat.le_refl _) _
  have HC1 : Hid (Cur _ w.heap.size p n c 0) := HC.out.below hbx
  have HB1 : Hid (By _ w.heap.size p n c) := HB.out.below hbx hb0.size
  obtain ⟨ii, hi, hz, hsz0, hby⟩ := info_parts u8_info
  have hsz : w.heap.size + 1 ≤ ((w.alloc (.cells #[.slice p n c, .int .i64 0, .int .u64 0] 57)).alloc (.cells #[] 9)).heap.size := by simp
  go_enter Tryd.func23, Tryd.ntmps23
  go_wp2_with first
    | (go_at_call 49; refine Calls.mono (pick_any 4 (by omega) (by omega) _ (Nat.le_refl _) (by omega) HC1.out HB1.out) ?_; rintro e w1 ⟨r, i1, rfl, hr, hi1, hC2, hg1⟩; have hb2 := grown_below hg1 (Nat.le_refl _) hb1; have hT1 := hT0.grown hg1 (by omega); have HB2 := HB1.out.grown hg1 (Nat.le_refl _) (by omega); have hsz1 : w.heap.size + 1 ≤ w1.heap.size := Nat.le_trans hsz hg1.size; clear hb0 HC HB hb1 hT0 hbx HC1 HB1 hsz hg1)
  go_loopw [5, 7] (fun o i wr => ∃ (k i' : Nat) (l : List ByteArray), k ≤ r ∧ i = .int .i64 k ∧ l.length = k ∧ (∀ x, x ∈ l → x.size ≤ 10) ∧ Tx wr (w.heap.size + 1) o l ∧ Cur wr w.heap.size p n c i' ∧ i' ≤ 2 + 2 * k ∧ By wr w.heap.size p n c ∧ w.heap.size + 1 ≤ wr.heap.size ∧ Below w.heap.size w wr) (fun _ i _ => r - (intOf i).toNat)
  case atStart => exact ⟨0, i1, [], Nat.zero_le _, rfl, rfl, (fun x hx => by cases hx), hT1, hC2, by omega, HB2, hsz1, hb2⟩
  case round =>
    clear hb2 hT1 hC2 HB2 hsz1 hi1
    obtain ⟨k, i2, l, hk, rfl, hlk, hlz, hT, hC, hi2, hB, hsz, hbel⟩ := hrel
    have HC : Hid (Cur wr w.heap.size p n c i2) := hC
    have HB : Hid (By wr w.heap.size p n c) := hB
    have HLZ : Hid _ := hlz
    clear hC hB hlz
    by_cases hlt : k < r
    · have hlt' : (k : Int) < (r : Int) := by omega
      go_wp2_with first
        | (go_at_call 47; (with_reducible refine (any1_any _ (Nat.le_refl _) (by omega) HC.out HB.out).mono ?_); rintro e w2 ⟨x, i3, rfl, hx, hi3, hC3, hg3⟩; have HC3 : Hid (Cur w2 w.heap.size p n c i3) := hC3; have hT3 := hT.grown hg3 (by omega); have HB3 : Hid (By w2 w.heap.size p n c) := HB.out.grown hg3 (Nat.le_refl _) hbel.size; have hb3 := grown_below hg3 (Nat.le_refl _) hbel; have hsz3 : w.heap.size + 1 ≤ w2.heap.size := Nat.le_trans hsz hg3.size; clear hC3)
        | ((with_reducible refine wpList_appendT rfl _ _ rfl rfl (hT3.keep ((Below.refl _ _).alloc (Nat.le_refl _) _)) rfl (heap_alloc_new _ _) (by omega) (by simp; omega) ?_); intro v4 w4 hT4 hb4)
      have hb5 : Below (w.heap.size + 1) w2 w4 := ((Below.refl (w.heap.size + 1) w2).alloc hsz3 _).trans hb4
      go_roundw
      case rel => exact ⟨k + 1, i3, l ++ [x], by omega, by go_num, by simp; omega, fun y hy => by
        rcases List.mem_append.1 hy with h | h
        · exact HLZ.out y h
        · rw [List.mem_singleton.1 h]; exact hx, hT4, HC3.out.belowK hb5 (by omega), by omega, HB3.out.belowK hb5 (by omega), Nat.le_trans hsz3 hb5.size, hb3.trans (hb5.mono (by omega))⟩
      case measure => simp [intOf]; omega
    · go_wp2_with first
        | (go_at_call 50; refine Calls.mono (one_any 20 (by omega) (by omega) _ (Nat.le_refl _) (by omega) HC.out HB.out) ?_; rintro e w2 ⟨b2, i3, rfl, hi3, hC3, hg3⟩; have HC3 : Hid (Cur w2 w.heap.size p n c i3) := hC3; have hT3 := hT.grown hg3 (by omega); have HB3 : Hid (By w2 w.heap.size p n c) := HB.out.grown hg3 (Nat.le_refl _) hbel.size; have hb3 := grown_below hg3 (Nat.le_refl _) hbel; have hsz3 : w.heap.size + 1 ≤ w2.heap.size := Nat.le_trans hsz hg3.size; clear hC3)
        | (go_at_call 49; refine Calls.mono (pick_any 20 (by omega) (by omega) _ (Nat.le_refl _) (by omega) HC3.out HB3.out) ?_; rintro e w5 ⟨r5, i5, rfl, hr5, hi5, hC5, hg5⟩; have HC5 : Hid (Cur w5 w.heap.size p n c i5) := hC5; have hT5 := hT3.grown hg5 (by omega); have HB5 : Hid (By w5 w.heap.size p n c) := HB3.out.grown hg5 (Nat.le_refl _) hb3.size; have hb5 := grown_below hg5 (Nat.le_refl _) hb3; have hsz5 : w.heap.size + 1 ≤ w5.heap.size := Nat.le_trans hsz3 hg5.size; clear hC5)
        | ((with_reducible refine wpList_make_full w5 rfl _ _ 33 rfl w5.heap.size 5 ii (.int .u8 0) 1 Tryd.underlying33 hi hz hsz0 .i64 .i64 (3990 + (r5 : Int)) (3990 + (r5 : Int)) (3990 + r5) rfl rfl (by omega) (by omega) (by rw [hby]; omega) (by unfold maxLen; omega) (Nat.le_refl _) ?_); intro w6 hown6 hg6; have hcv := blank_text hown6; have hT6 := hT5.grown0 hg6; have hb56 := below_grown hg6 (Nat.le_refl _) (fun k hk => by cases hk); generalize hmm : 3990 + r5 = mm at *)
        | ((with_reducible refine wpList_appendT rfl _ _ rfl rfl (hT6.keep ((Below.refl _ _).alloc (Nat.le_refl _) _)) rfl (heap_alloc_new _ _) (by omega) (by have := hb56.size; simp; omega) ?_); intro v7 w7 hT7 hb7; have hb67 : Below (w.heap.size + 1) w6 w7 := ((Below.refl (w.heap.size + 1) w6).alloc (by have := hb56.size; omega) _).trans hb7; have hb57 : Below (w.heap.size + 1) w5 w7 := (hb56.mono hsz5).trans hb67)
        | (go_at_call 48; refine Calls.mono (ofl_any [⟨#[44]⟩, ⟨#[59]⟩, ⟨#[59]⟩, ⟨#[]⟩, ⟨#[97, 98]⟩] 10 (by decide) (by decide) (by decide) w7 (Nat.le_refl _) (by omega) (HC5.out.belowK hb57 (by omega)) (HB5.out.belowK hb57 (by omega))) ?_; rintro e w8 ⟨y, i8, rfl, hy, hi8, hC8, hg8⟩)
        | (go_at_call 48; refine Calls.mono (ofl_any [⟨#[44]⟩, ⟨#[59]⟩, ⟨#[59]⟩, ⟨#[]⟩, ⟨#[97, 98]⟩] 10 (by decide) (by decide) (by decide) w2 (Nat.le_refl _) (by omega) HC3.out HB3.out) ?_; rintro e w8 ⟨y, i8, rfl, hy, hi8, hC8, hg8⟩)
      all_goals go_ret2
      · exact ⟨_, l ++ [blanks mm], y, rfl, ((hT7.grown hg8 (by omega)).st).lower (by omega), by simp; omega, fun x hx => by
          rcases List.mem_append.1 hx with h | h
          · have := HLZ.out x h; omega
          · rw [List.mem_singleton.1 h, blanks_size]; omega, hy, grown_below hg8 (Nat.le_refl _) (hb5.trans (hb57.mono (by omega)))⟩
      · exact ⟨_, l, y, rfl, ((hT3.grown hg8 (by omega)).st).lower (by omega), by omega, fun x hx => by have := HLZ.out x hx; omega, hy, grown_below hg8 (Nat.le_refl _) hb3⟩
end Go.Proofs.YthljicikedlkbaaDoor
