/- The law of JoinStrings: its walk. -/
import Derived.SliceStrings
import Derived.Test.YthljicikedlkbaaJoinW
namespace Go.Proofs.Ythljicikedlkbaa
set_option linter.unusedSimpArgs false
set_option linter.unusedVariables false
set_option maxRecDepth 20000
open Go.RowKit
/-- v is a slice of the strings l, wherever it lies. -/
def Sa (w : World) (v : Value) (l : List ByteArray) : Prop :=
  ∃ p c, v = .slice p l.length c ∧ (0 < l.length → ∃ a, p = some a ∧ a.block < w.heap.size ∧ l.length ≤ c ∧ ∀ j x, l[j]? = some x → w.cell? (a.add j) = some (.string x))
theorem Sa.keep {w w' : World} {v : Value} {l : List ByteArray} (h : Sa w v l) (hb : Below w.heap.size w w') : Sa w' v l := by
  obtain ⟨p, c, rfl, h1⟩ := h
  refine ⟨p, c, rfl, fun hl => ?_⟩
  obtain ⟨a, h2, h3, h4, h5⟩ := h1 hl
  refine ⟨a, h2, Nat.lt_of_lt_of_le h3 hb.size, h4, fun j x hx => (hb.cell ?_).trans (h5 j x hx)⟩
  unfold Addr.add
  split <;> exact h3
theorem add_block (a : Addr) (j : Nat) : (a.add j).block = a.block := by unfold Addr.add; split <;> rfl
theorem sz_any {l : List ByteArray} {v : Value} (hn : l.length ≤ 9223372036854775807) (hl : ∀ x, x ∈ l → x.size ≤ 9223372036854775807) (w : World) (hS : Sa w v l) :
    Calls Try.prog 4 #[v, .int .i64 1048576] w fun e w' => ∃ r : Int, e = .returned (.int .i64 r) ∧ (0 ≤ r → l.length ≤ 1048576 ∧ ∀ x, x ∈ l → x.size ≤ 1048576) ∧ Below w.heap.size w w' := by
  have hbel := Below.refl w.heap.size w
  obtain ⟨p, c, rfl, H1⟩ := hS
  by_cases hbig : 1048576 < l.length
  · have hb' : (1048576 : Int) - (l.length : Int) < 0 := by omega
    have hw : IntKind.i64.wrap (1048576 - (l.length : Int)) = 1048576 - (l.length : Int) := IntWalk.i64_in _ (by omega)
    go_enter Try.func4, Try.ntmps4
    go_wp2
    go_ret
    exact ⟨_, rfl, fun h => absurd h (by omega), hbel⟩
  · have hr0 : (0 : Int) ≤ 1048576 - (l.length : Int) := by omega
    have HLE : Hid _ := hl
    clear hl
    go_enter Try.func4, Try.ntmps4
    go_wp2
    go_loop [1, 5] (fun z i => ∃ k : Nat, ∃ q : Int, k ≤ l.length ∧ i = .int .i64 k ∧ z = .int .i64 q ∧ 0 ≤ q ∧ q ≤ 1048576 ∧ (∀ j x, j < k → l[j]? = some x → x.size ≤ 1048576)) (fun _ i => l.length - (intOf i).toNat)
    case atStart => exact ⟨0, _, by omega, rfl, rfl, hr0, by omega, fun j x hj => by omega⟩
    case round =>
      obtain ⟨k, q, hk, rfl, rfl, hq0, hq1, hno⟩ := hrel
      have HNO : Hid _ := hno
      clear hno
      by_cases hlt : k < l.length
      · have hlt' : (k : Int) < (l.length : Int) := by omega
        obtain ⟨a, rfl, h3, h4, h5⟩ := H1 (by omega)
        have hx0 : l[k]? = some l[k] := List.getElem?_eq_getElem hlt
        have hc := h5 k _ hx0
        have hxz := HLE.out _ (List.getElem_mem hlt)
        generalize l[k] = x at hx0 hc hxz
        have HX : Hid _ := hx0
        clear H1 h5 hx0
        have hw : IntKind.i64.wrap (q - (x.size : Int)) = q - (x.size : Int) := IntWalk.i64_in _ (by omega)
        by_cases hb : q - (x.size : Int) < 0
        · go_wp2
          go_ret
          exact ⟨_, rfl, fun h => absurd h (by omega), hbel⟩
        · have hb' : (0 : Int) ≤ q - (x.size : Int) := by omega
          have hxs : x.size ≤ 1048576 := by omega
          go_wp2
          go_round
          case rel => exact ⟨k + 1, _, by omega, by go_num, rfl, hb', by omega, fun j y hj hy => by
            by_cases e : j = k
            · subst e; have := HX.out; rw [this] at hy; cases hy; exact hxs
            · exact HNO.out j y (by omega) hy⟩
          case measure => simp [intOf]; omega
      · obtain rfl : k = l.length := by omega
        go_wp2
        go_ret
        exact ⟨_, rfl, fun _ => ⟨by omega, fun x hx => by
          obtain ⟨j, hj⟩ := List.getElem?_of_mem hx
          exact HNO.out j x (List.getElem?_eq_some_iff.1 hj).1 hj⟩, hbel⟩
theorem made_list (x : Value) (n : Nat) : (madeCells #[x] n).toList = List.replicate n x := by
  apply List.ext_getElem?
  intro i
  unfold madeCells
  rw [List.getElem?_replicate]
  by_cases h : i < n
  · simp [h, Nat.mod_one]
  · simp [h]
theorem toS_any {l : List ByteArray} {v : Value} (hn : l.length ≤ 1048576) (w : World) (hS : Sa w v l) :
    Calls Try.prog 6 #[v] w fun e w' => ∃ v', e = .returned v' ∧ St w' w.heap.size v' l ∧ Below w.heap.size w w' := by
  have hbel := Below.refl w.heap.size w
  obtain ⟨p, c, rfl, H1⟩ := hS
  obtain ⟨ii, hi, hz, hsz, hby⟩ := info_parts str_info
  go_enter Try.func6, Try.ntmps6
  go_wp2_with first
    | ((with_reducible refine wpList_make_full w rfl _ _ 22 rfl w.heap.size 9 ii (.string ⟨#[]⟩) 1 Try.underlying22 hi hz hsz .i64 .i64 (l.length : Int) (l.length : Int) l.length rfl rfl rfl rfl (by rw [hby]; omega) (by unfold maxLen; omega) (Nat.le_refl _) ?_); intro w1 hown hgr)
  have hb1 : Below w.heap.size w w1 := below_grown hgr (Nat.le_refl _) fun k hk => by cases hk
  have hT : St w1 w.heap.size (.slice (some ⟨w.heap.size, 0, none⟩) (List.replicate l.length (⟨#[]⟩ : ByteArray)).length l.length) (List.replicate l.length ⟨#[]⟩) := by
    refine Tx.st ?_
    unfold Tx
    rw [List.length_replicate, List.map_replicate]
    have := hown
    rw [show (Value.string ⟨#[]⟩).cells = #[Value.string ⟨#[]⟩] from rfl, made_list, Nat.mul_one] at this
    exact this
  clear hown hgr hbel
  have hbel := hb1
  clear hb1
  obtain ⟨a1, c1, hv, H2⟩ := hT.shape
  by_cases h0 : l.length = 0
  · rw [h0] at hT
    go_loopw [4] (fun i wr => i = .int .i64 0 ∧ wr = w1) (fun i _ => 0)
    case atStart => exact ⟨rfl, rfl⟩
    case round =>
      obtain ⟨rfl, rfl⟩ := hrel
      have h0' : (l.length : Int) = 0 := by omega
      go_wp2
      go_ret
      have : l = [] := List.eq_nil_of_length_eq_zero h0
      subst this
      exact ⟨_, rfl, hT, hbel⟩
  · obtain ⟨g1, hg1, hbg, q1, d1, fz, K1⟩ := H2 (by rw [List.length_replicate]; omega)
    injection hv with hv1 hv2 hv3
    rw [hg1] at hv1
    simp only [Option.some.injEq, Addr.mk.injEq] at hv1
    obtain ⟨rfl, _⟩ := hv1
    clear hv2 hv3 d1
    obtain ⟨a, rfl, h3, h4, h5⟩ := H1 (by omega)
    have H5 : Hid _ := h5
    clear H1 H2 h5 hT
    go_loopw [4] (fun i wr => ∃ k : Nat, k ≤ l.length ∧ i = .int .i64 k ∧ (∀ j x, j < k → l[j]? = some x → wr.cell? ⟨w.heap.size, j, none⟩ = some (.string x)) ∧ (∀ j, k ≤ j → j < l.length → wr.cell? ⟨w.heap.size, j, none⟩ = some (.string ⟨#[]⟩)) ∧ (∀ j, wr.frozen? ⟨w.heap.size, j, none⟩ = false) ∧ w.heap.size < wr.heap.size ∧ Below w.heap.size w wr) (fun i _ => l.length - (intOf i).toNat)
    case atStart => exact ⟨0, by omega, rfl, fun j x hj => by omega, fun j _ hj => K1 j _ (by rw [List.getElem?_replicate, if_pos hj]), fz, q1, hbel⟩
    case round =>
      clear hbel K1 fz q1
      obtain ⟨k, hk, rfl, hA, hB, fz, q1, hbel⟩ := hrel
      have HA : Hid _ := hA
      have HB : Hid _ := hB
      have HF : Hid _ := fz
      clear hA hB fz
      by_cases hlt : k < l.length
      · have hlt' : (k : Int) < (l.length : Int) := by omega
        have hx0 : l[k]? = some l[k] := List.getElem?_eq_getElem hlt
        have hc := (hbel.cell (p := a.add k) (by rw [add_block]; exact h3)).trans (H5.out k _ hx0)
        have hc2 := HB.out k (Nat.le_refl _) hlt
        have hf2 := HF.out k
        generalize l[k] = x at hx0 hc
        have HX : Hid _ := hx0
        clear hx0
        go_wp2
        go_roundw
        case rel => exact ⟨k + 1, by omega, by go_num, fun j y hj hy => by
            by_cases e : k = j
            · subst e; have := HX.out; rw [this] at hy; cases hy; exact World.cell?_setCell_same _ _ _ hc2
            · rw [World.cell?_setCell_other _ _ _ _ (fun h => e (by injection h))]
              exact HA.out j y (by omega) hy, fun j hj hj2 => by
            rw [World.cell?_setCell_other _ _ _ _ (fun h => by injection h; omega)]
            exact HB.out j (by omega) hj2, fun j => by
            rw [World.frozen?_setCell]
            exact HF.out j, by simp only [World.setCell, Array.size_modify]; exact q1, hbel.setCell (Nat.le_refl _) _⟩
        case measure => simp [intOf]; omega
      · obtain rfl : k = l.length := by omega
        go_wp2
        go_ret
        exact ⟨_, rfl, .inr ⟨w.heap.size, l.length, rfl, Nat.le_refl _, q1, Nat.le_refl _, HF.out, fun j x hx => HA.out j x (List.getElem?_eq_some_iff.1 hx).1 hx⟩, hbel⟩
set_option maxHeartbeats 1000000 in
theorem FnExactJoinStrings_any {l : List ByteArray} {v : Value} (hn : l.length ≤ 9223372036854775807) (hl : ∀ x, x ∈ l → x.size ≤ 9223372036854775807) (sep : ByteArray) (hs : sep.size ≤ maxLen) (w : World) (hS : Sa w v l) :
    Calls Try.prog 3 #[v, .string sep] w fun e w' => e = .returned (.bool true) ∧ Below w.heap.size w w' := by
  have hbel := Below.refl w.heap.size w
  unfold maxLen at hs
  by_cases hb : sep.size ≤ 1048576
  · have hb' : (sep.size : Int) ≤ 1048576 := by omega
    have HSZ : Hid _ := fun w (h : Sa w v l) => sz_any hn hl w h
    have HSA : Hid (Sa w v l) := hS
    clear hS hl hn
    have tok_1 : True := trivial
    have tok_2 : True := trivial
    go_enter Try.func3, Try.ntmps3
    go_wp2_with first
      | (go_at_call 4; (with_reducible refine (HSZ.out _ HSA.out).mono ?_); (rintro e w1 ⟨r, rfl, hr, hb1⟩; have HR : Hid (0 ≤ r → l.length ≤ 1048576 ∧ ∀ x, x ∈ l → x.size ≤ 1048576) := hr; clear hr; replace hbel := hbel.trans (hb1.mono hbel.size); (try replace hS1 := hS1.keep hb1); (try replace hS2 := hS2.keep hb1); clear hb1))
      | (have _t := tok_1; (go_at_call 6; (with_reducible refine (toS_any (HR.out (by omega)).1 _ (HSA.out.keep hbel)).mono ?_); (rintro e w1 ⟨v1, rfl, hS1, hb1⟩; replace hbel := hbel.trans (hb1.mono hbel.size); clear hb1 _t tok_1)))
      | (have _t := tok_2; (go_at_call 6; (with_reducible refine (toS_any (HR.out (by omega)).1 _ (HSA.out.keep hbel)).mono ?_); (rintro e w1 ⟨v2, rfl, hS2, hb1⟩; replace hbel := hbel.trans (hb1.mono hbel.size); clear hb1 _t tok_2)))
      | (go_at_call 6; (with_reducible refine (toS_any (HR.out (by omega)).1 _ (HSA.out.keep hbel)).mono ?_); (rintro e w1 ⟨v3, rfl, hS3, hb1⟩; replace hbel := hbel.trans (hb1.mono hbel.size); (try replace hS1 := hS1.keep hb1); (try replace hS2 := hS2.keep hb1); clear hb1))
      | (go_at_call 5; (with_reducible refine (specJoin l sep _ _ _ hS1 (by have := (HR.out (by omega)).1; omega) (fun x hx => by have := (HR.out (by omega)).2 x hx; omega) (by omega)).mono ?_); (rintro e w1 ⟨rfl, hb1⟩; replace hbel := hbel.trans (hb1.mono hbel.size); (try replace hS1 := hS1.keep hb1); (try replace hS2 := hS2.keep hb1); clear hb1))
      | (go_at_call 7; (with_reducible refine (implJoin l sep _ _ _ hS2 (by have := (HR.out (by omega)).1; omega) (fun x hx => by have := (HR.out (by omega)).2 x hx; omega) (by omega)).mono ?_); (rintro e w1 ⟨rfl, hb1⟩; replace hbel := hbel.trans (hb1.mono hbel.size); (try replace hS1 := hS1.keep hb1); (try replace hS2 := hS2.keep hb1); clear hb1))
      | (go_at_call 8; (with_reducible refine (eqSt_same (by have := (HR.out (by omega)).1; omega) _ hS2 hS3).mono ?_); (rintro e w1 ⟨rfl, hb1⟩; replace hbel := hbel.trans (hb1.mono hbel.size); (try replace hS1 := hS1.keep hb1); (try replace hS2 := hS2.keep hb1); clear hb1))
    all_goals (go_ret; exact ⟨rfl, hbel⟩)
  · have hb' : (1048576 : Int) < (sep.size : Int) := by omega
    go_enter Try.func3, Try.ntmps3
    go_wp2
    go_ret
    exact ⟨rfl, hbel⟩
open Go.ChangeShapes Go.WideShapes Go.ChangeAt in
theorem sa_of {H : Type} {enc : TypeId × Value → H} {W : World} {b0 base : Nat} {spare : Nat → Bool} {held : Bool} {v : Value} {d : DataW H} {ps : List MemPlace} (hv : Value.okWide Try.prog W .any b0 22 v)
    (h : DataW.Trod enc Try.prog W base spare held 22 v d ps) : ∃ l, Sa W v l ∧ l.length ≤ maxLen ∧ ∀ x, x ∈ l → x.size ≤ maxLen := by
  obtain ⟨a0, len, cap, rfl⟩ := okWide_slice Try.underlying22 hv
  obtain ⟨fuel, hf⟩ := h
  rcases open_strings Try.underlying22 Try.underlying9 (by kernel_rfl) hf with ⟨hcs, hx⟩ | ⟨a, len', cap', ss, hcs, _, hl, hm, hz, hx, hcell, hsz⟩
  · injection hcs with hcs _
    injection hcs with e1 e2 e3
    subst e1 e2 e3
    exact ⟨[], ⟨none, 0, rfl, fun h => absurd h (by simp)⟩, by simp, fun x hx => by cases hx⟩
  · injection hcs with hcs _
    injection hcs with e1 e2 e3
    subst e1 e2 e3
    have hlen : (ss.take len).length = len := by
      rw [List.length_take, hz]
      split <;> omega
    have hssl : len ≤ ss.length := by rw [hz]; split <;> omega
    refine ⟨ss.take len, ⟨some a, cap, by rw [hlen], fun hp => ⟨a, rfl, ?_, by rw [hlen]; exact hl, fun j x hx => ?_⟩⟩, by rw [hlen]; omega, fun x hx => hsz x (List.mem_of_mem_take hx)⟩
    · rw [hlen] at hp
      have h1 := hcell 0 (by omega)
      by_cases hb : a.block < W.heap.size
      · exact hb
      · simp [World.cell?, Addr.add, Array.getElem?_eq_none (Nat.le_of_not_lt hb)] at h1
    · have hj := (List.getElem?_eq_some_iff.1 hx).1
      rw [hlen] at hj
      rw [List.getElem?_take, if_pos hj] at hx
      rw [hcell j (by omega), List.getD_eq_getElem?_getD, hx]
      rfl
open Go.ChangeShapes Go.WideShapes Go.ChangeAt in
theorem FnExactJoinStrings_walk {H : Type} {enc : TypeId × Value → H} {W : World} {b0 base : Nat} {spare : Nat → Bool} {held : Bool} {v : Value} {d : DataW H} {ps : List MemPlace} (hv : Value.okWide Try.prog W .any b0 22 v)
    (h : DataW.Trod enc Try.prog W base spare held 22 v d ps) (sep : ByteArray) (hs : sep.size ≤ maxLen) (w : World) (hw : w = W) : Calls Try.prog 3 #[v, .string sep] w fun e w' => e = .returned (.bool true) ∧ Below w.heap.size w w' := by
  subst hw
  obtain ⟨l, hS, hn, hl⟩ := sa_of hv h
  exact FnExactJoinStrings_any (by unfold maxLen at hn; omega) (fun x hx => by have := hl x hx; unfold maxLen at this; omega) sep hs w hS
end Go.Proofs.Ythljicikedlkbaa
