/- Joining texts: the walks. -/
import Derived.Test.YthljicikedlkbaaDoorJoin
namespace Go.Proofs.YthljicikedlkbaaDoor
set_option linter.unusedSimpArgs false
set_option linter.unusedVariables false
set_option maxRecDepth 20000
open Go.RowKit
theorem jadd1 (o : List UInt8) (sep : ByteArray) (h : sep.size = 1) (ho : o.length ≤ 8000000) (w : World) : (Op.stringOp .add ⟨o.toArray⟩ sep).run Tryd.prog w = .ok (.string ⟨(o ++ [sep[0]'(by omega)]).toArray⟩) w := by
  obtain ⟨c, rfl⟩ := Lib.one_byte sep h
  exact str_add o [c] (by omega) (by show 1 ≤ _; omega) w
theorem jadd2 (o : List UInt8) (x : ByteArray) (hx : x.size ≤ 8000000) (ho : o.length ≤ 8000001) (w : World) : (Op.stringOp .add ⟨o.toArray⟩ x).run Tryd.prog w = .ok (.string ⟨(o ++ x.data.toList).toArray⟩) w := by
  have := str_add o x.data.toList (by omega) (by rw [← size_list]; omega) w
  rw [str_eta] at this
  exact this
def RetStr (l : List UInt8) (b : Bool) (w : World) (e : Ending) (w' : World) : Prop := e = .returned (.tuple #[.string ⟨l.toArray⟩, .bool b]) ∧ Below w.heap.size w w'
theorem specJoin (l : List ByteArray) (sep : ByteArray) (base : Nat) (v : Value) (w : World) (hS : St w base v l) (hn : l.length ≤ 4000000) (hl : ∀ x, x ∈ l → x.size ≤ 4000000) (hs : sep.size ≤ 4000000) :
    Calls Tryd.prog 25 #[v, .string sep] w (RetStr (jS l sep) (jB l sep) w) := by
  have hbel := Below.refl w.heap.size w
  obtain ⟨a1, c1, rfl, H1⟩ := hS.shape
  clear hS
  by_cases h1 : sep.size = 1
  · have h1' : (sep.size : Int) = 1 := by omega
    have h0 : 0 < sep.size := by omega
    by_cases h2 : l.length = 0
    · have hB : jB l sep = false := j_nil h2
      rw [jS_no hB, hB, h2]
      go_enter Tryd.func25, Tryd.ntmps25
      go_wp2
      go_ret2
      exact ⟨rfl, hbel⟩
    · have h2' : ¬ (l.length : Int) = 0 := by omega
      obtain ⟨g1, rfl, _, q1, d1, _, K1⟩ := H1 (by omega)
      have K1 : Hid _ := K1
      have HLE : Hid _ := hl
      have H1S : Hid (sep.size = 1) := h1
      have hlz : ((l.length : Int) == 0) = false := beq_eq_false_iff_ne.2 h2'
      clear H1 hl
      go_enter Tryd.func25, Tryd.ntmps25
      go_wp2
      go_loopw [6, 7] (fun o i wr => ∃ k : Nat, k ≤ l.length ∧ i = .int .i64 k ∧ o = .string ⟨(jn (l.take k) sep[0]).toArray⟩ ∧ (jn (l.take k) sep[0]).length ≤ 4000 ∧ (∀ j y, j < k → l[j]? = some y → hasB y.data.toList sep[0] = false) ∧ Below w.heap.size w wr) (fun _ i _ => l.length - (intOf i).toNat)
      case atStart => exact ⟨0, by omega, rfl, by rw [jn_zero], by rw [jn_zero]; simp, fun j y hj => by omega, hbel⟩
      case round =>
        clear hbel
        obtain ⟨k, hk, rfl, rfl, hlen, hno, hbel⟩ := hrel
        have HNO : Hid _ := hno
        clear hno
        by_cases hlt : k < l.length
        · have hlt' : (k : Int) < (l.length : Int) := by omega
          have hx0 : l[k]? = some l[k] := List.getElem?_eq_getElem hlt
          have hc0 := (hbel.cell (p := ⟨g1, k, none⟩) q1).trans (K1.out k _ hx0)
          have hxz := HLE.out _ (List.getElem_mem hlt)
          generalize l[k] = x at hx0 hc0 hxz
          have HX : Hid _ := hx0
          have hz : g1 < wr.heap.size := by have := hbel.size; omega
          have HL : Hid (∀ w, Cls wr [] w → w.cell? ⟨g1, k, none⟩ = some (.string x)) := fun w h => (h.2.cell (p := ⟨g1, k, none⟩) hz).trans hc0
          have HC : Hid (∀ w, Below wr.heap.size wr w → w.cell? ⟨g1, k, none⟩ = some (.string x)) := fun w h => (h.cell (p := ⟨g1, k, none⟩) hz).trans hc0
          have HH : Hid _ := stands_any x (by unfold maxLen; omega) sep[0]
          have HST : Hid _ := jn_step l sep[0] k x hx0
          clear hx0 hc0
          cases hb : hasB x.data.toList sep[0] with
          | true =>
            have HB : Hid _ := hb
            have hJ : jB l sep = false := j_has h0 HX.out hb
            have HJ : Hid _ := hJ
            have HJS : Hid _ := jS_no hJ
            clear hb hJ
            go_wp2_with fail
            refine wp_region_held 7 (Cls wr []) (by kernel_rfl) (by kernel_rfl) (Cls.zero (Below.refl _ _)) ?_; simp only [List.take_succ_cons, List.take_zero, List.drop_succ_cons, List.drop_zero]
            repeat (first
              | ((with_reducible refine wpQuiet_callE rfl 42 _ _ rfl (.bool (hasB x.data.toList sep[0])) (#[.string x, .int .u8 (sep[0].toNat : Int)]) rfl ?_ ?_ ?_); (exact enters_of Tryd.func42 (by kernel_rfl) rfl); (intro w' h'; with_reducible exact (HH.out w').mono fun _ _ ⟨he, hb⟩ => ⟨he, h'.keep hb⟩))
              | (with_reducible refine wpQuiet_loadC rfl _ _ rfl ⟨g1, k, none⟩ (.string x) rfl HL.out (by kernel_rfl) (by kernel_rfl) ?_)
              | ((with_reducible refine wpQuiet_step (fun K hK => ?_)); go_simp; (first | (refine ⟨_, fun _ _ => rfl, hK _ ?_⟩) | (refine ⟨_, fun _ _ => ⟨rfl, rfl⟩, hK _ ?_⟩) | (refine hK _ ?_)); clear hK K))
            refine wpQuiet_nil ?_; intro wt hCt; replace hCt := hCt.2; replace hbel := hbel.trans (hCt.mono hbel.size); clear hCt
            rw [HB.out]
            go_wp2
            go_ret2
            exact ⟨by rw [HJ.out, HJS.out]; rfl, hbel⟩
          | false =>
            have HB : Hid _ := hb
            clear hb
            go_wp2_with fail
            refine wp_region_held 7 (Cls wr []) (by kernel_rfl) (by kernel_rfl) (Cls.zero (Below.refl _ _)) ?_; simp only [List.take_succ_cons, List.take_zero, List.drop_succ_cons, List.drop_zero]
            repeat (first
              | ((with_reducible refine wpQuiet_callE rfl 42 _ _ rfl (.bool (hasB x.data.toList sep[0])) (#[.string x, .int .u8 (sep[0].toNat : Int)]) rfl ?_ ?_ ?_); (exact enters_of Tryd.func42 (by kernel_rfl) rfl); (intro w' h'; with_reducible exact (HH.out w').mono fun _ _ ⟨he, hb⟩ => ⟨he, h'.keep hb⟩))
              | (with_reducible refine wpQuiet_loadC rfl _ _ rfl ⟨g1, k, none⟩ (.string x) rfl HL.out (by kernel_rfl) (by kernel_rfl) ?_)
              | ((with_reducible refine wpQuiet_step (fun K hK => ?_)); go_simp; (first | (refine ⟨_, fun _ _ => rfl, hK _ ?_⟩) | (refine ⟨_, fun _ _ => ⟨rfl, rfl⟩, hK _ ?_⟩) | (refine hK _ ?_)); clear hK K))
            refine wpQuiet_nil ?_; intro wt hCt; replace hCt := hCt.2; replace hbel := hbel.trans (hCt.mono hbel.size); clear hCt
            rw [HB.out]
            have hc2 := (hbel.cell (p := ⟨g1, k, none⟩) q1).trans (K1.out k _ HX.out)
            have ha1 := jadd1 (jn (l.take k) sep[0]) sep H1S.out (by omega)
            have hn1 : (0 : Int) ≤ (k : Int) := by omega
            have ha2 : ∀ w, (Op.stringOp .add ⟨(if k = 0 then jn (l.take k) sep[0] else jn (l.take k) sep[0] ++ [sep[0]]).toArray⟩ x).run Tryd.prog w = .ok (.string ⟨(jn (l.take (k + 1)) sep[0]).toArray⟩) w := fun w => by
              rw [HST.out]
              by_cases hk0 : k = 0
              · rw [if_pos hk0, if_pos hk0]
                have := jadd2 (jn (l.take k) sep[0]) x (by omega) (by omega) w
                rw [this, hk0, jn_zero, List.nil_append]
              · rw [if_neg hk0, if_neg hk0]
                exact jadd2 (jn (l.take k) sep[0] ++ [sep[0]]) x (by omega) (by rw [List.length_append]; show _ + 1 ≤ _; omega) w
            have HG : 4000 < (jn (l.take (k + 1)) sep[0]).length → jB l sep = false := fun h => j_long h0 h
            have HNX : Hid _ := take_has HNO.out HX.out HB.out
            have ho'z : (jn (l.take (k + 1)) sep[0]).length ≤ 10000000 := by
              rw [HST.out]
              have := size_list x
              split
              · omega
              · rw [List.length_append, List.length_append, List.length_singleton]; omega
            clear HST HNO
            generalize ho' : jn (l.take (k + 1)) sep[0] = o' at *
            have HO' : Hid _ := ho'
            clear ho'
            generalize jn (l.take k) sep[0] = o at *
            by_cases hk0 : k = 0
            · obtain rfl : k = 0 := hk0
              simp only [if_true] at ha2
              by_cases hL : 4000 < o'.length
              · have hL' : (4000 : Int) < (o'.length : Int) := by omega
                have HJ : Hid _ := HG hL
                have HJS : Hid _ := jS_no (HG hL)
                clear HG
                go_wp2
                go_ret2
                exact ⟨by rw [HJ.out, HJS.out]; rfl, hbel⟩
              · have hL' : (o'.length : Int) ≤ (4000 : Int) := by omega
                clear HG
                go_wp2
                go_roundw
                case rel => exact ⟨0 + 1, by omega, by go_num, by rw [HO'.out], by rw [HO'.out]; omega, HNX.out, hbel⟩
                case measure => simp [intOf]; omega
            · rw [if_neg hk0] at ha2
              have hk0' : (0 : Int) < (k : Int) := by omega
              by_cases hL : 4000 < o'.length
              · have hL' : (4000 : Int) < (o'.length : Int) := by omega
                have HJ : Hid _ := HG hL
                have HJS : Hid _ := jS_no (HG hL)
                clear HG
                go_wp2
                go_ret2
                exact ⟨by rw [HJ.out, HJS.out]; rfl, hbel⟩
              · have hL' : (o'.length : Int) ≤ (4000 : Int) := by omega
                clear HG
                go_wp2
                go_roundw
                case rel => exact ⟨k + 1, by omega, by go_num, by rw [HO'.out], by rw [HO'.out]; omega, HNX.out, hbel⟩
                case measure => simp [intOf]; omega
        · obtain rfl : k = l.length := by omega
          have hJ : jB l sep = true := j_good H1S.out (by omega) (fun j y hy => HNO.out j y (List.getElem?_eq_some_iff.1 hy).1 hy) (by rw [List.take_length] at hlen; exact hlen)
          have HJ : Hid _ := hJ
          have HJS : Hid _ := jS_yes h0 hJ
          rw [List.take_length] at *
          clear hJ
          go_wp2
          go_ret2
          exact ⟨by rw [HJ.out, HJS.out]; rfl, hbel⟩
  · have h1' : ¬ (sep.size : Int) = 1 := by omega
    have hB : jB l sep = false := j_sep h1
    rw [jS_no hB, hB]
    have hne : ((sep.size : Int) != 1) = true := bne_iff_ne.2 h1'
    go_enter Tryd.func25, Tryd.ntmps25
    go_wp2
    go_ret2
    exact ⟨rfl, hbel⟩
theorem cont_any (s sep : ByteArray) (h1 : sep.size = 1) (w : World) : Calls Tryd.prog 44 #[.string s, .string sep] w fun e w' => e = .returned (.bool (hasB s.data.toList (sep[0]'(by omega)))) ∧ Below w.heap.size w w' := by
  obtain ⟨c, rfl⟩ := Lib.one_byte sep h1
  exact (Tryd.strings_Contains_one s c w).mono fun _ _ ⟨he, hw⟩ => ⟨by rw [he, has_ix]; rfl, by rw [hw]; exact Below.refl _ _⟩
theorem joins_any (l : List ByteArray) (sep : ByteArray) (g c : Nat) (h1 : sep.size = 1) (hc : l.length ≤ c) (hn : l.length ≤ 4000000) (hl : (jn l (sep[0]'(by omega))).length ≤ 4000) (w : World) (hg : g < w.heap.size) (hcell : ∀ j x, l[j]? = some x → w.cell? ⟨g, j, none⟩ = some (.string x)) :
    Calls Tryd.prog 51 #[.slice (some ⟨g, 0, none⟩) l.length c, .string sep] w fun e w' => e = .returned (.string ⟨(jn l (sep[0]'(by omega))).toArray⟩) ∧ Below w.heap.size w w' := by
  obtain ⟨b, rfl⟩ := Lib.one_byte sep h1
  have hj : jn l b = Lib.join (l.map fun x => x.data.toList) [b] := by unfold jn jl; rfl
  have hl2 : (jn l b).length ≤ 4000 := hl
  have := Tryd.strings_Join g 0 c l ⟨#[b]⟩ w (fun j x hx => by rw [Nat.zero_add]; exact hcell j x hx) hg (by omega) hc (by rw [hj] at hl2; show (Lib.join _ [b]).length ≤ _; omega)
  refine this.mono fun e w' ⟨he, hb⟩ => ⟨?_, hb⟩
  rw [he]
  show _ = Ending.returned (.string ⟨(jn l b).toArray⟩)
  rw [hj]
theorem lens_step (l : List ByteArray) (k : Nat) (x : ByteArray) (h : l[k]? = some x) : Lib.lens (jl (l.take (k + 1))) = Lib.lens (jl (l.take k)) + x.size := by
  unfold jl
  rw [List.map_take, List.map_take, Lib.lens_take_succ _ k x.data.toList (by simp [h]), size_list]
theorem implJoin (l : List ByteArray) (sep : ByteArray) (base : Nat) (v : Value) (w : World) (hS : St w base v l) (hn : l.length ≤ 4000000) (hl : ∀ x, x ∈ l → x.size ≤ 4000000) (hs : sep.size ≤ 4000000) :
    Calls Tryd.prog 24 #[v, .string sep] w (RetStr (jS l sep) (jB l sep) w) := by
  have hbel := Below.refl w.heap.size w
  obtain ⟨a1, c1, rfl, H1⟩ := hS.shape
  clear hS
  by_cases h2 : l.length = 0
  · have hB : jB l sep = false := j_nil h2
    rw [jS_no hB, hB, h2]
    go_enter Tryd.func24, Tryd.ntmps24
    go_wp2
    go_ret2
    exact ⟨rfl, hbel⟩
  · have h2' : ¬ (l.length : Int) = 0 := by omega
    have hlz : ((l.length : Int) == 0) = false := beq_eq_false_iff_ne.2 h2'
    by_cases h1 : sep.size = 1
    · have h1' : (sep.size : Int) = 1 := by omega
      have h0 : 0 < sep.size := by omega
      obtain ⟨g1, rfl, _, q1, d1, _, K1⟩ := H1 (by omega)
      have K1 : Hid _ := K1
      have HLE : Hid _ := hl
      have H1S : Hid (sep.size = 1) := h1
      have h2z : 0 < l.length := by omega
      clear H1 hl h2 h1
      go_enter Tryd.func24, Tryd.ntmps24
      go_wp2
      go_loopw [6, 8, 22] (fun z p i wr => ∃ k : Nat, k ≤ l.length ∧ i = .int .i64 k ∧ z = .int .i64 ((l.length - 1 + Lib.lens (jl (l.take k)) : Nat) : Int) ∧ (0 < k → l.length - 1 + Lib.lens (jl (l.take k)) ≤ 4000) ∧ l.length - 1 + Lib.lens (jl (l.take k)) ≤ 4000000 ∧ (∀ j y, j < k → l[j]? = some y → hasB y.data.toList sep[0] = false) ∧ Below w.heap.size w wr) (fun _ _ i _ => l.length - (intOf i).toNat)
      case atStart =>
        exact ⟨0, by omega, rfl, by show Value.int _ _ = _; congr 1; simp [jl, Lib.lens]; omega, fun h => absurd h (by omega), by simp [jl, Lib.lens]; omega, fun j y hj => by omega, hbel⟩
      case round =>
        clear hbel
        obtain ⟨k, hk, rfl, rfl, hz4, hz5, hno, hbel⟩ := hrel
        have HNO : Hid _ := hno
        have HZ4 : Hid _ := hz4
        clear hno hz4
        by_cases hlt : k < l.length
        · have hlt' : (k : Int) < (l.length : Int) := by omega
          have hx0 : l[k]? = some l[k] := List.getElem?_eq_getElem hlt
          have hc0 := (hbel.cell (p := ⟨g1, k, none⟩) q1).trans (K1.out k _ hx0)
          have hxz := HLE.out _ (List.getElem_mem hlt)
          generalize l[k] = x at hx0 hc0 hxz
          have HX : Hid _ := hx0
          have HST : Hid _ := lens_step l k x hx0
          have HBG : l.length - 1 + Lib.lens (jl (l.take k)) + x.size > 4000 → jB l sep = false := fun h => j_big (k := k + 1) h0 (by rw [HST.out]; omega)
          have HCT : Hid _ := cont_any x sep H1S.out
          clear hx0
          generalize hzd : l.length - 1 + Lib.lens (jl (l.take k)) = z at *
          have HZD : Hid _ := hzd
          clear hzd
          by_cases hbig : z + x.size > 4000
          · have hbig' : (4000 : Int) < (z : Int) + (x.size : Int) := by omega
            have HJ : Hid _ := HBG hbig
            have HJS : Hid _ := jS_no (HBG hbig)
            clear HBG
            go_wp2
            go_ret2
            exact ⟨by rw [HJ.out, HJS.out]; rfl, hbel⟩
          · have hbig' : (z : Int) + (x.size : Int) ≤ 4000 := by omega
            clear HBG
            cases hb : hasB x.data.toList sep[0] with
            | true =>
              have HB : Hid _ := hb
              have hJ : jB l sep = false := j_has h0 HX.out hb
              have HJ : Hid _ := hJ
              have HJS : Hid _ := jS_no hJ
              clear hb hJ
              go_wp2_with first
                | (go_at_call 44; (with_reducible refine (HCT.out _).mono ?_); rw [HB.out]; rintro e w1 ⟨rfl, hb1⟩; replace hbel := hbel.trans (hb1.mono hbel.size); clear hb1)
              go_ret2
              exact ⟨by rw [HJ.out, HJS.out]; rfl, hbel⟩
            | false =>
              have HB : Hid _ := hb
              have HNX : Hid _ := take_has HNO.out HX.out hb
              clear hb
              go_wp2_with first
                | (go_at_call 44; (with_reducible refine (HCT.out _).mono ?_); rw [HB.out]; rintro e w1 ⟨rfl, hb1⟩; replace hbel := hbel.trans (hb1.mono hbel.size); clear hb1)
              go_roundw
              case rel => exact ⟨k + 1, by omega, by go_num, by congr 1; have := HST.out; have := HZD.out; omega, fun _ => by have := HST.out; have := HZD.out; omega, by have := HST.out; have := HZD.out; omega, HNX.out, hbel⟩
              case measure => simp [intOf]; omega
        · obtain rfl : k = l.length := by omega
          have hlen : (jn l sep[0]).length ≤ 4000 := by
            have h := HZ4.out h2z
            rw [List.take_length] at h
            rw [jn_len _ _ h2z]
            exact h
          have hJ : jB l sep = true := j_good H1S.out h2z (fun j y hy => HNO.out j y (List.getElem?_eq_some_iff.1 hy).1 hy) hlen
          have HJ : Hid _ := hJ
          have HJS : Hid _ := jS_yes h0 hJ
          have HJO : Hid _ := joins_any l sep g1 c1 H1S.out d1 hn hlen
          have HG1 : Hid (g1 < wr.heap.size) := by have := hbel.size; show _ < _; omega
          have HCE : Hid (∀ (j : Nat) x, l[j]? = some x → wr.cell? ⟨g1, j, none⟩ = some (.string x)) := fun j x hx => (hbel.cell (p := ⟨g1, j, none⟩) q1).trans (K1.out j x hx)
          clear hJ hlen
          go_wp2_with first
            | (go_at_call 51; (with_reducible refine (HJO.out _ HG1.out HCE.out).mono ?_); rintro e w1 ⟨rfl, hb1⟩; replace hbel := hbel.trans (hb1.mono hbel.size); clear hb1)
          go_ret2
          exact ⟨by rw [HJ.out, HJS.out]; rfl, hbel⟩
    · have h1' : ¬ (sep.size : Int) = 1 := by omega
      have hB : jB l sep = false := j_sep h1
      rw [jS_no hB, hB]
      have hne : ((sep.size : Int) != 1) = true := bne_iff_ne.2 h1'
      go_enter Tryd.func24, Tryd.ntmps24
      go_wp2
      go_ret2
      exact ⟨rfl, hbel⟩
end Go.Proofs.YthljicikedlkbaaDoor
