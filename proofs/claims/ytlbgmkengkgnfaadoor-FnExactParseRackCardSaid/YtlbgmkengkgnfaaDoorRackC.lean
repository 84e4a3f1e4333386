/- The contracts of the program's test on racks: tubes, racks, places. -/
import Derived.Test.YtlbgmkengkgnfaaDoorRackB
namespace Go.Proofs.YtlbgmkengkgnfaaDoor
set_option linter.unusedSimpArgs false
set_option linter.unusedVariables false
set_option maxRecDepth 20000
open Go.RowKit
theorem isColor_pred : PredI 26 (fun x => decide (1 ≤ x) && decide (x ≤ 5)) := by
  refine ⟨enters_of Tryd.func26 (by kernel_rfl) rfl, fun x w => ?_⟩
  go_enter Tryd.func26, Tryd.ntmps26
  go_wp2_with (go_at_call 36; refine (within_any _ _ _ _).mono ?_; rintro e w' ⟨rfl, rfl⟩)
  go_ret
  exact ⟨rfl, Below.refl _ _⟩
theorem isTube1_pred : PredI 27 (fun x => x == 0) := by
  refine ⟨enters_of Tryd.func27 (by kernel_rfl) rfl, fun x w => ?_⟩
  go_enter Tryd.func27, Tryd.ntmps27
  go_wp2
  go_ret
  exact ⟨rfl, Below.refl _ _⟩

theorem isTube_any (g : Nat → Int) (w : World) : Calls Tryd.prog 18 #[.agg (arr 4 g)] w fun e w' => e = .returned (.bool (tubeB g)) ∧ Below w.heap.size w w' := by
  have h1 : (w.alloc (.cells (arr 4 g) 22)).heap[w.heap.size]? = some (.cells (arr 4 g) 22 (0, 0)) := heap_new rfl
  have hbel : Below w.heap.size w (w.alloc (.cells (arr 4 g) 22)) := (Below.refl _ _).alloc (by simp) _
  have hn := nlay_le g
  have hn1 : (0 : Int) ≤ (nlay g : Int) := by omega
  have hn2 : (nlay g : Int) ≤ 4 := by omega
  have HT : Hid _ := tubeB_layers g
  cases hA : (List.range (nlay g)).all fun k => decide (1 ≤ g k) && decide (g k ≤ 5) with
  | true =>
    by_cases h4 : nlay g = 4
    · have HL : Hid (∀ W : World, _) := layers_four g h4
      have HE : Hid (nlay g = 4) := h4
      rw [h4] at hA
      have HA : Hid _ := hA
      clear hA hn hn1 hn2 h4
      go_enter Tryd.func18, Tryd.ntmps18
      go_wp2_with first
        | (with_reducible refine wpList_loadW rfl _ _ rfl _ rfl h1 agg4 size4 ?_)
        | (go_at_call 24; refine (HL.out _).mono ?_; rintro e w1 ⟨rfl, hb1⟩; have h2 := row_keep hb1 h1)
        | (go_at_call 25; (with_reducible refine (areAll_int 26 _ isColor_pred _ h2 (by omega) (by omega)).mono ?_); simp only [Nat.zero_add]; rw [HA.out]; rintro e w2 ⟨rfl, hb2⟩; have h3 := row_keep hb2 h2)
        | (go_at_call 25; (with_reducible refine (areAll_int 27 _ isTube1_pred _ h3 (by omega) (by omega)).mono ?_); rintro e w3 ⟨rfl, hb3⟩)
      go_ret
      exact ⟨ret_bool (by rw [← HT.out, HE.out, HA.out]; rfl), hbel.trans ((hb1.trans ((hb2.trans (hb3.mono hb2.size)).mono hb1.size)).mono hbel.size)⟩
    · have hlt : (nlay g : Int) < 4 := by omega
      have HA : Hid _ := hA
      clear hA
      go_enter Tryd.func18, Tryd.ntmps18
      go_wp2_with first
        | (with_reducible refine wpList_loadW rfl _ _ rfl _ rfl h1 agg4 size4 ?_)
        | (go_at_call 24; refine (layers_any _ _).mono ?_; rintro e w1 ⟨rfl, hb1⟩; have h2 := row_keep hb1 h1)
        | (go_at_call 25; (with_reducible refine (areAll_int 26 _ isColor_pred _ h2 (by omega) (by omega)).mono ?_); simp only [Nat.zero_add]; rw [HA.out]; rintro e w2 ⟨rfl, hb2⟩; have h3 := row_keep hb2 h2)
        | (go_at_call 25; (with_reducible refine (areAll_int 27 _ isTube1_pred _ h3 (by omega) (by omega)).mono ?_); rintro e w3 ⟨rfl, hb3⟩)
      go_ret
      exact ⟨ret_bool (by rw [← HT.out, HA.out]; rfl), hbel.trans ((hb1.trans ((hb2.trans (hb3.mono hb2.size)).mono hb1.size)).mono hbel.size)⟩
  | false =>
    have HA : Hid _ := hA
    clear hA
    go_enter Tryd.func18, Tryd.ntmps18
    go_wp2_with first
      | (with_reducible refine wpList_loadW rfl _ _ rfl _ rfl h1 agg4 size4 ?_)
      | (go_at_call 24; refine (layers_any _ _).mono ?_; rintro e w1 ⟨rfl, hb1⟩; have h2 := row_keep hb1 h1)
      | (go_at_call 25; (with_reducible refine (areAll_int 26 _ isColor_pred _ h2 (by omega) (by omega)).mono ?_); simp only [Nat.zero_add]; rw [HA.out]; rintro e w2 ⟨rfl, hb2⟩; have h3 := row_keep hb2 h2)
    go_ret
    exact ⟨ret_bool (by rw [← HT.out, HA.out]; rfl), hbel.trans ((hb1.trans (hb2.mono hb1.size)).mono hbel.size)⟩

/-- A predicate on tubes that captures nothing. -/
def PredT (g : FuncId) (p : (Nat → Int) → Bool) : Prop := (∀ (args : Array Value) (w : World), (callFunc g args).run Tryd.prog w = .ok (.enter g args) w) ∧ ∀ (x : Nat → Int) (W : World), Calls Tryd.prog g #[.agg (arr 4 x)] W fun e W' => e = .returned (.bool (p x)) ∧ Below W.heap.size W W'

theorem isTube_pred : PredT 18 tubeB := ⟨enters_of Tryd.func18 (by kernel_rfl) rfl, isTube_any⟩

theorem areAllT_lit (g : FuncId) (p : (Nat → Int) → Bool) (hp0 : PredT g p) (c : Nat) (x : Nat → Int) (W : World) (hc : W.heap[c]? = some (.cells #[.func (.func g) #[] #[]] 41 (0, 0))) :
    Calls Tryd.prog 23 #[.agg (arr 4 x), .pointer (some ⟨c, 0, none⟩)] W fun e W' => e = .returned (.bool (!p x)) ∧ Below W.heap.size W W' := by
  obtain ⟨hE, hp⟩ := hp0
  have hbel : Below W.heap.size W (W.alloc (.cells (arr 4 x) 22)) := (Below.refl _ _).alloc (by simp) _
  have h1 : (W.alloc (.cells (arr 4 x) 22)).heap[W.heap.size]? = some (.cells (arr 4 x) 22 (0, 0)) := heap_new rfl
  have hcell : (W.alloc (.cells (arr 4 x) 22)).cell? ⟨c, 0, none⟩ = some (.func (.func g) #[] #[]) := by rw [cell_of_row _ c 0 _ _ _ (row_alloc hc)]; rfl
  go_enter Tryd.func23, Tryd.ntmps23
  go_wp2_with first | (with_reducible refine wpList_loadW rfl _ _ rfl _ rfl h1 agg4 size4 ?_) | ((with_reducible refine (hp _ _).mono ?_); rintro e w1 ⟨rfl, hb1⟩)
  go_ret
  exact ⟨rfl, hbel.trans (hb1.mono hbel.size)⟩

theorem IndexFunc_tube {B off len cap n : Nat} {f : Nat → Int} {T : TypeId} {fr : Nat × Nat} (q : (Nat → Int) → Bool) (g : FuncId) (cp : Value) (w : World) (hE : ∀ (args : Array Value) (w : World), (callFunc g args).run Tryd.prog w = .ok (.enter g args) w)
    (hq : ∀ (x : Nat → Int) (W : World), Below w.heap.size w W → Calls Tryd.prog g #[.agg (arr 4 x), cp] W fun e W' => e = .returned (.bool (q x)) ∧ Below W.heap.size W W')
    (hg : w.heap[B]? = some (.cells (arr n f) T fr)) (hle : off + 4 * len ≤ n) (hm : len ≤ 1000000) :
    Calls Tryd.prog 32 #[.slice (some ⟨B, off, none⟩) len cap, .func (.func g) #[] #[cp]] w fun e w' => e = .returned (.int .i64 (idx (fun k => q fun j => f (off + k * 4 + j)) len)) ∧ Below w.heap.size w w' := by
  go_enter Tryd.func32, Tryd.ntmps32
  go_wp2
  go_loopw [8] (fun i wr => ∃ k : Nat, k ≤ len ∧ i = .int .i64 k ∧ Below w.heap.size w wr ∧ ∀ j, j < k → (q fun l => f (off + j * 4 + l)) = false) (fun i _ => len - (intOf i).toNat)
  case atStart => exact ⟨0, by omega, rfl, Below.refl _ _, by intro n' h; omega⟩
  case round =>
    obtain ⟨k, hk, rfl, hb, hok⟩ := hrel
    have HOK : Hid _ := hok
    clear hok
    by_cases hlt : k < len
    · have h1 := row_keep hb hg
      have HQ := hq (fun l => f (off + k * 4 + l)) wr hb
      cases hqv : q (fun l => f (off + k * 4 + l)) with
      | true =>
        rw [hqv] at HQ
        have HV : Hid _ := hqv
        clear hqv
        go_wp2_with first | (with_reducible refine wpList_loadA rfl _ _ rfl _ _ rfl h1 4 agg4 size4 (by omega) ?_) | ((with_reducible refine HQ.mono ?_); rintro e w1 ⟨rfl, hb1⟩)
        go_ret
        exact ⟨ret_int (idx_found hlt HV.out HOK.out).symm, hb.trans (hb1.mono hb.size)⟩
      | false =>
        rw [hqv] at HQ
        have HV : Hid _ := hqv
        clear hqv
        go_wp2_with first | (with_reducible refine wpList_loadA rfl _ _ rfl _ _ rfl h1 4 agg4 size4 (by omega) ?_) | ((with_reducible refine HQ.mono ?_); rintro e w1 ⟨rfl, hb1⟩)
        go_roundw
        case rel => exact ⟨k + 1, by omega, by go_num, hb.trans (hb1.mono hb.size), fun j hj => by
          by_cases e : j = k
          · subst e; exact HV.out
          · exact HOK.out j (by omega)⟩
        case measure => simp [intOf]; omega
    · go_wp2
      go_ret
      exact ⟨ret_int (idx_none fun j hj => HOK.out j (by omega)).symm, hb⟩

theorem ContainsFunc_tube {B off len cap n : Nat} {f : Nat → Int} {T : TypeId} {fr : Nat × Nat} (q : (Nat → Int) → Bool) (g : FuncId) (cp : Value) (w : World) (hE : ∀ (args : Array Value) (w : World), (callFunc g args).run Tryd.prog w = .ok (.enter g args) w)
    (hq : ∀ (x : Nat → Int) (W : World), Below w.heap.size w W → Calls Tryd.prog g #[.agg (arr 4 x), cp] W fun e W' => e = .returned (.bool (q x)) ∧ Below W.heap.size W W')
    (hg : w.heap[B]? = some (.cells (arr n f) T fr)) (hle : off + 4 * len ≤ n) (hm : len ≤ 1000000) :
    Calls Tryd.prog 22 #[.slice (some ⟨B, off, none⟩) len cap, .func (.func g) #[] #[cp]] w fun e w' => e = .returned (.bool ((List.range len).any fun k => q fun j => f (off + k * 4 + j))) ∧ Below w.heap.size w w' := by
  have hI := idx_any (fun k => q fun j => f (off + k * 4 + j)) len
  have HI : Hid _ := hI
  clear hI
  go_enter Tryd.func22, Tryd.ntmps22
  go_wp2_with (go_at_call 32; (with_reducible refine (IndexFunc_tube q g cp _ hE hq hg hle hm).mono ?_); rintro e w1 ⟨rfl, hb1⟩)
  go_ret
  exact ⟨ret_bool HI.out, hb1⟩

theorem areAll_tube {B off len cap n : Nat} {f : Nat → Int} {T : TypeId} {fr : Nat × Nat} (g : FuncId) (p : (Nat → Int) → Bool) (hp : PredT g p) (w : World)
    (hg : w.heap[B]? = some (.cells (arr n f) T fr)) (hle : off + 4 * len ≤ n) (hm : len ≤ 1000000) :
    Calls Tryd.prog 17 #[.slice (some ⟨B, off, none⟩) len cap, .func (.func g) #[] #[]] w fun e w' => e = .returned (.bool ((List.range len).all fun k => p fun j => f (off + k * 4 + j))) ∧ Below w.heap.size w w' := by
  have HI : Hid _ := not_any_not len (fun k => p fun j => f (off + k * 4 + j))
  have h1 : (w.alloc (.cells #[.func (.func g) #[] #[]] 41)).heap[w.heap.size]? = some (.cells #[.func (.func g) #[] #[]] 41 (0, 0)) := heap_new rfl
  have hbel : Below w.heap.size w (w.alloc (.cells #[.func (.func g) #[] #[]] 41)) := (Below.refl _ _).alloc (by simp) _
  have HC := ContainsFunc_tube (cap := cap) (fun x => !p x) 23 (.pointer (some ⟨w.heap.size, 0, none⟩)) (w.alloc (.cells #[.func (.func g) #[] #[]] 41)) (enters_of Tryd.func23 (by kernel_rfl) rfl) (fun x W hb => areAllT_lit g p hp _ x W (row_keep hb h1)) (row_keep hbel hg) hle hm
  go_enter Tryd.func17, Tryd.ntmps17
  go_wp2_with (go_at_call 22; (with_reducible refine HC.mono ?_); rintro e w1 ⟨rfl, hb1⟩)
  go_ret
  exact ⟨ret_bool HI.out, hbel.trans (hb1.mono hbel.size)⟩

theorem IsRack_any (f : Nat → Int) (w : World) : Calls Tryd.prog 13 #[.agg (arr 24 f)] w fun e w' => e = .returned (.bool (rackB f)) ∧ Below w.heap.size w w' := by
  have h1 : (w.alloc (.cells (arr 24 f) 25)).heap[w.heap.size]? = some (.cells (arr 24 f) 25 (0, 0)) := heap_new rfl
  have hbel : Below w.heap.size w (w.alloc (.cells (arr 24 f) 25)) := (Below.refl _ _).alloc (by simp) _
  go_enter Tryd.func13, Tryd.ntmps13
  go_wp2_with (go_at_call 17; (with_reducible refine (areAll_tube 18 _ isTube_pred _ h1 (by omega) (by omega)).mono ?_); simp only [Nat.zero_add, rackB_all]; rintro e w1 ⟨rfl, hb1⟩)
  go_ret
  exact ⟨rfl, hbel.trans (hb1.mono hbel.size)⟩
end Go.Proofs.YtlbgmkengkgnfaaDoor
