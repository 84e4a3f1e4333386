/- The contracts of the program's test on racks. -/
import Derived.Test.YtlbgmkengkgnfaaDoorRackA
namespace Go.Proofs.YtlbgmkengkgnfaaDoor
set_option linter.unusedSimpArgs false
set_option linter.unusedVariables false
set_option maxRecDepth 20000
open Go.RowKit
theorem within_any (x a b : Int) (w : World) : Calls Tryd.prog 36 #[.int .i64 x, .int .i64 a, .int .i64 b] w fun e w' => e = .returned (.bool (decide (a ≤ x ∧ x ≤ b))) ∧ w = w' := by
  by_cases h1 : a ≤ x <;> by_cases h2 : x ≤ b <;> (go_enter Tryd.func36, Tryd.ntmps36; go_wp2; go_ret; simp [h1, h2])

theorem Index_int {B off len cap n : Nat} {f : Nat → Int} {T : TypeId} {fr : Nat × Nat} (v : Int) (w : World) (hg : w.heap[B]? = some (.cells (arr n f) T fr)) (hle : off + len ≤ n) (hm : len ≤ 1000000) :
    Calls Tryd.prog 33 #[.slice (some ⟨B, off, none⟩) len cap, .int .i64 v] w fun e w' => e = .returned (.int .i64 (idx (fun k => f (off + k) == v) len)) ∧ w = w' := by
  go_enter Tryd.func33, Tryd.ntmps33
  go_wp2
  go_loop [8] (fun i => ∃ k : Nat, k ≤ len ∧ i = .int .i64 k ∧ ∀ j, j < k → (f (off + j) == v) = false) (fun i => len - (intOf i).toNat)
  case atStart => exact ⟨0, by omega, rfl, by intro n' h; omega⟩
  case round =>
    obtain ⟨k, hk, rfl, hok⟩ := hrel
    have HOK : Hid _ := hok
    clear hok
    by_cases hlt : k < len
    · have hc := rowcell hg (i := off + k) (by omega)
      by_cases he : f (off + k) = v
      · subst he
        go_wp2
        go_ret
        exact ⟨ret_int (idx_found hlt (by simp) HOK.out).symm, rfl⟩
      · have he1 : (v == f (off + k)) = false := by simpa using fun h => he h.symm
        go_wp2
        go_round
        case rel => exact ⟨k + 1, by omega, by go_num, fun j hj => by
          by_cases e : j = k
          · subst e; simpa using he
          · exact HOK.out j (by omega)⟩
        case measure => simp [intOf]; omega
    · go_wp2
      go_ret
      exact ⟨ret_int (idx_none fun j hj => HOK.out j (by omega)).symm, rfl⟩

theorem layers_any (g : Nat → Int) (w : World) : Calls Tryd.prog 24 #[.agg (arr 4 g)] w fun e w' => e = .returned (.int .i64 (nlay g)) ∧ Below w.heap.size w w' := by
  have h1 : (w.alloc (.cells (arr 4 g) 22)).heap[w.heap.size]? = some (.cells (arr 4 g) 22 (0, 0)) := heap_new rfl
  have hI := nlay_idx g
  have hbel : Below w.heap.size w (w.alloc (.cells (arr 4 g) 22)) := (Below.refl _ _).alloc (by simp) _
  have h4 := nlay_le g
  by_cases hlt : nlay g < 4
  · rw [if_pos hlt] at hI
    have HI : Hid _ := hI
    clear hI
    go_enter Tryd.func24, Tryd.ntmps24
    go_wp2_with (go_at_call 33; refine (Index_int 0 _ h1 (by omega) (by omega)).mono ?_; simp only [Nat.zero_add]; rw [HI.out]; rintro e w1 ⟨rfl, rfl⟩)
    go_ret
    exact ⟨rfl, hbel⟩
  · rw [if_neg hlt] at hI
    have e4 : nlay g = 4 := by omega
    have HI : Hid _ := hI
    clear hI
    rw [e4]
    clear hlt h4 e4
    go_enter Tryd.func24, Tryd.ntmps24
    go_wp2_with (go_at_call 33; refine (Index_int 0 _ h1 (by omega) (by omega)).mono ?_; simp only [Nat.zero_add]; rw [HI.out]; rintro e w1 ⟨rfl, rfl⟩)
    go_ret
    exact ⟨rfl, hbel⟩

theorem layers_four (g : Nat → Int) (h : nlay g = 4) (w : World) : Calls Tryd.prog 24 #[.agg (arr 4 g)] w fun e w' => e = .returned (.int .i64 4) ∧ Below w.heap.size w w' :=
  (layers_any g w).mono fun _ _ ⟨he, hb⟩ => ⟨by rw [he, h]; rfl, hb⟩
/-- A predicate on ints that captures nothing. -/
def PredI (g : FuncId) (p : Int → Bool) : Prop := (∀ (args : Array Value) (w : World), (callFunc g args).run Tryd.prog w = .ok (.enter g args) w) ∧ ∀ (x : Int) (W : World), Calls Tryd.prog g #[.int .i64 x] W fun e W' => e = .returned (.bool (p x)) ∧ Below W.heap.size W W'

theorem areAllI_lit (g : FuncId) (p : Int → Bool) (hp0 : PredI g p) (c : Nat) (x : Int) (W : World) (hc : W.heap[c]? = some (.cells #[.func (.func g) #[] #[]] 47 (0, 0))) :
    Calls Tryd.prog 35 #[.int .i64 x, .pointer (some ⟨c, 0, none⟩)] W fun e W' => e = .returned (.bool (!p x)) ∧ Below W.heap.size W W' := by
  obtain ⟨hE, hp⟩ := hp0
  have hcell : W.cell? ⟨c, 0, none⟩ = some (.func (.func g) #[] #[]) := by rw [cell_of_row W c 0 _ _ _ hc]; rfl
  go_enter Tryd.func35, Tryd.ntmps35
  go_wp2_with (refine (hp _ _).mono ?_; rintro e w1 ⟨rfl, hb1⟩)
  go_ret
  exact ⟨rfl, hb1⟩

theorem IndexFunc_int {B off len cap n : Nat} {f : Nat → Int} {T : TypeId} {fr : Nat × Nat} (q : Int → Bool) (g : FuncId) (cp : Value) (w : World) (hE : ∀ (args : Array Value) (w : World), (callFunc g args).run Tryd.prog w = .ok (.enter g args) w)
    (hq : ∀ (x : Int) (W : World), Below w.heap.size w W → Calls Tryd.prog g #[.int .i64 x, cp] W fun e W' => e = .returned (.bool (q x)) ∧ Below W.heap.size W W')
    (hg : w.heap[B]? = some (.cells (arr n f) T fr)) (hle : off + len ≤ n) (hm : len ≤ 1000000) :
    Calls Tryd.prog 42 #[.slice (some ⟨B, off, none⟩) len cap, .func (.func g) #[] #[cp]] w fun e w' => e = .returned (.int .i64 (idx (fun k => q (f (off + k))) len)) ∧ Below w.heap.size w w' := by
  go_enter Tryd.func42, Tryd.ntmps42
  go_wp2
  go_loopw [8] (fun i wr => ∃ k : Nat, k ≤ len ∧ i = .int .i64 k ∧ Below w.heap.size w wr ∧ ∀ j, j < k → q (f (off + j)) = false) (fun i _ => len - (intOf i).toNat)
  case atStart => exact ⟨0, by omega, rfl, Below.refl _ _, by intro n' h; omega⟩
  case round =>
    obtain ⟨k, hk, rfl, hb, hok⟩ := hrel
    have HOK : Hid _ := hok
    clear hok
    by_cases hlt : k < len
    · have hc := rowcell (row_keep hb hg) (i := off + k) (by omega)
      have HQ := hq (f (off + k)) wr hb
      cases hqv : q (f (off + k)) with
      | true =>
        rw [hqv] at HQ
        have HV : Hid _ := hqv
        clear hqv
        go_wp2_with (refine HQ.mono ?_; rintro e w1 ⟨rfl, hb1⟩)
        go_ret
        exact ⟨ret_int (idx_found hlt HV.out HOK.out).symm, hb.trans (hb1.mono hb.size)⟩
      | false =>
        rw [hqv] at HQ
        have HV : Hid _ := hqv
        clear hqv
        go_wp2_with (refine HQ.mono ?_; rintro e w1 ⟨rfl, hb1⟩)
        go_roundw
        case rel => exact ⟨k + 1, by omega, by go_num, hb.trans (hb1.mono hb.size), fun j hj => by
          by_cases e : j = k
          · subst e; exact HV.out
          · exact HOK.out j (by omega)⟩
        case measure => simp [intOf]; omega
    · go_wp2
      go_ret
      exact ⟨ret_int (idx_none fun j hj => HOK.out j (by omega)).symm, hb⟩

theorem ContainsFunc_int {B off len cap n : Nat} {f : Nat → Int} {T : TypeId} {fr : Nat × Nat} (q : Int → Bool) (g : FuncId) (cp : Value) (w : World) (hE : ∀ (args : Array Value) (w : World), (callFunc g args).run Tryd.prog w = .ok (.enter g args) w)
    (hq : ∀ (x : Int) (W : World), Below w.heap.size w W → Calls Tryd.prog g #[.int .i64 x, cp] W fun e W' => e = .returned (.bool (q x)) ∧ Below W.heap.size W W')
    (hg : w.heap[B]? = some (.cells (arr n f) T fr)) (hle : off + len ≤ n) (hm : len ≤ 1000000) :
    Calls Tryd.prog 34 #[.slice (some ⟨B, off, none⟩) len cap, .func (.func g) #[] #[cp]] w fun e w' => e = .returned (.bool ((List.range len).any fun k => q (f (off + k)))) ∧ Below w.heap.size w w' := by
  have hI := idx_any (fun k => q (f (off + k))) len
  have HI : Hid _ := hI
  clear hI
  go_enter Tryd.func34, Tryd.ntmps34
  go_wp2_with (go_at_call 42; refine (IndexFunc_int q g cp _ hE hq hg hle hm).mono ?_; rintro e w1 ⟨rfl, hb1⟩)
  go_ret
  exact ⟨ret_bool HI.out, hb1⟩

theorem not_any_not (n : Nat) (p : Nat → Bool) : (!(List.range n).any fun k => !p k) = (List.range n).all p := by
  induction (List.range n) with
  | nil => rfl
  | cons a l ih => simp only [List.any_cons, List.all_cons, ← ih]; cases p a <;> simp

theorem areAll_int {B off len cap n : Nat} {f : Nat → Int} {T : TypeId} {fr : Nat × Nat} (g : FuncId) (p : Int → Bool) (hp : PredI g p) (w : World)
    (hg : w.heap[B]? = some (.cells (arr n f) T fr)) (hle : off + len ≤ n) (hm : len ≤ 1000000) :
    Calls Tryd.prog 25 #[.slice (some ⟨B, off, none⟩) len cap, .func (.func g) #[] #[]] w fun e w' => e = .returned (.bool ((List.range len).all fun k => p (f (off + k)))) ∧ Below w.heap.size w w' := by
  have HI : Hid _ := not_any_not len (fun k => p (f (off + k)))
  have h1 : (w.alloc (.cells #[.func (.func g) #[] #[]] 47)).heap[w.heap.size]? = some (.cells #[.func (.func g) #[] #[]] 47 (0, 0)) := heap_new rfl
  have hbel : Below w.heap.size w (w.alloc (.cells #[.func (.func g) #[] #[]] 47)) := (Below.refl _ _).alloc (by simp) _
  go_enter Tryd.func25, Tryd.ntmps25
  go_wp2_with (go_at_call 34; refine (ContainsFunc_int (fun x => !p x) _ _ _ (enters_of Tryd.func35 (by kernel_rfl) rfl) (fun x W hb => areAllI_lit g p hp _ x W (row_keep hb h1)) (row_keep hbel hg) hle hm).mono ?_; rintro e w1 ⟨rfl, hb1⟩)
  go_ret
  exact ⟨ret_bool HI.out, hbel.trans (hb1.mono hbel.size)⟩
end Go.Proofs.YtlbgmkengkgnfaaDoor
