/- Six ints sorted by insertion. -/
import Derived.Test.YtljajgaicdffkaaRackD
import Derived.Test.YtljajgaicdffkaaSl
import Derived.Test.YtljajgaicdffkaaSto
namespace Go.Proofs.Ytljajgaicdffkaa
set_option linter.unusedSimpArgs false
set_option linter.unusedVariables false
set_option maxRecDepth 20000
open Go.RowKit
def swi (F : Nat → Int) (J : Nat) : Nat → Int := fun q => if q = J then F (J + 1) else if q = J + 1 then F J else F q
theorem swi_at (F : Nat → Int) (k i : Nat) : swi F k i = if i = k then F (k + 1) else if i = k + 1 then F k else F i := rfl
theorem swi_arr (F : Nat → Int) (J N : Nat) : arr N (upd (upd F (J + 1) (F J)) J (F (J + 1))) = arr N (swi F J) := by
  refine arr_congr fun q _ => ?_
  unfold swi upd
  by_cases h1 : q = J
  · rw [if_pos h1]
  · rw [if_neg h1]
def ls6 (F : Nat → Int) : List Int := [F 0, F 1, F 2, F 3, F 4, F 5]
theorem swi_perm (F : Nat → Int) {k : Nat} (hk : k < 5) : (ls6 (swi F k)).Perm (ls6 F) := by
  unfold ls6
  simp only [swi_at]
  match k, hk with
  | 0, _ => exact .swap _ _ _
  | 1, _ => exact .cons _ (.swap _ _ _)
  | 2, _ => exact .cons _ (.cons _ (.swap _ _ _))
  | 3, _ => exact .cons _ (.cons _ (.cons _ (.swap _ _ _)))
  | 4, _ => exact .cons _ (.cons _ (.cons _ (.cons _ (.swap _ _ _))))
def jI (F : Nat → Int) (i j : Nat) : Prop := j ≤ i ∧ (∀ a b, a < b → b ≤ i → a ≠ j → b ≠ j → (F a) ≤ (F b)) ∧ (∀ b, j < b → b ≤ i → (F j) ≤ (F b))
theorem jI_start {F : Nat → Int} {i : Nat} (h : ∀ a b, a < b → b < i → (F a) ≤ (F b)) : jI F i i := ⟨Nat.le_refl _, fun a b hab hb h1 h2 => h a b hab (by omega), fun b h1 h2 => by omega⟩
theorem jI_step {F : Nat → Int} {i j : Nat} (h : jI F i (j + 1)) (hc : (F (j + 1)) < (F j)) : jI (swi F j) i j := by
  obtain ⟨h0, h1, h2⟩ := h
  refine ⟨by omega, fun a b hab hb ha hb2 => ?_, fun b h3 h4 => ?_⟩
  · rw [swi_at, swi_at, if_neg ha, if_neg hb2]
    by_cases e1 : a = j + 1
    · rw [if_pos e1, if_neg (by omega)]
      exact h1 j b (by omega) hb (by omega) (by omega)
    · rw [if_neg e1]
      by_cases e2 : b = j + 1
      · rw [if_pos e2]
        exact h1 a j (by omega) (by omega) (by omega) (by omega)
      · rw [if_neg e2]
        exact h1 a b hab hb e1 e2
  · rw [swi_at, swi_at, if_pos rfl, if_neg (show ¬ b = j by omega)]
    split
    · omega
    · exact h2 b (by omega) h4
theorem jI_done {F : Nat → Int} {i j : Nat} (h : jI F i j) (hc : j = 0 ∨ ¬ (F j) < (F (j - 1))) : ∀ a b, a < b → b < i + 1 → (F a) ≤ (F b) := by
  obtain ⟨h0, h1, h2⟩ := h
  intro a b hab hb
  by_cases e1 : a = j
  · subst e1; exact h2 b hab (by omega)
  · by_cases e2 : b = j
    · subst e2
      rcases hc with hc | hc
      · omega
      · by_cases e3 : a = b - 1
        · subst e3; omega
        · have := h1 a (b - 1) (by omega) (by omega) e1 (by omega); omega
    · exact h1 a b hab (by omega) e1 e2
/-- Sorted, and the same ints. -/
def IsS (f F : Nat → Int) : Prop := (ls6 F).Perm (ls6 f) ∧ ∀ a b, a < b → b < 6 → F a ≤ F b
theorem isNaN_int2 (x : Int) (w : World) : Calls Try.prog 126 #[.int .i64 x] w fun e w' => e = .returned (.bool false) ∧ w = w' := by
  go_enter Try.func126, Try.ntmps126
  go_wp2_with fail
  go_ret
  simp
theorem lessI_any (x y : Int) (w : World) : Calls Try.prog 117 #[.int .i64 x, .int .i64 y] w fun e w' => e = .returned (.bool (decide (x < y))) ∧ Below w.heap.size w w' := by
  go_enter Try.func117, Try.ntmps117
  go_wp2_with first
    | (go_at_call 126; (with_reducible refine (isNaN_int2 _ _).mono ?_); rintro e w' ⟨rfl, rfl⟩)
  go_ret
  exact ⟨rfl, Below.refl _ _⟩
theorem lessI_at {x y : Int} {d : Bool} (h : decide (x < y) = d) (w : World) : Calls Try.prog 117 #[.int .i64 x, .int .i64 y] w fun e w' => e = .returned (.bool d) ∧ Below w.heap.size w w' := by
  rw [← h]
  exact lessI_any x y w
theorem noRes {fn : Func} (h : fn.results = #[]) (tmps : Array Value) (w : World) : (results fn tmps).run Try.prog w = .ok (.tuple #[]) w := by simp [results, h]
theorem wrapI2 {x : Int} (h1 : -4611686018427387904 < x) (h2 : x < 4611686018427387904) : IntKind.i64.wrap x = x := IntWalk.i64_in _ (by omega)
set_option maxHeartbeats 2000000 in
theorem insI_any {f : Nat → Int} {B B2 N cap : Nat} {T : TypeId} {o2 : Obj} (hN : 6 ≤ N) (w wI : World) (hbel : Below w.heap.size w wI) (hB : w.heap.size ≤ B) (h1 : wI.heap[B]? = some (.cells (arr N f) T (0, 0))) (h2 : wI.heap[B2]? = some o2) (hne : B2 ≠ B) :
    Calls Try.prog 111 #[.slice (some ⟨B, 0, none⟩) 6 cap, .int .i64 0, .int .i64 6] wI fun e w' => (∃ u, e = .returned u) ∧ ∃ F, IsS f F ∧ w'.heap[B]? = some (.cells (arr N F) T (0, 0)) ∧ w'.heap[B2]? = some o2 ∧ Below w.heap.size w w' := by
  go_enter Try.func111, Try.ntmps111
  go_wp2_with fail
  go_loopw [6] (fun i wr => ∃ n : Nat, ∃ F, 1 ≤ n ∧ n ≤ 6 ∧ i = .int .i64 n ∧ (ls6 F).Perm (ls6 f) ∧ (∀ a b, a < b → b < n → F a ≤ F b) ∧ wr.heap[B]? = some (.cells (arr N F) T (0, 0)) ∧ wr.heap[B2]? = some o2 ∧ Below w.heap.size w wr) (fun i _ => 6 - (intOf i).toNat)
  case atStart => exact ⟨1, f, by omega, by omega, rfl, .refl _, fun a b hab hb => by omega, h1, h2, hbel⟩
  case round =>
    clear h1 h2 hbel
    obtain ⟨n, F, hn1, hn6, rfl, hR, hs, h1, h2, hbel⟩ := hrel
    obtain ⟨wo, hwo⟩ : ∃ wo : World, wo = wr := ⟨_, rfl⟩
    rw [← hwo] at h1 h2 hbel ⊢
    clear hwo
    by_cases hlt : n < 6
    · have hlt' : (n : Int) < 6 := by omega
      go_wp2_with fail
      go_loopw [7] (fun i wr => ∃ j : Nat, ∃ F, j ≤ n ∧ i = .int .i64 j ∧ (ls6 F).Perm (ls6 f) ∧ jI F n j ∧ wr.heap[B]? = some (.cells (arr N F) T (0, 0)) ∧ wr.heap[B2]? = some o2 ∧ Below w.heap.size w wr) (fun i _ => (intOf i).toNat)
      case atStart => exact ⟨n, F, by omega, rfl, hR, jI_start hs, h1, h2, hbel⟩
      case round =>
        clear h1 h2 hbel hR hs
        obtain ⟨j, F, hj, rfl, hR, hI, h1, h2, hbel⟩ := hrel
        cases j with
        | zero =>
          have HR : Hid _ := hR
          have HD : Hid (∀ a b, a < b → b < n + 1 → F a ≤ F b) := jI_done hI (.inl rfl)
          clear hR hI
          go_wp2_with fail
          refine wp_region_held 15 (Cls wr []) (by kernel_rfl) (by kernel_rfl) (Cls.zero (Below.refl _ _)) ?_; simp only [List.take_succ_cons, List.take_zero, List.drop_succ_cons, List.drop_zero]
          repeat (first
            | ((with_reducible refine wpQuiet_step (fun K hK => ?_)); go_simp; (first | (refine ⟨_, fun _ _ => rfl, hK _ ?_⟩) | (refine ⟨_, fun _ _ => ⟨rfl, rfl⟩, hK _ ?_⟩) | (refine hK _ ?_)); clear hK K))
          refine wpQuiet_nil ?_; intro wt hCt; replace hCt := hCt.2; replace hbel := hbel.trans (hCt.mono hbel.size); replace h1 := row_keep hCt h1; replace h2 := row_keep hCt h2; clear hCt
          go_wp2_with fail
          go_roundw
          case rel => exact ⟨n + 1, F, by omega, by omega, by go_num, HR.out, HD.out, h1, h2, hbel⟩
          case measure => simp [intOf]; omega
        | succ J =>
          have hJ5 : J < 5 := by omega
          have e1 : IntKind.i64.wrap (J : Int) = J := wrapI2 (by omega) (by omega)
          have hJ6 : (J : Int) < 6 := by omega
          have hJ7 : (J : Int) + 1 < 6 := by omega
          have hJ0 : 0 ≤ (J : Int) + 1 := by omega
          have hJ1 : 0 < (J : Int) + 1 := by omega
          have HR : Hid _ := hR
          cases hd : decide (F (J + 1) < F J) with
          | true =>
            obtain ⟨d, hdd⟩ : ∃ d, d = true := ⟨_, rfl⟩
            have HZ : Hid (decide (F (J + 1) < F J) = d) := by show _ = d; rw [hd, hdd]
            have HS : Hid ((ls6 (swi F J)).Perm (ls6 f) ∧ jI (swi F J) n J) := ⟨(swi_perm F hJ5).trans hR, jI_step hI (of_decide_eq_true hd)⟩
            clear hR hI hd
            go_wp2_with fail
            refine wp_region_held 15 (Cls wr []) (by kernel_rfl) (by kernel_rfl) (Cls.zero (Below.refl _ _)) ?_; simp only [List.take_succ_cons, List.take_zero, List.drop_succ_cons, List.drop_zero]
            repeat (first
              | (with_reducible refine wpQuiet_loadI rfl _ _ rfl _ _ rfl (fun _ h => h.kp h1) aggI undI (by omega) ?_)
              | ((with_reducible refine wpQuiet_call rfl 117 _ _ rfl (.bool d) ?_ ?_ ?_); (exact enters_of Try.func117 (by kernel_rfl) rfl); (intro w' h'; exact (lessI_at HZ.out w').mono fun _ _ ⟨he, hb⟩ => ⟨he, h'.keep hb⟩))
              | ((with_reducible refine wpQuiet_step (fun K hK => ?_)); go_simp; (first | (refine ⟨_, fun _ _ => rfl, hK _ ?_⟩) | (refine ⟨_, fun _ _ => ⟨rfl, rfl⟩, hK _ ?_⟩) | (refine hK _ ?_)); clear hK K))
            refine wpQuiet_nil ?_; intro wt hCt; replace hCt := hCt.2; replace hbel := hbel.trans (hCt.mono hbel.size); replace h1 := row_keep hCt h1; replace h2 := row_keep hCt h2; clear hCt
            try rw [hdd]
            clear e1
            go_wp2_with fail
            have e1 : IntKind.i64.wrap (J : Int) = J := wrapI2 (by omega) (by omega)
            obtain ⟨wm, hwm⟩ : ∃ wm : World, wm = wt := ⟨_, rfl⟩
            rw [← hwm] at h1 h2 hbel ⊢
            clear hwm
            refine wp_region_fork [0, 1, 2, 3, 4, 5, 6, 7, 8, 10, 11, 12] [9, 13] [] 4 (fun l => l.take 9 ++ (l.drop 10).take 3) (fun l => (l.drop 9).take 1 ++ (l.drop 13).take 1) (Cls w _) (by kernel_rfl) (by kernel_rfl) (by kernel_rfl) (by kernel_rfl) trivial (Cls.two h1 h2 hbel) ?_; try simp only [List.take_succ_cons, List.take_zero, List.drop_succ_cons, List.drop_zero, List.singleton_append, List.cons_append, List.nil_append]
            repeat (first
              | ((with_reducible refine wpCalm_step (fun K hK => ?_)); go_simp; (first | (refine ⟨_, fun _ _ => rfl, hK _ ?_⟩) | (refine hK _ ?_)); clear hK K))
            refine wpCalm_nil ?_
            repeat (first
              | (with_reducible refine wpCalm_loadI rfl _ _ rfl _ _ rfl (fun _ h => h.r1) aggI undI (by omega) ?_)
              | ((with_reducible refine wpCalm_step (fun K hK => ?_)); go_simp; (first | (refine ⟨_, fun _ _ => rfl, hK _ ?_⟩) | (refine hK _ ?_)); clear hK K))
            refine wpCalm_nil ?_
            have hCt := Cls.two h1 h2 hbel
            obtain ⟨wq, hwq⟩ : ∃ wq : World, wq = { wm with drawn := wm.drawn + 1 } := ⟨_, rfl⟩
            rw [← hwq] at hCt ⊢
            clear hwq
            replace h1 := hCt.r1
            replace h2 := hCt.r2
            replace hbel := hCt.2
            clear hCt e1
            refine wpAny_fork1 14 (by kernel_rfl) rfl ?_
            go_wp2_with fail
            refine QN.intro ?_
            refine wpAny_fork1 15 (by kernel_rfl) rfl ?_
            go_wp2_with first
              | (with_reducible refine wpList_storePI rfl 3 _ _ rfl _ _ rfl rfl h1 size1 (by omega) hbel (by omega) ?_; intro w1 g3 ho g4; replace h2 := (ho _ hne).trans h2; clear h1 hbel; have h1 := g3; have hbel := g4; clear g3 g4 ho)
            refine QN.intro ?_
            refine wpAny_fork1 16 (by kernel_rfl) rfl ?_
            go_wp2_with fail
            refine QN.intro ?_
            refine wpAny_fork1 17 (by kernel_rfl) rfl ?_
            go_wp2_with first
              | (with_reducible refine wpList_storePI rfl 3 _ _ rfl _ _ rfl rfl h1 size1 (by omega) hbel (by omega) ?_; intro w1 g3 ho g4; replace h2 := (ho _ hne).trans h2; clear h1 hbel; have h1 := g3; have hbel := g4; clear g3 g4 ho)
            refine QN.intro ?_
            refine wpAny_end (by kernel_rfl) ?_
            go_wp2_with fail
            rw [swi_arr] at h1
            go_roundw
            case rel => exact ⟨J, _, by omega, by go_num, HS.out.1, HS.out.2, h1, h2, hbel⟩
            case measure => simp [intOf] <;> omega
          | false =>
            obtain ⟨d, hdd⟩ : ∃ d, d = false := ⟨_, rfl⟩
            have HZ : Hid (decide (F (J + 1) < F J) = d) := by show _ = d; rw [hd, hdd]
            have HD : Hid (∀ a b, a < b → b < n + 1 → F a ≤ F b) := jI_done hI (.inr (by rw [Nat.add_sub_cancel]; exact of_decide_eq_false hd))
            clear hR hI hd
            go_wp2_with fail
            refine wp_region_held 15 (Cls wr []) (by kernel_rfl) (by kernel_rfl) (Cls.zero (Below.refl _ _)) ?_; simp only [List.take_succ_cons, List.take_zero, List.drop_succ_cons, List.drop_zero]
            repeat (first
              | (with_reducible refine wpQuiet_loadI rfl _ _ rfl _ _ rfl (fun _ h => h.kp h1) aggI undI (by omega) ?_)
              | ((with_reducible refine wpQuiet_call rfl 117 _ _ rfl (.bool d) ?_ ?_ ?_); (exact enters_of Try.func117 (by kernel_rfl) rfl); (intro w' h'; exact (lessI_at HZ.out w').mono fun _ _ ⟨he, hb⟩ => ⟨he, h'.keep hb⟩))
              | ((with_reducible refine wpQuiet_step (fun K hK => ?_)); go_simp; (first | (refine ⟨_, fun _ _ => rfl, hK _ ?_⟩) | (refine ⟨_, fun _ _ => ⟨rfl, rfl⟩, hK _ ?_⟩) | (refine hK _ ?_)); clear hK K))
            refine wpQuiet_nil ?_; intro wt hCt; replace hCt := hCt.2; replace hbel := hbel.trans (hCt.mono hbel.size); replace h1 := row_keep hCt h1; replace h2 := row_keep hCt h2; clear hCt
            try rw [hdd]
            clear e1
            go_wp2_with fail
            go_roundw
            case rel => exact ⟨n + 1, F, by omega, by omega, by go_num, HR.out, HD.out, h1, h2, hbel⟩
            case measure => simp [intOf]; omega
    · obtain rfl : n = 6 := by omega
      have HF : Hid (IsS f F) := ⟨hR, hs⟩
      clear hR hs
      go_wp2_with fail
      exact bodyPost_end (v := .tuple #[]) (noRes rfl _ _) rfl ⟨⟨_, rfl⟩, F, HF.out, h1, h2, hbel⟩
theorem pdqI_any {f : Nat → Int} {B B2 N cap : Nat} {T : TypeId} {o2 : Obj} (lim : Int) (hN : 6 ≤ N) (w wI : World) (hbel : Below w.heap.size w wI) (hB : w.heap.size ≤ B) (h1 : wI.heap[B]? = some (.cells (arr N f) T (0, 0))) (h2 : wI.heap[B2]? = some o2) (hne : B2 ≠ B) :
    Calls Try.prog 92 #[.slice (some ⟨B, 0, none⟩) 6 cap, .int .i64 0, .int .i64 6, .int .i64 lim] wI fun e w' => (∃ u, e = .returned u) ∧ ∃ F, IsS f F ∧ w'.heap[B]? = some (.cells (arr N F) T (0, 0)) ∧ w'.heap[B2]? = some o2 ∧ Below w.heap.size w w' := by
  go_enter Try.func92, Try.ntmps92
  go_wp2_with fail
  go_loopw [1, 2] (fun a b wr => a = .int .i64 0 ∧ b = .int .i64 6 ∧ wr.heap[B]? = some (.cells (arr N f) T (0, 0)) ∧ wr.heap[B2]? = some o2 ∧ Below w.heap.size w wr) (fun _ _ _ => 0)
  case atStart => exact ⟨rfl, rfl, h1, h2, hbel⟩
  case round =>
    clear h1 h2 hbel
    obtain ⟨rfl, rfl, h1, h2, hbel⟩ := hrel
    go_wp2_with first
      | (go_at_call 111; (with_reducible refine (insI_any hN w _ hbel hB h1 h2 hne).mono ?_); rintro e w1 ⟨⟨u, rfl⟩, F, hF, g1, g2, g3⟩)
    exact bodyPost_ret (v := .tuple #[]) (noRes rfl _ _) rfl ⟨⟨_, rfl⟩, F, hF, g1, g2, g3⟩
theorem len64_6 (w : World) : Calls Try.prog 107 #[.int .u64 6] w fun e w' => e = .returned (.int .i64 3) ∧ w = w' := by
  go_enter Try.func107, Try.ntmps107
  go_wp2_with fail
  go_ret
  refine ⟨?_, rfl⟩
  kernel_rfl
theorem len_6 (w : World) : Calls Try.prog 86 #[.int .u64 6] w fun e w' => e = .returned (.int .i64 3) ∧ w = w' := by
  go_enter Try.func86, Try.ntmps86
  go_wp2_with first
    | (go_at_call 107; (with_reducible refine (len64_6 _).mono ?_); rintro e w' ⟨rfl, rfl⟩)
  go_ret
  exact ⟨rfl, rfl⟩
theorem sortI_any {f : Nat → Int} {B B2 N cap : Nat} {T : TypeId} {o2 : Obj} (hN : 6 ≤ N) (w wI : World) (hbel : Below w.heap.size w wI) (hB : w.heap.size ≤ B) (h1 : wI.heap[B]? = some (.cells (arr N f) T (0, 0))) (h2 : wI.heap[B2]? = some o2) (hne : B2 ≠ B) :
    Calls Try.prog 77 #[.slice (some ⟨B, 0, none⟩) 6 cap] wI fun e w' => (∃ u, e = .returned u) ∧ ∃ F, IsS f F ∧ w'.heap[B]? = some (.cells (arr N F) T (0, 0)) ∧ w'.heap[B2]? = some o2 ∧ Below w.heap.size w w' := by
  go_enter Try.func77, Try.ntmps77
  go_wp2_with first
    | (go_at_call 86; (with_reducible refine (len_6 _).mono ?_); rintro e w' ⟨rfl, rfl⟩)
    | (go_at_call 92; (with_reducible refine (pdqI_any 3 hN w _ hbel hB h1 h2 hne).mono ?_); rintro e w1 ⟨⟨u, rfl⟩, F, hF, g1, g2, g3⟩)
  exact bodyPost_end (v := .tuple #[]) (noRes rfl _ _) rfl ⟨⟨_, rfl⟩, F, hF, g1, g2, g3⟩
end Go.Proofs.Ytljajgaicdffkaa
