/- The laws' own comparing and marking of slices of ints. -/
import Derived.Test.YtbiplciklmagoaaSlaw
namespace Go.Proofs.Ytbiplciklmagoaa
set_option linter.unusedSimpArgs false
set_option linter.unusedVariables false
set_option maxRecDepth 20000
open Go.RowKit
theorem slInt : SlOK Try.prog 58 3 1 8 := ⟨by kernel_rfl, by kernel_rfl, by kernel_rfl⟩
theorem eqI_same {n : Nat} {f : Nat → Int} {b1 b2 : Nat} {v1 v2 : Value} (hn : n ≤ 1000000) (w : World) (hS1 : Sl w b1 3 1 v1 n f) (hS2 : Sl w b2 3 1 v2 n f) : Calls Try.prog 36 #[v1, v2] w fun e w' => e = .returned (.bool true) ∧ Below w.heap.size w w' := by
  have hbel := Below.refl w.heap.size w
  by_cases h0 : n = 0
  · subst h0
    go_enter Try.func36, Try.ntmps36
    go_wp2_with first
      | (with_reducible refine wpList_lenS slInt.ht rfl _ rfl rfl hS1 ?_)
      | (with_reducible refine wpList_lenS slInt.ht rfl _ rfl rfl hS2 ?_)
    go_loopw [5] (fun i wr => i = .int .i64 0 ∧ Below w.heap.size w wr) (fun i _ => 0)
    case atStart => exact ⟨rfl, hbel⟩
    case round =>
      clear hbel
      obtain ⟨rfl, hbel⟩ := hrel
      go_wp2_with first
        | (with_reducible refine wpList_lenS slInt.ht rfl _ rfl rfl hS1 ?_)
      go_ret
      exact ⟨rfl, hbel⟩
  · obtain ⟨q1, c1, F1, rfl, _, g1, d1, e1, z1⟩ := hS1.blk (by omega)
    obtain ⟨q2, c2, F2, rfl, _, g2, d2, e2, z2⟩ := hS2.blk (by omega)
    rw [Nat.mul_one] at g1 g2
    have Z1 : Hid _ := z1
    have Z2 : Hid _ := z2
    clear z1 z2 hS1 hS2
    go_enter Try.func36, Try.ntmps36
    go_wp2_with fail
    go_loopw [5] (fun i wr => ∃ k : Nat, k ≤ n ∧ i = .int .i64 k ∧ wr.heap[q1]? = some (.cells (arr c1 F1) 3 (0, 0)) ∧ wr.heap[q2]? = some (.cells (arr c2 F2) 3 (0, 0)) ∧ Below w.heap.size w wr) (fun i _ => n - (intOf i).toNat)
    case atStart => exact ⟨0, by omega, rfl, g1, g2, hbel⟩
    case round =>
      clear g1 g2 hbel
      obtain ⟨k, hk, rfl, g1, g2, hbel⟩ := hrel
      by_cases hlt : k < n
      · have hlt' : (k : Int) < (n : Int) := by omega
        have y1 : F1 k = f k := Z1.out _ (by omega)
        have y2 : F2 k = f k := Z2.out _ (by omega)
        have Y1 : Hid _ := y1
        have Y2 : Hid _ := y2
        clear y1 y2
        go_wp2_with fail
        refine wp_region_held 9 (Cls wr []) (by kernel_rfl) (by kernel_rfl) (Cls.zero (Below.refl _ _)) ?_; simp only [List.take_succ_cons, List.take_zero, List.drop_succ_cons, List.drop_zero]
        repeat (first
          | ((with_reducible refine wpQuiet_loadI rfl _ _ rfl _ _ rfl (fun _ h => h.kp g1) aggI undI (by omega) ?_); rw [Y1.out])
          | ((with_reducible refine wpQuiet_loadI rfl _ _ rfl _ _ rfl (fun _ h => h.kp g2) aggI undI (by omega) ?_); rw [Y2.out])
          | ((with_reducible refine wpQuiet_step (fun K hK => ?_)); go_simp; (first | (refine ⟨_, fun _ _ => rfl, hK _ ?_⟩) | (refine ⟨_, fun _ _ => ⟨rfl, rfl⟩, hK _ ?_⟩) | (refine hK _ ?_)); clear hK K))
        refine wpQuiet_nil ?_; intro wt hCt; replace hCt := hCt.2; replace hbel := hbel.trans (hCt.mono hbel.size); replace g1 := row_keep hCt g1; replace g2 := row_keep hCt g2; clear hCt
        go_wp2_with fail
        go_roundw
        case rel => exact ⟨k + 1, by omega, by go_num, g1, g2, hbel⟩
        case measure => simp [intOf]; omega
      · obtain rfl : k = n := by omega
        go_wp2_with fail
        go_ret
        exact ⟨rfl, hbel⟩
theorem markI_any {n : Nat} {f : Nat → Int} {b : Nat} {v : Value} (hn : n ≤ 1000000) (k : Nat) (hk : k ≤ 1000000) (w : World) (hS : Sl w b 3 1 v n f) (hb : b ≤ w.heap.size) :
    Calls Try.prog 37 #[v, .int .i64 k] w fun e w' => e = .returned (.int .i64 (k + n : Nat)) ∧ Sl w' b 3 1 v n (fun j => k + j) ∧ Below b w w' := by
  by_cases h0 : n = 0
  · subst h0
    go_enter Try.func37, Try.ntmps37
    go_wp2_with fail
    go_loop [1, 5] (fun x i => x = .int .i64 k ∧ i = .int .i64 0) (fun _ i => 0)
    case atStart => exact ⟨rfl, rfl⟩
    case round =>
      obtain ⟨rfl, rfl⟩ := hrel
      go_wp2_with first
        | (with_reducible refine wpList_lenS slInt.ht rfl _ rfl rfl hS ?_)
      go_ret
      exact ⟨rfl, hS.congr rfl (by intro j hj; omega), Below.refl _ _⟩
  · obtain ⟨q, c, F, rfl, hq, g1, d1, e1, _⟩ := hS.blk (by omega)
    rw [Nat.mul_one] at g1
    clear hS
    go_enter Try.func37, Try.ntmps37
    go_wp2_with fail
    go_loopw [1, 5] (fun x i wr => ∃ m : Nat, m ≤ n ∧ i = .int .i64 m ∧ x = .int .i64 (k + m : Nat) ∧ (∃ G, wr.heap[q]? = some (.cells (arr c G) 3 (0, 0)) ∧ ∀ j, j < m → G j = k + j) ∧ Below b w wr) (fun _ i _ => n - (intOf i).toNat)
    case atStart => exact ⟨0, by omega, rfl, by simp, ⟨F, g1, by intro j hj; omega⟩, Below.refl _ _⟩
    case round =>
      clear g1
      obtain ⟨m, hm, rfl, rfl, ⟨G, g1, hG⟩, hbel⟩ := hrel
      have HG : Hid _ := hG
      clear hG
      by_cases hlt : m < n
      · have hlt' : (m : Int) < (n : Int) := by omega
        go_wp2_with first
          | (with_reducible refine wpList_storeI rfl 3 _ _ rfl _ _ rfl rfl g1 size1 (by omega) ?_)
        go_roundw
        case rel => exact ⟨m + 1, by omega, by go_num, by go_num, ⟨_, setRow_heap _ _ _ _ _ _ g1, fun j hj => by
          unfold upd
          split
          · rename_i e; subst e; push_cast; rfl
          · exact HG.out j (by omega)⟩, below_setRow2 hbel (by omega) _⟩
        case measure => simp [intOf]; omega
      · obtain rfl : m = n := by omega
        go_wp2_with fail
        go_ret
        exact ⟨rfl, .inr ⟨q, c, G, rfl, hq, by rw [Nat.mul_one]; exact g1, d1, e1, fun j hj => HG.out j (by omega)⟩, hbel⟩
theorem heldI_any {n : Nat} {b : Nat} {v : Value} (hn : n ≤ 1000000) (k : Nat) (hk : k ≤ 1000000) (w : World) (hS : Sl w b 3 1 v n (fun j => k + j)) :
    Calls Try.prog 38 #[v, .int .i64 k] w fun e w' => e = .returned (.int .i64 (k + n : Nat)) ∧ w = w' := by
  by_cases h0 : n = 0
  · subst h0
    go_enter Try.func38, Try.ntmps38
    go_wp2_with fail
    go_loop [1, 5] (fun x i => x = .int .i64 k ∧ i = .int .i64 0) (fun _ i => 0)
    case atStart => exact ⟨rfl, rfl⟩
    case round =>
      obtain ⟨rfl, rfl⟩ := hrel
      go_wp2_with first
        | (with_reducible refine wpList_lenS slInt.ht rfl _ rfl rfl hS ?_)
      go_ret
      exact ⟨rfl, rfl⟩
  · obtain ⟨q, c, F, rfl, hq, g1, d1, e1, hF⟩ := hS.blk (by omega)
    rw [Nat.mul_one] at g1
    clear hS
    have HF : Hid _ := hF
    clear hF
    go_enter Try.func38, Try.ntmps38
    go_wp2_with fail
    go_loop [1, 5] (fun x i => ∃ m : Nat, m ≤ n ∧ i = .int .i64 m ∧ x = .int .i64 (k + m : Nat)) (fun _ i => n - (intOf i).toNat)
    case atStart => exact ⟨0, by omega, rfl, by simp⟩
    case round =>
      obtain ⟨m, hm, rfl, rfl⟩ := hrel
      by_cases hlt : m < n
      · have hlt' : (m : Int) < (n : Int) := by omega
        have hv := HF.out m (by omega)
        have HV : Hid (F m = ((k + m : Nat) : Int)) := by rw [hv]; push_cast; rfl
        clear hv
        go_wp2_with first
          | ((with_reducible refine wpList_loadI rfl _ _ rfl _ _ rfl g1 aggI undI (by omega) ?_); rw [HV.out])
        go_round
        case rel => exact ⟨m + 1, by omega, by go_num, by go_num⟩
        case measure => simp [intOf]; omega
      · obtain rfl : m = n := by omega
        go_wp2_with fail
        go_ret
        exact ⟨rfl, rfl⟩
theorem markI1 {n : Nat} {f : Nat → Int} {b : Nat} {v : Value} (hn : n ≤ 1000000) (w : World) (hS : Sl w b 3 1 v n f) (hb : b ≤ w.heap.size) :
    Calls Try.prog 37 #[v, .int .i64 1] w fun e w' => e = .returned (.int .i64 (1 + n : Nat)) ∧ Sl w' b 3 1 v n (fun j => ((1 : Nat) : Int) + j) ∧ Below b w w' := markI_any hn 1 (by omega) w hS hb
theorem heldI1 {n : Nat} {b : Nat} {v : Value} (hn : n ≤ 1000000) (w : World) (hS : Sl w b 3 1 v n (fun j => ((1 : Nat) : Int) + j)) :
    Calls Try.prog 38 #[v, .int .i64 1] w fun e w' => e = .returned (.int .i64 (1 + n : Nat)) ∧ w = w' := heldI_any hn 1 (by omega) w hS
end Go.Proofs.Ytbiplciklmagoaa
