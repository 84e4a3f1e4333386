/- The laws' own comparing and marking of slices of pairs. -/
import Derived.Test.YtbiplciklmagoaaTop
import Derived.Test.YtbiplciklmagoaaConv
namespace Go.Proofs.Ytbiplciklmagoaa
set_option linter.unusedSimpArgs false
set_option linter.unusedVariables false
set_option maxRecDepth 20000
open Go.RowKit
variable {P : Program}
theorem wpQuiet_loadX {ops : Array Oper} {C : World → Prop} {rest : List Oper} {o : Oper} {a : Act} {Q : Act → Prop} (hw : Region.wanted o (yielded ops a.tmps) = true) (ty : TypeId) (x : Operand) (ho : o.op = .load ty x)
    (B off : Nat) (hx : a.eval x = .pointer (some ⟨B, off, none⟩)) {T : TypeId} {fr : Nat × Nat} {n : Nat} {f : Nat → Int} (hg : ∀ w, C w → w.heap[B]? = some (.cells (arr n f) T fr)) (m : Nat) (hd : aggB P ty = true)
    (hi : (P.info? ty).map (·.size) = some m) (hle : off + m ≤ n) {y : Array Value} (hy : arr m (fun j => f (off + j)) = y) (h : wpQuiet P ops C Q rest (a.put o.dst (.agg y))) : wpQuiet P ops C Q (o :: rest) a := by
  subst hy
  exact wpQuiet_loadA hw ty x ho B off hx hg m hd hi hle h
theorem eqIntA2_same (g : Nat → Int) (w : World) : Calls Try.prog 31 #[.agg (arr 2 g), .agg (arr 2 g)] w fun e w' => e = .returned (.bool true) ∧ Below w.heap.size w w' := by
  go_enter Try.func31, Try.ntmps31
  go_wp2
  go_loopw [5] (fun i wr => ∃ k : Nat, k ≤ 2 ∧ i = .int .i64 k ∧ wr.heap[w.heap.size]? = some (.cells (arr 2 g) 51 (0, 0)) ∧ wr.heap[w.heap.size + 1]? = some (.cells (arr 2 g) 51 (0, 0)) ∧ Below w.heap.size w wr) (fun i _ => 2 - (intOf i).toNat)
  case atStart =>
    refine ⟨0, by omega, rfl, ?_, ?_, ?_⟩
    · rw [heap_old (by simp), heap_new rfl]
    · rw [heap_new (by simp)]
    · exact ((Below.refl _ _).alloc (by simp) _).alloc (by simp) _
  case round =>
    obtain ⟨k, hk, rfl, h1, h2, hb⟩ := hrel
    by_cases hlt : k < 2
    · have hc := rowcell h1 hlt
      have hc2 := rowcell h2 hlt
      have hlt' : (k : Int) < 2 := by omega
      go_wp2_with fail
      go_quiet (fail)
      go_wp2
      go_roundw
      case rel => exact ⟨k + 1, by omega, by go_num, h1, h2, hb.trans ⟨rfl, rfl, rfl, Nat.le_refl _, fun _ _ => rfl⟩⟩
      case measure => simp [intOf]; omega
    · go_wp2
      go_ret
      exact ⟨rfl, hb⟩
theorem eqP_same {n : Nat} {f : Nat → Int} {b1 b2 : Nat} {v1 v2 : Value} (hn : n ≤ 1000000) (w : World) (hS1 : Sl w b1 51 2 v1 n f) (hS2 : Sl w b2 51 2 v2 n f) : Calls Try.prog 23 #[v1, v2] w fun e w' => e = .returned (.bool true) ∧ Below w.heap.size w w' := by
  have hbel := Below.refl w.heap.size w
  by_cases h0 : n = 0
  · subst h0
    go_enter Try.func23, Try.ntmps23
    go_wp2_with first
      | (with_reducible refine wpList_lenS slP.ht rfl _ rfl rfl hS1 ?_)
      | (with_reducible refine wpList_lenS slP.ht rfl _ rfl rfl hS2 ?_)
    go_loopw [5] (fun i wr => i = .int .i64 0 ∧ Below w.heap.size w wr) (fun i _ => 0)
    case atStart => exact ⟨rfl, hbel⟩
    case round =>
      clear hbel
      obtain ⟨rfl, hbel⟩ := hrel
      go_wp2_with first
        | (with_reducible refine wpList_lenS slP.ht rfl _ rfl rfl hS1 ?_)
      go_ret
      exact ⟨rfl, hbel⟩
  · obtain ⟨q1, c1, F1, rfl, _, g1, d1, e1, z1⟩ := hS1.blk (by omega)
    obtain ⟨q2, c2, F2, rfl, _, g2, d2, e2, z2⟩ := hS2.blk (by omega)
    have Z1 : Hid _ := z1
    have Z2 : Hid _ := z2
    clear z1 z2 hS1 hS2
    go_enter Try.func23, Try.ntmps23
    go_wp2_with fail
    go_loopw [5] (fun i wr => ∃ k : Nat, k ≤ n ∧ i = .int .i64 k ∧ wr.heap[q1]? = some (.cells (arr (c1 * 2) F1) 51 (0, 0)) ∧ wr.heap[q2]? = some (.cells (arr (c2 * 2) F2) 51 (0, 0)) ∧ Below w.heap.size w wr) (fun i _ => n - (intOf i).toNat)
    case atStart => exact ⟨0, by omega, rfl, g1, g2, hbel⟩
    case round =>
      clear g1 g2 hbel
      obtain ⟨k, hk, rfl, g1, g2, hbel⟩ := hrel
      by_cases hlt : k < n
      · have hlt' : (k : Int) < (n : Int) := by omega
        have y1 : arr 2 (fun j => F1 (k * 2 + j)) = arr 2 (fun j => f (k * 2 + j)) := arr_congr fun j hj => Z1.out _ (by omega)
        have y2 : arr 2 (fun j => F2 (k * 2 + j)) = arr 2 (fun j => f (k * 2 + j)) := arr_congr fun j hj => Z2.out _ (by omega)
        have Y1 : Hid _ := y1
        have Y2 : Hid _ := y2
        clear y1 y2
        go_wp2_with fail
        refine wp_region_held 10 (Cls wr []) (by kernel_rfl) (by kernel_rfl) (Cls.zero (Below.refl _ _)) ?_; simp only [List.take_succ_cons, List.take_zero, List.drop_succ_cons, List.drop_zero]
        repeat (first
          | (with_reducible refine wpQuiet_loadX rfl _ _ rfl _ _ rfl (fun _ h => h.kp g1) 2 pairA pairS (by omega) Y1.out ?_)
          | (with_reducible refine wpQuiet_loadX rfl _ _ rfl _ _ rfl (fun _ h => h.kp g2) 2 pairA pairS (by omega) Y2.out ?_)
          | ((with_reducible refine wpQuiet_call rfl 31 _ _ rfl (.bool true) ?_ ?_ ?_); (exact enters_of Try.func31 (by kernel_rfl) rfl); (intro w' h'; exact (eqIntA2_same (fun j => f (k * 2 + j)) w').mono fun _ _ ⟨he, hb⟩ => ⟨he, h'.keep hb⟩))
          | ((with_reducible refine wpQuiet_step (fun K hK => ?_)); go_simp; (first | (refine ⟨_, fun _ _ => rfl, hK _ ?_⟩) | (refine ⟨_, fun _ _ => ⟨rfl, rfl⟩, hK _ ?_⟩) | (refine hK _ ?_)); clear hK K))
        refine wpQuiet_nil ?_; intro wt hCt; replace hCt := hCt.2; replace hbel := hbel.trans (hCt.mono hbel.size); replace g1 := row_keep hCt g1; replace g2 := row_keep hCt g2; clear hCt
        go_wp2_with fail
        go_roundw
        case rel => exact ⟨k + 1, by omega, by go_num, g1, g2, hbel⟩
        case measure => simp [intOf]; omega
      · obtain rfl : k = n := by omega
        go_wp2_with fail
        go_ret
        exact ⟨rfl, hbel⟩
theorem markP_any {n : Nat} {f : Nat → Int} {b : Nat} {v : Value} (hn : n ≤ 1000000) (k : Nat) (hk : k ≤ 1000000) (w : World) (hS : Sl w b 51 2 v n f) (hb : b ≤ w.heap.size) :
    Calls Try.prog 24 #[v, .int .i64 k] w fun e w' => e = .returned (.int .i64 (k + n * 2 : Nat)) ∧ Sl w' b 51 2 v n (fun j => k + j) ∧ Below b w w' := by
  by_cases h0 : n = 0
  · subst h0
    go_enter Try.func24, Try.ntmps24
    go_wp2_with fail
    go_loop [1, 5] (fun x i => x = .int .i64 k ∧ i = .int .i64 0) (fun _ i => 0)
    case atStart => exact ⟨rfl, rfl⟩
    case round =>
      obtain ⟨rfl, rfl⟩ := hrel
      go_wp2_with first
        | (with_reducible refine wpList_lenS slP.ht rfl _ rfl rfl hS ?_)
      go_ret
      exact ⟨rfl, hS.congr rfl (by intro j hj; omega), Below.refl _ _⟩
  · obtain ⟨q, c, F, rfl, hq, g1, d1, e1, _⟩ := hS.blk (by omega)
    clear hS
    go_enter Try.func24, Try.ntmps24
    go_wp2_with fail
    go_loopw [1, 5] (fun x i wr => ∃ m : Nat, m ≤ n ∧ i = .int .i64 m ∧ x = .int .i64 (k + m * 2 : Nat) ∧ (∃ G, wr.heap[q]? = some (.cells (arr (c * 2) G) 51 (0, 0)) ∧ ∀ j, j < m * 2 → G j = k + j) ∧ Below b w wr) (fun _ i _ => n - (intOf i).toNat)
    case atStart => exact ⟨0, by omega, rfl, by simp, ⟨F, g1, by intro j hj; omega⟩, Below.refl _ _⟩
    case round =>
      clear g1
      obtain ⟨m, hm, rfl, rfl, ⟨G, g1, hG⟩, hbel⟩ := hrel
      have HG : Hid _ := hG
      clear hG
      by_cases hlt : m < n
      · have hlt' : (m : Int) < (n : Int) := by omega
        go_wp2_with fail
        obtain ⟨wo, hwo⟩ : ∃ wo : World, wo = wr := ⟨_, rfl⟩
        rw [← hwo] at g1 hbel
        go_loopw [1, 6] (fun x i wq => ∃ t : Nat, t ≤ 2 ∧ i = .int .i64 t ∧ x = .int .i64 (k + (m * 2 + t) : Nat) ∧ (∃ G, wq.heap[q]? = some (.cells (arr (c * 2) G) 51 (0, 0)) ∧ ∀ j, j < m * 2 + t → G j = k + j) ∧ Below b w wq) (fun _ i _ => 2 - (intOf i).toNat)
        case atStart => exact ⟨0, by omega, rfl, rfl, ⟨G, hwo ▸ g1, HG.out⟩, hwo ▸ hbel⟩
        case round =>
          clear g1 hbel hwo HG
          obtain ⟨t, ht, rfl, rfl, ⟨G, g1, hG⟩, hbel⟩ := hrel
          have HG : Hid _ := hG
          clear hG
          by_cases hlt2 : t < 2
          · have hlt2' : (t : Int) < 2 := by omega
            go_wp2_with first
              | (with_reducible refine wpList_storeI rfl 3 _ _ rfl _ _ rfl rfl g1 size1 (by omega) ?_)
            go_roundw
            case rel => exact ⟨t + 1, by omega, by go_num, by go_num, ⟨_, setRow_heap _ _ _ _ _ _ g1, fun j hj => by
              unfold upd
              split
              · rename_i e; subst e; push_cast; rfl
              · exact HG.out j (by omega)⟩, below_setRow2 hbel (by omega) _⟩
            case measure => simp [intOf]; omega
          · obtain rfl : t = 2 := by omega
            go_wp2_with fail
            go_roundw
            case rel => exact ⟨m + 1, by omega, by go_num, by rw [show (m + 1) * 2 = m * 2 + 2 by omega], ⟨G, g1, fun j hj => HG.out j (by omega)⟩, hbel⟩
            case measure => simp [intOf]; omega
      · obtain rfl : m = n := by omega
        go_wp2_with fail
        go_ret
        exact ⟨rfl, .inr ⟨q, c, G, rfl, hq, g1, d1, e1, HG.out⟩, hbel⟩
theorem heldP_any {n : Nat} {b : Nat} {v : Value} (hn : n ≤ 1000000) (k : Nat) (hk : k ≤ 1000000) (w : World) (hS : Sl w b 51 2 v n (fun j => k + j)) :
    Calls Try.prog 25 #[v, .int .i64 k] w fun e w' => e = .returned (.int .i64 (k + n * 2 : Nat)) ∧ w = w' := by
  by_cases h0 : n = 0
  · subst h0
    go_enter Try.func25, Try.ntmps25
    go_wp2_with fail
    go_loop [1, 5] (fun x i => x = .int .i64 k ∧ i = .int .i64 0) (fun _ i => 0)
    case atStart => exact ⟨rfl, rfl⟩
    case round =>
      obtain ⟨rfl, rfl⟩ := hrel
      go_wp2_with first
        | (with_reducible refine wpList_lenS slP.ht rfl _ rfl rfl hS ?_)
      go_ret
      exact ⟨rfl, rfl⟩
  · obtain ⟨q, c, F, rfl, hq, g1, d1, e1, hF⟩ := hS.blk (by omega)
    clear hS
    have HF : Hid _ := hF
    clear hF
    go_enter Try.func25, Try.ntmps25
    go_wp2_with fail
    go_loop [1, 5] (fun x i => ∃ m : Nat, m ≤ n ∧ i = .int .i64 m ∧ x = .int .i64 (k + m * 2 : Nat)) (fun _ i => n - (intOf i).toNat)
    case atStart => exact ⟨0, by omega, rfl, by simp⟩
    case round =>
      obtain ⟨m, hm, rfl, rfl⟩ := hrel
      by_cases hlt : m < n
      · have hlt' : (m : Int) < (n : Int) := by omega
        go_wp2_with fail
        go_loop [1, 6] (fun x i => ∃ t : Nat, t ≤ 2 ∧ i = .int .i64 t ∧ x = .int .i64 (k + (m * 2 + t) : Nat)) (fun _ i => 2 - (intOf i).toNat)
        case atStart => exact ⟨0, by omega, rfl, rfl⟩
        case round =>
          obtain ⟨t, ht, rfl, rfl⟩ := hrel
          by_cases hlt2 : t < 2
          · have hlt2' : (t : Int) < 2 := by omega
            have hv := HF.out (m * 2 + t) (by omega)
            have HV : Hid (F (m * 2 + t) = ((k + (m * 2 + t) : Nat) : Int)) := by rw [hv]; push_cast; rfl
            clear hv
            go_wp2_with first
              | ((with_reducible refine wpList_loadI rfl _ _ rfl _ _ rfl g1 aggI undI (by omega) ?_); rw [HV.out])
            go_round
            case rel => exact ⟨t + 1, by omega, by go_num, by go_num⟩
            case measure => simp [intOf]; omega
          · obtain rfl : t = 2 := by omega
            go_wp2_with fail
            go_round
            case rel => exact ⟨m + 1, by omega, by go_num, by rw [show (m + 1) * 2 = m * 2 + 2 by omega]⟩
            case measure => simp [intOf]; omega
      · obtain rfl : m = n := by omega
        go_wp2_with fail
        go_ret
        exact ⟨rfl, rfl⟩
theorem markP1 {n : Nat} {f : Nat → Int} {b : Nat} {v : Value} (hn : n ≤ 1000000) (w : World) (hS : Sl w b 51 2 v n f) (hb : b ≤ w.heap.size) :
    Calls Try.prog 24 #[v, .int .i64 1] w fun e w' => e = .returned (.int .i64 (1 + n * 2 : Nat)) ∧ Sl w' b 51 2 v n (fun j => ((1 : Nat) : Int) + j) ∧ Below b w w' := markP_any hn 1 (by omega) w hS hb
theorem heldP1 {n : Nat} {b : Nat} {v : Value} (hn : n ≤ 1000000) (w : World) (hS : Sl w b 51 2 v n (fun j => ((1 : Nat) : Int) + j)) :
    Calls Try.prog 25 #[v, .int .i64 1] w fun e w' => e = .returned (.int .i64 (1 + n * 2 : Nat)) ∧ w = w' := heldP_any hn 1 (by omega) w hS
end Go.Proofs.Ytbiplciklmagoaa
