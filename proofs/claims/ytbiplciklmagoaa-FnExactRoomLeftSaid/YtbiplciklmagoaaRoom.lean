/- RoomLeft: the program's and the reference's, and the law. -/
import Derived.Test.YtbiplciklmagoaaRoomP
import Derived.Test.YtbiplciklmagoaaSlawI
import Derived.Test.YtbiplciklmagoaaCanP
namespace Go.Proofs.Ytbiplciklmagoaa
set_option linter.unusedSimpArgs false
set_option linter.unusedVariables false
set_option maxRecDepth 20000
open Go.RowKit
@[reducible] def rmF (f : Nat → Int) : Nat → Nat := fun i => 4 - nlay (tub f i)
theorem rmF_lt (f : Nat → Int) : ∀ i, i < 6 → rmF f i < 5 := fun i _ => by have := nlay_le (tub f i); unfold rmF; omega
theorem intB (c : Int) (W : World) : (W.alloc (.cells #[.int .i64 c] 3)).heap[W.heap.size]? = some (.cells (arr 1 fun _ => c) 3 (0, 0)) := by rw [arr_one]; exact heap_new rfl
def rlN (f : Nat → Int) : Nat := if rackB f = true then (LL (rmF f) 30).length else 0
def rlF (f : Nat → Int) : Nat → Int := if rackB f = true then gl (LL (rmF f) 30) else fun _ => 0
theorem rlN_le (f : Nat → Int) : rlN f ≤ 1000000 := by
  unfold rlN
  split
  · have := LL_len (rmF f) 30; omega
  · omega
theorem rl_bad {f : Nat → Int} (h : rackB f = false) : rlN f = 0 ∧ rlF f = fun _ => 0 := ⟨if_neg (by simp [h]), if_neg (by simp [h])⟩
theorem rl_ok {f : Nat → Int} (h : rackB f = true) : rlN f = (LL (rmF f) 30).length ∧ rlF f = gl (LL (rmF f) 30) := ⟨if_pos h, if_pos h⟩
theorem specRoom_any (f : Nat → Int) (w : World) : Calls Try.prog 34 #[.agg (arr 24 f)] w (RetSlB w 3 1 (rlN f) (rlF f) (rackB f)) := by
  have h0 : (w.alloc (.cells (arr 24 f) 28)).heap[w.heap.size]? = some (.cells (arr 24 f) 28 (0, 0)) := heap_new rfl
  have h1 := row_alloc (x := .cells #[] 3) h0
  have hbel : Below w.heap.size w ((w.alloc (.cells (arr 24 f) 28)).alloc (.cells #[] 3)) := ((Below.refl _ _).alloc (by simp) _).alloc (by simp) _
  have hS : Sl ((w.alloc (.cells (arr 24 f) 28)).alloc (.cells #[] 3)) (w.heap.size + 1) 3 1 (.slice (some ⟨w.heap.size + 1, 0, none⟩) 0 0) 0 (fun _ => 0) := by
    have := Sl.made (w := w.alloc (.cells (arr 24 f) 28)) (base := w.heap.size + 1) (e := 3) (s := 1) (f := fun _ => 0) (by simp)
    simpa using this
  cases hf : rackB f with
  | false =>
    have HF : Hid _ := hf
    rw [(rl_bad hf).1, (rl_bad hf).2]
    clear hf
    go_enter Try.func34, Try.ntmps34
    go_wp2_with first
      | (with_reducible refine wpList_loadW rfl _ _ rfl _ rfl h1 agg24r size24r ?_)
      | (go_at_call 43; (with_reducible refine (l2Rack_any _ _).mono ?_); rw [HF.out]; rintro e w1 ⟨rfl, hb1⟩; replace hbel := hbel.trans (hb1.mono hbel.size); replace h1 := row_keep hb1 h1; replace hS := hS.keep hb1; clear hb1)
    go_ret2
    exact ⟨_, rfl, hS.lower (by omega), hbel⟩
  | true =>
    have HF : Hid _ := hf
    rw [(rl_ok hf).1, (rl_ok hf).2]
    go_enter Try.func34, Try.ntmps34
    go_wp2_with first
      | (with_reducible refine wpList_loadW rfl _ _ rfl _ rfl h1 agg24r size24r ?_)
      | (go_at_call 43; (with_reducible refine (l2Rack_any _ _).mono ?_); rw [HF.out]; rintro e w1 ⟨rfl, hb1⟩; replace hbel := hbel.trans (hb1.mono hbel.size); replace h1 := row_keep hb1 h1; replace hS := hS.keep hb1; clear hb1)
    go_loopw [4, 5] (fun o i wr => ∃ n : Nat, ∃ v : Value, n ≤ 5 ∧ i = .int .i64 n ∧ o = v ∧ Sl wr (w.heap.size + 1) 3 1 v (LL (rmF f) (n * 6)).length (gl (LL (rmF f) (n * 6))) ∧ wr.heap[w.heap.size]? = some (.cells (arr 24 f) 28 (0, 0)) ∧ Below w.heap.size w wr) (fun _ i _ => 5 - (intOf i).toNat)
    case atStart => exact ⟨0, _, by omega, rfl, rfl, hS.congr rfl (fun j hj => by omega), h1, hbel⟩
    case round =>
      clear h0 h1 hbel hS
      obtain ⟨n, v, hn, rfl, rfl, hS, h1, hbel⟩ := hrel
      by_cases hlt : n < 5
      · have hlt' : (n : Int) ≤ 4 := by omega
        go_wp2_with fail
        obtain ⟨wo, hwo⟩ : ∃ wo : World, wo = wr := ⟨_, rfl⟩
        rw [← hwo] at h1 hS hbel
        go_loopw [4, 6] (fun o i wq => ∃ m : Nat, ∃ v : Value, m ≤ 6 ∧ i = .int .i64 m ∧ o = v ∧ Sl wq (w.heap.size + 1) 3 1 v (LL (rmF f) (n * 6 + m)).length (gl (LL (rmF f) (n * 6 + m))) ∧ wq.heap[w.heap.size]? = some (.cells (arr 24 f) 28 (0, 0)) ∧ Below w.heap.size w wq) (fun _ i _ => 6 - (intOf i).toNat)
        case atStart => exact ⟨0, _, by omega, rfl, rfl, hwo ▸ hS, hwo ▸ h1, hwo ▸ hbel⟩
        case round =>
          clear h1 hbel hS hwo
          obtain ⟨m, v, hm6, rfl, rfl, hS, h1, hbel⟩ := hrel
          have hsz := row_lt h1
          have hN := LL_len (rmF f) (n * 6 + m)
          by_cases hlt2 : m < 6
          · have hlt2' : (m : Int) < 6 := by omega
            have e1 : (n * 6 + m) / 6 = n := by omega
            have e2 : (n * 6 + m) % 6 = m := by omega
            have ht := tube_of_rack hf (show m ≤ 5 by omega)
            have hx4 := nlay_le (tub f m)
            obtain ⟨x, hx⟩ : ∃ x, nlay (tub f m) = x := ⟨_, rfl⟩
            have HX : Hid _ := hx
            rw [hx] at hx4
            by_cases hc : 4 - x = n
            · have hcd : ((4 : Int) - (x : Int) == (n : Int)) = true := by simp; omega
              have HS : Hid (LL (rmF f) (n * 6 + (m + 1)) = LL (rmF f) (n * 6 + m) ++ [n]) := by
                show LL (rmF f) (n * 6 + m + 1) = _
                rw [LL, e1, e2, if_pos (by show 4 - nlay (tub f m) = n; rw [hx]; exact hc)]
              have HB : Hid _ := intB n
              clear hc e1 e2 hx
              go_wp2_with first
                | (with_reducible refine wpList_loadA rfl _ _ rfl _ _ rfl h1 4 agg4 size4 (by omega) ?_)
                | (go_at_call 79; (with_reducible refine (l2Many_ok (tub f m) ht _).mono ?_); rw [HX.out]; rintro e w1 ⟨rfl, hb1⟩; replace hbel := hbel.trans (hb1.mono hbel.size); replace h1 := row_keep hb1 h1; replace hS := hS.keep hb1; have hz := row_lt h1; clear hb1)
                | ((with_reducible refine wpList_appendS slInt (by omega) rfl _ _ rfl rfl (hS.keep ((Below.refl _ _).alloc (Nat.le_refl _) _)) rfl (HB.out _) (by omega) (by omega) (by unfold maxLen; omega) (by omega) (by simp; omega) ?_); intro v2 w2 hS2 hb2)
              go_roundw
              case rel =>
                refine ⟨m + 1, v2, by omega, by go_num, rfl, ?_, row_kept hb2 (row_alloc h1) (by omega), hbel.trans (((Below.refl _ _).alloc (Nat.le_of_lt hz) _).trans (hb2.mono (by omega)))⟩
                rw [HS.out]
                exact hS2.congr (by simp) fun j hj => by rw [Nat.mul_one]; exact gl_app _ n _ rfl j (by simp; omega)
              case measure => simp [intOf]; omega
            · have hcd : ((4 : Int) - (x : Int) == (n : Int)) = false := by simp; omega
              have HS : Hid (LL (rmF f) (n * 6 + (m + 1)) = LL (rmF f) (n * 6 + m)) := by
                show LL (rmF f) (n * 6 + m + 1) = _
                rw [LL, e1, e2, if_neg (by show ¬ 4 - nlay (tub f m) = n; rw [hx]; exact hc)]
              clear hc e1 e2 hx
              go_wp2_with first
                | (with_reducible refine wpList_loadA rfl _ _ rfl _ _ rfl h1 4 agg4 size4 (by omega) ?_)
                | (go_at_call 79; (with_reducible refine (l2Many_ok (tub f m) ht _).mono ?_); rw [HX.out]; rintro e w1 ⟨rfl, hb1⟩; replace hbel := hbel.trans (hb1.mono hbel.size); replace h1 := row_keep hb1 h1; replace hS := hS.keep hb1; clear hb1)
              go_roundw
              case rel => exact ⟨m + 1, _, by omega, by go_num, rfl, by rw [HS.out]; exact hS, h1, hbel⟩
              case measure => simp [intOf]; omega
          · obtain rfl : m = 6 := by omega
            go_wp2_with fail
            go_roundw
            case rel => exact ⟨n + 1, _, by omega, by go_num, rfl, by rw [show (n + 1) * 6 = n * 6 + 6 by omega]; exact hS, h1, hbel⟩
            case measure => simp [intOf]; omega
      · obtain rfl : n = 5 := by omega
        go_wp2_with fail
        go_ret2
        exact ⟨_, rfl, hS.lower (by omega), hbel⟩
theorem implRoom_any (f : Nat → Int) (w : World) : Calls Try.prog 35 #[.agg (arr 24 f)] w (RetSlB w 3 1 (rlN f) (rlF f) (rackB f)) := by
  have h1 : (w.alloc (.cells (arr 24 f) 28)).heap[w.heap.size]? = some (.cells (arr 24 f) 28 (0, 0))   := heap_new rfl
  have hbel : Below w.heap.size w (w.alloc (.cells (arr 24 f) 28)) := (Below.refl _ _).alloc (by simp) _
  cases hf : rackB f with
  | false =>
    have HF : Hid _ := hf
    rw [(rl_bad hf).1, (rl_bad hf).2]
    clear hf
    go_enter Try.func35, Try.ntmps35
    go_wp2_with first
      | (with_reducible refine wpList_loadW rfl _ _ rfl _ rfl h1 agg24r size24r ?_)
      | (go_at_call 51; (with_reducible refine (IsRack_any _ _).mono ?_); rw [HF.out]; rintro e w1 ⟨rfl, hb1⟩; replace hbel := hbel.trans (hb1.mono hbel.size); replace h1 := row_keep hb1 h1; clear hb1)
    go_ret2
    exact ⟨_, rfl, Sl.nil, hbel⟩
  | true =>
    have HF : Hid _ := hf
    have HRE : Hid _ := fun (F G : Nat → Int) => room_eq (rmF_lt f) (F := F) (G := G)
    rw [(rl_ok hf).1, (rl_ok hf).2]
    go_enter Try.func35, Try.ntmps35
    go_wp2_with first
      | (with_reducible refine wpList_loadW rfl _ _ rfl _ rfl h1 agg24r size24r ?_)
      | (with_reducible refine wpList_loadW rfl _ _ rfl _ rfl h1 agg24 size24 ?_)
      | (go_at_call 51; (with_reducible refine (IsRack_any _ _).mono ?_); rw [HF.out]; rintro e w1 ⟨rfl, hb1⟩; replace hbel := hbel.trans (hb1.mono hbel.size); replace h1 := row_keep hb1 h1; clear hb1)
    go_loopw [4, 12] (fun o i wr => ∃ n : Nat, ∃ v : Value, n ≤ 6 ∧ i = .int .i64 n ∧ o = v ∧ Sl wr (w.heap.size + 1) 3 1 v n (fun j => ((rmF f j : Nat) : Int)) ∧ wr.heap[w.heap.size]? = some (.cells (arr 24 f) 28 (0, 0)) ∧ Below w.heap.size w wr) (fun _ i _ => 6 - (intOf i).toNat)
    case atStart => exact ⟨0, _, by omega, rfl, rfl, Sl.nil, h1, hbel⟩
    case round =>
      clear h1 hbel
      obtain ⟨n, v, hn, rfl, rfl, hS, h1, hbel⟩ := hrel
      have hsz := row_lt h1
      by_cases hlt : n < 6
      · have hlt' : (n : Int) < 6 := by omega
        have tok_hA : True := trivial
        have hx4 := nlay_le (tub f n)
        obtain ⟨x, hx⟩ : ∃ x, nlay (tub f n) = x := ⟨_, rfl⟩
        have HX : Hid _ := hx
        rw [hx] at hx4
        have HB : Hid _ := intB ((4 : Int) - x)
        clear hx
        go_wp2_with first
          | (with_reducible refine wpList_indexA rfl _ _ _ rfl rfl rfl 6 _ Try.underlying23 4 agg4 size4 (by omega) rfl ?_)
          | (with_reducible refine wpList_allocA rfl 22 rfl 4 zero4 ?_; (try simp only [size_al]))
          | (have _t := tok_hA; with_reducible refine wpList_storeN rfl _ _ _ rfl rfl rfl size4 ?_; intro w1 hA hb1; replace hbel := hbel.trans (hb1.mono hbel.size); replace h1 := row_keep hb1 h1; replace hS := hS.keep hb1; clear hb1 _t tok_hA)
          | (with_reducible refine wpList_loadW rfl _ _ rfl _ rfl hA agg4 size4 ?_)
          | (go_at_call 48; (with_reducible refine (layers_any (tub f n) _).mono ?_); rw [HX.out]; rintro e w1 ⟨rfl, hb1⟩; replace hbel := hbel.trans (hb1.mono hbel.size); replace h1 := row_keep hb1 h1; replace hS := hS.keep hb1; have hz := row_lt h1; clear hb1)
          | ((with_reducible refine wpList_appendS slInt (by omega) rfl _ _ rfl rfl (hS.keep ((Below.refl _ _).alloc (Nat.le_refl _) _)) rfl (HB.out _) (by omega) (by omega) (by unfold maxLen; omega) (by omega) (by simp; omega) ?_); intro v2 w2 hS2 hb2)
        go_roundw
        case rel =>
          refine ⟨n + 1, v2, by omega, by go_num, rfl, ?_, row_kept hb2 (row_alloc h1) (by omega), hbel.trans (((Below.refl _ _).alloc (Nat.le_of_lt hz) _).trans (hb2.mono (by omega)))⟩
          refine hS2.congr rfl fun j hj => ?_
          rw [Nat.mul_one]
          unfold app
          by_cases e : j < n
          · rw [if_pos e]
          · rw [if_neg e]
            have e2 : j = n := by omega
            subst e2
            show (4 : Int) - x = ((4 - nlay (tub f j) : Nat) : Int)
            rw [HX.out]
            omega
        case measure => simp [intOf]; omega
      · obtain rfl : n = 6 := by omega
        obtain ⟨q, cap, F, rfl, hq, g1, d1, e1, z1⟩ := hS.blk (by omega)
        rw [Nat.mul_one] at g1
        have HZ : Hid _ := z1
        clear hS z1
        go_wp2_with first
          | (go_at_call 80; (with_reducible refine (sortI_any d1 w _ hbel (by omega) g1 h1 (by omega)).mono ?_); rintro e w1 ⟨⟨u, rfl⟩, G, hG, k1, k2, k3⟩)
        go_ret2
        obtain ⟨r1, r2⟩ := HRE.out F G (fun j hj => HZ.out j (by omega)) hG
        exact ⟨_, rfl, .inr ⟨q, cap, G, by rw [r1]; rfl, by omega, by rw [Nat.mul_one]; exact k1, by rw [r1]; exact d1, e1, fun j hj => r2 j (by omega)⟩, k3⟩
set_option linter.unusedVariables false in
set_option maxHeartbeats 1000000 in
theorem FnExactRoomLeft_walk (x0 : Nat → Int) (hx0 : ∀ j, I64 (x0 j)) (w : World) : Calls Try.prog 10 #[.agg (arr 24 x0)] w fun e w' => e = .returned (.bool true) ∧ Below w.heap.size w w' := by
  have hr : (w.alloc (.cells (arr 24 x0) 25)).heap[w.heap.size]? = some (.cells (arr 24 x0) 25 (0, 0)) := heap_new rfl
  have hbel : Below w.heap.size w (w.alloc (.cells (arr 24 x0) 25)) := (Below.refl _ _).alloc (by simp) _
  have tok_S : True := trivial
  have tok_G : True := trivial
  have tok_M : True := trivial
  have hnb := rlN_le x0
  have HNB : Hid _ := hnb
  clear hnb
  go_enter Try.func10, Try.ntmps10
  go_wp2_with first
    | (with_reducible refine wpList_loadW rfl _ _ rfl _ rfl hr agg24l size24l ?_)
    | (go_at_call 14; (with_reducible refine (toRack_any _ _).mono ?_); (rintro e w1 ⟨rfl, hb1⟩; replace hbel := hbel.trans (hb1.mono hbel.size); replace hr := row_keep hb1 hr; (try replace hbS := hbS.trans (hb1.mono hbS.size)); (try replace hSG := hSG.keep hb1); (try replace hz3 := Nat.le_trans hz3 hb1.size); clear hb1))
    | (have _t := tok_S; (go_at_call 34; (with_reducible refine (specRoom_any _ _).mono ?_); (rintro e w1 ⟨v0, rfl, hS0, hb1⟩; replace hbel := hbel.trans (hb1.mono hbel.size); replace hr := row_keep hb1 hr; (try replace hbS := hbS.trans (hb1.mono hbS.size)); (try replace hSG := hSG.keep hb1); (try replace hz3 := Nat.le_trans hz3 hb1.size); have hbS := Below.refl w1.heap.size w1; clear hb1 _t tok_S)))
    | (have _t := tok_G; (go_at_call 35; (with_reducible refine (implRoom_any _ _).mono ?_); (rintro e w1 ⟨vG, rfl, hSG, hb1⟩; have hz0 := row_lt hr; have hz1 := hbel.size; have hz2 := hbS.size; replace hbel := hbel.trans (hb1.mono hbel.size); replace hr := row_keep hb1 hr; (try replace hbS := hbS.trans (hb1.mono hbS.size)); (try replace hSG := hSG.keep hb1); (try replace hz3 := Nat.le_trans hz3 hb1.size); have hz3 := hb1.size; clear hb1 _t tok_G)))
    | (go_at_call 35; (with_reducible refine (implRoom_any _ _).mono ?_); (rintro e w1 ⟨vH, rfl, hSH, hb1⟩; replace hbel := hbel.trans (hb1.mono hbel.size); replace hr := row_keep hb1 hr; (try replace hbS := hbS.trans (hb1.mono hbS.size)); (try replace hSG := hSG.keep hb1); (try replace hz3 := Nat.le_trans hz3 hb1.size); clear hb1))
    | (have _t := tok_M; (go_at_call 36; (with_reducible refine (eqI_same HNB.out _ hSG (hS0.keep hbS)).mono ?_); (rintro e w1 ⟨rfl, hb1⟩; replace hbel := hbel.trans (hb1.mono hbel.size); replace hr := row_keep hb1 hr; (try replace hbS := hbS.trans (hb1.mono hbS.size)); (try replace hSG := hSG.keep hb1); (try replace hz3 := Nat.le_trans hz3 hb1.size); clear hb1)))
    | (go_at_call 36; (with_reducible refine (eqI_same HNB.out _ hSH (hS0.keep hbS)).mono ?_); (rintro e w1 ⟨rfl, hb1⟩; replace hbel := hbel.trans (hb1.mono hbel.size); replace hr := row_keep hb1 hr; (try replace hbS := hbS.trans (hb1.mono hbS.size)); (try replace hSG := hSG.keep hb1); (try replace hz3 := Nat.le_trans hz3 hb1.size); clear hb1))
    | (have _t := tok_M; (go_at_call 37; (with_reducible refine (markI1 HNB.out _ hSG hz3).mono ?_); (rintro e w1 ⟨rfl, hSM, hb1⟩; clear hSG; have hSG := hSM; replace hbel := hbel.trans (hb1.mono hz1); replace hr := row_kept hb1 hr (by omega); replace hbS := hbS.trans (hb1.mono hz2); clear hb1 hSM _t tok_M)))
    | (go_at_call 38; (with_reducible refine (heldI1 HNB.out _ hSG).mono ?_); rintro e w1 ⟨rfl, rfl⟩)
  go_ret
  exact ⟨rfl, hbel⟩
end Go.Proofs.Ytbiplciklmagoaa
