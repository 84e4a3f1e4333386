/- A part (number 5) of the proof of the law FnRackNames: what each of its sections proves stands in the section's own first remark. No conditions beside those that each theorem states. -/
import Derived.BigQuiet
import Derived.Deep.QuietTactic
import Derived.Laws.AppendOwn
import Derived.OwnWalk
import Derived.Conc.WgArith
import Derived.Test.YtlbgmkengkgnfaaGreatMg2
import Derived.ChangeSlices
section
/- The reference's reader of choices. -/
namespace Go.Proofs.YtlbgmkengkgnfaaGreat
set_option linter.unusedSimpArgs false
set_option linter.unusedVariables false
set_option maxRecDepth 20000
open Go.RowKit
/-- The code's bytes. -/
def By (w : World) (K : Nat) (p : Option Addr) (n c : Nat) : Prop := n ≤ c ∧ n ≤ 1000000 ∧ ∀ j, j < n → ∃ a x, p = some a ∧ a.block < K ∧ w.cell? (a.add j) = some (.int .u8 x) ∧ 0 ≤ x ∧ x ≤ 255
/-- A reader at a place. -/
def Cur (w : World) (B : Nat) (p : Option Addr) (n c : Nat) (i : Nat) : Prop :=
  B < w.heap.size ∧ (∀ j, w.frozen? ⟨B, j, none⟩ = false) ∧ w.cell? ⟨B, 0, none⟩ = some (.slice p n c) ∧ w.cell? ⟨B, 1, none⟩ = some (.int .i64 i) ∧ ∃ s : Int, w.cell? ⟨B, 2, none⟩ = some (.int .u64 s) ∧ 0 ≤ s ∧ s < 18446744073709551616
theorem u64_in (x : Int) : 0 ≤ IntKind.u64.wrap x ∧ IntKind.u64.wrap x < 18446744073709551616 := by
  have h : (IntKind.u64.wrap x) = x % 18446744073709551616 := by
    unfold IntKind.wrap
    rfl
  omega
theorem low_byte (x : Int) (h0 : 0 ≤ x) (h1 : x < 18446744073709551616) : 0 ≤ wrap64 (bits .and .u64 (x / 1099511627776) 255) ∧ wrap64 (bits .and .u64 (x / 1099511627776) 255) ≤ 255 := by
  have h := bits_mask .u64 63 (by decide) ConcN.wraps_u64_63 8 (by decide) (x / 1099511627776) (by omega) (by omega)
  have e : ((2 : Int) ^ 8 - 1) = 255 := by decide
  have e2 : ((2 : Int) ^ 8) = 256 := by decide
  rw [e, e2] at h
  rw [h]
  unfold wrap64
  omega
theorem add_blk (a : Addr) (j : Nat) : (a.add j).block = a.block := by unfold Addr.add; split <;> rfl
theorem cur_step {w : World} {B : Nat} {p : Option Addr} {n c i : Nat} (h : Cur w B p n c i) (m1 m2 : Nat) (t : Int) :
    Cur ((((w.drewN m1).setCell ⟨B, 1, none⟩ (.int .i64 ((i : Int) + 1))).setCell ⟨B, 2, none⟩ (.int .u64 (IntKind.u64.wrap t))).drewN m2) B p n c (i + 1) ∧
      w.grownBy ((((w.drewN m1).setCell ⟨B, 1, none⟩ (.int .i64 ((i : Int) + 1))).setCell ⟨B, 2, none⟩ (.int .u64 (IntKind.u64.wrap t))).drewN m2) (some B) := by
  obtain ⟨h1, h2, h3, h4, s, h5, h6, h7⟩ := h
  have e1 : (w.drewN m1).cell? ⟨B, 1, none⟩ = some (.int .i64 i) := h4
  have e2 : ((w.drewN m1).setCell ⟨B, 1, none⟩ (.int .i64 ((i : Int) + 1))).cell? ⟨B, 2, none⟩ = some (.int .u64 s) := by
    rw [World.cell?_setCell_other _ _ _ _ (fun h => by injection h with _ h2; cases h2)]; exact h5
  refine ⟨⟨?_, ?_, ?_, ?_, IntKind.u64.wrap t, ?_, (u64_in t).1, (u64_in t).2⟩, ?_⟩
  · show B < (World.setCell _ _ _).heap.size
    simp only [World.setCell, Array.size_modify]
    exact h1
  · intro j
    show World.frozen? (World.setCell _ _ _) _ = false
    rw [World.frozen?_setCell, World.frozen?_setCell]
    exact h2 j
  · show World.cell? (World.setCell _ _ _) _ = _
    rw [World.cell?_setCell_other _ _ _ _ (fun h => by injection h with _ h2; cases h2), World.cell?_setCell_other _ _ _ _ (fun h => by injection h with _ h2; cases h2)]
    exact h3
  · show World.cell? (World.setCell _ _ _) _ = _
    rw [World.cell?_setCell_other _ _ _ _ (fun h => by injection h with _ h2; cases h2)]
    exact World.cell?_setCell_same _ _ _ e1
  · show World.cell? (World.setCell _ _ _) _ = _
    exact World.cell?_setCell_same _ _ _ e2
  · refine ⟨rfl, rfl, rfl, ?_, fun k hk hne => ?_⟩
    · show _ ≤ (World.setCell _ _ _).heap.size
      simp only [World.setCell, Array.size_modify]
      exact Nat.le_refl _
    · have hk2 : k ≠ B := fun e => hne (by rw [e])
      show (World.setCell _ _ _).heap[k]? = _
      rw [Below.heap_setCell _ _ _ _ hk2, Below.heap_setCell _ _ _ _ hk2]
      rfl
theorem next_any {K B : Nat} {p : Option Addr} {n c i : Nat} (w : World) (hK : K ≤ B) (hi : i ≤ 1000000) (hC : Cur w B p n c i) (hB : By w K p n c) :
    Calls Tryz.prog 68 #[.pointer (some ⟨B, 0, none⟩)] w fun e w' => ∃ b : Int, e = .returned (.int .i64 b) ∧ (0 ≤ b ∧ b ≤ 255) ∧ Cur w' B p n c (i + 1) ∧ w.grownBy w' (some B) := by
  obtain ⟨h1, h2, h3, h4, s, h5, h6, h7⟩ := hC
  obtain ⟨q1, q2, q3⟩ := hB
  have f1 := h2 1
  have f2 := h2 2
  by_cases hlt : i < n
  · obtain ⟨a, x, rfl, ha, hx, hx0, hx1⟩ := q3 i hlt
    have hlt' : (i : Int) < (n : Int) := by omega
    clear q3
    go_enter Tryz.func68, Tryz.ntmps68
    go_wp2_with fail
    go_quiet (fail)
    go_wp2_with fail
    go_quiet (fail)
    go_wp2_with fail
    go_quiet (fail)
    go_wp2
    go_ret
    exact ⟨x, rfl, ⟨hx0, hx1⟩, cur_step ⟨h1, h2, h3, h4, s, h5, h6, h7⟩ _ _ _⟩
  · have hlt' : ¬ (i : Int) < (n : Int) := by omega
    clear q3
    go_enter Tryz.func68, Tryz.ntmps68
    go_wp2_with fail
    go_quiet (fail)
    go_wp2_with fail
    go_quiet (fail)
    go_wp2
    go_ret
    exact ⟨_, rfl, low_byte _ (u64_in _).1 (u64_in _).2, cur_step ⟨h1, h2, h3, h4, s, h5, h6, h7⟩ _ _ _⟩
theorem grown_trans {w w1 w2 : World} {r : Option Nat} (h : w.grownBy w1 r) (k : w1.grownBy w2 r) : w.grownBy w2 r :=
  ⟨k.os.trans h.os, k.tape.trans h.tape, k.output.trans h.output, Nat.le_trans h.size k.size, fun j hj hne => (k.block j (Nat.lt_of_lt_of_le hj h.size) hne).trans (h.block j hj hne)⟩
theorem By.grown {w w' : World} {K B : Nat} {p : Option Addr} {n c : Nat} (h : By w K p n c) (hg : w.grownBy w' (some B)) (hK : K ≤ B) (hw : K ≤ w.heap.size) : By w' K p n c := by
  obtain ⟨h1, h2, h3⟩ := h
  refine ⟨h1, h2, fun j hj => ?_⟩
  obtain ⟨a, x, e, ha, hc, hx⟩ := h3 j hj
  refine ⟨a, x, e, ha, ?_, hx⟩
  have : w'.cell? (a.add j) = w.cell? (a.add j) := World.cell?_of_block (hg.block _ (by rw [add_blk]; omega) (fun e => by injection e with e; rw [add_blk] at e; omega))
  rw [this]; exact hc
def RetN (w : World) (B : Nat) (p : Option Addr) (n c i : Nat) (m : Nat) (e : Ending) (w' : World) : Prop := ∃ r i' : Nat, e = .returned (.int .i64 r) ∧ r < m ∧ i' ≤ i + 2 ∧ Cur w' B p n c i' ∧ w.grownBy w' (some B)
theorem nat_mod (b : Int) (m : Nat) (hm : 0 < m) (hb : 0 ≤ b) : (((b % (m : Int)).toNat : Nat) : Int) = b % (m : Int) ∧ (b % (m : Int)).toNat < m := by
  have h1 := Int.emod_nonneg b (show (m : Int) ≠ 0 by omega)
  have h2 := Int.emod_lt_of_pos b (show (0 : Int) < (m : Int) by omega)
  omega
theorem pick_any {K B : Nat} {p : Option Addr} {n c i : Nat} (m : Nat) (hm0 : 1 ≤ m) (hm : m ≤ 60000) (w : World) (hK : K ≤ B) (hi : i ≤ 900000) (hC : Cur w B p n c i) (hB : By w K p n c) :
    Calls Tryz.prog 42 #[.pointer (some ⟨B, 0, none⟩), .int .i64 m] w (RetN w B p n c i m) := by
  have hKw : K ≤ w.heap.size := by have := hC.1; omega
  by_cases h1 : m ≤ 1
  · have h1' : (m : Int) ≤ 1 := by omega
    go_enter Tryz.func42, Tryz.ntmps42
    go_wp2
    go_ret
    exact ⟨0, i, rfl, by omega, by omega, hC, ⟨rfl, rfl, rfl, Nat.le_refl _, fun _ _ _ => rfl⟩⟩
  · have h1' : ¬ (m : Int) ≤ 1 := by omega
    have HN : Hid _ := fun w i (hi : i ≤ 1000000) (hC : Cur w B p n c i) (hB : By w K p n c) => next_any w hK hi hC hB
    have HC : Hid (Cur w B p n c i) := hC
    have HB : Hid (By w K p n c) := hB
    clear hC hB
    by_cases h2 : m ≤ 200
    · have h2' : (m : Int) ≤ 200 := by omega
      go_enter Tryz.func42, Tryz.ntmps42
      go_wp2_with first
        | (go_at_call 68; (with_reducible refine (HN.out _ _ (by omega) HC.out HB.out).mono ?_); rintro e w1 ⟨b, rfl, hb, hC1, hg1⟩; have HC1 : Hid (Cur w1 B p n c (i + 1)) := hC1; clear hC1)
      go_ret
      obtain ⟨e1, e2⟩ := nat_mod b m (by omega) hb.1
      exact ⟨(b % m).toNat, i + 1, by rw [e1]; rfl, e2, by omega, HC1.out, hg1⟩
    · have h2' : ¬ (m : Int) ≤ 200 := by omega
      go_enter Tryz.func42, Tryz.ntmps42
      go_wp2_with first
        | (have _t := hKw; (go_at_call 68; (with_reducible refine (HN.out _ _ (by omega) HC.out HB.out).mono ?_); rintro e w1 ⟨b, rfl, hb, hC1, hg1⟩; have HC1 : Hid (Cur w1 B p n c (i + 1)) := hC1; have HB1 : Hid (By w1 K p n c) := HB.out.grown hg1 hK hKw; clear hC1 _t hKw))
        | (go_at_call 68; (with_reducible refine (HN.out _ _ (by omega) HC1.out HB1.out).mono ?_); rintro e w2 ⟨b2, rfl, hb2, hC2, hg2⟩; have HC2 : Hid (Cur w2 B p n c (i + 1 + 1)) := hC2; clear hC2)
      go_ret
      obtain ⟨e1, e2⟩ := nat_mod (b * 256 + b2) m (by omega) (by omega)
      exact ⟨((b * 256 + b2) % m).toNat, i + 1 + 1, by rw [e1]; rfl, e2, by omega, HC2.out, grown_trans hg1 hg2⟩
end Go.Proofs.YtlbgmkengkgnfaaGreat
end

section
/- A row of bytes among the arguments. -/
namespace Go.Proofs.YtlbgmkengkgnfaaGreat
set_option linter.unusedSimpArgs false
set_option linter.unusedVariables false
set_option maxRecDepth 20000
open Go.RowKit
theorem u8_bd {n : Int} (h : (Lit.int .u8 n).wf = true) : 0 ≤ n ∧ n ≤ 255 := by
  have h1 : (decide (IntKind.u8.min ≤ n) && decide (n ≤ IntKind.u8.max)) = true := h
  rw [Bool.and_eq_true] at h1
  have h2 : (0 : Int) ≤ n := of_decide_eq_true h1.1
  have h3 : n ≤ 255 := of_decide_eq_true h1.2
  exact ⟨h2, h3⟩
open Go.ChangeShapes Go.WideShapes Go.ChangeAt in
theorem by_of {H : Type} {enc : TypeId × Value → H} {W : World} {b0 base : Nat} {spare : Nat → Bool} {held : Bool} {v : Value} {d : DataW H} {ps : List MemPlace} (hv : Value.okWide Tryz.prog W .any b0 22 v)
    (h : DataW.Trod enc Tryz.prog W base spare held 22 v d ps) : ∃ p n c, v = .slice p n c ∧ n ≤ 9223372036854775807 ∧ (n ≤ 65536 → By W W.heap.size p n c) := by
  obtain ⟨a0, len, cap, rfl⟩ := okWide_slice Tryz.underlying22 hv
  obtain ⟨fuel, hf⟩ := h
  rcases open_ints Tryz.underlying22 Tryz.underlying5 (by kernel_rfl) hf with ⟨hcs, hx⟩ | ⟨a, len', cap', zs, hcs, _, hl, hm, hz, hx, hcell, hwf⟩
  · injection hcs with hcs _
    injection hcs with e1 e2 e3
    subst e1 e2 e3
    exact ⟨none, 0, 0, rfl, by omega, fun _ => ⟨Nat.le_refl _, by omega, fun j hj => by omega⟩⟩
  · injection hcs with hcs _
    injection hcs with e1 e2 e3
    subst e1 e2 e3
    have hzl : len ≤ zs.length := by rw [hz]; split <;> omega
    refine ⟨some a, len, cap, rfl, by unfold maxLen at hm; omega, fun h => ⟨hl, by omega, fun j hj => ?_⟩⟩
    have hc := hcell j (by omega)
    have hjl : j < zs.length := by omega
    have hm2 := hwf zs[j] (List.getElem_mem hjl)
    rw [List.getD_eq_getElem?_getD, List.getElem?_eq_getElem hjl] at hc
    refine ⟨a, zs[j], rfl, ?_, hc, u8_bd hm2⟩
    by_cases hb : a.block < W.heap.size
    · exact hb
    · have : (a.add j).block = a.block := add_blk a j
      simp [World.cell?, this, Array.getElem?_eq_none (Nat.le_of_not_lt hb)] at hc
end Go.Proofs.YtlbgmkengkgnfaaGreat
end
