/- A row of bytes among the arguments. -/
import Derived.ChangeSlices
import Derived.Test.YthljicikedlkbaaDoorCur
namespace Go.Proofs.YthljicikedlkbaaDoor
set_option linter.unusedSimpArgs false
set_option linter.unusedVariables false
set_option maxRecDepth 20000
open Go.RowKit
theorem u8_bd {n : Int} (h : (Lit.int .u8 n).wf = true) : 0 ≤ n ∧ n ≤ 255 := by
  have h1 : (decide (IntKind.u8.min ≤ n) && decide (n ≤ IntKind.u8.max)) = true := h
  rw [Bool.and_eq_true] at h1
  have h2 : (0 : Int) ≤ n := of_decide_eq_true h1.1
  have h3 : n ≤ 255 := of_decide_eq_true h1.2
  exact ⟨h2, h3⟩
open Go.ChangeShapes Go.WideShapes Go.ChangeAt in
theorem by_of {H : Type} {enc : TypeId × Value → H} {W : World} {b0 base : Nat} {spare : Nat → Bool} {held : Bool} {v : Value} {d : DataW H} {ps : List MemPlace} (hv : Value.okWide Tryd.prog W .any b0 33 v)
    (h : DataW.Trod enc Tryd.prog W base spare held 33 v d ps) : ∃ p n c, v = .slice p n c ∧ n ≤ 9223372036854775807 ∧ (n ≤ 65536 → By W W.heap.size p n c) := by
  obtain ⟨a0, len, cap, rfl⟩ := okWide_slice Tryd.underlying33 hv
  obtain ⟨fuel, hf⟩ := h
  rcases open_ints Tryd.underlying33 Tryd.underlying5 (by kernel_rfl) hf with ⟨hcs, hx⟩ | ⟨a, len', cap', zs, hcs, _, hl, hm, hz, hx, hcell, hwf⟩
  · injection hcs with hcs _
    injection hcs with e1 e2 e3
    subst e1 e2 e3
    exact ⟨none, 0, 0, rfl, by omega, fun _ => ⟨Nat.le_refl _, by omega, fun j hj => by omega⟩⟩
  · injection hcs with hcs _
    injection hcs with e1 e2 e3
    subst e1 e2 e3
    have hzl : len ≤ zs.length := by rw [hz]; split <;> omega
    refine ⟨some a, len, cap, rfl, by unfold maxLen at hm; omega, fun h => ⟨hl, by omega, fun j hj => ?_⟩⟩
    have hc := hcell j (by omega)
    have hjl : j < zs.length := by omega
    have hm2 := hwf zs[j] (List.getElem_mem hjl)
    rw [List.getD_eq_getElem?_getD, List.getElem?_eq_getElem hjl] at hc
    refine ⟨a, zs[j], rfl, ?_, hc, u8_bd hm2⟩
    by_cases hb : a.block < W.heap.size
    · exact hb
    · have : (a.add j).block = a.block := add_blk a j
      simp [World.cell?, this, Array.getElem?_eq_none (Nat.le_of_not_lt hb)] at hc
end Go.Proofs.YthljicikedlkbaaDoor
