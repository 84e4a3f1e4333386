/- CountHidden: the program's and the reference's, and the law. -/
import Derived.Test.YtbiplciklmagoaaView2
import Derived.Test.YtbiplciklmagoaaView3
import Derived.Test.YtbiplciklmagoaaConvV
import Derived.Test.YtbiplciklmagoaaCnt
import Derived.Test.YtbiplciklmagoaaEq6
namespace Go.Proofs.Ytbiplciklmagoaa
set_option linter.unusedSimpArgs false
set_option linter.unusedVariables false
set_option maxRecDepth 20000
open Go.RowKit
noncomputable def hidF (v : Nat → Int) : Int × (Nat → Int) × Bool := if viewB v = true then (hsum v 6, lft v 6, true) else (0, fun _ => 0, false)
theorem hid_sum {v : Nat → Int} (hx : ∀ j, I64 (v j)) (h : viewB v = true) : (∀ k, k < 6 → 0 ≤ lft v 6 (0 + k) ∧ lft v 6 (0 + k) ≤ 1000) ∧ isum (fun k => lft v 6 (0 + k)) 6 = hsum v 6 := by
  obtain ⟨hv, hc, hz, hs⟩ := viewB_iff.1 h
  have h0 : lft v 6 0 = 0 := by
    rw [lft_eq hx 6 0, (cnt_all hv 6 (by omega)).2.1, show v (12 + 0) = 0 from hz]
    unfold wrap64; omega
  refine ⟨fun k hk => ?_, ?_⟩
  · rw [Nat.zero_add]
    by_cases h1 : k = 0
    · subst h1; omega
    · have := hc k (by omega) hk
      omega
  · rw [← hs]
    simp [isum, lsum, h0]
theorem sum_eq {B off len cap n : Nat} {f : Nat → Int} {T : TypeId} {fr : Nat × Nat} (w : World) (hg : w.heap[B]? = some (.cells (arr n f) T fr)) (hle : off + len ≤ n) (hm : len ≤ 100) (hb : ∀ k, k < len → 0 ≤ f (off + k) ∧ f (off + k) ≤ 1000) {x : Int} (hx : isum (fun k => f (off + k)) len = x) :
    Calls Try.prog 96 #[.slice (some ⟨B, off, none⟩) len cap] w fun e w' => e = .returned (.int .i64 x) ∧ Below w.heap.size w w' := by
  subst hx
  exact sum_any w hg hle hm hb
end Go.Proofs.Ytbiplciklmagoaa
