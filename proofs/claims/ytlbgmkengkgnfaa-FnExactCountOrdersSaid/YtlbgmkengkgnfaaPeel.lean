/- A region that draws its order: every order is walked, pure operations are taken first as they come up; what comes out is told by one relation. -/
import Derived.Test.YtlbgmkengkgnfaaFork
namespace Go.Proofs.Ytlbgmkengkgnfaa
set_option linter.unusedSimpArgs false
set_option linter.unusedVariables false
set_option maxRecDepth 20000
open Go.RowKit
section
variable {P : Program} {ops : Array Oper} {K : Act → World → Prop} {fuel : Nat} {listed : Array Bool} {a : Act} {w : World}
theorem wpAny_peel {md : Region.Mode} (ks : List Nat) (l : List Oper) (hs : Region.noSelect ops = true) (hl : ks.map (ops[·]?) = l.map some) (hB : segLB md ops (fun _ => true) ks listed = true)
    (h : wpCalm P ops (fun _ => True) (fun a' => wpAny P md ops (QN K) fuel (setL listed ks) a' w) l a) : wpAny P md ops (QN K) (fuel + ks.length) listed a w := by
  refine wpAny_of_I _ _ _ _ (wpAnyI_segL (P := P) (md := md) (hd := fun _ => false) (st := fun _ => true) (C := fun _ => True) (K1 := K) hs (fun j _ oj _ => Pres.top oj) fuel (w := w) trivial ks l listed a hl (by simpa using hB) ?_)
  refine wpCalm_mono ?_ _ _ h
  intro a1 ha1
  exact wpAnyI_of_any _ _ _ _ (fun i hi => by simp at hi) ha1
theorem wpAny_peel2 {md : Region.Mode} (i j : Nat) {oi oj : Oper} (hs : Region.noSelect ops = true) (ho : ops[i]? = some oi) (ho2 : ops[j]? = some oj) (hB : segLB md ops (fun _ => true) [i, j] listed = true)
    (h : wpCalm P ops (fun _ => True) (fun a' => wpAny P md ops (QN K) fuel (setL listed [i, j]) a' w) [oi, oj] a) : wpAny P md ops (QN K) (fuel + 2) listed a w :=
  wpAny_peel [i, j] [oi, oj] hs (by simp [ho, ho2]) hB h
theorem wpAny_peel1 {md : Region.Mode} (i : Nat) {oi : Oper} (hs : Region.noSelect ops = true) (ho : ops[i]? = some oi) (hB : segLB md ops (fun _ => true) [i] listed = true)
    (h : wpCalm P ops (fun _ => True) (fun a' => wpAny P md ops (QN K) fuel (setL listed [i]) a' w) [oi] a) : wpAny P md ops (QN K) (fuel + 1) listed a w :=
  wpAny_peel [i] [oi] hs (by simp [ho]) hB h
theorem wpAny_peel3 {md : Region.Mode} (i j k : Nat) {oi oj ok : Oper} (hs : Region.noSelect ops = true) (ho : ops[i]? = some oi) (ho2 : ops[j]? = some oj) (ho3 : ops[k]? = some ok) (hB : segLB md ops (fun _ => true) [i, j, k] listed = true)
    (h : wpCalm P ops (fun _ => True) (fun a' => wpAny P md ops (QN K) fuel (setL listed [i, j, k]) a' w) [oi, oj, ok] a) : wpAny P md ops (QN K) (fuel + 3) listed a w :=
  wpAny_peel [i, j, k] [oi, oj, ok] hs (by simp [ho, ho2, ho3]) hB h
theorem wp_region_ord {id : Nat} {Q : Exit → Act → World → Prop} {l : List Oper} (n : Nat) (C : World → Prop) (R : Act → World → Prop) (hm : P.follows .mixedOrders = true) (hn : l.length = n) (hC : C { w with drawn := w.drawn + 1 })
    (h : ∀ wt, C wt → wpAny P .any l.toArray (QN R) n (allF n) a wt) (hk : ∀ a' w', R a' w' → Q .normal a' w') : (Code.region id l.toArray true).wp P Q a w := by
  refine Code.wp_mono (Q := QN R) (fun e a' w' hq => ?_) ?_
  · cases e <;> first | exact hk _ _ hq | exact (hq : False).elim
  · refine wp_region_any hm ?_
    subst hn
    have := h _ hC
    unfold allF at this
    simpa using this
end
end Go.Proofs.Ytlbgmkengkgnfaa
