/- Chances of tops: the program's and the reference's fractions are the same. -/
import Derived.Test.YtbiplciklmagoaaArr
namespace Go.Proofs.Ytbiplciklmagoaa
set_option linter.unusedSimpArgs false
set_option linter.unusedVariables false
set_option maxRecDepth 20000
/-- A fraction in lowest terms. -/
def fr (a b : Nat) : Nat × Nat := (a / Nat.gcd a b, b / Nat.gcd a b)
/-- n factors from all - b on, falling. -/
def chs (all b : Nat) : Nat → Nat
  | 0 => 1
  | n + 1 => chs all b n * (all - (b + n))
def wys (same : Nat) : Nat → Nat
  | 0 => 1
  | n + 1 => wys same n * (same - n)
/-- For how many choices the top has run layers, of m. -/
def ownT (all same m run : Nat) : Nat := if run = 0 then 0 else if run < m then wys same (run - 1) * (all - same) * chs all run (m - 1 - run) else if run = m then wys same (run - 1) else 0
def allT (all m : Nat) : Nat := chs all 0 (m - 1)
def spN (all same : Nat) : Nat → Nat × Nat
  | 0 => (1, 1)
  | k + 1 => fr ((spN all same k).1 * (same - k)) ((spN all same k).2 * (all - k))
def spT (all same m run : Nat) : Nat × Nat := if m < run then (0, 1) else if run < m then fr ((spN all same (run - 1)).1 * ((all - (run - 1)) - (same - (run - 1)))) ((spN all same (run - 1)).2 * (all - (run - 1))) else spN all same (run - 1)
def chkT : Bool := (List.range 19).all fun all => (List.range 19).all fun same => (List.range 5).all fun m => (List.range 5).all fun run => !(decide (same ≤ all) && decide (0 < m) && decide (m ≤ all + 1) && decide (0 < run)) || decide (fr (ownT all same m run) (allT all m) = spT all same m run)
theorem chkT_true : chkT = true := by decide +kernel
theorem chance_top {all same m run : Nat} (h1 : all < 19) (h2 : same ≤ all) (h3 : m < 5) (h4 : 0 < m) (h5 : m ≤ all + 1) (h6 : run < 5) (h7 : 0 < run) : fr (ownT all same m run) (allT all m) = spT all same m run := by
  have h := chkT_true
  unfold chkT at h
  simp only [List.all_eq_true, List.mem_range] at h
  have := h all h1 same (by omega) m h3 run h6
  simpa [h2, h4, h5, h7] using this
def meanS (all same m room : Nat) : Nat → Nat
  | 0 => 0
  | n + 1 => meanS all same m room n + ownT all same m n * min n room
def sumS (all same m room : Nat) : Nat → Nat × Nat
  | 0 => (0, 1)
  | n + 1 => fr ((sumS all same m room n).1 * (fr ((spT all same m (n + 1)).1 * min (n + 1) room) (spT all same m (n + 1)).2).2 + (fr ((spT all same m (n + 1)).1 * min (n + 1) room) (spT all same m (n + 1)).2).1 * (sumS all same m room n).2)
      ((sumS all same m room n).2 * (fr ((spT all same m (n + 1)).1 * min (n + 1) room) (spT all same m (n + 1)).2).2)
def chkM : Bool := (List.range 19).all fun all => (List.range 19).all fun same => (List.range 5).all fun m => (List.range 5).all fun room => !(decide (same ≤ all) && decide (0 < m) && decide (m ≤ all + 1)) || decide (fr (meanS all same m room 5) (allT all m) = sumS all same m room m)
theorem chkM_true : chkM = true := by decide +kernel
theorem mean_moved {all same m room : Nat} (h1 : all < 19) (h2 : same ≤ all) (h3 : m < 5) (h4 : 0 < m) (h5 : m ≤ all + 1) (h6 : room < 5) : fr (meanS all same m room 5) (allT all m) = sumS all same m room m := by
  have h := chkM_true
  unfold chkM at h
  simp only [List.all_eq_true, List.mem_range] at h
  have := h all h1 same (by omega) m h3 room h6
  simpa [h2, h4, h5] using this
end Go.Proofs.Ytbiplciklmagoaa
