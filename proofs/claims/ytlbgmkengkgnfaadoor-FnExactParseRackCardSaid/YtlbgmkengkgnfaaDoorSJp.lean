/- A text is its parts joined: plain law. -/
import Derived.Lib.IndexBytes
import Derived.Test.YtlbgmkengkgnfaaDoorSplit
import Derived.Test.YtlbgmkengkgnfaaDoorJoinW
namespace Go.Proofs.YtlbgmkengkgnfaaDoor
set_option linter.unusedSimpArgs false
set_option linter.unusedVariables false
set_option maxRecDepth 20000
open Go.RowKit
theorem jn_snoc (l : List ByteArray) (x : ByteArray) (b : UInt8) : jn (l ++ [x]) b = if l = [] then x.data.toList else jn l b ++ [b] ++ x.data.toList := by
  have h : (l ++ [x])[l.length]? = some x := by simp
  have := jn_step (l ++ [x]) b l.length x h
  rw [List.take_of_length_le (by simp)] at this
  rw [this, List.take_left']
  · by_cases e : l = []
    · subst e; simp
    · rw [if_neg (by simpa using e), if_neg e]
  · rfl
theorem ext_list (s : ByteArray) (q k : Nat) : (s.extract q k).data.toList = (s.data.toList.take k).drop q := by
  rw [Lib.extract_data]
  rw [List.drop_take]
theorem take_glue (l : List UInt8) (q k : Nat) (h : q ≤ k) : l.take q ++ (l.take k).drop q = l.take k := by
  have h1 : (l.take k).take q = l.take q := by rw [List.take_take, Nat.min_eq_left h]
  rw [← h1, List.take_append_drop]
theorem no_has (l : List UInt8) (b : UInt8) (q k : Nat) (h : ∀ j, q ≤ j → j < k → l[j]? ≠ some b) : hasB ((l.take k).drop q) b = false := by
  unfold hasB
  rw [Bool.eq_false_iff]
  intro hc
  rw [List.contains_iff_mem] at hc
  obtain ⟨j, hj⟩ := List.getElem?_of_mem hc
  rw [List.getElem?_drop, List.getElem?_take] at hj
  split at hj
  · exact h (q + j) (by omega) (by assumption) hj
  · cases hj
theorem splitTo_sum (s : ByteArray) (b : UInt8) : ∀ k, k ≤ s.size →
    (((splitTo s b k).1 = [] → (splitTo s b k).2 = 0) ∧ ((splitTo s b k).1 ≠ [] → jn (splitTo s b k).1 b ++ [b] = s.data.toList.take (splitTo s b k).2)) ∧
      (∀ x, x ∈ (splitTo s b k).1 → hasB x.data.toList b = false) ∧ (∀ j, (splitTo s b k).2 ≤ j → j < k → s.data.toList[j]? ≠ some b)
  | 0, _ => by
    rw [splitTo_z]
    exact ⟨⟨fun _ => rfl, fun h => absurd rfl h⟩, (fun x hx => by cases hx), fun j _ hj => by omega⟩
  | k + 1, hk => by
    obtain ⟨⟨h1, h2⟩, h3, h4⟩ := splitTo_sum s b k (by omega)
    have hbd := splitTo_bd s b k
    by_cases e : s[k] = b
    · rw [splitTo_hit s b k (by omega) e]
      have hg : s.data.toList[k]? = some b := by rw [at_get s k (by omega), e]
      have ht : s.data.toList.take (k + 1) = s.data.toList.take k ++ [b] := by rw [List.take_add_one, hg]; rfl
      refine ⟨⟨fun h => absurd h (by simp), fun _ => ?_⟩, fun x hx => ?_, fun j hj hj2 => by simp only at hj; omega⟩
      · simp only
        rw [jn_snoc, ht, ext_list]
        congr 1
        by_cases hl : (splitTo s b k).1 = []
        · rw [if_pos hl, h1 hl, List.drop_zero]
        · rw [if_neg hl, h2 hl, take_glue _ _ _ hbd.1]
      · rcases List.mem_append.1 hx with h | h
        · exact h3 x h
        · rw [List.mem_singleton.1 h, ext_list]
          exact no_has _ _ _ _ h4
    · rw [splitTo_miss s b k (by omega) e]
      refine ⟨⟨h1, h2⟩, h3, fun j hj hj2 => ?_⟩
      by_cases ej : j = k
      · subst ej; rw [at_get s j (by omega)]; simpa using e
      · exact h4 j hj (by omega)
theorem parts_join (s : ByteArray) (b : UInt8) : jn (partsB s b) b = s.data.toList ∧ (∀ x, x ∈ partsB s b → hasB x.data.toList b = false) ∧ 0 < (partsB s b).length := by
  obtain ⟨⟨h1, h2⟩, h3, h4⟩ := splitTo_sum s b s.size (Nat.le_refl _)
  have hbd := splitTo_bd s b s.size
  have hall : s.data.toList.take s.size = s.data.toList := List.take_of_length_le (by rw [Array.length_toList]; exact Nat.le_refl _)
  unfold partsB
  refine ⟨?_, fun x hx => ?_, by rw [List.length_append]; simp⟩
  · rw [jn_snoc, ext_list, hall]
    by_cases hl : (splitTo s b s.size).1 = []
    · rw [if_pos hl, h1 hl, List.drop_zero]
    · rw [if_neg hl, h2 hl, List.take_append_drop]
  · rcases List.mem_append.1 hx with h | h
    · exact h3 x h
    · rw [List.mem_singleton.1 h, ext_list]
      exact no_has _ _ _ _ h4
theorem back_ok (s sep : ByteArray) (h1 : sep.size = 1) (hs : s.size ≤ 4000) : jB (partsB s (sep[0]'(by omega))) sep = true ∧ jS (partsB s (sep[0]'(by omega))) sep = s.data.toList := by
  obtain ⟨e1, e2, e3⟩ := parts_join s (sep[0]'(by omega))
  have hj : jB (partsB s (sep[0]'(by omega))) sep = true := j_good h1 e3 (fun k x hx => e2 x (List.mem_of_getElem? hx)) (by rw [e1, Array.length_toList]; exact hs)
  exact ⟨hj, by rw [jS_yes (by omega) hj, e1]⟩
theorem part_small (s : ByteArray) (b : UInt8) (hs : s.size ≤ 4000) : ∀ x, x ∈ partsB s b → x.size ≤ 4000000 := fun x hx => by
  have key : ∀ q k, (s.extract q k).size ≤ s.size := fun q k => by rw [ByteArray.size_extract]; omega
  have h3 : ∀ k, ∀ x, x ∈ (splitTo s b k).1 → k ≤ s.size → x.size ≤ s.size := by
    intro k
    induction k with
    | zero => intro x hx; rw [splitTo_z] at hx; cases hx
    | succ k ih =>
      intro x hx hk
      by_cases e : s[k] = b
      · rw [splitTo_hit s b k (by omega) e] at hx
        rcases List.mem_append.1 hx with h | h
        · exact ih x h (by omega)
        · rw [List.mem_singleton.1 h]; exact key _ _
      · rw [splitTo_miss s b k (by omega) e] at hx
        exact ih x hx (by omega)
  unfold partsB at hx
  rcases List.mem_append.1 hx with h | h
  · have := h3 _ x h (Nat.le_refl _); omega
  · rw [List.mem_singleton.1 h]; have := key (splitTo s b s.size).2 s.size; omega
end Go.Proofs.YtlbgmkengkgnfaaDoor
