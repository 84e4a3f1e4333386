/- A text with its checksum, of which one byte is another: plain law. -/
import Derived.Test.YthljicikedlkbaaDoorVerif
import Derived.Test.YthljicikedlkbaaDoorPn
namespace Go.Proofs.YthljicikedlkbaaDoor
set_option linter.unusedSimpArgs false
set_option linter.unusedVariables false
set_option maxRecDepth 20000
open Go.RowKit
theorem step_inj {h h' : Int} {c : UInt8} (h1 : 0 ≤ h ∧ h < 999979) (h2 : 0 ≤ h' ∧ h' < 999979) (hne : h ≠ h') : sumStep h c ≠ sumStep h' c := by
  unfold sumStep
  have hc := c.toNat_lt
  omega
theorem step_ne {h : Int} {c c' : UInt8} (h1 : 0 ≤ h ∧ h < 999979) (hne : c ≠ c') : sumStep h c ≠ sumStep h c' := by
  unfold sumStep
  have hc := c.toNat_lt
  have hc' := c'.toNat_lt
  have : c.toNat ≠ c'.toNat := fun e => hne (UInt8.toNat_inj.1 e)
  omega
theorem step_bd (h : Int) (c : UInt8) : 0 ≤ sumStep h c ∧ sumStep h c < 999979 := by unfold sumStep; omega
theorem fold_inj (q : List UInt8) : ∀ {h h' : Int}, (0 ≤ h ∧ h < 999979) → (0 ≤ h' ∧ h' < 999979) → h ≠ h' → q.foldl sumStep h ≠ q.foldl sumStep h' := by
  induction q with
  | nil => intro h h' _ _ hne; exact hne
  | cons c q ih => intro h h' h1 h2 hne; exact ih (step_bd _ _) (step_bd _ _) (step_inj h1 h2 hne)
/-- Two texts of one length that are alike but at one place. -/
theorem sum_ne {l m : List UInt8} {k : Nat} (hk : k < l.length) (hl : l.length = m.length) (hne : l[k]? ≠ m[k]?) (hs : ∀ j, j ≠ k → l[j]? = m[j]?) : sumOf l ≠ sumOf m := by
  have hm : k < m.length := by omega
  have e1 : l = l.take k ++ l[k] :: l.drop (k + 1) := by simp
  have e2 : m = m.take k ++ m[k] :: m.drop (k + 1) := by simp
  have e3 : l.take k = m.take k := by
    apply List.ext_getElem?
    intro j
    rw [List.getElem?_take, List.getElem?_take]
    by_cases h : j < k
    · rw [if_pos h, if_pos h, hs j (by omega)]
    · rw [if_neg h, if_neg h]
  have e4 : l.drop (k + 1) = m.drop (k + 1) := by
    apply List.ext_getElem?
    intro j
    rw [List.getElem?_drop, List.getElem?_drop, hs _ (by omega)]
  have e5 : l[k] ≠ m[k] := fun e => hne (by rw [List.getElem?_eq_getElem hk, List.getElem?_eq_getElem hm, e])
  rw [e1, e2, e3, e4]
  unfold sumOf
  rw [List.foldl_append, List.foldl_append, List.foldl_cons, List.foldl_cons]
  have hb := sumFold_bd (m.take k) 7 (by omega)
  exact fold_inj _ (step_bd _ _) (step_bd _ _) (step_ne hb e5)
def dgs (x : ByteArray) : List UInt8 := Lib.itoa (sumOf x.data.toList)
theorem dgs_no (x : ByteArray) (j : Nat) (b : UInt8) (h : (dgs x)[j]? = some b) : b ≠ 35 := by
  unfold dgs at h
  have hb := sumOf_bd x.data.toList
  rw [itoa_pos hb.1] at h
  have := dec_head _ _ _ h
  intro e
  subst e
  exact absurd this.1 (by decide)
theorem no35 {x : ByteArray} (h : hasB x.data.toList 35 = false) (j : Nat) : x.data.toList[j]? ≠ some 35 := fun e => by
  unfold hasB at h
  rw [Bool.eq_false_iff] at h
  exact h (List.contains_iff_mem.2 (List.mem_of_getElem? e))
theorem seal_split (x : ByteArray) : sealL x = x.data.toList ++ 35 :: dgs x := by
  unfold sealL dgs
  simp
theorem seal_lt {x : ByteArray} {j : Nat} (h : j < x.size) : (sealL x)[j]? = x.data.toList[j]? := by
  rw [seal_split, List.getElem?_append_left (by rw [← size_list]; exact h)]
theorem seal_at (x : ByteArray) : (sealL x)[x.size]? = some 35 := by
  rw [seal_split, List.getElem?_append_right (by rw [← size_list]; exact Nat.le_refl _), ← size_list, Nat.sub_self]
  rfl
theorem seal_gt {x : ByteArray} {j : Nat} (h : x.size < j) : (sealL x)[j]? = (dgs x)[j - x.size - 1]? := by
  rw [seal_split, List.getElem?_append_right (by rw [← size_list]; omega), ← size_list]
  obtain ⟨i, hi⟩ : ∃ i, j - x.size = i + 1 := ⟨j - x.size - 1, by omega⟩
  rw [hi]
  simp
theorem seal_length (x : ByteArray) : (sealL x).length = x.size + 1 + (dgs x).length := by
  rw [seal_split, List.length_append, List.length_cons, ← size_list]; omega
theorem seal_other {x t : ByteArray} (hx : hasB x.data.toList 35 = false) (ht : hasB t.data.toList 35 = false) {k : Nat} (hlen : (sealL x).length = (sealL t).length)
    (hne : (sealL x)[k]? ≠ (sealL t)[k]?) (hs : ∀ j, j ≠ k → (sealL x)[j]? = (sealL t)[j]?) : False := by
  have hLx := seal_length x
  have hLt := seal_length t
  rcases Nat.lt_trichotomy t.size x.size with h | h | h
  · have h1 : k = t.size := by
      by_cases e : k = t.size
      · exact e
      · have := hs t.size (fun e2 => e e2.symm)
        rw [seal_at, seal_lt h] at this
        exact absurd this (no35 hx _)
    have h2 := hs x.size (by omega)
    rw [seal_at, seal_gt h] at h2
    exact absurd rfl (dgs_no t _ _ h2.symm)
  · have hsz : x.data.toList.length = t.data.toList.length := by rw [← size_list, ← size_list, h]
    by_cases hk : k < x.size
    · have hsum := sum_ne (l := x.data.toList) (m := t.data.toList) (k := k) (by rw [← size_list]; exact hk) hsz
        (by rw [seal_lt hk, seal_lt (by omega)] at hne; exact hne)
        (fun j hj => by
          by_cases hjx : j < x.size
          · have := hs j hj
            rw [seal_lt hjx, seal_lt (by omega)] at this
            exact this
          · rw [List.getElem?_eq_none (by rw [← size_list]; omega), List.getElem?_eq_none (by rw [← size_list]; omega)])
      refine hsum (itoa_inj ?_)
      show dgs x = dgs t
      apply List.ext_getElem?
      intro j
      have := hs (x.size + 1 + j) (by omega)
      rw [seal_gt (by omega), seal_gt (by omega)] at this
      rw [show x.size + 1 + j - x.size - 1 = j by omega, show x.size + 1 + j - t.size - 1 = j by omega] at this
      exact this
    · have hxt : x.data.toList = t.data.toList := by
        apply List.ext_getElem?
        intro j
        by_cases hj : j < x.size
        · have := hs j (by omega)
          rw [seal_lt hj, seal_lt (by omega)] at this
          exact this
        · rw [List.getElem?_eq_none (by rw [← size_list]; omega), List.getElem?_eq_none (by rw [← size_list]; omega)]
      refine hne ?_
      rw [seal_split, seal_split]
      unfold dgs
      rw [hxt]
  · have h1 : k = x.size := by
      by_cases e : k = x.size
      · exact e
      · have := hs x.size (fun e2 => e e2.symm)
        rw [seal_at, seal_lt h] at this
        exact absurd this.symm (no35 ht _)
    have h2 := hs t.size (by omega)
    rw [seal_at, seal_gt h] at h2
    exact absurd rfl (dgs_no x _ _ h2)
/-- A sealed text of which one byte is another is none. -/
theorem changed_bad {x y : ByteArray} (hx : hasB x.data.toList 35 = false) {k : Nat} (hlen : (sealL x).length = y.size) (hne : (sealL x)[k]? ≠ y.data.toList[k]?) (hs : ∀ j, j ≠ k → (sealL x)[j]? = y.data.toList[j]?) : vfB y = false := by
  cases h : vfB y with
  | false => rfl
  | true =>
    exfalso
    unfold vfB at h
    rw [Bool.and_eq_true] at h
    have e : (⟨(sealL (cutH y 35)).toArray⟩ : ByteArray) = y := of_decide_eq_true h.2
    have e2 : sealL (cutH y 35) = y.data.toList := congrArg (fun z : ByteArray => z.data.toList) e
    have e3 : (sealL (cutH y 35)).length = y.size := by rw [e2, size_list]
    exact seal_other hx (cutH_has y 35) (by rw [hlen, e3]) (by rw [e2]; exact hne) (by rw [e2]; exact hs)
/-- A sealed text gives back the text. -/
theorem seal_back {x : ByteArray} (h : apB x = true) : vfB ⟨(sealL x).toArray⟩ = true ∧ vfS ⟨(sealL x).toArray⟩ = x ∧ hasB x.data.toList 35 = false ∧ (sealL x).length ≤ 4000 := by
  have h1 : ¬ 4000 < x.size := fun e => by rw [ap_long e] at h; cases h
  have h2 : hasB x.data.toList 35 = false := by
    cases e : hasB x.data.toList 35 with
    | false => rfl
    | true => rw [ap_has e] at h; cases h
  have h3 : ¬ 4000 < (sealL x).length := fun e => by rw [ap_big e] at h; cases h
  have hc : cutH ⟨(sealL x).toArray⟩ 35 = x := by
    have hix : Lib.indexByte (sealL x) 35 = (x.size : Int) := by
      have hge := Lib.indexByte_ge (sealL x) 35
      by_cases hm : Lib.indexByte (sealL x) 35 = -1
      · exact absurd (seal_at x) (Lib.indexByte_none hm _)
      · obtain ⟨i, hi⟩ : ∃ i : Nat, Lib.indexByte (sealL x) 35 = i := ⟨(Lib.indexByte (sealL x) 35).toNat, by omega⟩
        obtain ⟨a1, a2⟩ := Lib.indexByte_some hi
        rw [hi]
        rcases Nat.lt_trichotomy i x.size with hlt | heq | hgt
        · rw [seal_lt hlt] at a1
          exact absurd a1 (no35 h2 _)
        · rw [heq]
        · exact absurd (seal_at x) (a2 _ hgt)
    unfold cutH Lib.cut
    rw [Lib.index_one]
    have hix2 : Lib.indexByte (⟨(sealL x).toArray⟩ : ByteArray).data.toList 35 = (x.size : Int) := hix
    rw [hix2, if_pos (by omega), Int.toNat_natCast]
    show (⟨((sealL x).take x.size).toArray⟩ : ByteArray) = x
    rw [seal_split, List.take_left' (by rw [size_list]), str_eta]
  have hv : vfB ⟨(sealL x).toArray⟩ = true := by
    refine vf_ok ?_ (by rw [hc])
    show (sealL x).toArray.size ≤ 4000
    simp
    omega
  exact ⟨hv, by rw [vfS_yes hv, hc], h2, by omega⟩
end Go.Proofs.YthljicikedlkbaaDoor
