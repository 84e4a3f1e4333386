/- A part (number 17) of the proof of the law FnRacks: what each of its sections proves stands in the section's own first remark. No conditions beside those that each theorem states. -/
import Derived.Lib.IndexLaws
import Derived.Lib.IndexBytes
import Derived.Shelf.Vars
import Derived.Test.YtlbgmkengkgnfaaGreatDoorMg14
import Derived.Test.YtlbgmkengkgnfaaGreatDoorMg16
section
/- Splitting a text: the program's and the reference's, and the law. -/
namespace Go.Proofs.YtlbgmkengkgnfaaGreatDoor
set_option linter.unusedSimpArgs false
set_option linter.unusedVariables false
set_option maxRecDepth 20000
open Go.RowKit
theorem splitTo_z (s : ByteArray) (b : UInt8) : splitTo s b 0 = ([], 0) := by unfold splitTo; rfl
theorem splitTo_no (s : ByteArray) (b : UInt8) : ∀ k, k ≤ s.size → (∀ j, j < k → s.data.toList[j]? ≠ some b) → splitTo s b k = ([], 0)
  | 0, _, _ => splitTo_z s b
  | k + 1, hk, h => by
    rw [splitTo_miss s b k (by omega) (fun e => h k (by omega) (by rw [at_get s k (by omega), e]))]
    exact splitTo_no s b k (by omega) fun j hj => h j (by omega)
theorem ext_all (s : ByteArray) : s.extract 0 s.size = s := by
  apply ByteArray.ext
  rw [← Array.toList_inj]
  have := Lib.extract_from_zero s s.size
  rw [this, List.take_of_length_le (by rw [Array.length_toList]; exact Nat.le_refl _)]
theorem ext_ext (s : ByteArray) (a q k : Nat) (h : a + k ≤ s.size) : (s.extract a s.size).extract q k = s.extract (a + q) (a + k) := by
  apply ByteArray.ext
  rw [← Array.toList_inj]
  simp only [ByteArray.data_extract, Array.toList_extract, List.extract_eq_take_drop]
  apply List.ext_getElem?
  intro j
  simp only [List.getElem?_take, List.getElem?_drop]
  have hs : s.data.toList.length = s.size := by rw [Array.length_toList]; rfl
  by_cases hj : j < k - q
  · rw [if_pos hj, if_pos (by have : s.size = s.data.size := rfl; omega), if_pos (by omega)]
    congr 1; omega
  · rw [if_neg hj, if_neg (by omega)]
theorem ext_get (s : ByteArray) (a k : Nat) (h : k < (s.extract a s.size).size) : (s.extract a s.size).data.toList[k]? = s.data.toList[a + k]? := by
  rw [Lib.extract_to_end, List.getElem?_drop]
theorem splitTo_on (s : ByteArray) (b : UInt8) (i : Nat) (h0 : splitTo s b (i + 1) = ([s.extract 0 i], i + 1)) (hi : i < s.size) : ∀ k, k ≤ (s.extract (i + 1) s.size).size →
    splitTo s b (i + 1 + k) = (s.extract 0 i :: (splitTo (s.extract (i + 1) s.size) b k).1, i + 1 + (splitTo (s.extract (i + 1) s.size) b k).2)
  | 0, _ => by rw [splitTo_z]; exact h0
  | k + 1, hk => by
    have ih := splitTo_on s b i h0 hi k (by omega)
    have hsz : (s.extract (i + 1) s.size).size = s.size - (i + 1) := by rw [ByteArray.size_extract]; omega
    have hg := ext_get s (i + 1) k (by omega)
    rw [at_get s (i + 1 + k) (by omega), at_get (s.extract (i + 1) s.size) k (by omega)] at hg
    simp only [Option.some.injEq] at hg
    by_cases e : s[i + 1 + k]'(by omega) = b
    · rw [show i + 1 + (k + 1) = i + 1 + k + 1 by omega, splitTo_hit s b (i + 1 + k) (by omega) e, splitTo_hit (s.extract (i + 1) s.size) b k (by omega) (by rw [hg]; exact e), ih]
      simp only [List.cons_append]
      rw [ext_ext s (i + 1) _ k (by omega)]
      congr 1
    · rw [show i + 1 + (k + 1) = i + 1 + k + 1 by omega, splitTo_miss s b (i + 1 + k) (by omega) e, splitTo_miss (s.extract (i + 1) s.size) b k (by omega) (by rw [hg]; exact e)]
      exact ih
theorem parts_split (b : UInt8) : ∀ (n : Nat) (s : ByteArray), s.size ≤ n → partsB s b = Lib.splitB ⟨#[b]⟩ 0 (Lib.countB s ⟨#[b]⟩) s := by
  intro n
  induction n with
  | zero =>
    intro s hs
    have h1 : Lib.indexB s ⟨#[b]⟩ = Lib.indexByte s.data.toList b := Lib.index_one _ _
    have hge := Lib.indexByte_ge s.data.toList b
    have h : Lib.indexB s ⟨#[b]⟩ = -1 := by
      rcases Lib.indexB_cases s ⟨#[b]⟩ with h | ⟨i, hi, hr⟩
      · exact h
      · have : (⟨#[b]⟩ : ByteArray).size = 1 := rfl
        omega
    rw [Lib.splitB_miss _ _ _ _ h]
    unfold partsB
    rw [show s.size = 0 by omega, splitTo_z]
    have := ext_all s
    rw [show s.size = 0 by omega] at this
    simp only [List.nil_append]
    rw [this]
  | succ n ih =>
    intro s hs
    have h1 : Lib.indexB s ⟨#[b]⟩ = Lib.indexByte s.data.toList b := Lib.index_one _ _
    rcases Lib.indexB_cases s ⟨#[b]⟩ with h | ⟨i, hi, hr⟩
    · rw [Lib.splitB_miss _ _ _ _ h]
      rw [h1] at h
      unfold partsB
      rw [splitTo_no s b s.size (Nat.le_refl _) fun j _ => Lib.indexByte_none h j]
      simp only [List.nil_append]
      rw [ext_all]
    · have hz : (⟨#[b]⟩ : ByteArray).size = 1 := rfl
      rw [hz] at hr
      have hc := Lib.countB_hit s ⟨#[b]⟩ i (by rw [hz]; omega) hi
      rw [hc, Nat.add_comm 1, Lib.splitB_hit _ _ _ _ _ hi, hz, ← ih (s.extract (i + 1) s.size) (by rw [ByteArray.size_extract]; omega)]
      rw [h1] at hi
      obtain ⟨h2, h3⟩ := Lib.indexByte_some hi
      have e0 := splitTo_no s b i (by omega) h3
      have e1 := splitTo_hit s b i (by omega) (by rw [at_get s i (by omega)] at h2; exact Option.some.inj h2)
      rw [e0] at e1
      have hsz : (s.extract (i + 1) s.size).size = s.size - (i + 1) := by rw [ByteArray.size_extract]; omega
      have e2 := splitTo_on s b i e1 (by omega) (s.extract (i + 1) s.size).size (Nat.le_refl _)
      rw [hsz, show i + 1 + (s.size - (i + 1)) = s.size by omega] at e2
      unfold partsB
      rw [e2, hsz]
      simp only [Nat.add_zero, List.cons_append]
      congr 2
      have hb := splitTo_bd (s.extract (i + 1) s.size) b (s.size - (i + 1))
      rw [ext_ext s (i + 1) _ _ (by omega), show i + 1 + (s.size - (i + 1)) = s.size by omega]
theorem parts_len (s : ByteArray) (b : UInt8) : (partsB s b).length ≤ s.size + 1 := by
  unfold partsB
  have := splitTo_bd s b s.size
  rw [List.length_append]
  simp
  omega
/-- Whether the text can be split, and the parts. -/
def spB (s sep : ByteArray) : Bool := decide (sep.size = 1 ∧ s.size ≤ 4000)
def spL (s sep : ByteArray) : List ByteArray := if h : sep.size = 1 ∧ s.size ≤ 4000 then partsB s (sep[0]'(by omega)) else []
theorem sp_no {s sep : ByteArray} (h : ¬ (sep.size = 1 ∧ s.size ≤ 4000)) : spB s sep = false ∧ spL s sep = [] := ⟨decide_eq_false h, dif_neg h⟩
theorem sp_yes {s sep : ByteArray} (h : sep.size = 1 ∧ s.size ≤ 4000) : spB s sep = true ∧ spL s sep = partsB s (sep[0]'(by omega)) := ⟨decide_eq_true h, dif_pos h⟩
theorem spL_len (s sep : ByteArray) : (spL s sep).length ≤ 4001 := by
  by_cases h : sep.size = 1 ∧ s.size ≤ 4000
  · rw [(sp_yes h).2]; have := parts_len s (sep[0]'(by omega)); omega
  · rw [(sp_no h).2]; simp
attribute [irreducible] spB spL
def RetSt (w : World) (l : List ByteArray) (b : Bool) (e : Ending) (w' : World) : Prop := ∃ v, e = .returned (.tuple #[v, .bool b]) ∧ St w' w.heap.size v l ∧ Below w.heap.size w w'
theorem one_str {sep : ByteArray} (h : sep.size = 1) : sep = ⟨#[sep[0]'(by omega)]⟩ := by
  obtain ⟨c, rfl⟩ := Lib.one_byte sep h
  rfl
def MaxS (w : World) : Prop := ∃ m, w.cell? ⟨0, 0, none⟩ = some (.int .i64 m)
theorem MaxS.keep {w w' : World} (h : MaxS w) (hb : Below w.heap.size w w') : MaxS w' := by
  obtain ⟨m, hm⟩ := h
  have hlt : 0 < w.heap.size := by
    by_cases hb : 0 < w.heap.size
    · exact hb
    · simp [World.cell?, Array.getElem?_eq_none (Nat.le_of_not_lt hb)] at hm
  exact ⟨m, (hb.cell (p := ⟨0, 0, none⟩) hlt).trans hm⟩
theorem maxS_of {w : World} (h : w.ShapedOpen Tryz.prog) : MaxS w :=
  cell_of_shapedOpen_int (g := 0) (t := 3) (zero := #[.int .i64 0]) h (of_decide_eq_true (by kernel_rfl)) (by kernel_rfl) rfl (by kernel_rfl) (by kernel_rfl) Tryz.underlying3
theorem splits_any (s sep : ByteArray) (hs : s.size ≤ 4000000) (h1 : sep.size = 1) (w : World) (hm : MaxS w) :
    Calls Tryz.prog 74 #[.string s, .string sep] w fun e w' => ∃ v, e = .returned v ∧ St w' w.heap.size v (partsB s (sep[0]'(by omega))) ∧ Below w.heap.size w w' := by
  obtain ⟨m, hm⟩ := hm
  refine (Tryz.strings_Split s sep m w (by omega) hm (by omega)).mono fun e w' ⟨he, hw⟩ => ?_
  have hp := parts_split (sep[0]'(by omega)) s.size s (Nat.le_refl _)
  rw [← one_str h1] at hp
  have hl := Lib.splitB_all sep (by omega) 0 _ s rfl
  refine ⟨_, he, ?_, ?_⟩
  · rw [hw, hp, ← hl]
    exact St.made (Nat.le_refl _)
  · rw [hw]; exact (Below.refl _ _).alloc (Nat.le_refl _) _
end Go.Proofs.YtlbgmkengkgnfaaGreatDoor
end
