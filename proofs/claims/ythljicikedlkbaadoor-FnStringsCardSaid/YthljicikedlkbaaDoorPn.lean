/- A decimal numeral and its number: plain law. -/
import Derived.Lib.Atoi
import Derived.Lib.AtoiAll
import Derived.Test.YthljicikedlkbaaDoorNumD
namespace Go.Proofs.YthljicikedlkbaaDoor
set_option linter.unusedSimpArgs false
set_option linter.unusedVariables false
set_option maxRecDepth 20000
open Go.RowKit
theorem dgt_val (m : Nat) (h : m < 10) : Lib.digitVal (dgt m) = some m := by
  have hc : m = 0 ∨ m = 1 ∨ m = 2 ∨ m = 3 ∨ m = 4 ∨ m = 5 ∨ m = 6 ∨ m = 7 ∨ m = 8 ∨ m = 9 := by omega
  unfold dgt
  rcases hc with rfl | rfl | rfl | rfl | rfl | rfl | rfl | rfl | rfl | rfl <;> rfl
theorem decFrom_snoc (b : UInt8) (d : Nat) (hd : Lib.digitVal b = some d) : ∀ (l : List UInt8) (acc n : Nat), Lib.decFrom acc l = some n → Lib.decFrom acc (l ++ [b]) = some (n * 10 + d)
  | [], acc, n, h => by
    simp only [Lib.decFrom, Option.some.injEq] at h
    subst h
    simp [Lib.decFrom, hd]
  | c :: r, acc, n, h => by
    rw [List.cons_append]
    unfold Lib.decFrom at h ⊢
    cases hc : Lib.digitVal c with
    | none => rw [hc] at h; cases h
    | some x =>
      rw [hc] at h
      exact decFrom_snoc b d hd r _ n h
theorem dec_val (u : Nat) : Lib.decFrom 0 (Lib.decDigits u) = some u := by
  induction u using Nat.strongRecOn with
  | _ u ih =>
    by_cases h : u < 10
    · rw [dec_small h]
      simp [Lib.decFrom, dgt_val u h]
    · rw [dec_big h, decFrom_snoc _ (u % 10) (dgt_val _ (Nat.mod_lt _ (by omega))) _ _ _ (ih (u / 10) (by omega))]
      congr 1
      omega
theorem dec_le (k : Nat) : ∀ u, u < 10 ^ (k + 1) → (Lib.decDigits u).length ≤ k + 1 := by
  induction k with
  | zero => intro u h; rw [dec_small (by simpa using h)]; exact Nat.le_refl _
  | succ k ih =>
    intro u h
    by_cases hs : u < 10
    · rw [dec_small hs]; simp
    · rw [dec_big hs, List.length_append]
      have := ih (u / 10) (by rw [Nat.pow_succ] at h; omega)
      simp; omega
theorem dec_pos (u : Nat) : 1 ≤ (Lib.decDigits u).length := by
  by_cases hs : u < 10
  · rw [dec_small hs]; simp
  · rw [dec_big hs, List.length_append]; simp
theorem dec_head (u : Nat) (j : Nat) (b : UInt8) (h : (Lib.decDigits u)[j]? = some b) : 48 ≤ b.toNat ∧ b.toNat ≤ 57 := by
  obtain ⟨d, hd⟩ := Lib.digit_of_decFrom _ _ _ (dec_val u) j b h
  have := Lib.digitVal_eq hd
  omega
theorem itoa_pos {n : Int} (h : 0 ≤ n) : Lib.itoa n = Lib.decDigits n.natAbs := by
  unfold Lib.itoa
  rw [if_neg (by omega), show n.toNat = n.natAbs by omega]
theorem itoa_negs {n : Int} (h : n < 0) : Lib.itoa n = 45 :: Lib.decDigits n.natAbs := by unfold Lib.itoa; rw [if_pos h]
theorem itoa_inj {n m : Int} (h : Lib.itoa n = Lib.itoa m) : n = m := by
  have key : ∀ (x y : Int), 0 ≤ x → y < 0 → Lib.itoa x ≠ Lib.itoa y := fun x y hx hy e => by
    rw [itoa_pos hx, itoa_negs hy] at e
    have := dec_head x.natAbs 0 45 (by rw [e]; rfl)
    exact absurd this.1 (by decide)
  by_cases h1 : 0 ≤ n
  · by_cases h2 : 0 ≤ m
    · rw [itoa_pos h1, itoa_pos h2] at h
      have e1 := dec_val n.natAbs
      rw [h, dec_val m.natAbs] at e1
      simp only [Option.some.injEq] at e1
      omega
    · exact absurd h (key n m h1 (by omega))
  · by_cases h2 : 0 ≤ m
    · exact absurd h.symm (key m n h2 (by omega))
    · rw [itoa_negs (by omega), itoa_negs (by omega)] at h
      simp only [List.cons.injEq, true_and] at h
      have e1 := dec_val n.natAbs
      rw [h, dec_val m.natAbs] at e1
      simp only [Option.some.injEq] at e1
      omega
theorem decFrom_ge : ∀ (l : List UInt8) (acc n : Nat), Lib.decFrom acc l = some n → acc ≤ n
  | [], acc, n, h => by simp only [Lib.decFrom, Option.some.injEq] at h; omega
  | c :: r, acc, n, h => by
    unfold Lib.decFrom at h
    cases hc : Lib.digitVal c with
    | none => rw [hc] at h; cases h
    | some x =>
      rw [hc] at h
      have := decFrom_ge r _ n h
      omega
theorem parse_dec : ∀ (l : List UInt8) (acc n : Nat), Lib.decFrom acc l = some n → n < 1000000000 → Lib.parseUint10 acc l = .ok n
  | [], acc, n, h, _ => by simp only [Lib.decFrom, Option.some.injEq] at h; subst h; rfl
  | c :: r, acc, n, h, hn => by
    unfold Lib.decFrom at h
    unfold Lib.parseUint10
    cases hc : Lib.digitVal c with
    | none => rw [hc] at h; cases h
    | some x =>
      rw [hc] at h
      have h1 := decFrom_ge r _ n h
      have h2 := Lib.digitVal_eq hc
      rw [if_pos ⟨h2.1, h2.2.1⟩, if_neg (by omega), if_neg (by omega), ← h2.2.2]
      exact parse_dec r _ n h hn
theorem atoi_itoa {n : Int} (h1 : -999999 ≤ n) (h2 : n ≤ 999999) : Lib.atoiAll (Lib.itoa n) = .ok n := by
  have hp : Lib.parseMag (Lib.decDigits n.natAbs) = .ok n.natAbs := by
    unfold Lib.parseMag
    rw [if_neg (fun e => by have := dec_pos n.natAbs; rw [e] at this; simp at this)]
    exact parse_dec _ _ _ (dec_val _) (by omega)
  by_cases hn : n < 0
  · rw [itoa_negs hn]
    unfold Lib.atoiAll
    simp only [show (45 : UInt8).toNat = 45 from rfl, or_true, if_true, hp]
    rw [if_neg (by simp), if_neg (by omega)]
    congr 1
    omega
  · rw [itoa_pos (by omega)]
    cases hd : Lib.decDigits n.natAbs with
    | nil => have := dec_pos n.natAbs; rw [hd] at this; simp at this
    | cons c r =>
      have hc := dec_head n.natAbs 0 c (by rw [hd]; rfl)
      rw [hd] at hp
      unfold Lib.atoiAll
      simp only
      rw [if_neg (by omega), hp]
      simp only
      rw [if_neg (by omega), if_neg (by omega), if_neg (by omega)]
      congr 1
      omega
theorem atoi_bd {l : List UInt8} {v : Int} (h : Lib.atoiAll l = .ok v) : -9223372036854775808 ≤ v ∧ v ≤ 9223372036854775807 := by
  unfold Lib.atoiAll at h
  split at h
  · cases h
  · simp only at h
    split at h
    · cases h
    · cases h
    · rename_i c r u hu
      split at h
      · cases h
      · split at h
        · cases h
        · injection h with h
          split at h <;> omega
/-- The text of a number. -/
def itoaS (n : Int) : ByteArray := ⟨(Lib.itoa n).toArray⟩
theorem itoaS_list (n : Int) : (itoaS n).data.toList = Lib.itoa n := rfl
theorem itoaS_inj {n m : Int} (h : itoaS n = itoaS m) : n = m := itoa_inj (congrArg (fun s => s.data.toList) h)
/-- What reading a number gives: the number, and whether there is one. -/
def Reads (s : ByteArray) (v : Int) (b : Bool) : Prop := (b = true ∧ (-999999 ≤ v ∧ v ≤ 999999) ∧ s = itoaS v) ∨ (b = false ∧ v = 0 ∧ ∀ n : Int, (-999999 ≤ n ∧ n ≤ 999999) → s ≠ itoaS n)
theorem Reads.same {s : ByteArray} {v v' : Int} {b b' : Bool} (h : Reads s v b) (h' : Reads s v' b') : v = v' ∧ b = b' := by
  rcases h with ⟨rfl, h1, h2⟩ | ⟨rfl, rfl, h2⟩
  · rcases h' with ⟨rfl, _, h4⟩ | ⟨rfl, rfl, h4⟩
    · exact ⟨itoaS_inj (h2.symm.trans h4), rfl⟩
    · exact absurd h2 (h4 v h1)
  · rcases h' with ⟨rfl, h3, h4⟩ | ⟨rfl, rfl, h4⟩
    · exact absurd h4 (h2 v' h3)
    · exact ⟨rfl, rfl⟩
end Go.Proofs.YthljicikedlkbaaDoor
