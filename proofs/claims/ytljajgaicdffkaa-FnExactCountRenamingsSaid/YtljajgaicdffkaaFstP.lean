/- First forms: plain laws for the walks. -/
import Derived.Test.YtljajgaicdffkaaNameL
import Derived.Test.YtljajgaicdffkaaCmp
namespace Go.Proofs.Ytljajgaicdffkaa
set_option linter.unusedSimpArgs false
set_option linter.unusedVariables false
set_option maxRecDepth 20000
theorem ren_rack {f s : Nat → Int} (hf : rackB f = true) (hs : isRen s) : rackB (renF f s) = true := by
  have hc := cellB_of_rack hf
  rw [rackB_iff] at hf ⊢
  intro i hi
  have h := (tubeB_iff f i).1 (hf i hi)
  rw [tubeB_iff]
  intro k hk
  have hb := hc (i * 4 + k) (by omega)
  refine ⟨hs.2.1 _ (by omega), fun h0 hp => ?_⟩
  have hb2 := hc (i * 4 + (k - 1)) (by omega)
  have h2 := (h k hk).2 h0
  unfold renF at hp ⊢
  have hx : 0 < f (i * 4 + k) := by
    rcases Int.lt_or_le 0 (f (i * 4 + k)) with h3 | h3
    · exact h3
    · exfalso
      have e : f (i * 4 + k) = 0 := by omega
      rw [e] at hp
      have := hs.1
      simp only [Int.toNat_zero] at hp
      omega
  intro e
  have e2 : s (f (i * 4 + (k - 1))).toNat = s 0 := by rw [e, hs.1]
  have := hs.2.2 _ _ (by omega) (by omega) e2
  exact h2 hx (by omega)
/-- The number of the first i tubes. -/
def keyP (F : Nat → Int) : Nat → Int
  | 0 => 0
  | i + 1 => keyP F i * 1296 + cod (tub F i)
theorem keyP_key (F : Nat → Int) : keyP F 6 = key F := by
  have e : keyP F 6 = (((((0 * 1296 + cod (tub F 0)) * 1296 + cod (tub F 1)) * 1296 + cod (tub F 2)) * 1296 + cod (tub F 3)) * 1296 + cod (tub F 4)) * 1296 + cod (tub F 5) := rfl
  rw [e, Int.zero_mul, Int.zero_add]
  rfl
theorem lex_key {F G : Nat → Int} (hF : cellB F) (hG : cellB G) : ∀ i, i ≤ 6 → (lexC F G (4 * i) < 0 ↔ keyP F i < keyP G i) ∧ (lexC F G (4 * i) = 0 ↔ keyP F i = keyP G i)
  | 0, _ => ⟨by simp [lexC, keyP], by simp [lexC, keyP]⟩
  | i + 1, h => by
    obtain ⟨h1, h2⟩ := lex_key hF hG i (by omega)
    have cF := tub_cell hF (i := i) (by omega)
    have cG := tub_cell hG (i := i) (by omega)
    have bF := cod_bd cF
    have bG := cod_bd cG
    have hc := lexC_cod cF cG
    show (lexC F G (4 * i + 4) < 0 ↔ keyP F i * 1296 + cod (tub F i) < keyP G i * 1296 + cod (tub G i)) ∧ (lexC F G (4 * i + 4) = 0 ↔ keyP F i * 1296 + cod (tub F i) = keyP G i * 1296 + cod (tub G i))
    by_cases h0 : lexC F G (4 * i) = 0
    · rw [lexC_shift h0 4, show (fun j => F (4 * i + j)) = tub F i from funext fun j => by unfold tub; rw [Nat.mul_comm], show (fun j => G (4 * i + j)) = tub G i from funext fun j => by unfold tub; rw [Nat.mul_comm]]
      have e := h2.1 h0
      constructor
      · rw [hc.1]; constructor <;> intro <;> omega
      · rw [hc.2]; constructor <;> intro <;> omega
    · rw [lexC_stop h0 4]
      have e : keyP F i ≠ keyP G i := fun e => h0 (h2.2 e)
      constructor
      · rw [h1]; constructor <;> intro <;> omega
      · constructor
        · intro h; exact absurd h h0
        · intro h; omega
theorem lex_key24 {F G : Nat → Int} (hF : cellB F) (hG : cellB G) : decide (lexC F G 24 < 0) = decide (key F < key G) := by
  have := (lex_key hF hG 6 (Nat.le_refl _)).1
  rw [keyP_key, keyP_key] at this
  rw [Bool.eq_iff_iff, decide_eq_true_iff, decide_eq_true_iff]
  exact this
theorem nm_at {n j : Nat} (hn : n < 120) (hj : j < 6) : fls 6 (nmL.map fnL) (n * 6 + j) = nmS n j := by
  rw [fls_at _ hj]
  unfold nmS
  rw [List.getD_eq_getElem?_getD, List.getD_eq_getElem?_getD, List.getElem?_map, List.getElem?_eq_getElem (by rw [nmL_len]; exact hn)]
  rfl
theorem nm_arr {F : Nat → Int} (hF : ∀ j, j < 120 * 6 → F j = fls 6 (nmL.map fnL) j) {n : Nat} (hn : n < 120) : arr 6 (fun j => F (n * 6 + j)) = arr 6 (nmS n) :=
  arr_congr fun j hj => (hF _ (by omega)).trans (nm_at hn hj)
theorem nm_ren {n : Nat} (hn : n < 120) : isRen (nmS n) := nmS_all.1 n hn
end Go.Proofs.Ytljajgaicdffkaa
