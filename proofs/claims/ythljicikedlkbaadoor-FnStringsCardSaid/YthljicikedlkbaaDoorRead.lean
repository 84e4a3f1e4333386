/- Reading a number: the reference's. -/
import Derived.Test.YthljicikedlkbaaDoorPn
import Derived.Test.YthljicikedlkbaaDoorFmt
import Derived.Test.YthljicikedlkbaaDoorStrs
namespace Go.Proofs.YthljicikedlkbaaDoor
set_option linter.unusedSimpArgs false
set_option linter.unusedVariables false
set_option maxRecDepth 20000
open Go.RowKit
theorem byte_int3 {a b : UInt8} (h : (a.toNat : Int) = (b.toNat : Int)) : a = b := UInt8.toNat_inj.1 (by omega)
theorem reads_no {s : ByteArray} (h : ∀ n : Int, (-999999 ≤ n ∧ n ≤ 999999) → s ≠ itoaS n) : Reads s 0 false := .inr ⟨rfl, rfl, h⟩
theorem str_beq {l : List UInt8} {s : ByteArray} : (l == s.toList) = decide (s = ⟨l.toArray⟩) := by
  rw [ByteArray.toList_eq]
  by_cases h : s = ⟨l.toArray⟩
  · subst h; simp
  · rw [decide_eq_false h, beq_eq_false_iff_ne]
    intro e
    exact h (by obtain ⟨⟨x⟩⟩ := s; simp at e; rw [e])
/-- t is what stands behind the sign of the text s, and sg puts the sign ahead of a number. -/
def Strip (s t : ByteArray) (sg : Nat → Int) : Prop := ∀ n : Int, (-999999 ≤ n ∧ n ≤ 999999) → s = itoaS n → t.data.toList = Lib.decDigits n.natAbs ∧ sg n.natAbs = n
theorem strip_neg {s : ByteArray} (h : 1 < s.size) (h0 : s[0] = 45) : Strip s (s.extract 1 s.size) fun m => -(m : Int) := fun n hn e => by
  have h1 : s.data.toList[0]? = some 45 := by
    rw [Array.getElem?_toList, Array.getElem?_eq_getElem (by exact (show 0 < s.size by omega))]
    exact congrArg some h0
  have h2 : s.data.toList = Lib.itoa n := by rw [e]; rfl
  by_cases hp : n < 0
  · have h3 : (s.extract 1 s.size).data.toList = s.data.toList.drop 1 := Lib.extract_to_end s 1
    rw [h3, h2, itoa_negs hp]
    exact ⟨rfl, by simp only; omega⟩
  · rw [h2, itoa_pos (by omega)] at h1
    exact absurd (dec_head _ _ _ h1).1 (by decide)
theorem strip_pos {s : ByteArray} (h : ¬ (1 < s.size ∧ s.data.toList[0]? = some 45)) : Strip s s fun m => (m : Int) := fun n hn e => by
  have h2 : s.data.toList = Lib.itoa n := by rw [e]; rfl
  by_cases hp : n < 0
  · refine absurd ?_ h
    rw [h2, itoa_negs hp]
    refine ⟨?_, rfl⟩
    have : s.size = s.data.toList.length := by rw [Array.length_toList]; rfl
    rw [this, h2, itoa_negs hp, List.length_cons]
    have := dec_pos n.natAbs
    omega
  · rw [h2, itoa_pos (by omega)]
    exact ⟨rfl, by simp only; omega⟩
theorem no_len {s t : ByteArray} {sg : Nat → Int} (hS : Strip s t sg) (h : ¬ (1 ≤ t.size ∧ t.size ≤ 6)) : Reads s 0 false := reads_no fun n hn e => by
  have h1 := (hS n hn e).1
  have h2 : t.size = t.data.toList.length := by rw [Array.length_toList]; rfl
  rw [h1] at h2
  have := dec_pos n.natAbs
  have := dec_le 5 n.natAbs (by omega)
  omega
theorem no_digit {s t : ByteArray} {sg : Nat → Int} (hS : Strip s t sg) {k : Nat} (hk : k < t.size) (h : ¬ (48 ≤ t[k].toNat ∧ t[k].toNat ≤ 57)) : Reads s 0 false := reads_no fun n hn e => by
  have h1 := (hS n hn e).1
  have h2 : t.data.toList[k]? = some t[k] := by rw [Array.getElem?_toList, Array.getElem?_eq_getElem hk]; rfl
  rw [h1] at h2
  exact h (dec_head _ _ _ h2)
theorem read_end {s t : ByteArray} {sg : Nat → Int} (hS : Strip s t sg) (hsg : ∀ m : Nat, m < 1000000 → -999999 ≤ sg m ∧ sg m ≤ 999999) {m : Nat} (hm : Lib.decFrom 0 t.data.toList = some m) (hb : m < 1000000) :
    (s = itoaS (sg m) → Reads s (sg m) true) ∧ (¬ s = itoaS (sg m) → Reads s 0 false) := by
  refine ⟨fun e => .inl ⟨rfl, hsg m hb, e⟩, fun e => reads_no fun n hn e2 => ?_⟩
  obtain ⟨h1, h2⟩ := hS n hn e2
  rw [h1, dec_val] at hm
  simp only [Option.some.injEq] at hm
  subst hm
  rw [h2] at e
  exact e e2
theorem dec_bd {l : List UInt8} {m : Nat} (h : Lib.decFrom 0 l = some m) (hl : l.length ≤ 6) : m < 1000000 := by
  have h1 := Lib.decFrom_lt l 0 m h
  have h2 : 10 ^ l.length ≤ 10 ^ 6 := Nat.pow_le_pow_right (by omega) hl
  omega
theorem dec_next {t : ByteArray} {k m : Nat} (hk : k < t.size) (h : Lib.decFrom 0 (t.data.toList.take k) = some m) (h1 : 48 ≤ t[k].toNat) (h2 : t[k].toNat ≤ 57) : Lib.decFrom 0 (t.data.toList.take (k + 1)) = some (m * 10 + (t[k].toNat - 48)) := by
  rw [take_snoc t k hk]
  exact decFrom_snoc _ _ (by unfold Lib.digitVal; rw [if_pos ⟨h1, h2⟩]) _ _ _ h
theorem num_S (n : Int) (h0 : -999999 ≤ n) (h1 : n ≤ 999999) (w : World) : Calls Tryd.prog 36 #[.int .i64 n] w fun e w' => e = .returned (.string (itoaS n)) ∧ Below w.heap.size w w' := num_any n (by omega) (by omega) w
def RetRead (s : ByteArray) (w : World) (e : Ending) (w' : World) : Prop := ∃ v b, e = .returned (.tuple #[.int .i64 v, .bool b]) ∧ Reads s v b ∧ Below w.heap.size w w'
theorem read_any (s : ByteArray) (hs : s.size ≤ 4000000) (w : World) : Calls Tryd.prog 52 #[.string s] w (RetRead s w) := by
  have hbel := Below.refl w.heap.size w
  have HSP : Hid (∀ m : Nat, m < 1000000 → -999999 ≤ (fun m : Nat => (m : Int)) m ∧ (fun m : Nat => (m : Int)) m ≤ 999999) := fun m hm => by simp only; omega
  have HSN : Hid (∀ m : Nat, m < 1000000 → -999999 ≤ (fun m : Nat => -(m : Int)) m ∧ (fun m : Nat => -(m : Int)) m ≤ 999999) := fun m hm => by simp only; omega
  by_cases h1 : 1 < s.size
  · have h1' : (1 : Int) < (s.size : Int) := by omega
    by_cases h0 : s[0] = 45
    · obtain ⟨t, ht⟩ : ∃ t, t = s.extract 1 s.size := ⟨_, rfl⟩
      have HS0 : Hid (Strip s t fun m => -(m : Int)) := by rw [ht]; exact strip_neg h1 h0
      have HSG := HSN
      have hsl : ∀ w, (Instr.slice 9 (.string s) (some (.int .i64 1)) none none).run Tryd.prog w = .ok (.string t) w := fun w => by
        rw [run_slice_string_from_if (h := Tryd.underlying9), if_pos ⟨by omega, by omega⟩, ht]
        rfl
      have hlt2 : (t.size : Int) < (s.size : Int) := by rw [ht, ByteArray.size_extract]; omega
      have h0' : (s[0].toNat : Int) = 45 := by rw [h0]; rfl
      clear ht h0
      by_cases hin : 1 ≤ t.size ∧ t.size ≤ 6
      · have HB : Hid (decide ((1 : Int) ≤ (t.size : Int) ∧ (t.size : Int) ≤ 6) = true) := decide_eq_true (by omega)
        go_enter Tryd.func52, Tryd.ntmps52
        go_wp2_with first
          | (go_at_call 35; (with_reducible refine (inX _ _ _ _).mono ?_); rw [HB.out]; rintro e w' ⟨rfl, rfl⟩)
        go_loop [5, 6] (fun n i => ∃ k m : Nat, k ≤ t.size ∧ i = .int .i64 k ∧ n = .int .i64 m ∧ Lib.decFrom 0 (t.data.toList.take k) = some m) (fun _ i => t.size - (intOf i).toNat)
        case atStart => exact ⟨0, 0, Nat.zero_le _, rfl, rfl, rfl⟩
        case round =>
          obtain ⟨k, m, hk, rfl, rfl, hm⟩ := hrel
          have hmb : m < 1000000 := dec_bd hm (by rw [List.length_take]; omega)
          by_cases hlt : k < t.size
          · by_cases hd : 48 ≤ t[k].toNat ∧ t[k].toNat ≤ 57
            · have HN : Hid _ := dec_next hlt hm hd.1 hd.2
              have hd1 : (48 : Int) ≤ (t[k].toNat : Int) := by omega
              have hd2 : (t[k].toNat : Int) ≤ 57 := by omega
              clear hm hd
              go_wp2
              go_round
              case rel => exact ⟨k + 1, _, by omega, by go_num, by congr 1; omega, HN.out⟩
              case measure => simp [intOf]; omega
            · have HR : Hid (Reads s 0 false) := no_digit HS0.out hlt hd
              by_cases hd1 : 48 ≤ t[k].toNat
              · have hd1' : (48 : Int) ≤ (t[k].toNat : Int) := by omega
                have hd2 : (57 : Int) < (t[k].toNat : Int) := by omega
                clear hd hd1
                go_wp2
                go_ret2
                exact ⟨_, _, rfl, HR.out, hbel⟩
              · have hd1' : (t[k].toNat : Int) < (48 : Int) := by omega
                clear hd hd1
                go_wp2
                go_ret2
                exact ⟨_, _, rfl, HR.out, hbel⟩
          · obtain rfl : k = t.size := by omega
            rw [List.take_of_length_le (by rw [Array.length_toList]; exact Nat.le_refl _)] at hm
            have HE := read_end HS0.out HSG.out hm hmb
            obtain ⟨HE1, HE2⟩ := HE
            have HN : Hid _ := num_any (-(m : Int)) (by omega) (by omega)
            by_cases hE : s = itoaS (-(m : Int))
            · have HR : Hid (Reads s (-(m : Int)) true) := HE1 hE
              have hq : (Lib.itoa (-(m : Int)) == s.toList) = true := by rw [str_beq]; exact decide_eq_true hE
              clear HE1 HE2 hE hm
              go_wp2_with first
                | (go_at_call 36; (with_reducible refine (HN.out _).mono ?_); rintro e w1 ⟨rfl, hb1⟩; replace hbel := hbel.trans (hb1.mono hbel.size); clear hb1)
              go_ret2
              exact ⟨_, _, rfl, HR.out, hbel⟩
            · have HR : Hid (Reads s 0 false) := HE2 hE
              have hq : (Lib.itoa (-(m : Int)) == s.toList) = false := by rw [str_beq]; exact decide_eq_false hE
              clear HE1 HE2 hE hm
              go_wp2_with first
                | (go_at_call 36; (with_reducible refine (HN.out _).mono ?_); rintro e w1 ⟨rfl, hb1⟩; replace hbel := hbel.trans (hb1.mono hbel.size); clear hb1)
              go_ret2
              exact ⟨_, _, rfl, HR.out, hbel⟩
      · have HB : Hid (decide ((1 : Int) ≤ (t.size : Int) ∧ (t.size : Int) ≤ 6) = false) := decide_eq_false (by omega)
        have HR : Hid (Reads s 0 false) := no_len HS0.out hin
        go_enter Tryd.func52, Tryd.ntmps52
        go_wp2_with first
          | (go_at_call 35; (with_reducible refine (inX _ _ _ _).mono ?_); rw [HB.out]; rintro e w' ⟨rfl, rfl⟩)
        go_ret2
        exact ⟨_, _, rfl, HR.out, hbel⟩
    · have HS0 : Hid (Strip s s fun m => (m : Int)) := strip_pos fun hh => h0 (by have h2 := hh.2; rw [Array.getElem?_toList, Array.getElem?_eq_getElem (by exact (show 0 < s.size by omega))] at h2; exact Option.some.inj h2)
      have HSG := HSP
      have h0' : ¬ (s[0].toNat : Int) = 45 := fun e => h0 (byte_int3 e)
      clear h0
      by_cases hin : 1 ≤ s.size ∧ s.size ≤ 6
      · have HB : Hid (decide ((1 : Int) ≤ (s.size : Int) ∧ (s.size : Int) ≤ 6) = true) := decide_eq_true (by omega)
        go_enter Tryd.func52, Tryd.ntmps52
        go_wp2_with first
          | (go_at_call 35; (with_reducible refine (inX _ _ _ _).mono ?_); rw [HB.out]; rintro e w' ⟨rfl, rfl⟩)
        go_loop [5, 6] (fun n i => ∃ k m : Nat, k ≤ s.size ∧ i = .int .i64 k ∧ n = .int .i64 m ∧ Lib.decFrom 0 (s.data.toList.take k) = some m) (fun _ i => s.size - (intOf i).toNat)
        case atStart => exact ⟨0, 0, Nat.zero_le _, rfl, rfl, rfl⟩
        case round =>
          obtain ⟨k, m, hk, rfl, rfl, hm⟩ := hrel
          have hmb : m < 1000000 := dec_bd hm (by rw [List.length_take]; omega)
          by_cases hlt : k < s.size
          · by_cases hd : 48 ≤ s[k].toNat ∧ s[k].toNat ≤ 57
            · have HN : Hid _ := dec_next hlt hm hd.1 hd.2
              have hd1 : (48 : Int) ≤ (s[k].toNat : Int) := by omega
              have hd2 : (s[k].toNat : Int) ≤ 57 := by omega
              clear hm hd
              go_wp2
              go_round
              case rel => exact ⟨k + 1, _, by omega, by go_num, by congr 1; omega, HN.out⟩
              case measure => simp [intOf]; omega
            · have HR : Hid (Reads s 0 false) := no_digit HS0.out hlt hd
              by_cases hd1 : 48 ≤ s[k].toNat
              · have hd1' : (48 : Int) ≤ (s[k].toNat : Int) := by omega
                have hd2 : (57 : Int) < (s[k].toNat : Int) := by omega
                clear hd hd1
                go_wp2
                go_ret2
                exact ⟨_, _, rfl, HR.out, hbel⟩
              · have hd1' : (s[k].toNat : Int) < (48 : Int) := by omega
                clear hd hd1
                go_wp2
                go_ret2
                exact ⟨_, _, rfl, HR.out, hbel⟩
          · obtain rfl : k = s.size := by omega
            rw [List.take_of_length_le (by rw [Array.length_toList]; exact Nat.le_refl _)] at hm
            have HE := read_end HS0.out HSG.out hm hmb
            obtain ⟨HE1, HE2⟩ := HE
            have HN : Hid _ := num_any ((m : Int)) (by omega) (by omega)
            by_cases hE : s = itoaS ((m : Int))
            · have HR : Hid (Reads s ((m : Int)) true) := HE1 hE
              have hq : (Lib.itoa ((m : Int)) == s.toList) = true := by rw [str_beq]; exact decide_eq_true hE
              clear HE1 HE2 hE hm
              go_wp2_with first
                | (go_at_call 36; (with_reducible refine (HN.out _).mono ?_); rintro e w1 ⟨rfl, hb1⟩; replace hbel := hbel.trans (hb1.mono hbel.size); clear hb1)
              go_ret2
              exact ⟨_, _, rfl, HR.out, hbel⟩
            · have HR : Hid (Reads s 0 false) := HE2 hE
              have hq : (Lib.itoa ((m : Int)) == s.toList) = false := by rw [str_beq]; exact decide_eq_false hE
              clear HE1 HE2 hE hm
              go_wp2_with first
                | (go_at_call 36; (with_reducible refine (HN.out _).mono ?_); rintro e w1 ⟨rfl, hb1⟩; replace hbel := hbel.trans (hb1.mono hbel.size); clear hb1)
              go_ret2
              exact ⟨_, _, rfl, HR.out, hbel⟩
      · have HB : Hid (decide ((1 : Int) ≤ (s.size : Int) ∧ (s.size : Int) ≤ 6) = false) := decide_eq_false (by omega)
        have HR : Hid (Reads s 0 false) := no_len HS0.out hin
        go_enter Tryd.func52, Tryd.ntmps52
        go_wp2_with first
          | (go_at_call 35; (with_reducible refine (inX _ _ _ _).mono ?_); rw [HB.out]; rintro e w' ⟨rfl, rfl⟩)
        go_ret2
        exact ⟨_, _, rfl, HR.out, hbel⟩
  · have h1' : ¬ (1 : Int) < (s.size : Int) := by omega
    have HS0 : Hid (Strip s s fun m => (m : Int)) := strip_pos fun hh => h1 hh.1
    have HSG := HSP
    by_cases hin : 1 ≤ s.size ∧ s.size ≤ 6
    · have HB : Hid (decide ((1 : Int) ≤ (s.size : Int) ∧ (s.size : Int) ≤ 6) = true) := decide_eq_true (by omega)
      go_enter Tryd.func52, Tryd.ntmps52
      go_wp2_with first
        | (go_at_call 35; (with_reducible refine (inX _ _ _ _).mono ?_); rw [HB.out]; rintro e w' ⟨rfl, rfl⟩)
      go_loop [5, 6] (fun n i => ∃ k m : Nat, k ≤ s.size ∧ i = .int .i64 k ∧ n = .int .i64 m ∧ Lib.decFrom 0 (s.data.toList.take k) = some m) (fun _ i => s.size - (intOf i).toNat)
      case atStart => exact ⟨0, 0, Nat.zero_le _, rfl, rfl, rfl⟩
      case round =>
        obtain ⟨k, m, hk, rfl, rfl, hm⟩ := hrel
        have hmb : m < 1000000 := dec_bd hm (by rw [List.length_take]; omega)
        by_cases hlt : k < s.size
        · by_cases hd : 48 ≤ s[k].toNat ∧ s[k].toNat ≤ 57
          · have HN : Hid _ := dec_next hlt hm hd.1 hd.2
            have hd1 : (48 : Int) ≤ (s[k].toNat : Int) := by omega
            have hd2 : (s[k].toNat : Int) ≤ 57 := by omega
            clear hm hd
            go_wp2
            go_round
            case rel => exact ⟨k + 1, _, by omega, by go_num, by congr 1; omega, HN.out⟩
            case measure => simp [intOf]; omega
          · have HR : Hid (Reads s 0 false) := no_digit HS0.out hlt hd
            by_cases hd1 : 48 ≤ s[k].toNat
            · have hd1' : (48 : Int) ≤ (s[k].toNat : Int) := by omega
              have hd2 : (57 : Int) < (s[k].toNat : Int) := by omega
              clear hd hd1
              go_wp2
              go_ret2
              exact ⟨_, _, rfl, HR.out, hbel⟩
            · have hd1' : (s[k].toNat : Int) < (48 : Int) := by omega
              clear hd hd1
              go_wp2
              go_ret2
              exact ⟨_, _, rfl, HR.out, hbel⟩
        · obtain rfl : k = s.size := by omega
          rw [List.take_of_length_le (by rw [Array.length_toList]; exact Nat.le_refl _)] at hm
          have HE := read_end HS0.out HSG.out hm hmb
          obtain ⟨HE1, HE2⟩ := HE
          have HN : Hid _ := num_any ((m : Int)) (by omega) (by omega)
          by_cases hE : s = itoaS ((m : Int))
          · have HR : Hid (Reads s ((m : Int)) true) := HE1 hE
            have hq : (Lib.itoa ((m : Int)) == s.toList) = true := by rw [str_beq]; exact decide_eq_true hE
            clear HE1 HE2 hE hm
            go_wp2_with first
              | (go_at_call 36; (with_reducible refine (HN.out _).mono ?_); rintro e w1 ⟨rfl, hb1⟩; replace hbel := hbel.trans (hb1.mono hbel.size); clear hb1)
            go_ret2
            exact ⟨_, _, rfl, HR.out, hbel⟩
          · have HR : Hid (Reads s 0 false) := HE2 hE
            have hq : (Lib.itoa ((m : Int)) == s.toList) = false := by rw [str_beq]; exact decide_eq_false hE
            clear HE1 HE2 hE hm
            go_wp2_with first
              | (go_at_call 36; (with_reducible refine (HN.out _).mono ?_); rintro e w1 ⟨rfl, hb1⟩; replace hbel := hbel.trans (hb1.mono hbel.size); clear hb1)
            go_ret2
            exact ⟨_, _, rfl, HR.out, hbel⟩
    · have HB : Hid (decide ((1 : Int) ≤ (s.size : Int) ∧ (s.size : Int) ≤ 6) = false) := decide_eq_false (by omega)
      have HR : Hid (Reads s 0 false) := no_len HS0.out hin
      go_enter Tryd.func52, Tryd.ntmps52
      go_wp2_with first
        | (go_at_call 35; (with_reducible refine (inX _ _ _ _).mono ?_); rw [HB.out]; rintro e w' ⟨rfl, rfl⟩)
      go_ret2
      exact ⟨_, _, rfl, HR.out, hbel⟩
end Go.Proofs.YthljicikedlkbaaDoor
