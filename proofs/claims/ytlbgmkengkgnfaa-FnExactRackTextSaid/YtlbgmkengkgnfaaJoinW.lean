/- Joining texts: the walks. -/
import Derived.Test.YtlbgmkengkgnfaaJoin
namespace Go.Proofs.Ytlbgmkengkgnfaa
set_option linter.unusedSimpArgs false
set_option linter.unusedVariables false
set_option maxRecDepth 20000
open Go.RowKit
theorem jadd1 (o : List UInt8) (sep : ByteArray) (h : sep.size = 1) (ho : o.length ≤ 8000000) (w : World) : (Op.stringOp .add ⟨o.toArray⟩ sep).run Try.prog w = .ok (.string ⟨(o ++ [sep[0]'(by omega)]).toArray⟩) w := by
  obtain ⟨c, rfl⟩ := Lib.one_byte sep h
  exact str_add o [c] (by omega) (by show 1 ≤ _; omega) w
theorem jadd2 (o : List UInt8) (x : ByteArray) (hx : x.size ≤ 8000000) (ho : o.length ≤ 8000001) (w : World) : (Op.stringOp .add ⟨o.toArray⟩ x).run Try.prog w = .ok (.string ⟨(o ++ x.data.toList).toArray⟩) w := by
  have := str_add o x.data.toList (by omega) (by rw [← size_list]; omega) w
  rw [str_eta] at this
  exact this
def RetStr (l : List UInt8) (b : Bool) (w : World) (e : Ending) (w' : World) : Prop := e = .returned (.tuple #[.string ⟨l.toArray⟩, .bool b]) ∧ Below w.heap.size w w'
theorem joins_any (l : List ByteArray) (sep : ByteArray) (g c : Nat) (h1 : sep.size = 1) (hc : l.length ≤ c) (hn : l.length ≤ 4000000) (hl : (jn l (sep[0]'(by omega))).length ≤ 4000) (w : World) (hg : g < w.heap.size) (hcell : ∀ j x, l[j]? = some x → w.cell? ⟨g, j, none⟩ = some (.string x)) :
    Calls Try.prog 23 #[.slice (some ⟨g, 0, none⟩) l.length c, .string sep] w fun e w' => e = .returned (.string ⟨(jn l (sep[0]'(by omega))).toArray⟩) ∧ Below w.heap.size w w' := by
  obtain ⟨b, rfl⟩ := Lib.one_byte sep h1
  have hj : jn l b = Lib.join (l.map fun x => x.data.toList) [b] := by unfold jn jl; rfl
  have hl2 : (jn l b).length ≤ 4000 := hl
  have := Try.strings_Join g 0 c l ⟨#[b]⟩ w (fun j x hx => by rw [Nat.zero_add]; exact hcell j x hx) hg (by omega) hc (by rw [hj] at hl2; show (Lib.join _ [b]).length ≤ _; omega)
  refine this.mono fun e w' ⟨he, hb⟩ => ⟨?_, hb⟩
  rw [he]
  show _ = Ending.returned (.string ⟨(jn l b).toArray⟩)
  rw [hj]
theorem lens_step (l : List ByteArray) (k : Nat) (x : ByteArray) (h : l[k]? = some x) : Lib.lens (jl (l.take (k + 1))) = Lib.lens (jl (l.take k)) + x.size := by
  unfold jl
  rw [List.map_take, List.map_take, Lib.lens_take_succ _ k x.data.toList (by simp [h]), size_list]
end Go.Proofs.Ytlbgmkengkgnfaa
