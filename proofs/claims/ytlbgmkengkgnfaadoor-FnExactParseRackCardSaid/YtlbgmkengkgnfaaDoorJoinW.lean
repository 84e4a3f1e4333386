/- Joining texts: the walks. -/
import Derived.Test.YtlbgmkengkgnfaaDoorJoin
namespace Go.Proofs.YtlbgmkengkgnfaaDoor
set_option linter.unusedSimpArgs false
set_option linter.unusedVariables false
set_option maxRecDepth 20000
open Go.RowKit
theorem jadd1 (o : List UInt8) (sep : ByteArray) (h : sep.size = 1) (ho : o.length ≤ 8000000) (w : World) : (Op.stringOp .add ⟨o.toArray⟩ sep).run Tryd.prog w = .ok (.string ⟨(o ++ [sep[0]'(by omega)]).toArray⟩) w := by
  obtain ⟨c, rfl⟩ := Lib.one_byte sep h
  exact str_add o [c] (by omega) (by show 1 ≤ _; omega) w
theorem jadd2 (o : List UInt8) (x : ByteArray) (hx : x.size ≤ 8000000) (ho : o.length ≤ 8000001) (w : World) : (Op.stringOp .add ⟨o.toArray⟩ x).run Tryd.prog w = .ok (.string ⟨(o ++ x.data.toList).toArray⟩) w := by
  have := str_add o x.data.toList (by omega) (by rw [← size_list]; omega) w
  rw [str_eta] at this
  exact this
def RetStr (l : List UInt8) (b : Bool) (w : World) (e : Ending) (w' : World) : Prop := e = .returned (.tuple #[.string ⟨l.toArray⟩, .bool b]) ∧ Below w.heap.size w w'
theorem lens_step (l : List ByteArray) (k : Nat) (x : ByteArray) (h : l[k]? = some x) : Lib.lens (jl (l.take (k + 1))) = Lib.lens (jl (l.take k)) + x.size := by
  unfold jl
  rw [List.map_take, List.map_take, Lib.lens_take_succ _ k x.data.toList (by simp [h]), size_list]
end Go.Proofs.YtlbgmkengkgnfaaDoor
