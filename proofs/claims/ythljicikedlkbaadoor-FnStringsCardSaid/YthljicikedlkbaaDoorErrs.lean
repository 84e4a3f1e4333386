/- strconv's two errors, out of what the row lists. -/
import Derived.Test.YthljicikedlkbaaDoorParse
import Derived.Test.YthljicikedlkbaaDoorDoor
namespace Go.Proofs.YthljicikedlkbaaDoor
set_option linter.unusedSimpArgs false
set_option linter.unusedVariables false
set_option maxRecDepth 20000
open Go.RowKit Go.ChangeShapes
theorem star : "*" ++ "errors.errorString" = "*errors.errorString" := by decide
theorem es_row (u : TypeId) (h : Tryd.prog.typeName? 3 u = some "*errors.errorString") : u = 110 :=
  typeName_ptr_named (nm := "errors.errorString") (by rw [star]; kernel_rfl) (by kernel_rfl) (by decide) u (by rw [star]; exact h)
theorem errs_of {r : List (String × DataW Unit)} {W : World} (h : laidMet Tryd.prog (("strconv.ErrRange", Rows.laid_strconv_ErrRange) :: ("strconv.ErrSyntax", Rows.laid_strconv_ErrSyntax) :: r) W) : Errs W := by
  obtain ⟨a0, s0, hv0, -, -, -⟩ := laid_sentinel h (g := 2) (ti := 63) (by kernel_rfl) (by kernel_rfl) Tryd.underlying63 es_row Tryd.underlying110 Tryd.underlying112 rfl rfl Tryd.underlying9 (by kernel_rfl) (by kernel_rfl)
  obtain ⟨a1, s1, hv1, -, -, -⟩ := laid_sentinel h.tail (g := 1) (ti := 63) (by kernel_rfl) (by kernel_rfl) Tryd.underlying63 es_row Tryd.underlying110 Tryd.underlying112 rfl rfl Tryd.underlying9 (by kernel_rfl) (by kernel_rfl)
  have h0 := World.var?_cell (show Tryd.prog.globalNamed "strconv.ErrRange" = some 2 by kernel_rfl) hv0 0
  have h1 := World.var?_cell (show Tryd.prog.globalNamed "strconv.ErrSyntax" = some 1 by kernel_rfl) hv1 0
  exact ⟨⟨_, _, by simpa using h1⟩, ⟨_, _, by simpa using h0⟩⟩
end Go.Proofs.YthljicikedlkbaaDoor
