/-
  The closed facts of WorldNone's row: the third part.
-/
import Derived.Test.YthelepbkbjgjbaaGreatS8
import Derived.Test.YthelepbkbjgjbaaGreatRows
set_option linter.unusedVariables false
set_option linter.unusedSimpArgs false
/-! ## The closed facts of the row worldNoneRow, the third part. -/
set_option maxRecDepth 100000
set_option linter.unusedVariables false
namespace Go.Proofs.YthelepbkbjgjbaaGreat
open Go.Cx
theorem Wn.t2 : (mapsRowed Tryz.prog) = true := by kernel_rfl
theorem Wn.t24 : (Tryz.prog.stopsHeard) = true := by kernel_rfl
theorem Wn.t25 : (Tryz.prog.mayEnter) = true := by kernel_rfl
end Go.Proofs.YthelepbkbjgjbaaGreat
