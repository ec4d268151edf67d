/-
  The closed facts of WorldNone's row: the types.
-/
import Derived.Test.YthelepbkbjgjbaaGreatS8
import Derived.Test.YthelepbkbjgjbaaGreatRows
set_option linter.unusedVariables false
set_option linter.unusedSimpArgs false
/-! ## The closed facts of the row worldNoneRow, the second part: the types. -/
set_option maxRecDepth 100000
set_option linter.unusedVariables false
namespace Go.Proofs.YthelepbkbjgjbaaGreat
open Go.Cx
theorem Wn.lo1 : (List.range Tryz.prog.types.size).all (rowFine Tryz.prog) = true := by kernel_rfl
theorem Wn.laidOut : laidOutB Tryz.prog = true := laidOut_of Wn.lo1 (by kernel_rfl) (by kernel_rfl)
end Go.Proofs.YthelepbkbjgjbaaGreat
