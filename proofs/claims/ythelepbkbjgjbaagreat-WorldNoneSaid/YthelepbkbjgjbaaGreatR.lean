/-
  The abstract machine's answer for law29's function: one Boolean of the kernel.
-/
import Derived.Test.YthelepbkbjgjbaaGreatT
import Derived.Test.YthelepbkbjgjbaaGreatS8
set_option linter.unusedVariables false
set_option linter.unusedSimpArgs false
/-! ## The abstract machine's answer for law29's function: one Boolean of the kernel. -/
set_option maxRecDepth 100000
namespace Go.Proofs
open Go.Cx
theorem Tryz.run29 : (callWith Tryz.T1 (exec Tryz.T1 1000000) 4 [.agg [.opq 0, .opq 1, .opq 2, .opq 3, .opq 4, .opq 5, .opq 6, .opq 7, .opq 8, .opq 9, .opq 10, .opq 11, .opq 12, .opq 13, .opq 14, .opq 15, .opq 16, .opq 17]] St.empty).isTrue = 0 := by kernel_rfl
theorem Tryz.run29o : (callWith Tryz.T1 (exec Tryz.T1 1000000) 4 [.agg (opqs 18)] St.empty).isTrue = 0 := by
  have e : opqs 18 = [.opq 0, .opq 1, .opq 2, .opq 3, .opq 4, .opq 5, .opq 6, .opq 7, .opq 8, .opq 9, .opq 10, .opq 11, .opq 12, .opq 13, .opq 14, .opq 15, .opq 16, .opq 17] := rfl
  rw [e]
  exact Tryz.run29
theorem Tryz.calls29 {W : World} {q : Reach} {b : Nat} {v : Value} (hv : Value.okWide Tryz.prog W q b 74 v) : Calls Tryz.prog 4 #[v] W fun e W' => e = .returned (.bool true) ∧ RowKit.Below W.heap.size W W' :=
  calls_row (f := 4) (T := Tryz.T1) (m := 1000000) (n := 18) Tryz.mixes Tryz.T1_ok Tryz.run29o Tryz.underlying74 (by kernel_rfl) hv (enters_of Tryz.func4 (by kernel_rfl) rfl)
end Go.Proofs
