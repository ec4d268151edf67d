/-
  The closed facts of WorldNone's row, joined.
-/
import Derived.Test.YthelepbkbjgjbaaGreatCA
import Derived.Test.YthelepbkbjgjbaaGreatCB
import Derived.Test.YthelepbkbjgjbaaGreatCC
set_option linter.unusedVariables false
set_option linter.unusedSimpArgs false
/-! ## The closed facts of the row worldNoneRow, joined. -/
set_option maxRecDepth 100000
set_option linter.unusedVariables false
namespace Go.Proofs.YthelepbkbjgjbaaGreat
open Go.Cx
theorem Wn.t0 : (Rows.worldNoneRow.wf (OpenSpec.ofChange Rows.worldNoneSpec)) = true := by kernel_rfl
theorem Wn.t3 : (Tryz.f4.params.all (Tryz.prog.readableRec ·)) = true := by kernel_rfl
theorem Wn.t4 : (namedTie Tryz.prog Rows.worldNoneRow.named Rows.worldNoneSpec.vars) = true := by kernel_rfl
theorem Wn.t5 : ((Rows.worldNoneRow.stops == [])) = true := by kernel_rfl
theorem Wn.t6 : ((Tryz.prog.stops == [])) = true := by kernel_rfl
theorem Wn.t7 : ((Rows.worldNoneRow.knobs == [])) = true := by kernel_rfl
theorem Wn.t8 : ((Tryz.prog.stopKnobs == [])) = true := by kernel_rfl
theorem Wn.t13 : ((Rows.worldNoneRow.maps == (Tryz.f4.params.toList ++ Rows.worldNoneSpec.plain.varTypes Tryz.prog).any (Tryz.prog.mapsRec ·))) = true := by kernel_rfl
theorem Wn.t14 : ((Rows.worldNoneRow.ifaces == (Tryz.f4.params.toList ++ Rows.worldNoneSpec.plain.varTypes Tryz.prog).any (Tryz.prog.ifacesRec ·))) = true := by kernel_rfl
theorem Wn.t15 : ((Rows.worldNoneRow.mapsOut == Tryz.prog.mapsAmong Tryz.f4.resultTypes.toList)) = true := by kernel_rfl
theorem Wn.t16 : ((Rows.worldNoneRow.loops == (Tryz.f4.params.toList ++ Rows.worldNoneSpec.plain.varTypes Tryz.prog).any (Tryz.prog.loopsFrom ·))) = true := by kernel_rfl
theorem Wn.t17 : ((Rows.worldNoneRow.wideKeys == (Tryz.f4.params.toList ++ Rows.worldNoneSpec.plain.varTypes Tryz.prog ++ Tryz.f4.resultTypes.toList).any (Tryz.prog.wideKeysFrom ·))) = true := by kernel_rfl
theorem Wn.t18 : (Rows.worldNoneSpec.vars.all (Tryz.prog.varReadable ·)) = true := by kernel_rfl
theorem Wn.t19 : (Tryz.f4.resultTypes.all (fun t => Tryz.prog.readableRec t && decide (t < Tryz.prog.types.size))) = true := by kernel_rfl
theorem Wn.t20 : ((Rows.worldNoneRow.ifacesOut == Tryz.f4.resultTypes.toList.any (Tryz.prog.ifacesRec ·))) = true := by kernel_rfl
theorem Wn.t21 : ((Rows.worldNoneRow.loopsOut == Tryz.f4.resultTypes.toList.any (Tryz.prog.loopsFrom ·))) = true := by kernel_rfl
theorem Wn.t22 : ((Rows.worldNoneRow.plainKeys == Tryz.prog.plainKeys)) = true := by kernel_rfl
theorem Wn.t23 : (Rows.worldNoneRow.shortTexts.isNone) = true := by kernel_rfl
theorem Wn.t26 : ((Rows.worldNoneRow.lifted == Tryz.prog.liftsFinal)) = true := by kernel_rfl
theorem Wn.t27 : ((Tryz.prog.make == some Rows.worldNoneRow.make)) = true := by kernel_rfl
theorem Wn.t28 : ((Rows.worldNoneRow.kinds == (if Rows.worldNoneRow.domain.isEmpty then [] else Tryz.f4.params.toList.map fun t => match Tryz.prog.underlying t with | some (.int k) => some k | _ => none))) = true := by kernel_rfl
theorem Wn.t29 : ((Rows.worldNoneRow.pinned == Rows.worldNoneRow.pinnedBy)) = true := by kernel_rfl
theorem Wn.t30 : ((Rows.worldNoneRow.veiled == (Tryz.f4.params.toList ++ Rows.worldNoneSpec.plain.varTypes Tryz.prog ++ Tryz.f4.resultTypes.toList).any (Tryz.prog.veiledRec ·))) = true := by kernel_rfl
theorem Wn.t31 : (Rows.worldNoneRow.veiledFits Tryz.prog Tryz.f4.params.toList (Tryz.f4.params.toList ++ Rows.worldNoneSpec.plain.varTypes Tryz.prog ++ Tryz.f4.resultTypes.toList)) = true := by kernel_rfl
theorem Wn.t10 : (Rows.worldNoneRow.unfollowed == Tryz.prog.unfollowed 4) = true := by rw [Wn.loose]; rfl
theorem Wn.t11 : (Rows.worldNoneRow.recurses == Tryz.prog.recurses 4) = true := by rw [recurses_of Wn.loose]; rfl
theorem Wn.closed : joinedFacts Tryz.prog 4 Tryz.f4 Rows.worldNoneSpec Rows.worldNoneRow = true :=
  and_mk (and_mk (and_mk (and_mk (and_mk (and_mk (and_mk (and_mk (and_mk (and_mk (and_mk (and_mk (and_mk (and_mk (and_mk (and_mk (and_mk (and_mk (and_mk (and_mk (and_mk (and_mk (and_mk (and_mk (and_mk (and_mk (and_mk (and_mk (and_mk (and_mk (and_mk (Wn.t0) Wn.laidOut) Wn.t2) Wn.t3) Wn.t4) Wn.t5) Wn.t6) Wn.t7) Wn.t8) Wn.inPlace) Wn.t10) Wn.t11) Wn.named) Wn.t13) Wn.t14) Wn.t15) Wn.t16) Wn.t17) Wn.t18) Wn.t19) Wn.t20) Wn.t21) Wn.t22) Wn.t23) Wn.t24) Wn.t25) Wn.t26) Wn.t27) Wn.t28) Wn.t29) Wn.t30) Wn.t31
end Go.Proofs.YthelepbkbjgjbaaGreat
