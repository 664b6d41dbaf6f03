/-
  A part of the proof: rules and plain facts. No condition.
-/
import Derived.Test.YtehpkpfhgifkaaaGreatRows
import Derived.JoinedOf
import Derived.KernelRfl
set_option linter.all false
set_option linter.unusedVariables false
open Go Go.Proofs Go.Proofs.YtehpkpfhgifkaaaGreat
namespace Go.IL
/-! Facts about the program. -/
theorem jcw : Rows.sessionNobodyRow.wf (OpenSpec.ofChange Rows.sessionNobodySpec) = true := by kernel_rfl
theorem jce : (mapsRowed Tryz.pinned.checked.prog &&
  Tryz.f3.params.all (Tryz.pinned.checked.prog.readableRec ·) && namedTie Tryz.pinned.checked.prog Rows.sessionNobodyRow.named Rows.sessionNobodySpec.vars &&
  (Rows.sessionNobodyRow.stops == []) && (Tryz.pinned.checked.prog.stops == []) && (Rows.sessionNobodyRow.knobs == []) && (Tryz.pinned.checked.prog.stopKnobs == [])) = true := by kernel_rfl
theorem jcf : (
  (Rows.sessionNobodyRow.maps == (Tryz.f3.params.toList ++ Rows.sessionNobodySpec.plain.varTypes Tryz.pinned.checked.prog).any (Tryz.pinned.checked.prog.mapsRec ·)) && (Rows.sessionNobodyRow.ifaces == (Tryz.f3.params.toList ++ Rows.sessionNobodySpec.plain.varTypes Tryz.pinned.checked.prog).any (Tryz.pinned.checked.prog.ifacesRec ·)) && (Rows.sessionNobodyRow.mapsOut == Tryz.pinned.checked.prog.mapsAmong Tryz.f3.resultTypes.toList) &&
  (Rows.sessionNobodyRow.loops == (Tryz.f3.params.toList ++ Rows.sessionNobodySpec.plain.varTypes Tryz.pinned.checked.prog).any (Tryz.pinned.checked.prog.loopsFrom ·)) && (Rows.sessionNobodyRow.wideKeys == (Tryz.f3.params.toList ++ Rows.sessionNobodySpec.plain.varTypes Tryz.pinned.checked.prog ++ Tryz.f3.resultTypes.toList).any (Tryz.pinned.checked.prog.wideKeysFrom ·))) = true := by kernel_rfl
theorem jcg : (
  Rows.sessionNobodySpec.vars.all (Tryz.pinned.checked.prog.varReadable ·) && Tryz.f3.resultTypes.all (fun t => Tryz.pinned.checked.prog.readableRec t && decide (t < Tryz.pinned.checked.prog.types.size)) && (Rows.sessionNobodyRow.ifacesOut == Tryz.f3.resultTypes.toList.any (Tryz.pinned.checked.prog.ifacesRec ·)) && (Rows.sessionNobodyRow.loopsOut == Tryz.f3.resultTypes.toList.any (Tryz.pinned.checked.prog.loopsFrom ·)) && (Rows.sessionNobodyRow.plainKeys == Tryz.pinned.checked.prog.plainKeys) && Rows.sessionNobodyRow.shortTexts.isNone && Tryz.pinned.checked.prog.stopsHeard && Tryz.pinned.checked.prog.mayEnter && (Rows.sessionNobodyRow.lifted == Tryz.pinned.checked.prog.liftsFinal) && (Tryz.pinned.checked.prog.make == some Rows.sessionNobodyRow.make) && (Rows.sessionNobodyRow.kinds == []) && (Rows.sessionNobodyRow.pinned == Rows.sessionNobodyRow.pinnedBy)) = true := by kernel_rfl
theorem jch : (
  (Rows.sessionNobodyRow.veiled == (Tryz.f3.params.toList ++ Rows.sessionNobodySpec.plain.varTypes Tryz.pinned.checked.prog ++ Tryz.f3.resultTypes.toList).any (Tryz.pinned.checked.prog.veiledRec ·)) && Rows.sessionNobodyRow.veiledFits Tryz.pinned.checked.prog Tryz.f3.params.toList (Tryz.f3.params.toList ++ Rows.sessionNobodySpec.plain.varTypes Tryz.pinned.checked.prog ++ Tryz.f3.resultTypes.toList)) = true := by kernel_rfl
end Go.IL
