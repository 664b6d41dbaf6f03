/-
  A part of the proof: rules and plain facts. No condition.
-/
import Derived.Test.YtehpkpfhgifkaaaGreatRows
import Derived.JoinedOf
import Derived.KernelRfl
set_option linter.all false
set_option linter.unusedVariables false
open Go Go.Proofs Go.Proofs.YtehpkpfhgifkaaaGreat
namespace Go.IL
/-! Facts about the program. -/
theorem jcc : (Rows.sessionNobodyRow.recurses == Program.recurses Tryz.pinned.checked.prog 3) = true := by kernel_rfl
theorem jcd : (Rows.sessionNobodyRow.named == Program.varsNamed Tryz.pinned.checked.prog 3) = true := by kernel_rfl
end Go.IL
