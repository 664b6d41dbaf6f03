/-
  A part of the proof: rules and plain facts. No condition.
-/
import Derived.Test.YtehpkpfhgifkaaaGreatRows
import Derived.JoinedOf
import Derived.KernelRfl
set_option linter.all false
set_option linter.unusedVariables false
open Go Go.Proofs Go.Proofs.YtehpkpfhgifkaaaGreat
namespace Go.IL
/-! Facts about the program. -/
theorem jca : (Rows.sessionNobodyRow.inPlace == Program.inPlace Tryz.pinned.checked.prog 3) = true := by kernel_rfl
theorem jcb : (Rows.sessionNobodyRow.unfollowed == Program.unfollowed Tryz.pinned.checked.prog 3) = true := by kernel_rfl
end Go.IL
