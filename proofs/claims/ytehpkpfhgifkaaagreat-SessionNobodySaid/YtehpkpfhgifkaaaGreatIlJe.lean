/-
  A part of the proof: rules and plain facts. No condition.
-/
import Derived.Test.YtehpkpfhgifkaaaGreatRows
import Derived.JoinedOf
import Derived.KernelRfl
set_option linter.all false
set_option linter.unusedVariables false
open Go Go.Proofs Go.Proofs.YtehpkpfhgifkaaaGreat
namespace Go.IL
/-! How the program is laid out. -/
theorem jlo : laidOutB Tryz.pinned.checked.prog = true := by kernel_rfl
end Go.IL
