/-
  A part of the proof: rules and plain facts. No condition.
-/
import Derived.Test.YtnokcmkfkfeaiaaGreatProg
import Derived.KernelRfl
import Derived.Test.YtnokcmkfkfeaiaaGreatIlA25D
import Derived.Test.YtnokcmkfkfeaiaaGreatIlA25C3
set_option linter.all false
set_option linter.unusedSimpArgs false
set_option linter.unusedVariables false
set_option maxRecDepth 8000
set_option maxHeartbeats 2000000
open Go Go.IL Go.Fn Go.Proofs
namespace Go.Proofs.YtnokcmkfkfeaiaaGreat
end Go.Proofs.YtnokcmkfkfeaiaaGreat
