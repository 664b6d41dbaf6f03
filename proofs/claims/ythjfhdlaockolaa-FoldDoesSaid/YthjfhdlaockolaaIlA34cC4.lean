/-
  A part of the proof: rules and plain facts. No condition.
-/
import Derived.Test.YthjfhdlaockolaaProg
import Derived.KernelRfl
import Derived.Test.YthjfhdlaockolaaIlSh
import Derived.Test.YthjfhdlaockolaaIlA34cC3
set_option linter.all false
set_option maxRecDepth 8000
set_option maxHeartbeats 2000000
open Go Go.IL Go.Fn Go.Proofs
namespace Go.Proofs.Ythjfhdlaockolaa
end Go.Proofs.Ythjfhdlaockolaa
