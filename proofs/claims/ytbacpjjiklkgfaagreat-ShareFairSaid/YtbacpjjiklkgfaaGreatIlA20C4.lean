/-
  A part of the proof: rules and plain facts. No condition.
-/
import Derived.Test.YtbacpjjiklkgfaaGreatProg
import Derived.KernelRfl
import Derived.Test.YtbacpjjiklkgfaaGreatIlA20D
import Derived.Test.YtbacpjjiklkgfaaGreatIlIt20
import Derived.Test.YtbacpjjiklkgfaaGreatIlDx
import Derived.Test.YtbacpjjiklkgfaaGreatIlA20C3
set_option linter.all false
set_option maxRecDepth 8000
set_option maxHeartbeats 2000000
open Go Go.IL Go.Fn Go.Proofs
namespace Go.Proofs.YtbacpjjiklkgfaaGreat
end Go.Proofs.YtbacpjjiklkgfaaGreat
