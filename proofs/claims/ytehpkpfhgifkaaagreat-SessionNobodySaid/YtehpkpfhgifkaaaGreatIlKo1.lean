/-
  A part of the proof: rules and plain facts. No condition.
-/
import Derived.Test.YtehpkpfhgifkaaaGreatIlKg
import Derived.Test.YtehpkpfhgifkaaaGreatProg
set_option linter.all false
set_option maxRecDepth 100000
open Go Go.IL Go.Proofs
namespace Go.IL
/-! Kinds of input. -/
theorem ok0 (id n m p : Int) : oks Tryz.prog (Code.part (bodyOf Tryz.prog 3) [1, 1]) (evN Tryz.prog fxA 200) id n m p 0 16 = true := by kernel_rfl
theorem ok1 (id n m p : Int) : oks Tryz.prog (Code.part (bodyOf Tryz.prog 3) [1, 1]) (evN Tryz.prog fxA 200) id n m p 16 16 = true := by kernel_rfl
theorem ok2 (id n m p : Int) : oks Tryz.prog (Code.part (bodyOf Tryz.prog 3) [1, 1]) (evN Tryz.prog fxA 200) id n m p 32 16 = true := by kernel_rfl
theorem ok3 (id n m p : Int) : oks Tryz.prog (Code.part (bodyOf Tryz.prog 3) [1, 1]) (evN Tryz.prog fxA 200) id n m p 48 16 = true := by kernel_rfl
theorem ok4 (id n m p : Int) : oks Tryz.prog (Code.part (bodyOf Tryz.prog 3) [1, 1]) (evN Tryz.prog fxA 200) id n m p 64 16 = true := by kernel_rfl
theorem ok5 (id n m p : Int) : oks Tryz.prog (Code.part (bodyOf Tryz.prog 3) [1, 1]) (evN Tryz.prog fxA 200) id n m p 80 16 = true := by kernel_rfl
theorem ok6 (id n m p : Int) : oks Tryz.prog (Code.part (bodyOf Tryz.prog 3) [1, 1]) (evN Tryz.prog fxA 200) id n m p 96 16 = true := by kernel_rfl
theorem ok7 (id n m p : Int) : oks Tryz.prog (Code.part (bodyOf Tryz.prog 3) [1, 1]) (evN Tryz.prog fxA 200) id n m p 112 16 = true := by kernel_rfl
end Go.IL
