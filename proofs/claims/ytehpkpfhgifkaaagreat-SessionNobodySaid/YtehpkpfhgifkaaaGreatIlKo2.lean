/-
  A part of the proof: rules and plain facts. No condition.
-/
import Derived.Test.YtehpkpfhgifkaaaGreatIlKg
import Derived.Test.YtehpkpfhgifkaaaGreatProg
set_option linter.all false
set_option maxRecDepth 100000
open Go Go.IL Go.Proofs
namespace Go.IL
/-! Kinds of input. -/
theorem ok8 (id n m p : Int) : oks Tryz.prog (Code.part (bodyOf Tryz.prog 3) [1, 1]) (evN Tryz.prog fxA 200) id n m p 128 16 = true := by kernel_rfl
theorem ok9 (id n m p : Int) : oks Tryz.prog (Code.part (bodyOf Tryz.prog 3) [1, 1]) (evN Tryz.prog fxA 200) id n m p 144 16 = true := by kernel_rfl
theorem ok10 (id n m p : Int) : oks Tryz.prog (Code.part (bodyOf Tryz.prog 3) [1, 1]) (evN Tryz.prog fxA 200) id n m p 160 16 = true := by kernel_rfl
theorem ok11 (id n m p : Int) : oks Tryz.prog (Code.part (bodyOf Tryz.prog 3) [1, 1]) (evN Tryz.prog fxA 200) id n m p 176 16 = true := by kernel_rfl
theorem ok12 (id n m p : Int) : oks Tryz.prog (Code.part (bodyOf Tryz.prog 3) [1, 1]) (evN Tryz.prog fxA 200) id n m p 192 16 = true := by kernel_rfl
theorem ok13 (id n m p : Int) : oks Tryz.prog (Code.part (bodyOf Tryz.prog 3) [1, 1]) (evN Tryz.prog fxA 200) id n m p 208 16 = true := by kernel_rfl
theorem ok14 (id n m p : Int) : oks Tryz.prog (Code.part (bodyOf Tryz.prog 3) [1, 1]) (evN Tryz.prog fxA 200) id n m p 224 16 = true := by kernel_rfl
theorem ok15 (id n m p : Int) : oks Tryz.prog (Code.part (bodyOf Tryz.prog 3) [1, 1]) (evN Tryz.prog fxA 200) id n m p 240 16 = true := by kernel_rfl
end Go.IL
