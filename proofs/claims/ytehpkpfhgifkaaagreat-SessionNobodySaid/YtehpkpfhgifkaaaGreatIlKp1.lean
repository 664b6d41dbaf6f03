/-
  A part of the proof: rules and plain facts. No condition.
-/
import Derived.Test.YtehpkpfhgifkaaaGreatIlKa
import Derived.Test.YtehpkpfhgifkaaaGreatProg
import Derived.KernelRfl
set_option linter.all false
set_option maxRecDepth 100000
set_option linter.unusedVariables false
open Go Go.IL Go.Proofs
namespace Go.IL
/-! Pieces of awake. -/
theorem tK0 : pieceS Tryz.prog 176 (bodyOf Tryz.prog 4) (evD Tryz.prog) 7 K0.ids K0.ts ⟨[],[],0⟩ = some K0 := by kernel_rfl
theorem tr8 : pieceE Tryz.prog 176 (Code.part (cTl 7 (bodyOf Tryz.prog 4)) [0,0]) (evD Tryz.prog) A1.ids A1.ts K0 = some (.normal,A1) := by kernel_rfl
theorem tx1 : pieceE Tryz.prog 176 (Code.part (bdA Tryz.prog) [0]) (evD Tryz.prog) A1.ids A1.ts A1 = some (.normal,A1) := by kernel_rfl
theorem tB1 : pieceE Tryz.prog 176 (rgA Tryz.prog 0) (evD Tryz.prog) B1.ids B1.ts A1 = some (.normal,B1) := by kernel_rfl
theorem tC1 : pieceE Tryz.prog 176 (rgA Tryz.prog 1) (evD Tryz.prog) C1.ids C1.ts B1 = some (.normal,C1) := by kernel_rfl
theorem ty1 : pieceE Tryz.prog 176 (Code.part (bdA Tryz.prog) [1,1]) (evD Tryz.prog) A2.ids A2.ts C1 = some (.normal,A2) := by kernel_rfl
theorem tx2 : pieceE Tryz.prog 176 (Code.part (bdA Tryz.prog) [0]) (evD Tryz.prog) A2.ids A2.ts A2 = some (.normal,A2) := by kernel_rfl
end Go.IL
