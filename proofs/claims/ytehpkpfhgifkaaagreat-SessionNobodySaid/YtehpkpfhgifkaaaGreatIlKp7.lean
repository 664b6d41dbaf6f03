/-
  A part of the proof: rules and plain facts. No condition.
-/
import Derived.Test.YtehpkpfhgifkaaaGreatIlKa
import Derived.Test.YtehpkpfhgifkaaaGreatProg
import Derived.KernelRfl
set_option linter.all false
set_option maxRecDepth 100000
set_option linter.unusedVariables false
open Go Go.IL Go.Proofs
namespace Go.IL
/-! Pieces of awake. -/
theorem tL5 : pieceL Tryz.prog 176 (bdA Tryz.prog) (evD Tryz.prog) 3 A8.ids A8.ts A5 = some A8 := by kernel_rfl
theorem tL8 : pieceL Tryz.prog 176 (bdA Tryz.prog) (evD Tryz.prog) 2 A10.ids A10.ts A8 = some A10 := by kernel_rfl
theorem tK11 : pieceS Tryz.prog 176 (cTl 8 (bodyOf Tryz.prog 4)) (evD Tryz.prog) 3 K11.ids K11.ts A10 = some K11 := by kernel_rfl
theorem tK12 : pieceS Tryz.prog 176 (cTl 11 (bodyOf Tryz.prog 4)) (evD Tryz.prog) 3 K12.ids K12.ts K11 = some K12 := by kernel_rfl
theorem tA10 : pieceE Tryz.prog 176 (bdA Tryz.prog) (evD Tryz.prog) A10.ids A10.ts A10 = some (.exit 0,A10) := by kernel_rfl
theorem tK13 : truK 0 (pieceE Tryz.prog 176 (cTl 14 (bodyOf Tryz.prog 4)) (evD Tryz.prog) [] [0] K12) = true := by kernel_rfl
end Go.IL
