/-
  A part of the proof: rules and plain facts. No condition.
-/
import Derived.Test.YtehpkpfhgifkaaaGreatIlKa
import Derived.Test.YtehpkpfhgifkaaaGreatProg
import Derived.KernelRfl
set_option linter.all false
set_option maxRecDepth 100000
set_option linter.unusedVariables false
open Go Go.IL Go.Proofs
namespace Go.IL
/-! Pieces of awake. -/
theorem tB4o : pieceS Tryz.prog 27 (b13 Tryz.prog) (evD Tryz.prog) 2 B4o.ids B4o.ts ⟨A4.l,[(0,.ref 21 0),(1,.ref 278 0),(2,.int .i64 0)],A4.n+1⟩ = some B4o := by kernel_rfl
theorem taB4 : pieceE Tryz.prog 27 (Code.part (b13 Tryz.prog) [1,1,0,0]) (evD Tryz.prog) B4o.ids (B4o.with [(8,.int .i64 0)]).ts B4o = some (.normal,B4o.with [(8,.int .i64 0)]) := by kernel_rfl
theorem tB4p0 : pieceL Tryz.prog 27 (l13 Tryz.prog) (evD Tryz.prog) 1 B4p0.ids B4p0.ts (B4o.with [(8,.int .i64 0)]) = some B4p0 := by kernel_rfl
theorem tbB4 : pieceE Tryz.prog 27 (l13 Tryz.prog) (evD Tryz.prog) B4p0.ids B4p0.ts B4p0 = some (.exit 0,B4p0) := by kernel_rfl
theorem tcB4 : pieceE Tryz.prog 27 (Code.part (b13 Tryz.prog) [1,1,1]) (evD Tryz.prog) B4.ids [6] B4p0 = some (.ret,⟨B4.l,[(6,.int .i64 (.ofNat 1))],B4.n⟩) := by kernel_rfl
theorem tdB4 : pieceO Tryz.prog 176 (opsL (rgA Tryz.prog 0)).toArray ((opsL (rgA Tryz.prog 0)).take 2) (evD Tryz.prog) A4.ids (A4.with [(67,.ref 21 0),(68,.ref 278 0)]).ts A4 = some (A4.with [(67,.ref 21 0),(68,.ref 278 0)]) := by kernel_rfl
theorem tC4 : pieceE Tryz.prog 176 (rgA Tryz.prog 1) (evD Tryz.prog) C4.ids C4.ts B4 = some (.normal,C4) := by kernel_rfl
theorem ty4 : pieceE Tryz.prog 176 (Code.part (bdA Tryz.prog) [1,1]) (evD Tryz.prog) A5.ids A5.ts C4 = some (.normal,A5) := by kernel_rfl
end Go.IL
