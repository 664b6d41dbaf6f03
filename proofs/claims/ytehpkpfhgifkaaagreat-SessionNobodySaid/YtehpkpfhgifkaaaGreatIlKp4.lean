/-
  A part of the proof: rules and plain facts. No condition.
-/
import Derived.Test.YtehpkpfhgifkaaaGreatIlKa
import Derived.Test.YtehpkpfhgifkaaaGreatProg
import Derived.KernelRfl
set_option linter.all false
set_option maxRecDepth 100000
set_option linter.unusedVariables false
open Go Go.IL Go.Proofs
namespace Go.IL
/-! Pieces of awake. -/
theorem tB3o : pieceS Tryz.prog 27 (b13 Tryz.prog) (evD Tryz.prog) 2 B3o.ids B3o.ts ⟨A3.l,[(0,.ref 21 0),(1,.ref 278 0),(2,.int .i64 0)],A3.n+1⟩ = some B3o := by kernel_rfl
theorem taB3 : pieceE Tryz.prog 27 (Code.part (b13 Tryz.prog) [1,1,0,0]) (evD Tryz.prog) B3o.ids (B3o.with [(8,.int .i64 0)]).ts B3o = some (.normal,B3o.with [(8,.int .i64 0)]) := by kernel_rfl
theorem tB3p0 : pieceL Tryz.prog 27 (l13 Tryz.prog) (evD Tryz.prog) 1 B3p0.ids B3p0.ts (B3o.with [(8,.int .i64 0)]) = some B3p0 := by kernel_rfl
theorem tbB3 : pieceE Tryz.prog 27 (l13 Tryz.prog) (evD Tryz.prog) B3p0.ids B3p0.ts B3p0 = some (.exit 0,B3p0) := by kernel_rfl
theorem tcB3 : pieceE Tryz.prog 27 (Code.part (b13 Tryz.prog) [1,1,1]) (evD Tryz.prog) B3.ids [6] B3p0 = some (.ret,⟨B3.l,[(6,.int .i64 (.ofNat 1))],B3.n⟩) := by kernel_rfl
theorem tdB3 : pieceO Tryz.prog 176 (opsL (rgA Tryz.prog 0)).toArray ((opsL (rgA Tryz.prog 0)).take 2) (evD Tryz.prog) A3.ids (A3.with [(67,.ref 21 0),(68,.ref 278 0)]).ts A3 = some (A3.with [(67,.ref 21 0),(68,.ref 278 0)]) := by kernel_rfl
end Go.IL
