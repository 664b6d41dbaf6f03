/-
  A part of the proof: rules and plain facts. No condition.
-/
import Derived.Test.YtehpkpfhgifkaaaGreatIlKa
import Derived.Test.YtehpkpfhgifkaaaGreatProg
import Derived.KernelRfl
set_option linter.all false
set_option maxRecDepth 100000
set_option linter.unusedVariables false
open Go Go.IL Go.Proofs
namespace Go.IL
/-! Pieces of awake. -/
theorem tB2o : pieceS Tryz.prog 27 (b13 Tryz.prog) (evD Tryz.prog) 2 B2o.ids B2o.ts ⟨A2.l,[(0,.ref 21 0),(1,.ref 278 0),(2,.int .i64 0)],A2.n+1⟩ = some B2o := by kernel_rfl
theorem taB2 : pieceE Tryz.prog 27 (Code.part (b13 Tryz.prog) [1,1,0,0]) (evD Tryz.prog) B2o.ids (B2o.with [(8,.int .i64 0)]).ts B2o = some (.normal,B2o.with [(8,.int .i64 0)]) := by kernel_rfl
theorem tB2p0 : pieceL Tryz.prog 27 (l13 Tryz.prog) (evD Tryz.prog) 1 B2p0.ids B2p0.ts (B2o.with [(8,.int .i64 0)]) = some B2p0 := by kernel_rfl
theorem tbB2 : pieceE Tryz.prog 27 (l13 Tryz.prog) (evD Tryz.prog) B2p0.ids B2p0.ts B2p0 = some (.exit 0,B2p0) := by kernel_rfl
theorem tcB2 : pieceE Tryz.prog 27 (Code.part (b13 Tryz.prog) [1,1,1]) (evD Tryz.prog) B2.ids [6] B2p0 = some (.ret,⟨B2.l,[(6,.int .i64 (.ofNat 1))],B2.n⟩) := by kernel_rfl
theorem tdB2 : pieceO Tryz.prog 176 (opsL (rgA Tryz.prog 0)).toArray ((opsL (rgA Tryz.prog 0)).take 2) (evD Tryz.prog) A2.ids (A2.with [(67,.ref 21 0),(68,.ref 278 0)]).ts A2 = some (A2.with [(67,.ref 21 0),(68,.ref 278 0)]) := by kernel_rfl
end Go.IL
