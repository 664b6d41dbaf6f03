/-
  A part of the proof: rules and plain facts. No condition.
-/
import Derived.Test.YtehpkpfhgifkaaaGreatIlKa
import Derived.Test.YtehpkpfhgifkaaaGreatProg
import Derived.KernelRfl
set_option linter.all false
set_option maxRecDepth 100000
set_option linter.unusedVariables false
open Go Go.IL Go.Proofs
namespace Go.IL
/-! Pieces of awake. -/
theorem tC2o : pieceS Tryz.prog 27 (b13 Tryz.prog) (evD Tryz.prog) 2 C2o.ids C2o.ts ⟨B2.l,[(0,.ref 278 0),(1,.ref 21 0),(2,.int .i64 0)],B2.n+1⟩ = some C2o := by kernel_rfl
theorem taC2 : pieceE Tryz.prog 27 (Code.part (b13 Tryz.prog) [1,1,0,0]) (evD Tryz.prog) C2o.ids (C2o.with [(8,.int .i64 0)]).ts C2o = some (.normal,C2o.with [(8,.int .i64 0)]) := by kernel_rfl
theorem tC2p0 : pieceL Tryz.prog 27 (l13 Tryz.prog) (evD Tryz.prog) 1 C2p0.ids C2p0.ts (C2o.with [(8,.int .i64 0)]) = some C2p0 := by kernel_rfl
theorem tbC2 : pieceE Tryz.prog 27 (l13 Tryz.prog) (evD Tryz.prog) C2p0.ids C2p0.ts C2p0 = some (.exit 0,C2p0) := by kernel_rfl
theorem tcC2 : pieceE Tryz.prog 27 (Code.part (b13 Tryz.prog) [1,1,1]) (evD Tryz.prog) C2.ids [6] C2p0 = some (.ret,⟨C2.l,[(6,.int .i64 (.ofNat 1))],C2.n⟩) := by kernel_rfl
theorem tdC2 : pieceO Tryz.prog 176 (opsL (rgA Tryz.prog 1)).toArray ((opsL (rgA Tryz.prog 1)).take 2) (evD Tryz.prog) B2.ids (B2.with [(70,.ref 278 0),(71,.ref 21 0)]).ts B2 = some (B2.with [(70,.ref 278 0),(71,.ref 21 0)]) := by kernel_rfl
theorem ty2 : pieceE Tryz.prog 176 (Code.part (bdA Tryz.prog) [1,1]) (evD Tryz.prog) A3.ids A3.ts C2 = some (.normal,A3) := by kernel_rfl
theorem tx3 : pieceE Tryz.prog 176 (Code.part (bdA Tryz.prog) [0]) (evD Tryz.prog) A3.ids A3.ts A3 = some (.normal,A3) := by kernel_rfl
end Go.IL
