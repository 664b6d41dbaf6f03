/-
  A part of the proof: rules and plain facts. No condition.
-/
import Derived.Test.YtehpkpfhgifkaaaGreatIlKa
import Derived.Test.YtehpkpfhgifkaaaGreatProg
import Derived.KernelRfl
set_option linter.all false
set_option maxRecDepth 100000
set_option linter.unusedVariables false
open Go Go.IL Go.Proofs
namespace Go.IL
/-! Pieces of awake. -/
theorem tC3o : pieceS Tryz.prog 27 (b13 Tryz.prog) (evD Tryz.prog) 2 C3o.ids C3o.ts ⟨B3.l,[(0,.ref 278 0),(1,.ref 21 0),(2,.int .i64 0)],B3.n+1⟩ = some C3o := by kernel_rfl
theorem taC3 : pieceE Tryz.prog 27 (Code.part (b13 Tryz.prog) [1,1,0,0]) (evD Tryz.prog) C3o.ids (C3o.with [(8,.int .i64 0)]).ts C3o = some (.normal,C3o.with [(8,.int .i64 0)]) := by kernel_rfl
theorem tC3p0 : pieceL Tryz.prog 27 (l13 Tryz.prog) (evD Tryz.prog) 1 C3p0.ids C3p0.ts (C3o.with [(8,.int .i64 0)]) = some C3p0 := by kernel_rfl
theorem tbC3 : pieceE Tryz.prog 27 (l13 Tryz.prog) (evD Tryz.prog) C3p0.ids C3p0.ts C3p0 = some (.exit 0,C3p0) := by kernel_rfl
theorem tcC3 : pieceE Tryz.prog 27 (Code.part (b13 Tryz.prog) [1,1,1]) (evD Tryz.prog) C3.ids [6] C3p0 = some (.ret,⟨C3.l,[(6,.int .i64 (.ofNat 1))],C3.n⟩) := by kernel_rfl
theorem tdC3 : pieceO Tryz.prog 176 (opsL (rgA Tryz.prog 1)).toArray ((opsL (rgA Tryz.prog 1)).take 2) (evD Tryz.prog) B3.ids (B3.with [(70,.ref 278 0),(71,.ref 21 0)]).ts B3 = some (B3.with [(70,.ref 278 0),(71,.ref 21 0)]) := by kernel_rfl
theorem ty3 : pieceE Tryz.prog 176 (Code.part (bdA Tryz.prog) [1,1]) (evD Tryz.prog) A4.ids A4.ts C3 = some (.normal,A4) := by kernel_rfl
theorem tx4 : pieceE Tryz.prog 176 (Code.part (bdA Tryz.prog) [0]) (evD Tryz.prog) A4.ids A4.ts A4 = some (.normal,A4) := by kernel_rfl
end Go.IL
