/-
  A part of the proof: rules and plain facts. No condition.
-/
import Derived.Test.YtfaflcdfgaoehaaGreatProg
import Derived.KernelRfl
import Derived.Test.YtfaflcdfgaoehaaGreatIlEq
import Derived.Test.YtfaflcdfgaoehaaGreatIlA29bD
set_option linter.all false
set_option maxRecDepth 8000
set_option maxHeartbeats 2000000
open Go Go.IL Go.Fn Go.Proofs
open Go.Proofs.Tryz
namespace Go.Proofs.YtfaflcdfgaoehaaGreat
theorem ti3:TI prog 3 (some (.int .i64 0)) 1 8:=by unfold TI; kernel_rfl
theorem ti4:TI prog 4 (some (.bool false)) 1 1:=by unfold TI; kernel_rfl
theorem ti5:TI prog 5 (some (.int .u8 0)) 1 1:=by unfold TI; kernel_rfl
theorem ti9:TI prog 9 (some (.string ⟨#[]⟩)) 1 16:=by unfold TI; kernel_rfl
theorem ti24:TI prog 24 (some (.slice none 0 0)) 1 24:=by unfold TI; kernel_rfl
theorem ti26:TI prog 26 (some (.slice none 0 0)) 1 24:=by unfold TI; kernel_rfl
theorem ti28:TI prog 28 (some (.agg #[.int .i64 0,.string ⟨#[]⟩,.int .i64 0,.slice none 0 0,.slice none 0 0,.bool false,.bool false,.bool false,.bool false])) 9 88:=by unfold TI; kernel_rfl
theorem ti29:TI prog 29 (some (.slice none 0 0)) 1 24:=by unfold TI; kernel_rfl
theorem ti31:TI prog 31 (some (.agg #[.int .i64 0,.string ⟨#[]⟩,.slice none 0 0])) 3 48:=by unfold TI; kernel_rfl
theorem ti33:TI prog 33 (some (.agg #[.int .i64 0,.string ⟨#[]⟩,.slice none 0 0,.int .i64 0])) 4 56:=by unfold TI; kernel_rfl
theorem ti38:TI prog 38 (some (.agg #[.int .i64 0,.string ⟨#[]⟩,.int .i64 0,.slice none 0 0,.slice none 0 0,.bool false,.bool false,.bool false,.bool false,.int .i64 0,.string ⟨#[]⟩,.slice none 0 0,.int .i64 0,.string ⟨#[]⟩,.int .i64 0,.int .i64 0])) 16 176:=by unfold TI; kernel_rfl
theorem ti42:TI prog 42 (some (.slice none 0 0)) 1 24:=by unfold TI; kernel_rfl
theorem ti50:TI prog 50 (some (.agg #[.int .u8 0,.bool false,.int .i64 0,.int .i64 0,.int .i64 0,.int .i64 0,.int .i64 0,.int .i64 0,.slice none 0 0,.string ⟨#[]⟩])) 10 96:=by unfold TI; kernel_rfl
theorem ti52:TI prog 52 (some (.agg #[.int .i64 0,.int .i64 0,.int .i64 0,.bool false])) 4 32:=by unfold TI; kernel_rfl
theorem gC:TI prog 116 (some (.agg #[.int .i64 0,.int .i64 0])) 2 16:=by unfold TI; kernel_rfl
theorem aCd:TI prog 121 (some (.agg #[.int .i64 0,.string ⟨#[]⟩,.slice none 0 0,.int .i64 0])) 4 56:=by unfold TI; kernel_rfl
theorem rC:TI prog 136 (some (.agg #[.int .i64 0,.int .i64 0])) 2 16:=by unfold TI; kernel_rfl
theorem nY:TI prog 150 (some (.pointer none)) 1 8:=by unfold TI; kernel_rfl
theorem gR:TI prog 165 (some (.agg #[.int .i64 0,.string ⟨#[]⟩])) 2 24:=by unfold TI; kernel_rfl
theorem ti184:TI prog 184 (some (.agg #[.int .i64 0,.int .i64 0,.int .i64 0,.int .i64 0])) 4 32:=by unfold TI; kernel_rfl
theorem ag3:gJ prog 3=false:=by kernel_rfl
theorem ag4:gJ prog 4=false:=by kernel_rfl
theorem ag5:gJ prog 5=false:=by kernel_rfl
theorem ag9:gJ prog 9=false:=by kernel_rfl
theorem ag24:gJ prog 24=false:=by kernel_rfl
theorem ag26:gJ prog 26=false:=by kernel_rfl
theorem ag28:gJ prog 28=true:=by kernel_rfl
theorem ag29:gJ prog 29=false:=by kernel_rfl
theorem ag31:gJ prog 31=true:=by kernel_rfl
theorem ag33:gJ prog 33=true:=by kernel_rfl
theorem ag38:gJ prog 38=true:=by kernel_rfl
theorem ag42:gJ prog 42=false:=by kernel_rfl
theorem ag50:gJ prog 50=true:=by kernel_rfl
theorem ag52:gJ prog 52=true:=by kernel_rfl
theorem yP:gJ prog 116=true:=by kernel_rfl
theorem ag121:gJ prog 121=true:=by kernel_rfl
theorem aC7:gJ prog 136=true:=by kernel_rfl
theorem ag150:gJ prog 150=false:=by kernel_rfl
theorem vC:gJ prog 165=true:=by kernel_rfl
theorem aEu:∀ w,(Array.mapM (m:=Sem) (fun (f:Field)=>Functor.map (Prod.mk f.offset) (sizeOf f.type)) (fieldsOf prog 116)).run prog w = .ok #[(0,1),(1,1)] w:=fun w=>by kernel_rfl
theorem pl121:∀ w,(Array.mapM (m:=Sem) (fun (f:Field)=>Functor.map (Prod.mk f.offset) (sizeOf f.type)) (fieldsOf prog 121)).run prog w = .ok #[(0,3),(3,1)] w:=fun w=>by kernel_rfl
theorem pl136:∀ w,(Array.mapM (m:=Sem) (fun (f:Field)=>Functor.map (Prod.mk f.offset) (sizeOf f.type)) (fieldsOf prog 136)).run prog w = .ok #[(0,1),(1,1)] w:=fun w=>by kernel_rfl
theorem pl28:∀ w,(Array.mapM (m:=Sem) (fun (f:Field)=>Functor.map (Prod.mk f.offset) (sizeOf f.type)) (fieldsOf prog 28)).run prog w = .ok #[(0,1),(1,1),(2,1),(3,1),(4,1),(5,1),(6,1),(7,1),(8,1)] w:=fun w=>by kernel_rfl
theorem pl31:∀ w,(Array.mapM (m:=Sem) (fun (f:Field)=>Functor.map (Prod.mk f.offset) (sizeOf f.type)) (fieldsOf prog 31)).run prog w = .ok #[(0,1),(1,1),(2,1)] w:=fun w=>by kernel_rfl
theorem pl33:∀ w,(Array.mapM (m:=Sem) (fun (f:Field)=>Functor.map (Prod.mk f.offset) (sizeOf f.type)) (fieldsOf prog 33)).run prog w = .ok #[(0,3),(3,1)] w:=fun w=>by kernel_rfl
theorem pl38:∀ w,(Array.mapM (m:=Sem) (fun (f:Field)=>Functor.map (Prod.mk f.offset) (sizeOf f.type)) (fieldsOf prog 38)).run prog w = .ok #[(0,9),(9,4),(13,3)] w:=fun w=>by kernel_rfl
theorem st116:prog.stoodInHeld 116=false ∧ prog.eqGuardType prog.depth 116=false:=⟨by kernel_rfl,by kernel_rfl⟩
theorem cl19:bH prog 19:=⟨f19,func19,rfl,rfl⟩
theorem cl20:bH prog 20:=⟨f20,func20,rfl,rfl⟩
theorem cl45:bH prog 45:=⟨f45,func45,rfl,rfl⟩
theorem cl51:bH prog 51:=⟨f51,func51,rfl,rfl⟩
theorem cl52:bH prog 52:=⟨f52,func52,rfl,rfl⟩
theorem cl54:bH prog 54:=⟨f54,func54,rfl,rfl⟩
theorem cl55:bH prog 55:=⟨f55,func55,rfl,rfl⟩
theorem cl59:bH prog 59:=⟨f59,func59,rfl,rfl⟩
theorem cl69:bH prog 69:=⟨f69,func69,rfl,rfl⟩
theorem cl70:bH prog 70:=⟨f70,func70,rfl,rfl⟩
theorem cl71:bH prog 71:=⟨f71,func71,rfl,rfl⟩
theorem cl72:bH prog 72:=⟨f72,func72,rfl,rfl⟩
theorem cl73:bH prog 73:=⟨f73,func73,rfl,rfl⟩
theorem cl76:bH prog 76:=⟨f76,func76,rfl,rfl⟩
theorem cl78:bH prog 78:=⟨f78,func78,rfl,rfl⟩
theorem cl82:bH prog 82:=⟨f82,func82,rfl,rfl⟩
theorem cl84:bH prog 84:=⟨f84,func84,rfl,rfl⟩
theorem cl87:bH prog 87:=⟨f87,func87,rfl,rfl⟩
theorem cl88:bH prog 88:=⟨f88,func88,rfl,rfl⟩
theorem cl89:bH prog 89:=⟨f89,func89,rfl,rfl⟩
theorem cl90:bH prog 90:=⟨f90,func90,rfl,rfl⟩
theorem cl91:bH prog 91:=⟨f91,func91,rfl,rfl⟩
theorem cl97:bH prog 97:=⟨f97,func97,rfl,rfl⟩
theorem cl99:bH prog 99:=⟨f99,func99,rfl,rfl⟩
theorem aC4:bH prog 102:=⟨f102,func102,rfl,rfl⟩
theorem cl107:bH prog 107:=⟨f107,func107,rfl,rfl⟩
theorem cl110:bH prog 110:=⟨f110,func110,rfl,rfl⟩
theorem aBb:bH prog 112:=⟨f112,func112,rfl,rfl⟩
theorem cl113:bH prog 113:=⟨f113,func113,rfl,rfl⟩
theorem cl114:bH prog 114:=⟨f114,func114,rfl,rfl⟩
theorem cl118:bH prog 118:=⟨f118,func118,rfl,rfl⟩
theorem cl119:bH prog 119:=⟨f119,func119,rfl,rfl⟩
theorem cl120:bH prog 120:=⟨f120,func120,rfl,rfl⟩
theorem cl121:bH prog 121:=⟨f121,func121,rfl,rfl⟩
theorem cl122:bH prog 122:=⟨f122,func122,rfl,rfl⟩
theorem cl124:bH prog 124:=⟨f124,func124,rfl,rfl⟩
theorem cl125:bH prog 125:=⟨f125,func125,rfl,rfl⟩
theorem cl126:bH prog 126:=⟨f126,func126,rfl,rfl⟩
theorem cl128:bH prog 128:=⟨f128,func128,rfl,rfl⟩
theorem cl129:bH prog 129:=⟨f129,func129,rfl,rfl⟩
theorem cl131:bH prog 131:=⟨f131,func131,rfl,rfl⟩
def la24:=LA.mk underlying24 ag24 ti24 (by decide)
def la26:=LA.mk underlying26 ag26 ti26 (by decide)
def la28:=LA.mk underlying28 ag28 ti28 (by decide)
def la29:=LA.mk underlying29 ag29 ti29 (by decide)
def la31:=LA.mk underlying31 ag31 ti31 (by decide)
def la33:=LA.mk underlying33 ag33 ti33 (by decide)
def la38:=LA.mk underlying38 ag38 ti38 (by decide)
def la42:=LA.mk underlying42 ag42 ti42 (by decide)
def la50:=LA.mk underlying50 ag50 ti50 (by decide)
def la52:=LA.mk underlying52 ag52 ti52 (by decide)
def qN:=LA.mk underlying116 yP gC (by decide)
def aE3:=LA.mk underlying121 ag121 aCd (by decide)
def la165:=LA.mk underlying165 vC gR (by decide)
abbrev v0 (x:bB):List D:=[.int .i64 x.Send.Base,.str x.Send.Data,.int .i64 x.Send.Next,.slice false (x.Send.Pieces.map aD.d),.slice false (x.Send.Lost.map aJ.d),.bool x.Send.Closed,.bool x.Send.Sent,.bool x.Send.Again,.bool x.Send.Done,.int .i64 x.Recv.Recv.Base,.str x.Recv.Recv.Ready,.slice false (x.Recv.Recv.Parts.map aN.d),.int .i64 x.Recv.End,.str x.In.Buf,.int .i64 x.In.Bad,.int .i64 x.In.Seen]
abbrev v1 (x:fC):List D:=[.int .u8 x.Kind,.int .u8 x.N,.int .u8 x.Path,.int .u8 x.F.Kind,.bool x.F.Flag,.int .i64 x.F.Stream,.int .i64 x.F.Offset,.int .i64 x.F.Dep,.int .i64 x.F.Weight,.int .i64 x.F.N,.int .i64 x.F.Code,.slice false (x.F.Pairs.map bR.d),.str x.F.Data]
abbrev v2 (x:aH):List D:=[.int .u8 x.Kind,.bool x.Flag,.int .i64 x.Stream,.int .i64 x.Offset,.int .i64 x.Dep,.int .i64 x.Weight,.int .i64 x.N,.int .i64 x.Code,.slice false (x.Pairs.map bR.d),.str x.Data]
abbrev v3 (x:aY):List D:=[.int .i64 x.Base,.str x.Data,.int .i64 x.Next,.slice false (x.Pieces.map aD.d),.slice false (x.Lost.map aJ.d),.bool x.Closed,.bool x.Sent,.bool x.Again,.bool x.Done]
abbrev v4 (x:gE):List D:=[.int .i64 x.State.Base,.str x.State.Ready,.slice false (x.State.Parts.map aN.d),.int .i64 x.end_]
abbrev v5 (x:bX):List D:=[.int .i64 x.Recv.Base,.str x.Recv.Ready,.slice false (x.Recv.Parts.map aN.d),.int .i64 x.End]
abbrev v6 (x:bM):List D:=[.int .i64 x.Base,.str x.Ready,.slice false (x.Parts.map aN.d)]
abbrev v7 (x:aL):List D:=[.int .i64 x.From,.int .i64 x.To,.int .i64 x.Path,.bool x.Fin]
abbrev v8 (x:cE):List D:=[.str x.Buf,.int .i64 x.Bad,.int .i64 x.Seen]
abbrev q9 {a1:IntKind} {a2:Int} {a3:List UInt8} {a4:IntKind} {a5:Int} {a6:Bool} {a7:List D} {a8:Bool} {a9:List D} {a10:Bool} {a11:Bool} {a12:Bool} {a13:Bool} {a14:IntKind} {a15:Int} {a16:List UInt8} {a17:Bool} {a18:List D} {a19:IntKind} {a20:Int} {a21:List UInt8} {a22:IntKind} {a23:Int} {a24:IntKind} {a25:Int}:List D:=[.int a1 a2,.str a3,.int a4 a5,.slice a6 a7,.slice a8 a9,.bool a10,.bool a11,.bool a12,.bool a13,.int a14 a15,.str a16,.slice a17 a18,.int a19 a20,.str a21,.int a22 a23,.int a24 a25]
abbrev q10 {a1:IntKind} {a2:Int} {a3:List UInt8} {a4:IntKind} {a5:Int} {a6:Bool} {a7:Bool} {a8:Bool} {a9:Bool} {a10:IntKind} {a11:Int} {a12:List UInt8} {a13:IntKind} {a14:Int} {a15:List UInt8} {a16:IntKind} {a17:Int} {a18:IntKind} {a19:Int}:List D:=[.int a1 a2,.str a3,.int a4 a5,.nils,.nils,.bool a6,.bool a7,.bool a8,.bool a9,.int a10 a11,.str a12,.nils,.int a13 a14,.str a15,.int a16 a17,.int a18 a19]
abbrev q11 {a1:IntKind} {a2:Int} {a3:IntKind} {a4:Int} {a5:IntKind} {a6:Int} {a7:IntKind} {a8:Int} {a9:Bool} {a10:IntKind} {a11:Int} {a12:IntKind} {a13:Int} {a14:IntKind} {a15:Int} {a16:IntKind} {a17:Int} {a18:IntKind} {a19:Int} {a20:IntKind} {a21:Int} {a22:Bool} {a23:List D} {a24:List UInt8}:List D:=[.int a1 a2,.int a3 a4,.int a5 a6,.int a7 a8,.bool a9,.int a10 a11,.int a12 a13,.int a14 a15,.int a16 a17,.int a18 a19,.int a20 a21,.slice a22 a23,.str a24]
abbrev q12 {a1:IntKind} {a2:Int} {a3:Bool} {a4:IntKind} {a5:Int} {a6:IntKind} {a7:Int} {a8:IntKind} {a9:Int} {a10:IntKind} {a11:Int} {a12:IntKind} {a13:Int} {a14:IntKind} {a15:Int} {a16:Bool} {a17:List D} {a18:List UInt8}:List D:=[.int a1 a2,.bool a3,.int a4 a5,.int a6 a7,.int a8 a9,.int a10 a11,.int a12 a13,.int a14 a15,.slice a16 a17,.str a18]
abbrev q13 {a1:IntKind} {a2:Int} {a3:Bool} {a4:IntKind} {a5:Int} {a6:IntKind} {a7:Int} {a8:IntKind} {a9:Int} {a10:IntKind} {a11:Int} {a12:IntKind} {a13:Int} {a14:IntKind} {a15:Int} {a16:List UInt8}:List D:=[.int a1 a2,.bool a3,.int a4 a5,.int a6 a7,.int a8 a9,.int a10 a11,.int a12 a13,.int a14 a15,.nils,.str a16]
abbrev q14 {a1:IntKind} {a2:Int} {a3:List UInt8} {a4:IntKind} {a5:Int} {a6:Bool} {a7:List D} {a8:Bool} {a9:List D} {a10:Bool} {a11:Bool} {a12:Bool} {a13:Bool}:List D:=[.int a1 a2,.str a3,.int a4 a5,.slice a6 a7,.slice a8 a9,.bool a10,.bool a11,.bool a12,.bool a13]
abbrev q15 {a1:IntKind} {a2:Int} {a3:List UInt8} {a4:IntKind} {a5:Int} {a6:Nat} {a7:Nat} {a8:Nat} {a9:Bool} {a10:List D} {a11:Bool} {a12:Bool} {a13:Bool} {a14:Bool}:List D:=[.int a1 a2,.str a3,.int a4 a5,.osl a6 a7 a8,.slice a9 a10,.bool a11,.bool a12,.bool a13,.bool a14]
abbrev q16 {a1:IntKind} {a2:Int} {a3:List UInt8} {a4:IntKind} {a5:Int} {a6:Bool} {a7:Bool} {a8:Bool} {a9:Bool}:List D:=[.int a1 a2,.str a3,.int a4 a5,.nils,.nils,.bool a6,.bool a7,.bool a8,.bool a9]
abbrev q17 {a1:Nat} {a2:Nat} {a3:Nat} {a4:Nat} {a5:Nat} {a6:Nat} {a7:Nat} {a8:Nat} {a9:Nat} {a10:Nat}:List D:=[.ref a1 a2,.ref a3 a4,.ref a5 a6,.ref a7 a8,.ref a9 a10]
abbrev q18 {a1:IntKind} {a2:Int} {a3:List UInt8} {a4:Bool} {a5:List D} {a6:IntKind} {a7:Int}:List D:=[.int a1 a2,.str a3,.slice a4 a5,.int a6 a7]
abbrev q19 {a1:IntKind} {a2:Int} {a3:IntKind} {a4:Int} {a5:IntKind} {a6:Int} {a7:Bool}:List D:=[.int a1 a2,.int a3 a4,.int a5 a6,.bool a7]
abbrev q20 {a1:IntKind} {a2:Int} {a3:List UInt8} {a4:IntKind} {a5:Int}:List D:=[.int a1 a2,.str a3,.nils,.int a4 a5]
abbrev q21 {a1:IntKind} {a2:Int} {a3:List UInt8} {a4:Bool} {a5:List D}:List D:=[.int a1 a2,.str a3,.slice a4 a5]
abbrev q22 {a1:IntKind} {a2:Int} {a3:IntKind} {a4:Int} {a5:IntKind} {a6:Int}:List D:=[.int a1 a2,.int a3 a4,.int a5 a6]
abbrev q23 {a1:IntKind} {a2:Int} {a3:List UInt8} {a4:Nat} {a5:Nat} {a6:Nat}:List D:=[.int a1 a2,.str a3,.osl a4 a5 a6]
abbrev q24 {a1:List UInt8} {a2:IntKind} {a3:Int} {a4:IntKind} {a5:Int}:List D:=[.str a1,.int a2 a3,.int a4 a5]
abbrev q25 {a1:IntKind} {a2:Int} {a3:List UInt8}:List D:=[.int a1 a2,.str a3,.nils]
abbrev q26 {a1:Bool} {a2:List D} {a3:IntKind} {a4:Int}:List D:=[.slice a1 a2,.int a3 a4]
abbrev q27 {a1:IntKind} {a2:Int} {a3:IntKind} {a4:Int}:List D:=[.int a1 a2,.int a3 a4]
abbrev q28 {a1:IntKind} {a2:Int} {a3:List UInt8}:List D:=[.int a1 a2,.str a3]
abbrev q29 {a1:IntKind} {a2:Int} {a3:Bool} {a4:IntKind} {a5:Int} {a6:IntKind} {a7:Int} {a8:IntKind} {a9:Int} {a10:IntKind} {a11:Int} {a12:IntKind} {a13:Int} {a14:IntKind} {a15:Int} {a16:Bool} {a17:List D} {a18:List UInt8} {a19:IntKind} {a20:Int} {a21:IntKind} {a22:Int} {a23:IntKind} {a24:Int}:List D:=[.agg [.int a1 a2,.bool a3,.int a4 a5,.int a6 a7,.int a8 a9,.int a10 a11,.int a12 a13,.int a14 a15,.slice a16 a17,.str a18],.int a19 a20,.int a21 a22,.int a23 a24]
abbrev q30 {a1:IntKind} {a2:Int} {a3:List UInt8} {a4:IntKind} {a5:Int} {a6:Bool} {a7:List D} {a8:Bool} {a9:List D} {a10:Bool} {a11:Bool} {a12:Bool} {a13:Bool} {a14:IntKind} {a15:Int} {a16:IntKind} {a17:Int} {a18:IntKind} {a19:Int} {a20:Bool} {a21:List UInt8} {a22:Bool}:List D:=[.agg [.int a1 a2,.str a3,.int a4 a5,.slice a6 a7,.slice a8 a9,.bool a10,.bool a11,.bool a12,.bool a13],.agg [.int a14 a15,.int a16 a17,.int a18 a19,.bool a20],.str a21,.bool a22]
abbrev q31 {a1:IntKind} {a2:Int} {a3:List UInt8} {a4:IntKind} {a5:Int} {a6:Bool} {a7:List D} {a8:Bool} {a9:List D} {a10:Bool} {a11:Bool} {a12:Bool} {a13:Bool} {a14:IntKind} {a15:Int} {a16:List UInt8} {a17:Bool} {a18:List D} {a19:IntKind} {a20:Int} {a21:List UInt8} {a22:IntKind} {a23:Int} {a24:IntKind} {a25:Int} {a26:IntKind} {a27:Int} {a28:IntKind} {a29:Int} {a30:IntKind} {a31:Int} {a32:Bool} {a33:List UInt8} {a34:Bool}:List D:=[.agg [.int a1 a2,.str a3,.int a4 a5,.slice a6 a7,.slice a8 a9,.bool a10,.bool a11,.bool a12,.bool a13,.int a14 a15,.str a16,.slice a17 a18,.int a19 a20,.str a21,.int a22 a23,.int a24 a25],.agg [.int a26 a27,.int a28 a29,.int a30 a31,.bool a32],.str a33,.bool a34]
abbrev q32 {a1:IntKind} {a2:Int} {a3:List UInt8} {a4:IntKind} {a5:Int} {a6:Bool} {a7:List D} {a8:Bool} {a9:List D} {a10:Bool} {a11:Bool} {a12:Bool} {a13:Bool} {a14:IntKind} {a15:Int} {a16:List UInt8} {a17:Bool} {a18:List D} {a19:IntKind} {a20:Int} {a21:List UInt8} {a22:IntKind} {a23:Int} {a24:IntKind} {a25:Int} {a26:Bool} {a27:List D} {a28:IntKind} {a29:Int}:List D:=[.agg [.int a1 a2,.str a3,.int a4 a5,.slice a6 a7,.slice a8 a9,.bool a10,.bool a11,.bool a12,.bool a13,.int a14 a15,.str a16,.slice a17 a18,.int a19 a20,.str a21,.int a22 a23,.int a24 a25],.slice a26 a27,.int a28 a29]
abbrev q33 {a1:IntKind} {a2:Int} {a3:Bool} {a4:IntKind} {a5:Int} {a6:IntKind} {a7:Int} {a8:IntKind} {a9:Int} {a10:IntKind} {a11:Int} {a12:IntKind} {a13:Int} {a14:IntKind} {a15:Int} {a16:Bool} {a17:List D} {a18:List UInt8} {a19:IntKind} {a20:Int} {a21:IntKind} {a22:Int}:List D:=[.agg [.int a1 a2,.bool a3,.int a4 a5,.int a6 a7,.int a8 a9,.int a10 a11,.int a12 a13,.int a14 a15,.slice a16 a17,.str a18],.int a19 a20,.int a21 a22]
abbrev q34 {a1:IntKind} {a2:Int} {a3:List UInt8} {a4:Bool} {a5:List D} {a6:IntKind} {a7:Int} {a8:IntKind} {a9:Int} {a10:IntKind} {a11:Int}:List D:=[.agg [.int a1 a2,.str a3,.slice a4 a5,.int a6 a7],.int a8 a9,.int a10 a11]
abbrev q35 {a1:IntKind} {a2:Int} {a3:List UInt8} {a4:Bool} {a5:List D} {a6:IntKind} {a7:Int} {a8:List UInt8} {a9:Bool}:List D:=[.agg [.int a1 a2,.str a3,.slice a4 a5,.int a6 a7],.str a8,.bool a9]
abbrev q36 {a1:IntKind} {a2:Int} {a3:IntKind} {a4:Int} {a5:IntKind} {a6:Int} {a7:Bool} {a8:Bool}:List D:=[.agg [.int a1 a2,.int a3 a4,.int a5 a6,.bool a7],.bool a8]
abbrev q37 {a1:IntKind} {a2:Int} {a3:List UInt8} {a4:IntKind} {a5:Int} {a6:Bool} {a7:List D} {a8:Bool} {a9:List D} {a10:Bool} {a11:Bool} {a12:Bool} {a13:Bool} {a14:IntKind} {a15:Int} {a16:List UInt8} {a17:Bool} {a18:List D} {a19:IntKind} {a20:Int} {a21:List UInt8} {a22:IntKind} {a23:Int} {a24:IntKind} {a25:Int} {a26:IntKind} {a27:Int}:List D:=[.agg [.int a1 a2,.str a3,.int a4 a5,.slice a6 a7,.slice a8 a9,.bool a10,.bool a11,.bool a12,.bool a13,.int a14 a15,.str a16,.slice a17 a18,.int a19 a20,.str a21,.int a22 a23,.int a24 a25],.int a26 a27]
abbrev w38 (a0:Int) (a1:List UInt8) (a2:Int) (a3:List aL) (a4:List aI) (a5:Bool) (a6:Bool) (a7:Bool) (a8:Bool) (a9:Int) (a10:List UInt8) (a11:List aU) (a12:Int) (a13:List UInt8) (a14:Int) (a15:Int):List D:=[.int .i64 a0,.str a1,.int .i64 a2,.slice false (a3.map aD.d),.slice false (a4.map aJ.d),.bool a5,.bool a6,.bool a7,.bool a8,.int .i64 a9,.str a10,.slice false (a11.map aN.d),.int .i64 a12,.str a13,.int .i64 a14,.int .i64 a15]
abbrev w39 (a0:Int) (a1:Bool) (a2:Int) (a3:Int) (a4:Int) (a5:Int) (a6:Int) (a7:Int) (a8:List bL) (a9:List UInt8):List D:=[.int .u8 a0,.bool a1,.int .i64 a2,.int .i64 a3,.int .i64 a4,.int .i64 a5,.int .i64 a6,.int .i64 a7,.slice false (a8.map bR.d),.str a9]
abbrev w40 (a0:Int) (a1:List UInt8) (a2:Int) (a3:List aL) (a4:List aI) (a5:Bool) (a6:Bool) (a7:Bool) (a8:Bool):List D:=[.int .i64 a0,.str a1,.int .i64 a2,.slice false (a3.map aD.d),.slice false (a4.map aJ.d),.bool a5,.bool a6,.bool a7,.bool a8]
abbrev w41 (a0:Int) (a1:List UInt8) (a2:Int) (a3:D) (a4:List aI) (a5:Bool) (a6:Bool) (a7:Bool) (a8:Bool):List D:=[.int .i64 a0,.str a1,.int .i64 a2,a3,.slice false (a4.map aJ.d),.bool a5,.bool a6,.bool a7,.bool a8]
abbrev w42 (a0:Int) (a1:List UInt8) (a2:List aU) (a3:Int):List D:=[.int .i64 a0,.str a1,.slice false (a2.map aN.d),.int .i64 a3]
abbrev w43 (a0:Int) (a1:Int) (a2:Int) (a3:Int):List D:=[.int .i64 a0,.int .i64 a1,.int .i64 a2,.int .i64 a3]
abbrev w44 (a0:Int) (a1:Int) (a2:Int) (a3:Bool):List D:=[.int .i64 a0,.int .i64 a1,.int .i64 a2,.bool a3]


theorem aCo  (r:aY) (h:zS=some r):cJ prog 19 [] (.agg (v3 r)):=by
 refine bC (rs:=[.agg (v3 r)]) func19 M ntmps19 (nle M) M fun O hO=>?_
 show IWP _ _ _ _ ⟨[],[]⟩ _
 unfold zS at h
 refine aC (aA M (bI (cs:=q16) (cs':=(w40 0 [] 0 ([]:List aL) ([]:List aI) false false false false)) 0 M M (lb M) M ti28 M M (.k (.k (.k (.cons (.nils _) (.cons (.nils _) (.all _)))))))<|aB ?_)
 refine aC (aA M (qP (d':=.agg (w40 0 [] 0 ([]:List aL) ([]:List aI) false false false false)) (cF (cs:=q16) M M (lb M) underlying28 ti28 pl28 M .nil M) (.agg (.k (.k (.k (.cons (.nils _) (.cons (.nils _) (.all _))))))))<|aA M (bQ (ds':=[.int _ _,.str _,.int _ _,.slice false (([]:List aL).map aD.d),.slice false (([]:List aI).map aJ.d),.bool _,.bool _,.bool _,.bool _]) M M ti28 (svR M) M (svA q14 M) M M M (nle M) M)<|aB ?_)
 refine aT ?_
 obtain rfl:=sj_ h
 refine ⟨.inr M,(.cons (rva la28 M M (nle M) M) .nil)⟩

theorem aBq  (r:bM) (h:xG=some r):cJ prog 45 [] (.agg (v6 r)):=by
 refine bC (rs:=[.agg (v6 r)]) func45 M ntmps45 (nle M) M fun O hO=>?_
 show IWP _ _ _ _ ⟨[],[]⟩ _
 unfold xG at h
 refine aC (aA M (bI (cs:=q25) (cs':=[.int .i64 0,.str [],.slice false (([]:List aU).map aN.d)]) 0 M M (lb M) M ti31 M M (.k (.k (.cons (.nils _) .nil))))<|aB ?_)
 refine aC (aA M (qP (d':=.agg [.int .i64 0,.str [],.slice false (([]:List aU).map aN.d)]) (cF (cs:=q25) M M (lb M) underlying31 ti31 pl31 M .nil M) (.agg (.k (.k (.cons (.nils _) .nil)))))<|aA M (bQ (ds':=[.int _ _,.str _,.slice false (([]:List aU).map aN.d)]) M M ti31 (svR M) M (svA q21 M) M M M (nle M) M)<|aB ?_)
 refine aT ?_
 obtain rfl:=sj_ h
 refine ⟨.inr M,(.cons (rva la31 M M (nle M) M) .nil)⟩

theorem aCq  (r:bX) (h:zV=some r):cJ prog 20 [] (.agg (v5 r)):=by
 refine bC (rs:=[.agg (v5 r)]) func20 M ntmps20 (nle M) M fun O hO=>?_
 show IWP _ _ _ _ ⟨[],[]⟩ _
 unfold zV at h
 refine aC (aA M (bI (cs:=q20) (cs':=(w42 0 [] ([]:List aU) 0)) 0 M M (lb M) M ti33 M M (.k (.k (.cons (.nils _) (.all _)))))<|aB ?_)
 obtain ⟨x1,hx1,h⟩:=aZ h
 refine aC (aA M (aX (r:=.agg q21) M M (lb M) cl45 .nil M (aBq  _ hx1))<|aA M (cF (cs:=q18) M M (lb M) underlying33 ti33 pl33 M (.cons (svA q21 M) (.cons (sv (d:=.int _ (-1)) M) .nil)) M)<|aA M (stA q18 q18 ti33 M M M M M M M M (nle M) M)<|aB ?_)
 refine aT ?_
 obtain rfl:=sj_ h
 refine ⟨.inr M,(.cons (rva la33 M M (nle M) M) .nil)⟩

theorem oB  (r:bB) (h:lY=some r):cJ prog 6 [] (.agg (v0 r)):=by
 refine bC (rs:=[.agg (v0 r)]) func6 M ntmps6 (nle M) M fun O hO=>?_
 show IWP _ _ _ _ ⟨[],[]⟩ _
 unfold lY at h
 refine aC (aA M (bI (cs:=q10) (cs':=(w38 0 [] 0 ([]:List aL) ([]:List aI) false false false false 0 [] ([]:List aU) 0 [] 0 0)) 0 M M (lb M) M ti38 M M (.k (.k (.k (.cons (.nils _) (.cons (.nils _) (.k4 (.k (.k (.cons (.nils _) (.all _)))))))))))<|aB ?_)
 obtain ⟨x1,hx1,h⟩:=aZ h
 obtain ⟨x2,hx2,h⟩:=aZ h
 refine aC (aA M (aX (r:=.agg q14) M M (lb M) cl19 .nil M (aCo  _ hx1))<|aA M (aX (r:=.agg q18) M M (lb M) cl20 .nil M (aCq  _ hx2))<|aA M (cF (cs:=q9) M M (lb M) underlying38 ti38 pl38 M (.cons (svA q14 M) (.cons (svA q18 M) .nil)) M)<|aA M (stA q9 q9 ti38 M M M M M M M M (nle M) M)<|aB ?_)
 refine aT ?_
 obtain rfl:=sj_ h
 refine ⟨.inr M,(.cons (rva la38 M M (nle M) M) .nil)⟩

theorem xP (a0:Int) (r:Bool) (h:rT a0=some r):cJ prog 119 [.int .i64 a0] (.bool r):=by
 refine bC (rs:=[.bool r]) func119 M ntmps119 (nle M) M fun O hO=>?_
 show IWP _ _ _ _ ⟨[(0,.int .i64 a0)],[]⟩ _
 unfold rT at h
 refine aC (aA M (aE M M (lb M) (sv (d:=.bool false) M))<|aB ?_)
 obtain ⟨x1,hx1,h⟩:=aS h
 obtain ⟨x2,hx2,h⟩:=aS h
 obtain ⟨x3,hx3,h⟩:=aS h
 refine aC (aA M (mvI M M M M)<|aA M (aP M M (lb M) (svI M) (sv (d:=.int _ 0) M) M hx1)<|aA M (mvB M M M M)<|aF M M (.one M) M (by decide) (fun hb=>(mvI M M M M))<|aF M M (.one M) M (by decide) (fun hb=>(aP M M (lb M) (svcI M hb) (sv (d:=.int _ 4611686018427387903) M) M hx2))<|aA M (cC M M (lb M) (svB M) M M hx3)<|aA M (asB M M M M)<|aB ?_)
 refine aT ?_
 obtain rfl:=sj_ h
 refine ⟨.inr M,(.cons (sv M) .nil)⟩

theorem lP (a0:aI) (r:Bool) (h:gZ a0=some r):cJ prog 88 [.agg [.int .i64 a0.From,.int .i64 a0.To]] (.bool r):=by
 refine bC (rs:=[.bool r]) func88 M ntmps88 (nle M) M fun O hO=>?_
 show IWP _ _ _ _ ⟨[(0,.agg [.int .i64 a0.From,.int .i64 a0.To])],[]⟩ _
 unfold gZ at h
 refine aC (aA M (bV (cs:=q27) 0 M M (lb M) M (svA q27 M) M M)<|aA M (aE M M (lb M) (sv (d:=.bool false) M))<|aB ?_)
 obtain ⟨x1,hx1,h⟩:=aZ h
 obtain ⟨x2,hx2,h⟩:=aZ h
 obtain ⟨x3,hx3,h⟩:=aS h
 refine aC (aA M (faR 0 M M M underlying116 M ti3 (lb M) M M)<|aA M (aG (d:=.int _ _) M M (lb M) underlying3 ag3 ti3 (by decide) (svR M) M (nle M) M)<|aA M (aX (r:=.bool _) M M (lb M) cl119 (.cons (svI M) .nil) M (xP _ _ hx1))<|aA M (mvB M M M M)<|aF M M (.one M) M (by decide) (fun hb=>(faR 1 M M M underlying116 M ti3 (lb M) M M))<|aF M M (.one M) M (by decide) (fun hb=>(aG (d:=.int _ _) M M (lb M) underlying3 ag3 ti3 (by decide) (svcR M hb) M (nle M) M))<|aF M M (.one M) M (by decide) (fun hb=>(aX (r:=.bool _) M M (lb M) cl119 (.cons (svcI M hb) .nil) M (xP _ _ (gd_t hx2 hb))))<|aA M (cC M M (lb M) (svB M) M M hx3)<|aA M (asB M M M M)<|aB ?_)
 refine aT ?_
 obtain rfl:=sj_ h
 refine ⟨.inr M,(.cons (sv M) .nil)⟩

theorem xQ (a0:aI) (r:Bool) (h:mM a0=some r):cJ prog 121 [.agg [.int .i64 a0.From,.int .i64 a0.To]] (.bool r):=by
 refine bC (rs:=[.bool r]) func121 M ntmps121 (nle M) M fun O hO=>?_
 show IWP _ _ _ _ ⟨[(0,.agg [.int .i64 a0.From,.int .i64 a0.To])],[]⟩ _
 unfold mM at h
 refine aC (aA M (bV (cs:=q27) 0 M M (lb M) M (svA q27 M) M M)<|aA M (aE M M (lb M) (sv (d:=.bool false) M))<|aB ?_)
 obtain ⟨x1,hx1,h⟩:=aZ h
 refine aC (aA M (lra q27 qN M M M M M (nle M) M)<|aA M (aX (r:=.bool _) M M (lb M) cl88 (.cons (svA q27 M) .nil) M (lP _ _ hx1))<|aA M (dN M M (lb M) (svB M))<|aA M (asB M M M M)<|aB ?_)
 refine aT ?_
 obtain rfl:=sj_ h
 refine ⟨.inr M,(.cons (sv M) .nil)⟩

theorem jK (a0:(List aI)) (r:Int) (h:eF a0=some r):cJ prog 129 [.slice false (a0.map aJ.d),.fn 121 []] (.int .i64 r):=by
 refine bC (rs:=[.int .i64 r]) func129 M ntmps129 (nle M) M fun O hO=>?_
 show IWP _ _ _ _ ⟨[(0,.slice false (a0.map aJ.d)),(1,.fn 121 [])],[]⟩ _
 unfold eF at h
 refine aC (aA M (aE M M (lb M) (sv (d:=.int _ 0) M))<|aB ?_)
 refine aW ?_
 refine aC (aA M (mvL M M M M)<|aA M (cN aJ (l:=a0) M M (lb M) underlying26 (svL M))<|aA M (aK M M (lb M) (sv (d:=.int _ 0) M))<|aB ?_)
 refine bG ?_
 refine dA (α:=Nat × Int) (fun z=>⟨[(0,.slice false (a0.map aJ.d)),(1,.fn 121 []),(7,.int .i64 (a0.length:Int)),(8,.int .i64 z.2)],[]⟩) (fun z=>cD a0 z.1 z.2=some r) (fun z=>z.1) (fuel,0) (fun i=>i) ⟨(.sames M M),.nil,cA [] M (by decide),fun _ _=>M⟩ ?_ ?_
 ·exact h
 ·
  rintro ⟨n0,v7⟩ h
  cases n0 with
  | zero=>exact absurd h (by unfold cD; exact nofun)
  | succ n0 =>
   unfold cD at h
   obtain ⟨x14,hx14,h⟩:=aS h
   refine aC (aA M (aP M M (lb M) (svI M) (svI M) M hx14)<|aB ?_)
   refine aW ?_
   refine aR (b:=_) M (fun hc15=>?_) (fun hc15=>?_)
   ·
    replace h:=bS h hc15
    refine aV ?_
    refine aM ?_
    refine aW ?_
    refine bG ?_
    refine aC (aA M (mvI M M M M)<|aA M (asI M M M M)<|aB ?_)
    obtain ⟨x16,hx16,h⟩:=aZ h
    obtain ⟨x17,hx17,h⟩:=aZ h
    refine aC (aA M (aK M M (lb M) (sv (d:=.fn 121 []) M))<|aA M (mvL M M M M)<|aA M (mvI M M M M)<|aA M (dB aJ (cs:=q27) M M (lb M) underlying26 gC (svL M) (svI M) hx16 M M)<|aA M (cX (cs:=q27) M M (lb M) underlying116 yP gC (by decide) (sv (d:=.fptr q27) M) (nle M) M)<|aA M (nP (r:=.bool _) M M (lb M) cl121 (sv (d:=.fn 121 []) M) (.cons (svA q27 M) .nil) M (xQ _ _ hx17))<|aB ?_)
    refine aR (b:=_) M (fun hc18=>?_) (fun hc18=>?_)
    ·
     replace h:=bS h hc18
     refine aC (aA M (mvI M M M M)<|aA M (asI M M M M)<|aB ?_)
     refine aT ?_
     refine bP ?_
     refine bA ?_
     refine bA ?_
     refine bP ?_
     refine bA ?_
     obtain rfl:=sj_ h
     refine ⟨.inr M,(.cons (sv M) .nil)⟩
    ·
     replace h:=bT h hc18
     refine aV ?_
     refine bZ ?_
     refine aM ?_
     obtain ⟨x19,hx19,h⟩:=aS h
     refine bE (aA M (bN M M (lb M) (svI M) (sv (d:=.int _ 1) M) M hx19)<|aA M (mvI M M M M)<|cB ?_)
     refine aM ⟨(n0,x19),(fun i=>i),⟨(.sames M M),.nil,cA [] M (by decide),fun _ _=>M⟩,?_,?_⟩
     exact h
     exact Nat.lt_succ_self _
   ·
    replace h:=bT h hc15
    refine cQ ?_
    refine bJ ?_
    refine bJ ?_
    refine cR ?_
    refine aM ?_
    refine aC (aA M (aE M M (lb M) (sv (d:=.int _ (-1)) M))<|aB ?_)
    refine aT ?_
    obtain rfl:=sj_ h
    refine ⟨.inr M,(.cons (sv M) .nil)⟩

theorem iM (a0:(List aI)) (r:Bool) (h:dL a0=some r):cJ prog 120 [.slice false (a0.map aJ.d),.fn 121 []] (.bool r):=by
 refine bC (rs:=[.bool r]) func120 M ntmps120 (nle M) M fun O hO=>?_
 show IWP _ _ _ _ ⟨[(0,.slice false (a0.map aJ.d)),(1,.fn 121 [])],[]⟩ _
 unfold dL at h
 refine aC (aA M (aE M M (lb M) (sv (d:=.bool false) M))<|aB ?_)
 obtain ⟨x1,hx1,h⟩:=aZ h
 obtain ⟨x2,hx2,h⟩:=aS h
 refine aC (aA M (mvL M M M M)<|aA M (aK M M (lb M) (sv (d:=.fn 121 []) M))<|aA M (aX (r:=.int _ _) M M (lb M) cl129 (.cons (svL M) (.cons (sv (d:=.fn 121 []) M) .nil)) M (jK _ _ hx1))<|aA M (aP M M (lb M) (svI M) (sv (d:=.int _ 0) M) M hx2)<|aA M (asB M M M M)<|aB ?_)
 refine aT ?_
 obtain rfl:=sj_ h
 refine ⟨.inr M,(.cons (sv M) .nil)⟩

theorem iB (a0:aI) (r:Bool) (h:fS a0=some r):cJ prog 89 [.agg [.int .i64 a0.From,.int .i64 a0.To]] (.bool r):=by
 refine bC (rs:=[.bool r]) func89 M ntmps89 (nle M) M fun O hO=>?_
 show IWP _ _ _ _ ⟨[(0,.agg [.int .i64 a0.From,.int .i64 a0.To])],[]⟩ _
 unfold fS at h
 refine aC (aA M (bV (cs:=q27) 0 M M (lb M) M (svA q27 M) M M)<|aA M (aE M M (lb M) (sv (d:=.bool false) M))<|aB ?_)
 obtain ⟨x1,hx1,h⟩:=aS h
 refine aC (aA M (faR 1 M M M underlying116 M ti3 (lb M) M M)<|aA M (aG (d:=.int _ _) M M (lb M) underlying3 ag3 ti3 (by decide) (svR M) M (nle M) M)<|aA M (faR 0 M M M underlying116 M ti3 (lb M) M M)<|aA M (aG (d:=.int _ _) M M (lb M) underlying3 ag3 ti3 (by decide) (svR M) M (nle M) M)<|aA M (aP M M (lb M) (svI M) (svI M) M hx1)<|aA M (asB M M M M)<|aB ?_)
 refine aT ?_
 obtain rfl:=sj_ h
 refine ⟨.inr M,(.cons (sv M) .nil)⟩

theorem jU (a0:(List aI)) (r:Int) (h:eK a0=some r):cJ prog 129 [.slice false (a0.map aJ.d),.fn 89 []] (.int .i64 r):=by
 refine bC (rs:=[.int .i64 r]) func129 M ntmps129 (nle M) M fun O hO=>?_
 show IWP _ _ _ _ ⟨[(0,.slice false (a0.map aJ.d)),(1,.fn 89 [])],[]⟩ _
 unfold eK at h
 refine aC (aA M (aE M M (lb M) (sv (d:=.int _ 0) M))<|aB ?_)
 refine aW ?_
 refine aC (aA M (mvL M M M M)<|aA M (cN aJ (l:=a0) M M (lb M) underlying26 (svL M))<|aA M (aK M M (lb M) (sv (d:=.int _ 0) M))<|aB ?_)
 refine bG ?_
 refine dA (α:=Nat × Int) (fun z=>⟨[(0,.slice false (a0.map aJ.d)),(1,.fn 89 []),(7,.int .i64 (a0.length:Int)),(8,.int .i64 z.2)],[]⟩) (fun z=>cI a0 z.1 z.2=some r) (fun z=>z.1) (fuel,0) (fun i=>i) ⟨(.sames M M),.nil,cA [] M (by decide),fun _ _=>M⟩ ?_ ?_
 ·exact h
 ·
  rintro ⟨n0,v7⟩ h
  cases n0 with
  | zero=>exact absurd h (by unfold cI; exact nofun)
  | succ n0 =>
   unfold cI at h
   obtain ⟨x14,hx14,h⟩:=aS h
   refine aC (aA M (aP M M (lb M) (svI M) (svI M) M hx14)<|aB ?_)
   refine aW ?_
   refine aR (b:=_) M (fun hc15=>?_) (fun hc15=>?_)
   ·
    replace h:=bS h hc15
    refine aV ?_
    refine aM ?_
    refine aW ?_
    refine bG ?_
    refine aC (aA M (mvI M M M M)<|aA M (asI M M M M)<|aB ?_)
    obtain ⟨x16,hx16,h⟩:=aZ h
    obtain ⟨x17,hx17,h⟩:=aZ h
    refine aC (aA M (aK M M (lb M) (sv (d:=.fn 89 []) M))<|aA M (mvL M M M M)<|aA M (mvI M M M M)<|aA M (dB aJ (cs:=q27) M M (lb M) underlying26 gC (svL M) (svI M) hx16 M M)<|aA M (cX (cs:=q27) M M (lb M) underlying116 yP gC (by decide) (sv (d:=.fptr q27) M) (nle M) M)<|aA M (nP (r:=.bool _) M M (lb M) cl89 (sv (d:=.fn 89 []) M) (.cons (svA q27 M) .nil) M (iB _ _ hx17))<|aB ?_)
    refine aR (b:=_) M (fun hc18=>?_) (fun hc18=>?_)
    ·
     replace h:=bS h hc18
     refine aC (aA M (mvI M M M M)<|aA M (asI M M M M)<|aB ?_)
     refine aT ?_
     refine bP ?_
     refine bA ?_
     refine bA ?_
     refine bP ?_
     refine bA ?_
     obtain rfl:=sj_ h
     refine ⟨.inr M,(.cons (sv M) .nil)⟩
    ·
     replace h:=bT h hc18
     refine aV ?_
     refine bZ ?_
     refine aM ?_
     obtain ⟨x19,hx19,h⟩:=aS h
     refine bE (aA M (bN M M (lb M) (svI M) (sv (d:=.int _ 1) M) M hx19)<|aA M (mvI M M M M)<|cB ?_)
     refine aM ⟨(n0,x19),(fun i=>i),⟨(.sames M M),.nil,cA [] M (by decide),fun _ _=>M⟩,?_,?_⟩
     exact h
     exact Nat.lt_succ_self _
   ·
    replace h:=bT h hc15
    refine cQ ?_
    refine bJ ?_
    refine bJ ?_
    refine cR ?_
    refine aM ?_
    refine aC (aA M (aE M M (lb M) (sv (d:=.int _ (-1)) M))<|aB ?_)
    refine aT ?_
    obtain rfl:=sj_ h
    refine ⟨.inr M,(.cons (sv M) .nil)⟩

theorem jL (a0:(List aI)) (r:Bool) (h:dU a0=some r):cJ prog 120 [.slice false (a0.map aJ.d),.fn 89 []] (.bool r):=by
 refine bC (rs:=[.bool r]) func120 M ntmps120 (nle M) M fun O hO=>?_
 show IWP _ _ _ _ ⟨[(0,.slice false (a0.map aJ.d)),(1,.fn 89 [])],[]⟩ _
 unfold dU at h
 refine aC (aA M (aE M M (lb M) (sv (d:=.bool false) M))<|aB ?_)
 obtain ⟨x1,hx1,h⟩:=aZ h
 obtain ⟨x2,hx2,h⟩:=aS h
 refine aC (aA M (mvL M M M M)<|aA M (aK M M (lb M) (sv (d:=.fn 89 []) M))<|aA M (aX (r:=.int _ _) M M (lb M) cl129 (.cons (svL M) (.cons (sv (d:=.fn 89 []) M) .nil)) M (jU _ _ hx1))<|aA M (aP M M (lb M) (svI M) (sv (d:=.int _ 0) M) M hx2)<|aA M (asB M M M M)<|aB ?_)
 refine aT ?_
 obtain rfl:=sj_ h
 refine ⟨.inr M,(.cons (sv M) .nil)⟩

theorem oA (a0:(List aI)) (r:Int) (h:lC a0=some r):cJ prog 90 [.slice false (a0.map aJ.d)] (.int .i64 r):=by
 refine bC (rs:=[.int .i64 r]) func90 M ntmps90 (nle M) M fun O hO=>?_
 show IWP _ _ _ _ ⟨[(0,.slice false (a0.map aJ.d))],[]⟩ _
 unfold lC at h
 refine aC (aA M (aE M M (lb M) (sv (d:=.int _ 0) M))<|aB ?_)
 refine aW ?_
 refine bG ?_
 obtain ⟨x1,hx1,h⟩:=aZ h
 refine aC (aA M (mvL M M M M)<|aA M (aX (r:=.bool _) M M (lb M) cl120 (.cons (svL M) (.cons (sv (d:=.fn 121 []) M) .nil)) M (iM _ _ hx1))<|aA M (asB M M M M)<|aB ?_)
 refine aR (b:=_) M (fun hc2=>?_) (fun hc2=>?_)
 ·
  replace h:=bS h hc2
  refine aC (aA M (aE M M (lb M) (sv (d:=.int _ 8) M))<|aB ?_)
  refine aT ?_
  refine bP ?_
  refine bA ?_
  obtain rfl:=sj_ h
  refine ⟨.inr M,(.cons (sv M) .nil)⟩
 ·
  replace h:=bT h hc2
  obtain ⟨x3,hx3,h⟩:=aZ h
  refine aC (aA M (mvL M M M M)<|aA M (aX (r:=.bool _) M M (lb M) cl120 (.cons (svL M) (.cons (sv (d:=.fn 89 []) M) .nil)) M (jL _ _ hx3))<|aA M (asB M M M M)<|aB ?_)
  refine aR (b:=_) M (fun hc4=>?_) (fun hc4=>?_)
  ·
   replace h:=bS h hc4
   refine aC (aA M (aE M M (lb M) (sv (d:=.int _ 4) M))<|aB ?_)
   refine aT ?_
   refine bP ?_
   refine bA ?_
   obtain rfl:=sj_ h
   refine ⟨.inr M,(.cons (sv M) .nil)⟩
  ·
   replace h:=bT h hc4
   refine aV ?_
   refine bZ ?_
   refine aM ?_
   refine aW ?_
   refine aC (aA M (aE M M (lb M) (sv (d:=.int _ 1) M))<|aB ?_)
   refine bG ?_
   refine dA (α:=Nat × Int) (fun z=>⟨[(0,.slice false (a0.map aJ.d)),(3,.int .i64 z.2)],[]⟩) (fun z=>gD a0 z.1 z.2=some r) (fun z=>z.1) (fuel,1) (fun i=>i) ⟨(.sames M M),.nil,cA [] M (by decide),fun _ _=>M⟩ ?_ ?_
   ·exact h
   ·
    rintro ⟨n0,v13⟩ h
    cases n0 with
    | zero=>exact absurd h (by unfold gD; exact nofun)
    | succ n0 =>
     unfold gD at h
     refine aW ?_
     obtain ⟨x22,hx22,h⟩:=aS h
     refine aC (aA M (mvI M M M M)<|aA M (mvL M M M M)<|aA M (cN aJ (l:=a0) M M (lb M) underlying26 (svL M))<|aA M (aP M M (lb M) (svI M) (svI M) M hx22)<|aB ?_)
     refine aR (b:=_) M (fun hc23=>?_) (fun hc23=>?_)
     ·
      replace h:=bS h hc23
      refine aV ?_
      refine aM ?_
      refine aW ?_
      refine bG ?_
      obtain ⟨x24,hx24,h⟩:=aZ h
      obtain ⟨x25,hx25,h⟩:=aS h
      obtain ⟨x26,hx26,h⟩:=aZ h
      obtain ⟨x27,hx27,h⟩:=aS h
      refine dH M [⟨[0],[],[(16,.slice false (a0.map aJ.d))],[]⟩,
       ⟨[3],[],[(17,.int .i64 v13)],[]⟩,
       ⟨[16,17],[],[(18,.fptr [.int .i64 x24.From,.int .i64 x24.To])],[]⟩,
       ⟨[18],[],[(19,.fptr [.int .i64 x24.From])],[]⟩,
       ⟨[19],[],[(20,.int .i64 x24.From)],[]⟩,
       ⟨[0],[],[(21,.slice false (a0.map aJ.d))],[]⟩,
       ⟨[3],[],[(22,.int .i64 v13)],[]⟩,
       ⟨[22],[],[(23,.int .i64 x25)],[]⟩,
       ⟨[21,23],[],[(24,.fptr [.int .i64 x26.From,.int .i64 x26.To])],[]⟩,
       ⟨[24],[],[(25,.fptr [.int .i64 x26.To])],[]⟩,
       ⟨[25],[],[(26,.int .i64 x26.To)],[]⟩,
       ⟨[20,26],[],[(27,.bool x27)],[]⟩] M ?_ (by kernel_rfl) ?_
      ·refine .cons (lop M M fun S hA=>(aK M M (lb M) (svaL hA M M))) ?_
       refine .cons (lop M M fun S hA=>(aK M M (lb M) (svaI hA M M))) ?_
       refine .cons (lop M M fun S hA=>(dB aJ (cs:=q27) M M (lb M) underlying26 gC (svaL hA M M) (svaI hA M M) hx24 M M)) ?_
       refine .cons (lop M M fun S hA=>(cV (cs':=[.int _ _]) M M (lb M) underlying116 M ti3 (by decide) (sv (d:=.fptr q27) (agr hA M M)) M)) ?_
       refine .cons (lop M M fun S hA=>(eB M M (lb M) underlying3 ag3 ti3 (by decide) (sv (d:=.fptr [.int _ _]) (agr hA M M)) (nle M))) ?_
       refine .cons (lop M M fun S hA=>(aK M M (lb M) (svaL hA M M))) ?_
       refine .cons (lop M M fun S hA=>(aK M M (lb M) (svaI hA M M))) ?_
       refine .cons (lop M M fun S hA=>(bN M M (lb M) (svaI hA M M) (sv (d:=.int _ 1) M) M hx25)) ?_
       refine .cons (lop M M fun S hA=>(dB aJ (cs:=q27) M M (lb M) underlying26 gC (svaL hA M M) (svaI hA M M) hx26 M M)) ?_
       refine .cons (lop M M fun S hA=>(cV (cs':=[.int _ _]) M M (lb M) underlying116 M ti3 (by decide) (sv (d:=.fptr q27) (agr hA M M)) M)) ?_
       refine .cons (lop M M fun S hA=>(eB M M (lb M) underlying3 ag3 ti3 (by decide) (sv (d:=.fptr [.int _ _]) (agr hA M M)) (nle M))) ?_
       refine .cons (lop M M fun S hA=>(aP M M (lb M) (svaI hA M M) (svaI hA M M) M hx27)) ?_
       exact .nil
      refine aR (b:=_) M (fun hc28=>?_) (fun hc28=>?_)
      ·
       replace h:=bS h hc28
       refine aC (aA M (aE M M (lb M) (sv (d:=.int _ 10) M))<|aB ?_)
       refine aT ?_
       refine bP ?_
       refine bA ?_
       refine bA ?_
       refine bP ?_
       refine bA ?_
       obtain rfl:=sj_ h
       refine ⟨.inr M,(.cons (sv M) .nil)⟩
      ·
       replace h:=bT h hc28
       refine aV ?_
       refine bZ ?_
       refine aM ?_
       obtain ⟨x29,hx29,h⟩:=aS h
       refine bE (aA M (mvI M M M M)<|aA M (bN M M (lb M) (svI M) (sv (d:=.int _ 1) M) M hx29)<|aA M (asI M M M M)<|cB ?_)
       refine aM ⟨(n0,x29),(fun i=>i),⟨(.sames M M),.nil,cA [] M (by decide),fun _ _=>M⟩,?_,?_⟩
       exact h
       exact Nat.lt_succ_self _
     ·
      replace h:=bT h hc23
      refine cQ ?_
      refine bJ ?_
      refine bJ ?_
      refine cR ?_
      refine aM ?_
      refine aC (aA M (aE M M (lb M) (sv (d:=.int _ 0) M))<|aB ?_)
      refine aT ?_
      obtain rfl:=sj_ h
      refine ⟨.inr M,(.cons (sv M) .nil)⟩

theorem vK (a0:aY) (r:Bool) (h:kW a0=some r):cJ prog 69 [.agg (v3 a0)] (.bool r):=by
 refine bC (rs:=[.bool r]) func69 M ntmps69 (nle M) M fun O hO=>?_
 show IWP _ _ _ _ ⟨[(0,.agg (v3 a0))],[]⟩ _
 unfold kW at h
 refine aC (aA M (bV (cs:=q14) 0 M M (lb M) M (svA q14 M) M M)<|aA M (aE M M (lb M) (sv (d:=.bool false) M))<|aB ?_)
 refine aW ?_
 obtain ⟨x1,hx1,h⟩:=aZ h
 obtain ⟨x2,hx2,h⟩:=aS h
 refine aC (aA M (faR 4 M M M underlying28 M ti26 (lb M) M M)<|aA M (lrL la26 M M M M M (nle M) M)<|aA M (aX (r:=.int _ _) M M (lb M) cl90 (.cons (svL M) .nil) M (oA _ _ hx1))<|aA M (aP M M (lb M) (svI M) (sv (d:=.int _ 0) M) M hx2)<|aB ?_)
 refine aR (b:=_) M (fun hc3=>?_) (fun hc3=>?_)
 ·
  replace h:=bS h hc3
  refine aC (aA M (aE M M (lb M) (sv (d:=.bool false) M))<|aB ?_)
  refine aT ?_
  refine bA ?_
  obtain rfl:=sj_ h
  refine ⟨.inr M,(.cons (sv M) .nil)⟩
 ·
  replace h:=bT h hc3
  refine aV ?_
  refine aM ?_
  obtain ⟨x4,hx4,h⟩:=aS h
  obtain ⟨x5,hx5,h⟩:=aZ h
  obtain ⟨x6,hx6,h⟩:=aS h
  obtain ⟨x7,hx7,h⟩:=aS h
  obtain ⟨x8,hx8,h⟩:=aZ h
  obtain ⟨x9,hx9,h⟩:=aS h
  obtain ⟨x10,hx10,h⟩:=aS h
  obtain ⟨x11,hx11,h⟩:=aS h
  refine dH M [⟨[1],[],[(7,.ref 0 4)],[]⟩,
   ⟨[7],[0],[(8,.slice false (a0.Lost.map aJ.d))],[]⟩,
   ⟨[8],[],[(9,.int .i64 (a0.Lost.length:Int))],[]⟩,
   ⟨[9],[],[(10,.bool x4)],[]⟩,
   ⟨[10],[],[(11,.bool x4)],[]⟩,
   ⟨[1,11],[],[(12,.cnd (x4 == false) (.ref 0 4))],[]⟩,
   ⟨[11,12],[0],[(13,.cnd (x4 == false) (.slice false (a0.Lost.map aJ.d)))],[]⟩,
   ⟨[11,13],[],[(14,.cnd (x4 == false) (.fptr [.int .i64 x5.From,.int .i64 x5.To]))],[]⟩,
   ⟨[11,14],[],[(15,.cnd (x4 == false) (.fptr [.int .i64 x5.From]))],[]⟩,
   ⟨[11,15],[],[(16,.cnd (x4 == false) (.int .i64 x5.From))],[]⟩,
   ⟨[1,11],[],[(17,.cnd (x4 == false) (.ref 0 0))],[]⟩,
   ⟨[11,17],[0],[(18,.cnd (x4 == false) (.int .i64 a0.Base))],[]⟩,
   ⟨[11,16,18],[],[(19,.cnd (x4 == false) (.bool x6))],[]⟩,
   ⟨[11,19],[],[(20,.cnd (x4 == false) (.bool x6))],[]⟩,
   ⟨[1,20],[],[(21,.cnd (((x4 == false) && (x6 == true))) (.ref 0 4))],[]⟩,
   ⟨[20,21],[0],[(22,.cnd (((x4 == false) && (x6 == true))) (.slice false (a0.Lost.map aJ.d)))],[]⟩,
   ⟨[1,20],[],[(23,.cnd (((x4 == false) && (x6 == true))) (.ref 0 4))],[]⟩,
   ⟨[20,23],[0],[(24,.cnd (((x4 == false) && (x6 == true))) (.slice false (a0.Lost.map aJ.d)))],[]⟩,
   ⟨[20,24],[],[(25,.cnd (((x4 == false) && (x6 == true))) (.int .i64 (a0.Lost.length:Int)))],[]⟩,
   ⟨[20,25],[],[(26,.cnd (((x4 == false) && (x6 == true))) (.int .i64 x7))],[]⟩,
   ⟨[20,22,26],[],[(27,.cnd (((x4 == false) && (x6 == true))) (.fptr [.int .i64 x8.From,.int .i64 x8.To]))],[]⟩,
   ⟨[20,27],[],[(28,.cnd (((x4 == false) && (x6 == true))) (.fptr [.int .i64 x8.To]))],[]⟩,
   ⟨[20,28],[],[(29,.cnd (((x4 == false) && (x6 == true))) (.int .i64 x8.To))],[]⟩,
   ⟨[1,20],[],[(30,.cnd (((x4 == false) && (x6 == true))) (.ref 0 2))],[]⟩,
   ⟨[20,30],[0],[(31,.cnd (((x4 == false) && (x6 == true))) (.int .i64 a0.Next))],[]⟩,
   ⟨[20,29,31],[],[(32,.cnd (((x4 == false) && (x6 == true))) (.bool x9))],[]⟩,
   ⟨[11,20,32],[],[(33,.cnd (x4 == false) (.bool x10))],[]⟩,
   ⟨[11,33],[],[(34,.bool x11)],[]⟩,
   ⟨[34],[],[(2,.bool x11)],[]⟩] M ?_ (by kernel_rfl) ?_
  ·refine .cons (lop M M fun S hA=>(aO M M (lb M) underlying28 M ti26 (by decide) (svaR hA M M) (off':=4) M)) ?_
   refine .cons (lop M M fun S hA=>(aG (d:=.slice _ _) M M (lb M) underlying26 ag26 ti26 (by decide) (svaR hA M M) (agi hA M M) (nle M) M)) ?_
   refine .cons (lop M M fun S hA=>(cN aJ (l:=a0.Lost) M M (lb M) underlying26 (svaL hA M M))) ?_
   refine .cons (lop M M fun S hA=>(aP M M (lb M) (svaI hA M M) (sv (d:=.int _ 0) M) M hx4)) ?_
   refine .cons (lop M M fun S hA=>(aK M M (lb M) (svaB hA M M))) ?_
   refine .cons (lopg M M M M (by decide) (fun S hA=>grd1 hA M M) (fun S hA hb=>(aO M M (lb M) underlying28 M ti26 (by decide) (svaR hA M M) (off':=4) M))) ?_
   refine .cons (lopg M M M M (by decide) (fun S hA=>grd1 hA M M) (fun S hA hb=>(aG (d:=.slice _ _) M M (lb M) underlying26 ag26 ti26 (by decide) (svc (d:=.ref _ _) (agr hA M M) hb) (agi hA M M) (nle M) M))) ?_
   refine .cons (lopg M M M M (by decide) (fun S hA=>grd1 hA M M) (fun S hA hb=>(dB aJ (cs:=q27) M M (lb M) underlying26 gC (svc (d:=.slice _ _) (agr hA M M) hb) (sv (d:=.int _ 0) M) (gd_t hx5 hb) M M))) ?_
   refine .cons (lopg M M M M (by decide) (fun S hA=>grd1 hA M M) (fun S hA hb=>(cV (cs':=[.int _ _]) M M (lb M) underlying116 M ti3 (by decide) (svc (d:=.fptr q27) (agr hA M M) hb) M))) ?_
   refine .cons (lopg M M M M (by decide) (fun S hA=>grd1 hA M M) (fun S hA hb=>(eB M M (lb M) underlying3 ag3 ti3 (by decide) (svc (d:=.fptr [.int _ _]) (agr hA M M) hb) (nle M)))) ?_
   refine .cons (lopg M M M M (by decide) (fun S hA=>grd1 hA M M) (fun S hA hb=>(aO M M (lb M) underlying28 M ti3 (by decide) (svaR hA M M) (off':=0) M))) ?_
   refine .cons (lopg M M M M (by decide) (fun S hA=>grd1 hA M M) (fun S hA hb=>(aG (d:=.int _ _) M M (lb M) underlying3 ag3 ti3 (by decide) (svc (d:=.ref _ _) (agr hA M M) hb) (agi hA M M) (nle M) M))) ?_
   refine .cons (lopg M M M M (by decide) (fun S hA=>grd1 hA M M) (fun S hA hb=>(aP M M (lb M) (svc (d:=.int _ _) (agr hA M M) hb) (svc (d:=.int _ _) (agr hA M M) hb) M hx6))) ?_
   refine .cons (lopg M M M M (by decide) (fun S hA=>grd1 hA M M) (fun S hA hb=>(aK M M (lb M) (svc (d:=.bool _) (agr hA M M) hb)))) ?_
   refine .cons (lopg M M M M (by decide) (fun S hA=>grd2 hA M M) (fun S hA hb=>(aO M M (lb M) underlying28 M ti26 (by decide) (svaR hA M M) (off':=4) M))) ?_
   refine .cons (lopg M M M M (by decide) (fun S hA=>grd2 hA M M) (fun S hA hb=>(aG (d:=.slice _ _) M M (lb M) underlying26 ag26 ti26 (by decide) (svc (d:=.ref _ _) (agr hA M M) hb) (agi hA M M) (nle M) M))) ?_
   refine .cons (lopg M M M M (by decide) (fun S hA=>grd2 hA M M) (fun S hA hb=>(aO M M (lb M) underlying28 M ti26 (by decide) (svaR hA M M) (off':=4) M))) ?_
   refine .cons (lopg M M M M (by decide) (fun S hA=>grd2 hA M M) (fun S hA hb=>(aG (d:=.slice _ _) M M (lb M) underlying26 ag26 ti26 (by decide) (svc (d:=.ref _ _) (agr hA M M) hb) (agi hA M M) (nle M) M))) ?_
   refine .cons (lopg M M M M (by decide) (fun S hA=>grd2 hA M M) (fun S hA hb=>(cN aJ (l:=a0.Lost) M M (lb M) underlying26 (svc (d:=.slice _ _) (agr hA M M) hb)))) ?_
   refine .cons (lopg M M M M (by decide) (fun S hA=>grd2 hA M M) (fun S hA hb=>(bN M M (lb M) (svc (d:=.int _ _) (agr hA M M) hb) (sv (d:=.int _ 1) M) M hx7))) ?_
   refine .cons (lopg M M M M (by decide) (fun S hA=>grd2 hA M M) (fun S hA hb=>(dB aJ (cs:=q27) M M (lb M) underlying26 gC (svc (d:=.slice _ _) (agr hA M M) hb) (svc (d:=.int _ _) (agr hA M M) hb) (gd_t hx8 hb) M M))) ?_
   refine .cons (lopg M M M M (by decide) (fun S hA=>grd2 hA M M) (fun S hA hb=>(cV (cs':=[.int _ _]) M M (lb M) underlying116 M ti3 (by decide) (svc (d:=.fptr q27) (agr hA M M) hb) M))) ?_
   refine .cons (lopg M M M M (by decide) (fun S hA=>grd2 hA M M) (fun S hA hb=>(eB M M (lb M) underlying3 ag3 ti3 (by decide) (svc (d:=.fptr [.int _ _]) (agr hA M M) hb) (nle M)))) ?_
   refine .cons (lopg M M M M (by decide) (fun S hA=>grd2 hA M M) (fun S hA hb=>(aO M M (lb M) underlying28 M ti3 (by decide) (svaR hA M M) (off':=2) M))) ?_
   refine .cons (lopg M M M M (by decide) (fun S hA=>grd2 hA M M) (fun S hA hb=>(aG (d:=.int _ _) M M (lb M) underlying3 ag3 ti3 (by decide) (svc (d:=.ref _ _) (agr hA M M) hb) (agi hA M M) (nle M) M))) ?_
   refine .cons (lopg M M M M (by decide) (fun S hA=>grd2 hA M M) (fun S hA hb=>(aP M M (lb M) (svc (d:=.int _ _) (agr hA M M) hb) (svc (d:=.int _ _) (agr hA M M) hb) M hx9))) ?_
   refine .cons (lopg M M M M (by decide) (fun S hA=>grd1 hA M M) (fun S hA hb=>(pX M M (lb M) hb (svc (d:=.bool _) (agr hA M M) hb) (agr hA M M) M hx10))) ?_
   refine .cons (lop M M fun S hA=>(dT M M (lb M) (svaB hA M M) M (agr hA M M) hx11)) ?_
   refine .cons (lop M M fun S hA=>(aE M M (lb M) (svaB hA M M))) ?_
   exact .nil
  refine aT ?_
  obtain rfl:=sj_ h
  refine ⟨.inr M,(.cons (sv M) .nil)⟩

theorem xM (a0:Int) (r:Bool) (h:oI a0=some r):cJ prog 52 [.int .i64 a0] (.bool r):=by
 refine bC (rs:=[.bool r]) func52 M ntmps52 (nle M) M fun O hO=>?_
 show IWP _ _ _ _ ⟨[(0,.int .i64 a0)],[]⟩ _
 unfold oI at h
 refine aC (aA M (aE M M (lb M) (sv (d:=.bool false) M))<|aB ?_)
 obtain ⟨x1,hx1,h⟩:=aS h
 obtain ⟨x2,hx2,h⟩:=aS h
 obtain ⟨x3,hx3,h⟩:=aS h
 refine aC (aA M (mvI M M M M)<|aA M (aP M M (lb M) (svI M) (sv (d:=.int _ 0) M) M hx1)<|aA M (mvB M M M M)<|aF M M (.one M) M (by decide) (fun hb=>(mvI M M M M))<|aF M M (.one M) M (by decide) (fun hb=>(aP M M (lb M) (svcI M hb) (sv (d:=.int _ 4) M) M hx2))<|aA M (cC M M (lb M) (svB M) M M hx3)<|aA M (asB M M M M)<|aB ?_)
 refine aT ?_
 obtain rfl:=sj_ h
 refine ⟨.inr M,(.cons (sv M) .nil)⟩

theorem lI (a0:aL) (r:aI) (h:fQ a0=some r):cJ prog 55 [.agg (v7 a0)] (.agg [.int .i64 r.From,.int .i64 r.To]):=by
 refine bC (rs:=[.agg [.int .i64 r.From,.int .i64 r.To]]) func55 M ntmps55 (nle M) M fun O hO=>?_
 show IWP _ _ _ _ ⟨[(0,.agg (v7 a0))],[]⟩ _
 unfold fQ at h
 refine aC (aA M (bV (cs:=q19) 0 M M (lb M) M (svA q19 M) M M)<|aA M (bI (cs:=q27) (cs':=[.int .i64 0,.int .i64 0]) 1 M M (lb M) M gC M M (.all _))<|aB ?_)
 refine aC (aA M (faR 0 M M M underlying52 M ti3 (lb M) M M)<|aA M (aG (d:=.int _ _) M M (lb M) underlying3 ag3 ti3 (by decide) (svR M) M (nle M) M)<|aA M (faR 1 M M M underlying52 M ti3 (lb M) M M)<|aA M (aG (d:=.int _ _) M M (lb M) underlying3 ag3 ti3 (by decide) (svR M) M (nle M) M)<|aA M (cF (cs:=q27) M M (lb M) underlying116 gC aEu M (.cons (svI M) (.cons (svI M) .nil)) M)<|aA M (stA q27 q27 gC M M M M M M M M (nle M) M)<|aB ?_)
 refine aT ?_
 obtain rfl:=sj_ h
 refine ⟨.inr M,(.cons (rva qN M M (nle M) M) .nil)⟩

theorem gS (a0:(List aI)) (r:(List aI)) (h:dM a0=some r):FnH prog 87 [.slice false (a0.map aJ.d)] [] (.osl 0 aJ.sz r.length) [(0,.blk 116 (D.flat (r.map aJ.d)))]:=by
 refine fN (rs:=[.osl 0 aJ.sz r.length]) func87 M ntmps87 (nle M) fun O hO=>?_
 show IWP _ _ _ _ ⟨[(0,.slice false (a0.map aJ.d))],[]⟩ _
 unfold dM at h
 refine aC (aA M (aE M M (lb M) (sv (d:=.nils) M))<|aB ?_)
 refine aW ?_
 refine aC (aA M (mvL M M M M)<|uV M M M (by decide) underlying26 (svL M) M <| fun bn1 hbn1 =>
  aB ?_)
 refine aR (b:=_) M (fun hc2=>?_) (fun hc2=>?_)
 ·
  replace h:=aAc h (mapE (hbn1 hc2))
  refine aC (aA M (aE M M (lb M) (sv (d:=.nils) M))<|aB ?_)
  refine aT ?_
  refine bA ?_
  obtain rfl:=sj_ h
  refine ⟨.inr M,(fun i=>if i=0 then 50 else i),⟨.nil,(.cons (.nilb M) .nil),cA [50] M (by decide),(fun i hi=>by first | rfl | (show (if _ then _ else _)=_; (repeat' split) <;> omega))⟩,(.cons (svno M) .nil),M⟩
 ·
  replace h:=aAd h
  refine aV ?_
  refine aM ?_
  obtain ⟨x3,hx3,h⟩:=aZ h
  refine aC (aA M (kG aJ.toEnc0 ([]:(List aI)) 0 M M (lb M) underlying26 gC M .nil M M (by decide))<|aA M (mvL M M M M)<|aA M (lQ aJ.toEnc0 1 M M (lb M) underlying26 gC M M M M M (aAp aJ (ys:=a0) (svL M)) hx3)<|aA M (aE M M (lb M) (sv (d:=.osl _ _ _) M))<|aB ?_)
  refine aT ?_
  obtain rfl:=sj_ h
  refine ⟨.inr M,(fun i=>if i=0 then 1 else i),⟨.nil,(.cons (EntW.lst M) .nil),cA [1] M (by decide),(fun i hi=>by first | rfl | (show (if _ then _ else _)=_; (repeat' split) <;> omega))⟩,(.cons (sv M) .nil),M⟩

theorem tJ (a0:(List aI)) (a1:aI) (r:(List aI)) (h:oO a0 a1=some r):cJ prog 54 [.slice false (a0.map aJ.d),.agg [.int .i64 a1.From,.int .i64 a1.To]] (.slice false (r.map aJ.d)):=by
 refine gW (rs:=[.slice false (r.map aJ.d)]) func54 M ntmps54 (nle M) M fun O hO=>?_
 show IWP _ _ _ _ ⟨[(0,.slice false (a0.map aJ.d)),(1,.agg [.int .i64 a1.From,.int .i64 a1.To])],[]⟩ _
 unfold oO at h
 refine aC (aA M (bV (cs:=q27) 0 M M (lb M) M (svA q27 M) M M)<|aA M (aE M M (lb M) (sv (d:=.nils) M))<|aB ?_)
 refine aW ?_
 obtain ⟨x1,hx1,h⟩:=aZ h
 obtain ⟨x2,hx2,h⟩:=aZ h
 obtain ⟨x3,hx3,h⟩:=aS h
 obtain ⟨x4,hx4,h⟩:=aZ h
 obtain ⟨x5,hx5,h⟩:=aS h
 obtain ⟨x6,hx6,h⟩:=aS h
 refine aC (aA M (lra q27 qN M M M M M (nle M) M)<|aA M (aX (r:=.bool _) M M (lb M) cl88 (.cons (svA q27 M) .nil) M (lP _ _ hx1))<|aA M (dN M M (lb M) (svB M))<|aA M (mvB M M M M)<|aF M M (.one M) M (by decide) (fun hb=>(lra q27 qN M M M M M (nle M) M))<|aF M M (.one M) M (by decide) (fun hb=>(aX (r:=.bool _) M M (lb M) cl89 (.cons (svc (d:=.agg [.int .i64 a1.From,.int .i64 a1.To]) M hb) .nil) M (iB _ _ (gd_t hx2 hb))))<|aA M (dT M M (lb M) (svB M) M M hx3)<|aA M (mvB M M M M)<|aF M M (.one M) M (by decide) (fun hb=>(mvL M M M M))<|aF M M (.one M) M (by decide) (fun hb=>(aX (r:=.int _ _) M M (lb M) cl90 (.cons (svcL M hb) .nil) M (oA _ _ (gd_t hx4 hb))))<|aF M M (.one M) M (by decide) (fun hb=>(aP M M (lb M) (svcI M hb) (sv (d:=.int _ 0) M) M hx5))<|aA M (dT M M (lb M) (svB M) M M hx6)<|aB ?_)
 refine aR (b:=_) M (fun hc7=>?_) (fun hc7=>?_)
 ·
  replace h:=bS h hc7
  obtain ⟨x8,hx8,h⟩:=aZ h
  refine aC (aA M (mvL M M M M)<|aA M (eN (r':=.osl 1 aJ.sz x8.length) (H1':=[(1,.blk 116 (D.flat (x8.map aJ.d)))]) 1 [] M M (lb M) cl87 (.cons (svL M) .nil) M M ⟨M,M,by decide,M,List.forall_mem_nil _⟩ (gS _ _ hx8) M M (List.forall_mem_cons.2 ⟨⟨M,(lL aJ)⟩,List.forall_mem_nil _⟩) (by simp only [List.map_cons,List.map_nil,Ent.ren,fR,gL]; rfl))<|aA M (aE M M (lb M) (sv (d:=.osl _ _ _) M))<|aB ?_)
  refine aT ?_
  refine bA ?_
  obtain rfl:=sj_ h
  refine ⟨.inr M,_,(.cons (sv M) .nil),(.cons (FDT aJ M M) .nil)⟩
 ·
  replace h:=bT h hc7
  refine aV ?_
  refine aM ?_
  refine aC (aA M (bI (cs:=[.nils]) (cs':=[.nils]) 1 M M (lb M) M ti26 M M (.all _))<|aB ?_)
  refine aW ?_
  refine aC (aA M (mvL M M M M)<|aA M (lra q27 qN M M M M M (nle M) M) <|?_)
  refine wP (S':=⟨[(5,.ref 1 0),(21,.slice false (a0.map aJ.d)),(22,.agg [.int .i64 a1.From,.int .i64 a1.To])],[(1,.blk 26 [.nils])]⟩) (fun i=>i) ⟨(.sames M M),(.cons (.blk M M M) .nil),cA [1] M (by decide),fun _ _=>M⟩ ?_
  refine aD4 1 2 M M M (by decide) cl91 func91 M (.cons (svL M) (.cons (svA q27 M) .nil)) ntmps91 (nle M) M hO fun O1 hO1=>?_
  show IWP _ _ _ _ ⟨[(0,.slice false (a0.map aJ.d)),(1,.agg [.int .i64 a1.From,.int .i64 a1.To])],[(2,.kept 1 [.dead,.dead,.dead,.dead,.dead,.ref 1 0,.dead,.dead,.dead,.dead,.dead,.dead,.dead,.dead,.dead,.dead,.dead,.dead,.dead,.dead,.dead,.slice false (a0.map aJ.d),.agg [.int .i64 a1.From,.int .i64 a1.To],.dead,.dead,.dead,.dead,.dead,.dead,.dead]),(1,.blk 26 [.nils])]⟩ _
  refine aC (aA M (bV (cs:=[.slice _ _]) 3 M M (lb M) M (svL M) M M)<|aA M (bV (cs:=q27) 4 M M (lb M) M (svA q27 M) M M)<|aA M (aE M M (lb M) (sv (d:=.nilf) M))<|aB ?_)
  refine aC (aA M (lD M M (lb M) (.cons (svR M) (.cons (svR M) .nil)))<|aA M (aE M M (lb M) (sv (d:=.fn 122 [.ref _ _,.ref _ _]) M))<|aB ?_)
  refine aT ?_
  refine ⟨.inr M,2,_,[.fn 122 [.ref 3 0,.ref 4 0]],(.cons (sv M) .nil),M,M,⟨[(5,.ref 1 0),(23,.fn 122 [.ref 3 0,.ref 4 0])],[(1,.blk 26 [.nils]),(3,.blk 26 [.slice false (a0.map aJ.d)]),(4,.blk 116 [.int .i64 a1.From,.int .i64 a1.To])]⟩,(fun i=>i),⟨(.sames M M),(.cons (.blk M M M) (.cons (.blk M M M) (.cons (.blk M M M) .nil))),cA [1,3,4] M (by decide),fun _ _=>M⟩,?_⟩
  refine aB ?_
  refine bG ?_
  refine wO (S':=⟨[(5,.ref 1 0),(23,.fn 122 [.ref 3 0,.ref 4 0])],[(1,.blk 26 [.nils]),(3,.blk 26 [.slice false (a0.map aJ.d)]),(4,.blk 116 [.int .i64 a1.From,.int .i64 a1.To])]⟩) (fun i=>i) ⟨(.sames M M),(.cons (.blk M M M) (.cons (.blk M M M) (.cons (.blk M M M) .nil))),cA [1,3,4] M (by decide),fun _ _=>M⟩ ?_
  refine aBB 1 5 6 (sv (d:=.fn 122 [.ref _ _,.ref _ _]) M) cl122 func122 M M ntmps122 (nle M) M M hO fun O1 hO1 hlc1=>?_
  show IWP _ _ _ _ ⟨[(0,.yld 5),(1,.ref 3 0),(2,.ref 4 0)],[(6,.kept 1 [.dead,.dead,.dead,.dead,.dead,.ref 1 0,.dead,.dead,.dead,.dead,.dead,.dead,.dead,.dead,.dead,.dead,.dead,.dead,.dead,.dead,.dead,.dead,.dead,.fn 122 [.ref 3 0,.ref 4 0],.dead,.dead,.dead,.dead,.dead,.dead]),(5,.loop 1 [.dead,.dead,.dead,.dead,.dead,.ref 1 0,.dead,.dead,.dead,.dead,.dead,.dead,.dead,.dead,.dead,.dead,.dead,.dead,.dead,.dead,.dead,.dead,.dead,.fn 122 [.ref 3 0,.ref 4 0],.dead,.dead,.dead,.dead,.dead,.dead] .ready none),(1,.blk 26 [.nils]),(3,.blk 26 [.slice false (a0.map aJ.d)]),(4,.blk 116 [.int .i64 a1.From,.int .i64 a1.To])]⟩ _
  refine aC (aA M (lrL la26 M M M M M (nle M) M)<|aA M (cN aJ (l:=a0) M M (lb M) underlying26 (svL M))<|aA M (aK M M (lb M) (sv (d:=.int _ 0) M))<|aB ?_)
  refine bG ?_
  refine dA (α:=Nat × Int × (List aI)) (fun z=>⟨[(0,.yld 5),(2,.ref 4 0),(8,.slice false (a0.map aJ.d)),(9,.int .i64 (a0.length:Int)),(10,.int .i64 z.2.1)],[(5,.loop 1 [.dead,.dead,.dead,.dead,.dead,.ref 1 0,.dead,.dead,.dead,.dead,.dead,.dead,.dead,.dead,.dead,.dead,.dead,.dead,.dead,.dead,.dead,.dead,.dead,.fn 122 [.ref 3 0,.ref 4 0],.dead,.dead,.dead,.dead,.dead,.dead] .ready none),(4,.blk 116 [.int .i64 a1.From,.int .i64 a1.To]),(6,.kept 1 [.dead,.dead,.dead,.dead,.dead,.ref 1 0,.dead,.dead,.dead,.dead,.dead,.dead,.dead,.dead,.dead,.dead,.dead,.dead,.dead,.dead,.dead,.dead,.dead,.fn 122 [.ref 3 0,.ref 4 0],.dead,.dead,.dead,.dead,.dead,.dead]),(1,.blk 26 [.osl 28 aJ.sz z.2.2.length]),(3,.blk 26 [.slice false (a0.map aJ.d)]),(28,.blk 116 (D.flat (z.2.2.map aJ.d)))]⟩) (fun z=>iZ a0 a1 z.1 z.2.1 z.2.2=some r) (fun z=>z.1) (fuel,0,([]:(List aI))) (fun i=>if i=28 then 85 else i) ⟨(.sames M M),(.cons (.loop M M M) (.cons (.blk M M M) (.cons (.kept M M M) (.cons (.sub M (.nilo .nil) M) (.cons (.blk M M M) (.cons (.nilb M) .nil)))))),cA [5,4,6,1,3,85] M (by decide),(fun i hi=>by first | rfl | (show (if _ then _ else _)=_; (repeat' split) <;> omega))⟩ ?_ ?_
  ·exact h
  ·
   rintro ⟨n0,v52,v53⟩ h
   cases n0 with
   | zero=>exact absurd h (by unfold iZ; exact nofun)
   | succ n0 =>
    unfold iZ at h
    obtain ⟨x97,hx97,h⟩:=aS h
    refine aC (aA M (aP M M (lb M) (svI M) (svI M) M hx97)<|aB ?_)
    refine aW ?_
    refine aR (b:=_) M (fun hc98=>?_) (fun hc98=>?_)
    ·
     replace h:=bS h hc98
     refine aV ?_
     refine aM ?_
     refine aW ?_
     refine bG ?_
     obtain ⟨x99,hx99,h⟩:=aZ h
     refine aC (aA M (dB aJ (cs:=q27) M M (lb M) underlying26 gC (svL M) (svI M) hx99 M M)<|aA M (cX (cs:=q27) M M (lb M) underlying116 yP gC (by decide) (sv (d:=.fptr q27) M) (nle M) M)<|aA M (bI (cs:=q27) (cs':=[.int .i64 0,.int .i64 0]) 29 M M (lb M) M gC M M (.all _))<|aA M (stA q27 q27 gC M M M M M M M M (nle M) M)<|aB ?_)
     obtain ⟨x100,hx100,h⟩:=aS h
     obtain ⟨x101,hx101,h⟩:=aS h
     refine aC (aA M (faR 0 M M M underlying116 M ti3 (lb M) M M)<|aA M (aG (d:=.int _ _) M M (lb M) underlying3 ag3 ti3 (by decide) (svR M) M (nle M) M)<|aA M (faR 1 M M M underlying116 M ti3 (lb M) M M)<|aA M (aG (d:=.int _ _) M M (lb M) underlying3 ag3 ti3 (by decide) (svR M) M (nle M) M)<|aA M (faR 0 M M M underlying116 M ti3 (lb M) M M)<|aA M (aG (d:=.int _ _) M M (lb M) underlying3 ag3 ti3 (by decide) (svR M) M (nle M) M)<|aA M (nG M M (lb M) (svI M) (svI M) hx100)<|aA M (cF (cs:=q27) M M (lb M) underlying116 gC aEu M (.cons (svI M) (.cons (svI M) .nil)) M)<|aA M (faR 0 M M M underlying116 M ti3 (lb M) M M)<|aA M (aG (d:=.int _ _) M M (lb M) underlying3 ag3 ti3 (by decide) (svR M) M (nle M) M)<|aA M (faR 1 M M M underlying116 M ti3 (lb M) M M)<|aA M (aG (d:=.int _ _) M M (lb M) underlying3 ag3 ti3 (by decide) (svR M) M (nle M) M)<|aA M (qR M M (lb M) (svI M) (svI M) hx101)<|aA M (faR 1 M M M underlying116 M ti3 (lb M) M M)<|aA M (aG (d:=.int _ _) M M (lb M) underlying3 ag3 ti3 (by decide) (svR M) M (nle M) M)<|aA M (cF (cs:=q27) M M (lb M) underlying116 gC aEu M (.cons (svI M) (.cons (svI M) .nil)) M)<|aA M (yA (cs:=[.int _ _,.int _ _,.int _ _,.int _ _]) M M (lb M) underlying184 ti184 gC M (.cons (svA q27 M) (.cons (svA q27 M) .nil)) M)<|aA M (aK M M (lb M) (sv (d:=.int _ 0) M))<|aB ?_)
     refine bG ?_
     refine dA (α:=Nat × Int × (List aI)) (fun z=>⟨[(0,.yld 5),(2,.ref 4 0),(8,.slice false (a0.map aJ.d)),(9,.int .i64 (a0.length:Int)),(10,.int .i64 v52),(30,.agg (w43 x99.From x100 x101 x99.To)),(31,.int .i64 z.2.1)],[(5,.loop 1 [.dead,.dead,.dead,.dead,.dead,.ref 1 0,.dead,.dead,.dead,.dead,.dead,.dead,.dead,.dead,.dead,.dead,.dead,.dead,.dead,.dead,.dead,.dead,.dead,.fn 122 [.ref 3 0,.ref 4 0],.dead,.dead,.dead,.dead,.dead,.dead] .ready none),(4,.blk 116 [.int .i64 a1.From,.int .i64 a1.To]),(6,.kept 1 [.dead,.dead,.dead,.dead,.dead,.ref 1 0,.dead,.dead,.dead,.dead,.dead,.dead,.dead,.dead,.dead,.dead,.dead,.dead,.dead,.dead,.dead,.dead,.dead,.fn 122 [.ref 3 0,.ref 4 0],.dead,.dead,.dead,.dead,.dead,.dead]),(1,.blk 26 [.osl 28 aJ.sz z.2.2.length]),(3,.blk 26 [.slice false (a0.map aJ.d)]),(28,.blk 116 (D.flat (z.2.2.map aJ.d)))]⟩) (fun z=>fZ v52 (iZ a0 a1 n0) x99 x100 x101 z.1 z.2.1 z.2.2=some r) (fun z=>z.1) (fuel,0,v53) (fun i=>i) ⟨(.sames M M),(.cons (.loop M M M) (.cons (.blk M M M) (.cons (.kept M M M) (.cons (.blk M M M) (.cons (.blk M M M) (.cons (EntW.lst M) .nil)))))),cA [5,4,6,1,3,28] M (by decide),fun _ _=>M⟩ ?_ ?_
     ·exact h
     ·
      rintro ⟨n1,v113,v114⟩ h
      cases n1 with
      | zero=>exact absurd h (by unfold fZ; exact nofun)
      | succ n1 =>
       unfold fZ at h
       obtain ⟨x127,hx127,h⟩:=aS h
       refine aC (aA M (aP M M (lb M) (svI M) (sv (d:=.int _ 2) M) M hx127)<|aB ?_)
       refine aW ?_
       refine aR (b:=_) M (fun hc128=>?_) (fun hc128=>?_)
       ·
        replace h:=bS h hc128
        refine aV ?_
        refine aM ?_
        refine aW ?_
        refine bG ?_
        obtain ⟨x129,hx129,h⟩:=aZ h
        refine aC (aA M (aBH aJ (ds:=q27) M M (lb M) underlying184 underlying116 yP gC (by decide) (sv (d:=.agg [.int _ _,.int _ _,.int _ _,.int _ _]) M) (svI M) hx129 M ⟨M,⟨M,trivial⟩⟩ M M)<|aA M (bI (cs:=q27) (cs':=[.int .i64 0,.int .i64 0]) 29 M M (lb M) M gC M M (.all _))<|aA M (stA q27 q27 gC M M M M M M M M (nle M) M)<|aB ?_)
        obtain ⟨x130,hx130,h⟩:=aZ h
        refine aC (aA M (lra q27 qN M M M M M (nle M) M)<|aA M (aX (r:=.bool _) M M (lb M) cl89 (.cons (svA q27 M) .nil) M (iB _ _ hx130))<|aA M (dN M M (lb M) (svB M))<|aA M (mvB M M M M)<|aF M M (.one M) M (by decide) (fun hb=>(aK M M (lb M) (sv (d:=.yld _) M)))<|aF M M (.one M) M (by decide) (fun hb=>(lra q27 qN M M M M M (nle M) M)) <|?_)
        refine zE M M (.one M) M (by decide) (fun hc131=>?_) (fun hc131=>?_)
        ·
         replace h:=bS h hc131
         refine oQ 38 M hc131 ?_
         refine oQ 39 M hc131 ?_
         refine wP (S':=⟨[(0,.yld 5),(2,.ref 4 0),(8,.slice false (a0.map aJ.d)),(9,.int .i64 (a0.length:Int)),(10,.int .i64 v52),(30,.agg (w43 x99.From x100 x101 x99.To)),(31,.int .i64 v113),(37,.bool (!x130)),(38,.yld 5),(39,.agg [.int .i64 x129.From,.int .i64 x129.To])],[(1,.blk 26 [.osl 28 aJ.sz v114.length]),(3,.blk 26 [.slice false (a0.map aJ.d)]),(4,.blk 116 [.int .i64 a1.From,.int .i64 a1.To]),(5,.loop 1 [.dead,.dead,.dead,.dead,.dead,.ref 1 0,.dead,.dead,.dead,.dead,.dead,.dead,.dead,.dead,.dead,.dead,.dead,.dead,.dead,.dead,.dead,.dead,.dead,.fn 122 [.ref 3 0,.ref 4 0],.dead,.dead,.dead,.dead,.dead,.dead] .ready none),(6,.kept 1 [.dead,.dead,.dead,.dead,.dead,.ref 1 0,.dead,.dead,.dead,.dead,.dead,.dead,.dead,.dead,.dead,.dead,.dead,.dead,.dead,.dead,.dead,.dead,.dead,.fn 122 [.ref 3 0,.ref 4 0],.dead,.dead,.dead,.dead,.dead,.dead]),(28,.blk 116 (D.flat (v114.map aJ.d)))]⟩) (fun i=>i) ⟨(.sames M M),(.cons (.blk M M M) (.cons (.blk M M M) (.cons (.blk M M M) (.cons (.loop M M M) (.cons (.kept M M M) (.cons (EntW.lst M) .nil)))))),cA [1,3,4,5,6,28] M (by decide),fun _ _=>M⟩ ?_
         refine aBO 2 5 30 M M M (by decide) M (.cons (svA q27 M) .nil) M M M M M M hO1 hlc1 ⟨[(24,.agg [.int .i64 x129.From,.int .i64 x129.To]),(5,.ref 1 0)],[(1,.blk 26 [.osl 28 aJ.sz v114.length]),(3,.blk 26 [.slice false (a0.map aJ.d)]),(4,.blk 116 [.int .i64 a1.From,.int .i64 a1.To]),(5,.loop 1 [.dead,.dead,.dead,.dead,.dead,.ref 1 0,.dead,.dead,.dead,.dead,.dead,.dead,.dead,.dead,.dead,.dead,.dead,.dead,.dead,.dead,.dead,.dead,.dead,.fn 122 [.ref 3 0,.ref 4 0],.dead,.dead,.dead,.dead,.dead,.dead] .ready none),(6,.kept 1 [.dead,.dead,.dead,.dead,.dead,.ref 1 0,.dead,.dead,.dead,.dead,.dead,.dead,.dead,.dead,.dead,.dead,.dead,.dead,.dead,.dead,.dead,.dead,.dead,.fn 122 [.ref 3 0,.ref 4 0],.dead,.dead,.dead,.dead,.dead,.dead]),(28,.blk 116 (D.flat (v114.map aJ.d))),(30,.kept 2 [.yld 5,.dead,.ref 4 0,.dead,.dead,.dead,.dead,.dead,.slice false (a0.map aJ.d),.int .i64 (a0.length:Int),.int .i64 v52,.dead,.dead,.dead,.dead,.dead,.dead,.dead,.dead,.dead,.dead,.dead,.dead,.dead,.dead,.dead,.dead,.dead,.dead,.dead,.agg (w43 x99.From x100 x101 x99.To),.int .i64 v113,.dead,.dead,.dead,.dead,.dead,.bool (!x130),.yld 5,.agg [.int .i64 x129.From,.int .i64 x129.To],.dead,.dead,.dead,.dead,.dead])]⟩ (fun i=>i) ⟨(.sames M M),(.cons (.blk M M M) (.cons (.blk M M M) (.cons (.blk M M M) (.cons (.loop M M M) (.cons (.kept M M M) (.cons (EntW.lst M) (.cons (.kept M M M) .nil))))))),cA [1,3,4,5,6,28,30] M (by decide),fun _ _=>M⟩ fun O2=>?_
         refine bE (aA M (bI (cs:=q27) (cs':=[.int .i64 0,.int .i64 0]) 31 M M (lb M) M gC M M (.all _))<|aA M (stA q27 q27 gC M M M M M M M M (nle M) M)<|cB ?_)
         refine ⟨M,5,_,M,⟨[(5,.ref 1 0),(6,.ref 31 0)],[(1,.blk 26 [.osl 28 aJ.sz v114.length]),(3,.blk 26 [.slice false (a0.map aJ.d)]),(4,.blk 116 [.int .i64 a1.From,.int .i64 a1.To]),(5,.loop 1 [.dead,.dead,.dead,.dead,.dead,.ref 1 0,.dead,.dead,.dead,.dead,.dead,.dead,.dead,.dead,.dead,.dead,.dead,.dead,.dead,.dead,.dead,.dead,.dead,.fn 122 [.ref 3 0,.ref 4 0],.dead,.dead,.dead,.dead,.dead,.dead] .busy none),(6,.kept 1 [.dead,.dead,.dead,.dead,.dead,.ref 1 0,.dead,.dead,.dead,.dead,.dead,.dead,.dead,.dead,.dead,.dead,.dead,.dead,.dead,.dead,.dead,.dead,.dead,.fn 122 [.ref 3 0,.ref 4 0],.dead,.dead,.dead,.dead,.dead,.dead]),(28,.blk 116 (D.flat (v114.map aJ.d))),(30,.kept 2 [.yld 5,.dead,.ref 4 0,.dead,.dead,.dead,.dead,.dead,.slice false (a0.map aJ.d),.int .i64 (a0.length:Int),.int .i64 v52,.dead,.dead,.dead,.dead,.dead,.dead,.dead,.dead,.dead,.dead,.dead,.dead,.dead,.dead,.dead,.dead,.dead,.dead,.dead,.agg (w43 x99.From x100 x101 x99.To),.int .i64 v113,.dead,.dead,.dead,.dead,.dead,.bool (!x130),.yld 5,.agg [.int .i64 x129.From,.int .i64 x129.To],.dead,.dead,.dead,.dead,.dead]),(31,.blk 116 [.int .i64 x129.From,.int .i64 x129.To])]⟩,(fun i=>i),⟨(.sames M M),(.cons (.blk M M M) (.cons (.blk M M M) (.cons (.blk M M M) (.cons (.loop M M M) (.cons (.kept M M M) (.cons (EntW.lst M) (.cons (.kept M M M) (.cons (.blk M M M) .nil)))))))),cA [1,3,4,5,6,28,30,31] M (by decide),fun _ _=>M⟩,?_⟩
         refine bG ?_
         obtain ⟨x132,hx132,h⟩:=aZ h
         refine bE (aA M (aG (d:=.osl _ _ _) M M (lb M) underlying26 ag26 ti26 (by decide) (svR M) M (nle M) M)<|aA M (lra q27 qN M M M M M (nle M) M)<|aA M (kG aJ.toEnc0 ([(⟨x129.From,x129.To⟩:aI)]:(List aI)) 32 M M (lb M) underlying26 gC M (.cons (svA q27 M) .nil) M M (by decide))<|aA M (lQ aJ.toEnc0 33 M M (lb M) underlying26 gC M M M M M (rD aJ.toEnc0 M M M) hx132)<|aA M (bQ (ds':=[.osl _ _ _]) M M ti26 (svR M) M (sv (d:=.osl _ _ _) M) M M M (nle M) M)<|cB ?_)
         refine bZ ?_
         refine ⟨5,30,_,_,none,M,M,M,M,(by decide),⟨[(0,.yld 5),(2,.ref 4 0),(8,.slice false (a0.map aJ.d)),(9,.int .i64 (a0.length:Int)),(10,.int .i64 v52),(30,.agg (w43 x99.From x100 x101 x99.To)),(31,.int .i64 v113),(37,.bool (!x130)),(38,.yld 5),(39,.agg [.int .i64 x129.From,.int .i64 x129.To]),(40,.bool true)],[(1,.blk 26 [.osl 33 aJ.sz x132.length]),(3,.blk 26 [.slice false (a0.map aJ.d)]),(4,.blk 116 [.int .i64 a1.From,.int .i64 a1.To]),(5,.loop 1 [.dead,.dead,.dead,.dead,.dead,.ref 1 0,.dead,.dead,.dead,.dead,.dead,.dead,.dead,.dead,.dead,.dead,.dead,.dead,.dead,.dead,.dead,.dead,.dead,.fn 122 [.ref 3 0,.ref 4 0],.dead,.dead,.dead,.dead,.dead,.dead] .ready none),(6,.kept 1 [.dead,.dead,.dead,.dead,.dead,.ref 1 0,.dead,.dead,.dead,.dead,.dead,.dead,.dead,.dead,.dead,.dead,.dead,.dead,.dead,.dead,.dead,.dead,.dead,.fn 122 [.ref 3 0,.ref 4 0],.dead,.dead,.dead,.dead,.dead,.dead]),(33,.blk 116 (D.flat (x132.map aJ.d)))]⟩,(fun i=>i),⟨(.sames M M),(.cons (.blk M M M) (.cons (.blk M M M) (.cons (.blk M M M) (.cons (.loop M M M) (.cons (.kept M M M) (.cons (EntW.lst M) .nil)))))),cA [1,3,4,5,6,33] M (by decide),fun _ _=>M⟩,?_⟩
         obtain ⟨x133,hx133,h⟩:=aS h
         refine aF M M (.one M) M (by decide) (fun hb=>(dN M M (lb M) (svB M)))<|aA M (cC M M (lb M) (svB M) M M hx133)<|aB ?_
         refine aR (b:=_) M (fun hc134=>?_) (fun hc134=>?_)
         ·
          replace h:=bS h hc134
          refine aT ?_
          refine bP ?_
          refine bA ?_
          refine bA ?_
          refine bP ?_
          refine bP ?_
          refine bA ?_
          refine bA ?_
          refine bP ?_
          refine ⟨.inr M,5,6,_,_,_,_,M,(by simp),M,M,⟨[(5,.ref 1 0)],[(1,.blk 26 [.osl 33 aJ.sz x132.length]),(33,.blk 116 (D.flat (x132.map aJ.d)))]⟩,(fun i=>i),⟨(.sames M M),(.cons (.blk M M M) (.cons (EntW.lst M) .nil)),cA [1,33] M (by decide),fun _ _=>M⟩,?_⟩
          refine bZ ?_
          refine aM ?_
          refine aC (aA M (aG (d:=.osl _ _ _) M M (lb M) underlying26 ag26 ti26 (by decide) (svR M) M (nle M) M)<|aA M (aE M M (lb M) (sv (d:=.osl _ _ _) M))<|aB ?_)
          refine aT ?_
          obtain rfl:=sj_ h
          refine ⟨.inr M,_,(.cons (sv M) .nil),(.cons (FDT aJ M M) .nil)⟩
         ·
          replace h:=bT h hc134
          refine aV ?_
          refine bZ ?_
          refine aM ?_
          obtain ⟨x135,hx135,h⟩:=aS h
          refine bE (aA M (bN M M (lb M) (svI M) (sv (d:=.int _ 1) M) M hx135)<|aA M (mvI M M M M)<|cB ?_)
          refine aM ⟨(n1,x135,x132),(fun i=>if i=28 then 33 else i),⟨(.sames M M),(.cons (.loop M M M) (.cons (.blk M M M) (.cons (.kept M M M) (.cons (.blk M M M) (.cons (.blk M M M) (.cons (EntW.lst M) .nil)))))),cA [5,4,6,1,3,33] M (by decide),(fun i hi=>by first | rfl | (show (if _ then _ else _)=_; (repeat' split) <;> omega))⟩,?_,?_⟩
          exact h
          exact Nat.lt_succ_self _
        ·
         replace h:=bT h hc131
         obtain ⟨x136,hx136,h⟩:=aS h
         refine aF M M (.one M) M (by decide) (fun hb=>(dN M M (lb M) (svcB M hb)))<|aA M (cC M M (lb M) (svB M) M M hx136)<|aB ?_
         refine aR (b:=_) M (fun hc137=>?_) (fun hc137=>?_)
         ·
          replace h:=bS h hc137
          refine aT ?_
          refine bP ?_
          refine bA ?_
          refine bA ?_
          refine bP ?_
          refine bP ?_
          refine bA ?_
          refine bA ?_
          refine bP ?_
          refine ⟨.inr M,5,6,_,_,_,_,M,(by simp),M,M,⟨[(5,.ref 1 0)],[(1,.blk 26 [.osl 28 aJ.sz v114.length]),(28,.blk 116 (D.flat (v114.map aJ.d)))]⟩,(fun i=>i),⟨(.sames M M),(.cons (.blk M M M) (.cons (EntW.lst M) .nil)),cA [1,28] M (by decide),fun _ _=>M⟩,?_⟩
          refine bZ ?_
          refine aM ?_
          refine aC (aA M (aG (d:=.osl _ _ _) M M (lb M) underlying26 ag26 ti26 (by decide) (svR M) M (nle M) M)<|aA M (aE M M (lb M) (sv (d:=.osl _ _ _) M))<|aB ?_)
          refine aT ?_
          obtain rfl:=sj_ h
          refine ⟨.inr M,_,(.cons (sv M) .nil),(.cons (FDT aJ M M) .nil)⟩
         ·
          replace h:=bT h hc137
          refine aV ?_
          refine bZ ?_
          refine aM ?_
          obtain ⟨x138,hx138,h⟩:=aS h
          refine bE (aA M (bN M M (lb M) (svI M) (sv (d:=.int _ 1) M) M hx138)<|aA M (mvI M M M M)<|cB ?_)
          refine aM ⟨(n1,x138,v114),(fun i=>i),⟨(.sames M M),(.cons (.loop M M M) (.cons (.blk M M M) (.cons (.kept M M M) (.cons (.blk M M M) (.cons (.blk M M M) (.cons (EntW.lst M) .nil)))))),cA [5,4,6,1,3,28] M (by decide),fun _ _=>M⟩,?_,?_⟩
          exact h
          exact Nat.lt_succ_self _
       ·
        replace h:=bT h hc128
        refine cQ ?_
        refine bJ ?_
        refine bJ ?_
        refine cR ?_
        refine bZ ?_
        refine aM ?_
        obtain ⟨x139,hx139,h⟩:=aS h
        refine bE (aA M (bN M M (lb M) (svI M) (sv (d:=.int _ 1) M) M hx139)<|aA M (mvI M M M M)<|cB ?_)
        refine aM ⟨(n0,x139,v114),(fun i=>i),⟨(.sames M M),(.cons (.loop M M M) (.cons (.blk M M M) (.cons (.kept M M M) (.cons (.blk M M M) (.cons (.blk M M M) (.cons (EntW.lst M) .nil)))))),cA [5,4,6,1,3,28] M (by decide),fun _ _=>M⟩,?_,?_⟩
        exact h
        exact Nat.lt_succ_self _
    ·
     replace h:=bT h hc98
     refine cQ ?_
     refine bJ ?_
     refine bJ ?_
     refine cR ?_
     refine ⟨.inl M,5,6,_,_,_,_,M,(by simp),M,M,⟨[(5,.ref 1 0)],[(1,.blk 26 [.osl 28 aJ.sz v53.length]),(28,.blk 116 (D.flat (v53.map aJ.d)))]⟩,(fun i=>i),⟨(.sames M M),(.cons (.blk M M M) (.cons (EntW.lst M) .nil)),cA [1,28] M (by decide),fun _ _=>M⟩,?_⟩
     refine bZ ?_
     refine aM ?_
     refine aC (aA M (aG (d:=.osl _ _ _) M M (lb M) underlying26 ag26 ti26 (by decide) (svR M) M (nle M) M)<|aA M (aE M M (lb M) (sv (d:=.osl _ _ _) M))<|aB ?_)
     refine aT ?_
     obtain rfl:=sj_ h
     refine ⟨.inr M,_,(.cons (sv M) .nil),(.cons (FDT aJ M M) .nil)⟩

theorem aA6 (a0:(List aI)) (a1:aI) (r:(List aI)) (h:pW a0 a1=some r):cJ prog 107 [.slice false (a0.map aJ.d),.agg [.int .i64 a1.From,.int .i64 a1.To]] (.slice false (r.map aJ.d)):=by
 refine bC (rs:=[.slice false (r.map aJ.d)]) func107 M ntmps107 (nle M) M fun O hO=>?_
 show IWP _ _ _ _ ⟨[(0,.slice false (a0.map aJ.d)),(1,.agg [.int .i64 a1.From,.int .i64 a1.To])],[]⟩ _
 unfold pW at h
 refine aC (aA M (bV (cs:=q27) 0 M M (lb M) M (svA q27 M) M M)<|aA M (aE M M (lb M) (sv (d:=.nils) M))<|aB ?_)
 refine aW ?_
 obtain ⟨x1,hx1,h⟩:=aZ h
 obtain ⟨x2,hx2,h⟩:=aZ h
 obtain ⟨x3,hx3,h⟩:=aS h
 obtain ⟨x4,hx4,h⟩:=aS h
 obtain ⟨x5,hx5,h⟩:=aZ h
 obtain ⟨x6,hx6,h⟩:=aS h
 refine aC (aA M (lra q27 qN M M M M M (nle M) M)<|aA M (aX (r:=.bool _) M M (lb M) cl88 (.cons (svA q27 M) .nil) M (lP _ _ hx1))<|aA M (dN M M (lb M) (svB M))<|aA M (mvB M M M M)<|aF M M (.one M) M (by decide) (fun hb=>(mvL M M M M))<|aF M M (.one M) M (by decide) (fun hb=>(aX (r:=.int _ _) M M (lb M) cl90 (.cons (svcL M hb) .nil) M (oA _ _ (gd_t hx2 hb))))<|aF M M (.one M) M (by decide) (fun hb=>(aP M M (lb M) (svcI M hb) (sv (d:=.int _ 0) M) M hx3))<|aA M (dT M M (lb M) (svB M) M M hx4)<|aA M (mvB M M M M)<|aF M M (.one M) M (by decide) (fun hb=>(lra q27 qN M M M M M (nle M) M))<|aF M M (.one M) M (by decide) (fun hb=>(aX (r:=.bool _) M M (lb M) cl89 (.cons (svc (d:=.agg [.int .i64 a1.From,.int .i64 a1.To]) M hb) .nil) M (iB _ _ (gd_t hx5 hb))))<|aA M (dT M M (lb M) (svB M) M M hx6)<|aB ?_)
 refine aR (b:=_) M (fun hc7=>?_) (fun hc7=>?_)
 ·
  replace h:=bS h hc7
  refine aC (aA M (aE M M (lb M) (sv (d:=.nils) M))<|aB ?_)
  refine aT ?_
  refine bA ?_
  obtain rfl:=sj_ h
  refine ⟨.inr M,(.cons (tU M M) .nil)⟩
 ·
  replace h:=bT h hc7
  refine aV ?_
  refine aM ?_
  refine aC (aA M (lra q27 qN M M M M M (nle M) M)<|aA M (oP aJ ([(⟨a1.From,a1.To⟩:aI)]:(List aI)) 1 M M (lb M) underlying26 gC M (.cons (svA q27 M) .nil) M M (by decide))<|aA M (aE M M (lb M) (sv (d:=.gsl _ _ _) M))<|aB ?_)
  refine aW ?_
  refine aC (aA M (mvL M M M M)<|aA M (cN aJ (l:=a0) M M (lb M) underlying26 (svL M))<|aA M (aK M M (lb M) (sv (d:=.int _ 0) M))<|aB ?_)
  refine bG ?_
  refine dA (α:=Nat × (List aI) × Int) (fun z=>⟨[(5,.slice false (z.2.1.map aJ.d)),(22,.slice false (a0.map aJ.d)),(23,.int .i64 (a0.length:Int)),(24,.int .i64 z.2.2)],[]⟩) (fun z=>iY a0 z.1 z.2.1 z.2.2=some r) (fun z=>z.1) (fuel,([(⟨a1.From,a1.To⟩:aI)]:(List aI)),0) (fun i=>i) ⟨(.cons (.coe (svg M) M) (.sames M M)),.nil,cA [] M (by decide),fun _ _=>M⟩ ?_ ?_
  ·exact h
  ·
   rintro ⟨n0,v13,v14⟩ h
   cases n0 with
   | zero=>exact absurd h (by unfold iY; exact nofun)
   | succ n0 =>
    unfold iY at h
    obtain ⟨x20,hx20,h⟩:=aS h
    refine aC (aA M (aP M M (lb M) (svI M) (svI M) M hx20)<|aB ?_)
    refine aW ?_
    refine aR (b:=_) M (fun hc21=>?_) (fun hc21=>?_)
    ·
     replace h:=bS h hc21
     refine aV ?_
     refine aM ?_
     refine aW ?_
     refine bG ?_
     obtain ⟨x22,hx22,h⟩:=aZ h
     refine aC (aA M (dB aJ (cs:=q27) M M (lb M) underlying26 gC (svL M) (svI M) hx22 M M)<|aA M (cX (cs:=q27) M M (lb M) underlying116 yP gC (by decide) (sv (d:=.fptr q27) M) (nle M) M)<|aA M (bI (cs:=q27) (cs':=[.int .i64 0,.int .i64 0]) 0 M M (lb M) M gC M M (.all _))<|aA M (stA q27 q27 gC M M M M M M M M (nle M) M)<|aB ?_)
     obtain ⟨x23,hx23,h⟩:=aZ h
     refine bE (aA M (mvL M M M M)<|aA M (lra q27 qN M M M M M (nle M) M)<|aA M (aX (r:=.slice _ _) M M (lb M) cl54 (.cons (svL M) (.cons (svA q27 M) .nil)) M (tJ _ _ _ hx23))<|aA M (aE M M (lb M) (svL M))<|cB ?_)
     refine bZ ?_
     refine aM ?_
     obtain ⟨x24,hx24,h⟩:=aS h
     refine bE (aA M (bN M M (lb M) (svI M) (sv (d:=.int _ 1) M) M hx24)<|aA M (mvI M M M M)<|cB ?_)
     refine aM ⟨(n0,x23,x24),(fun i=>i),⟨(.sames M M),.nil,cA [] M (by decide),fun _ _=>M⟩,?_,?_⟩
     exact h
     exact Nat.lt_succ_self _
    ·
     replace h:=bT h hc21
     refine cQ ?_
     refine bJ ?_
     refine bJ ?_
     refine cR ?_
     refine aM ?_
     refine aC (aA M (mvL M M M M)<|aA M (aE M M (lb M) (svL M))<|aB ?_)
     refine aT ?_
     obtain rfl:=sj_ h
     refine ⟨.inr M,(.cons (sv M) .nil)⟩

theorem lV (a0:(List aI)) (a1:(List aI)) (r:Bool) (h:eR a0 a1=some r):cJ prog 110 [.slice false (a0.map aJ.d),.slice false (a1.map aJ.d)] (.bool r):=by
 refine bC (rs:=[.bool r]) func110 M ntmps110 (nle M) M fun O hO=>?_
 show IWP _ _ _ _ ⟨[(0,.slice false (a0.map aJ.d)),(1,.slice false (a1.map aJ.d))],[]⟩ _
 unfold eR at h
 refine aC (aA M (aE M M (lb M) (sv (d:=.bool false) M))<|aB ?_)
 refine aW ?_
 obtain ⟨x1,hx1,h⟩:=aS h
 refine aC (aA M (mvL M M M M)<|aA M (cN aJ (l:=a0) M M (lb M) underlying26 (svL M))<|aA M (mvL M M M M)<|aA M (cN aJ (l:=a1) M M (lb M) underlying26 (svL M))<|aA M (aP M M (lb M) (svI M) (svI M) M hx1)<|aB ?_)
 refine aR (b:=_) M (fun hc2=>?_) (fun hc2=>?_)
 ·
  replace h:=bS h hc2
  refine aC (aA M (aE M M (lb M) (sv (d:=.bool false) M))<|aB ?_)
  refine aT ?_
  refine bA ?_
  obtain rfl:=sj_ h
  refine ⟨.inr M,(.cons (sv M) .nil)⟩
 ·
  replace h:=bT h hc2
  refine aV ?_
  refine aM ?_
  refine aW ?_
  refine aC (aA M (mvL M M M M)<|aA M (cN aJ (l:=a0) M M (lb M) underlying26 (svL M))<|aA M (aK M M (lb M) (sv (d:=.int _ 0) M))<|aB ?_)
  refine bG ?_
  refine dA (α:=Nat × Int) (fun z=>⟨[(0,.slice false (a0.map aJ.d)),(1,.slice false (a1.map aJ.d)),(12,.int .i64 (a0.length:Int)),(13,.int .i64 z.2)],[]⟩) (fun z=>cW a0 a1 z.1 z.2=some r) (fun z=>z.1) (fuel,0) (fun i=>i) ⟨(.sames M M),.nil,cA [] M (by decide),fun _ _=>M⟩ ?_ ?_
  ·exact h
  ·
   rintro ⟨n0,v10⟩ h
   cases n0 with
   | zero=>exact absurd h (by unfold cW; exact nofun)
   | succ n0 =>
    unfold cW at h
    obtain ⟨x18,hx18,h⟩:=aS h
    refine aC (aA M (aP M M (lb M) (svI M) (svI M) M hx18)<|aB ?_)
    refine aW ?_
    refine aR (b:=_) M (fun hc19=>?_) (fun hc19=>?_)
    ·
     replace h:=bS h hc19
     refine aV ?_
     refine aM ?_
     refine aW ?_
     refine bG ?_
     refine aC (aA M (mvI M M M M)<|aA M (asI M M M M)<|aB ?_)
     obtain ⟨x20,hx20,h⟩:=aZ h
     obtain ⟨x21,hx21,h⟩:=aZ h
     obtain ⟨x22,hx22,h⟩:=aS h
     refine dH M [⟨[0],[],[(16,.slice false (a0.map aJ.d))],[]⟩,
      ⟨[5],[],[(17,.int .i64 v10)],[]⟩,
      ⟨[16,17],[],[(18,.fptr [.int .i64 x20.From,.int .i64 x20.To])],[]⟩,
      ⟨[18],[],[(19,.agg [.int .i64 x20.From,.int .i64 x20.To])],[]⟩,
      ⟨[1],[],[(20,.slice false (a1.map aJ.d))],[]⟩,
      ⟨[5],[],[(21,.int .i64 v10)],[]⟩,
      ⟨[20,21],[],[(22,.fptr [.int .i64 x21.From,.int .i64 x21.To])],[]⟩,
      ⟨[22],[],[(23,.agg [.int .i64 x21.From,.int .i64 x21.To])],[]⟩,
      ⟨[19,23],[],[(24,.bool (!x22))],[]⟩] M ?_ (by kernel_rfl) ?_
     ·refine .cons (lop M M fun S hA=>(aK M M (lb M) (svaL hA M M))) ?_
      refine .cons (lop M M fun S hA=>(aK M M (lb M) (svaI hA M M))) ?_
      refine .cons (lop M M fun S hA=>(dB aJ (cs:=q27) M M (lb M) underlying26 gC (svaL hA M M) (svaI hA M M) hx20 M M)) ?_
      refine .cons (lop M M fun S hA=>(cX (cs:=q27) M M (lb M) underlying116 yP gC (by decide) (sv (d:=.fptr q27) (agr hA M M)) (nle M) M)) ?_
      refine .cons (lop M M fun S hA=>(aK M M (lb M) (svaL hA M M))) ?_
      refine .cons (lop M M fun S hA=>(aK M M (lb M) (svaI hA M M))) ?_
      refine .cons (lop M M fun S hA=>(dB aJ (cs:=q27) M M (lb M) underlying26 gC (svaL hA M M) (svaI hA M M) hx21 M M)) ?_
      refine .cons (lop M M fun S hA=>(cX (cs:=q27) M M (lb M) underlying116 yP gC (by decide) (sv (d:=.fptr q27) (agr hA M M)) (nle M) M)) ?_
      refine .cons (lop M M fun S hA=>(xY M M (lb M) underlying116 st116.1 st116.2 (svaA q27 hA M M) (svaA q27 hA M M) (congrArg some hx22))) ?_
      exact .nil
     refine aR (b:=_) M (fun hc23=>?_) (fun hc23=>?_)
     ·
      replace h:=bS h hc23
      refine aC (aA M (aE M M (lb M) (sv (d:=.bool false) M))<|aB ?_)
      refine aT ?_
      refine bP ?_
      refine bA ?_
      refine bA ?_
      refine bP ?_
      refine bA ?_
      obtain rfl:=sj_ h
      refine ⟨.inr M,(.cons (sv M) .nil)⟩
     ·
      replace h:=bT h hc23
      refine aV ?_
      refine bZ ?_
      refine aM ?_
      obtain ⟨x24,hx24,h⟩:=aS h
      refine bE (aA M (bN M M (lb M) (svI M) (sv (d:=.int _ 1) M) M hx24)<|aA M (mvI M M M M)<|cB ?_)
      refine aM ⟨(n0,x24),(fun i=>i),⟨(.sames M M),.nil,cA [] M (by decide),fun _ _=>M⟩,?_,?_⟩
      exact h
      exact Nat.lt_succ_self _
    ·
     replace h:=bT h hc19
     refine cQ ?_
     refine bJ ?_
     refine bJ ?_
     refine cR ?_
     refine aM ?_
     refine aC (aA M (aE M M (lb M) (sv (d:=.bool true) M))<|aB ?_)
     refine aT ?_
     obtain rfl:=sj_ h
     refine ⟨.inr M,(.cons (sv M) .nil)⟩

theorem vZ (a0:(List aI)) (a1:(List aI)) (r:Bool) (h:oG a0 a1=some r):cJ prog 76 [.slice false (a0.map aJ.d),.slice false (a1.map aJ.d)] (.bool r):=by
 refine bC (rs:=[.bool r]) func76 M ntmps76 (nle M) M fun O hO=>?_
 show IWP _ _ _ _ ⟨[(0,.slice false (a0.map aJ.d)),(1,.slice false (a1.map aJ.d))],[]⟩ _
 unfold oG at h
 refine aC (aA M (aE M M (lb M) (sv (d:=.bool false) M))<|aB ?_)
 obtain ⟨x1,hx1,h⟩:=aZ h
 refine aC (aA M (mvL M M M M)<|aA M (mvL M M M M)<|aA M (aX (r:=.bool _) M M (lb M) cl110 (.cons (svL M) (.cons (svL M) .nil)) M (lV _ _ _ hx1))<|aA M (asB M M M M)<|aB ?_)
 refine aT ?_
 obtain rfl:=sj_ h
 refine ⟨.inr M,(.cons (sv M) .nil)⟩

theorem vL (a0:aY) (a1:aL) (a2:Int) (r:Bool) (h:kX a0 a1 a2=some r):cJ prog 70 [.agg (v3 a0),.agg (v7 a1),.int .i64 a2] (.bool r):=by
 refine bC (rs:=[.bool r]) func70 M ntmps70 (nle M) M fun O hO=>?_
 show IWP _ _ _ _ ⟨[(0,.agg (v3 a0)),(1,.agg (v7 a1)),(2,.int .i64 a2)],[]⟩ _
 unfold kX at h
 refine aC (aA M (bV (cs:=q14) 0 M M (lb M) M (svA q14 M) M M)<|aA M (bV (cs:=q19) 1 M M (lb M) M (svA q19 M) M M)<|aA M (aE M M (lb M) (sv (d:=.bool false) M))<|aB ?_)
 refine aW ?_
 obtain ⟨x1,hx1,h⟩:=aS h
 obtain ⟨x2,hx2,h⟩:=aS h
 obtain ⟨x3,hx3,h⟩:=aS h
 obtain ⟨x4,hx4,h⟩:=aS h
 obtain ⟨x5,hx5,h⟩:=aS h
 obtain ⟨x6,hx6,h⟩:=aZ h
 obtain ⟨x7,hx7,h⟩:=aS h
 refine aC (aA M (faR 0 M M M underlying52 M ti3 (lb M) M M)<|aA M (aG (d:=.int _ _) M M (lb M) underlying3 ag3 ti3 (by decide) (svR M) M (nle M) M)<|aA M (mvI M M M M)<|aA M (aP M M (lb M) (svI M) (svI M) M hx1)<|aA M (mvB M M M M)<|aF M M (.one M) M (by decide) (fun hb=>(faR 1 M M M underlying52 M ti3 (lb M) M M))<|aF M M (.one M) M (by decide) (fun hb=>(aG (d:=.int _ _) M M (lb M) underlying3 ag3 ti3 (by decide) (svcR M hb) M (nle M) M))<|aF M M (.one M) M (by decide) (fun hb=>(faR 0 M M M underlying52 M ti3 (lb M) M M))<|aF M M (.one M) M (by decide) (fun hb=>(aG (d:=.int _ _) M M (lb M) underlying3 ag3 ti3 (by decide) (svcR M hb) M (nle M) M))<|aF M M (.one M) M (by decide) (fun hb=>(aP M M (lb M) (svcI M hb) (svcI M hb) M hx2))<|aA M (dT M M (lb M) (svB M) M M hx3)<|aA M (mvB M M M M)<|aF M M (.one M) M (by decide) (fun hb=>(faR 1 M M M underlying52 M ti3 (lb M) M M))<|aF M M (.one M) M (by decide) (fun hb=>(aG (d:=.int _ _) M M (lb M) underlying3 ag3 ti3 (by decide) (svcR M hb) M (nle M) M))<|aF M M (.one M) M (by decide) (fun hb=>(faR 2 M M M underlying28 M ti3 (lb M) M M))<|aF M M (.one M) M (by decide) (fun hb=>(aG (d:=.int _ _) M M (lb M) underlying3 ag3 ti3 (by decide) (svcR M hb) M (nle M) M))<|aF M M (.one M) M (by decide) (fun hb=>(aP M M (lb M) (svcI M hb) (svcI M hb) M hx4))<|aA M (dT M M (lb M) (svB M) M M hx5)<|aA M (mvB M M M M)<|aF M M (.one M) M (by decide) (fun hb=>(faR 2 M M M underlying52 M ti3 (lb M) M M))<|aF M M (.one M) M (by decide) (fun hb=>(aG (d:=.int _ _) M M (lb M) underlying3 ag3 ti3 (by decide) (svcR M hb) M (nle M) M))<|aF M M (.one M) M (by decide) (fun hb=>(aX (r:=.bool _) M M (lb M) cl52 (.cons (svcI M hb) .nil) M (xM _ _ (gd_t hx6 hb))))<|aF M M (.one M) M (by decide) (fun hb=>(dN M M (lb M) (svcB M hb)))<|aA M (dT M M (lb M) (svB M) M M hx7)<|aB ?_)
 refine aR (b:=_) M (fun hc8=>?_) (fun hc8=>?_)
 ·
  replace h:=bS h hc8
  refine aC (aA M (aE M M (lb M) (sv (d:=.bool false) M))<|aB ?_)
  refine aT ?_
  refine bA ?_
  obtain rfl:=sj_ h
  refine ⟨.inr M,(.cons (sv M) .nil)⟩
 ·
  replace h:=bT h hc8
  refine aV ?_
  refine aM ?_
  refine aW ?_
  obtain ⟨x9,hx9,h⟩:=aS h
  refine aC (aA M (faR 0 M M M underlying52 M ti3 (lb M) M M)<|aA M (aG (d:=.int _ _) M M (lb M) underlying3 ag3 ti3 (by decide) (svR M) M (nle M) M)<|aA M (faR 1 M M M underlying52 M ti3 (lb M) M M)<|aA M (aG (d:=.int _ _) M M (lb M) underlying3 ag3 ti3 (by decide) (svR M) M (nle M) M)<|aA M (aP M M (lb M) (svI M) (svI M) M hx9)<|aB ?_)
  refine aR (b:=_) M (fun hc10=>?_) (fun hc10=>?_)
  ·
   replace h:=bS h hc10
   refine aC (aA M (faR 3 M M M underlying52 M ti4 (lb M) M M)<|aA M (aG (d:=.bool _) M M (lb M) underlying4 ag4 ti4 (by decide) (svR M) M (nle M) M)<|aA M (asB M M M M)<|aB ?_)
   refine aT ?_
   refine bA ?_
   obtain rfl:=sj_ h
   refine ⟨.inr M,(.cons (sv M) .nil)⟩
  ·
   replace h:=bT h hc10
   refine aV ?_
   refine aM ?_
   obtain ⟨x11,hx11,h⟩:=aZ h
   obtain ⟨x12,hx12,h⟩:=aZ h
   obtain ⟨x13,hx13,h⟩:=aZ h
   obtain ⟨x14,hx14,h⟩:=aZ h
   refine dH M [⟨[3],[],[(38,.ref 0 4)],[]⟩,
    ⟨[38],[0],[(39,.slice false (a0.Lost.map aJ.d))],[]⟩,
    ⟨[4],[1],[(40,.agg (v7 a1))],[]⟩,
    ⟨[40],[],[(41,.agg [.int .i64 x11.From,.int .i64 x11.To])],[]⟩,
    ⟨[39,41],[],[(42,.slice false (x12.map aJ.d))],[]⟩,
    ⟨[4],[1],[(43,.agg (v7 a1))],[]⟩,
    ⟨[43],[],[(44,.agg [.int .i64 x13.From,.int .i64 x13.To])],[]⟩,
    ⟨[44],[2],[(45,.gsl 2 aJ.sz ((([(⟨x13.From,x13.To⟩:aI)]:(List aI))).map aJ.d))],[(2,.tail 116 aJ.sz (([(⟨x13.From,x13.To⟩:aI)]:(List aI))).length)]⟩,
    ⟨[42,45],[],[(46,.bool x14)],[]⟩,
    ⟨[46],[],[(6,.bool x14)],[]⟩] M ?_ (by kernel_rfl) ?_
   ·refine .cons (lop M M fun S hA=>(aO M M (lb M) underlying28 M ti26 (by decide) (svaR hA M M) (off':=4) M)) ?_
    refine .cons (lop M M fun S hA=>(aG (d:=.slice _ _) M M (lb M) underlying26 ag26 ti26 (by decide) (svaR hA M M) (agi hA M M) (nle M) M)) ?_
    refine .cons (lop M M fun S hA=>(bY (cs:=q19) M M (lb M) underlying52 ag52 ti52 (by decide) (svaR hA M M) (agi hA M M) (nle M) M)) ?_
    refine .cons (lop M M fun S hA=>(aX (r:=.agg q27) M M (lb M) cl55 (.cons (svaA q19 hA M M) .nil) M (lI _ _ hx11))) ?_
    refine .cons (lop M M fun S hA=>(aX (r:=.slice _ _) M M (lb M) cl107 (.cons (svaL hA M M) (.cons (svaA q27 hA M M) .nil)) M (aA6 _ _ _ hx12))) ?_
    refine .cons (lop M M fun S hA=>(bY (cs:=q19) M M (lb M) underlying52 ag52 ti52 (by decide) (svaR hA M M) (agi hA M M) (nle M) M)) ?_
    refine .cons (lop M M fun S hA=>(aX (r:=.agg q27) M M (lb M) cl55 (.cons (svaA q19 hA M M) .nil) M (lI _ _ hx13))) ?_
    refine .cons (lop M M fun S hA=>(oP aJ ([(⟨x13.From,x13.To⟩:aI)]:(List aI)) 2 M M (lb M) underlying26 gC (agi hA M M) (.cons (svaA q27 hA M M) .nil) M M (by decide))) ?_
    refine .cons (lop M M fun S hA=>(aX (r:=.bool _) M M (lb M) cl76 (.cons (svaL hA M M) (.cons (svg (agr hA M M)) .nil)) M (vZ _ _ _ hx14))) ?_
    refine .cons (lop M M fun S hA=>(aE M M (lb M) (svaB hA M M))) ?_
    exact .nil
   refine aT ?_
   obtain rfl:=sj_ h
   refine ⟨.inr M,(.cons (sv M) .nil)⟩

theorem fY (a0:aY) (r:Int) (h:eZ a0=some r):cJ prog 51 [.agg (v3 a0)] (.int .i64 r):=by
 refine bC (rs:=[.int .i64 r]) func51 M ntmps51 (nle M) M fun O hO=>?_
 show IWP _ _ _ _ ⟨[(0,.agg (v3 a0))],[]⟩ _
 unfold eZ at h
 refine aC (aA M (bV (cs:=q14) 0 M M (lb M) M (svA q14 M) M M)<|aA M (aE M M (lb M) (sv (d:=.int _ 0) M))<|aB ?_)
 obtain ⟨x1,hx1,h⟩:=aS h
 refine aC (aA M (faR 0 M M M underlying28 M ti3 (lb M) M M)<|aA M (aG (d:=.int _ _) M M (lb M) underlying3 ag3 ti3 (by decide) (svR M) M (nle M) M)<|aA M (faR 1 M M M underlying28 M ti9 (lb M) M M)<|aA M (aG (d:=.str _) M M (lb M) underlying9 ag9 ti9 (by decide) (svR M) M (nle M) M)<|aA M (dF M M (lb M) underlying9 (sv (d:=.str _) M) M)<|aA M (bN M M (lb M) (svI M) (svI M) M hx1)<|aA M (asI M M M M)<|aB ?_)
 refine aT ?_
 obtain rfl:=sj_ h
 refine ⟨.inr M,(.cons (sv M) .nil)⟩

theorem vM (a0:aY) (r:Bool) (h:mJ a0=some r):cJ prog 71 [.agg (v3 a0)] (.bool r):=by
 refine bC (rs:=[.bool r]) func71 M ntmps71 (nle M) M fun O hO=>?_
 show IWP _ _ _ _ ⟨[(0,.agg (v3 a0))],[]⟩ _
 unfold mJ at h
 refine aC (aA M (bV (cs:=q14) 0 M M (lb M) M (svA q14 M) M M)<|aA M (aE M M (lb M) (sv (d:=.bool false) M))<|aB ?_)
 refine aC (aA M (aE M M (lb M) (sv (d:=.int _ 0) M))<|aB ?_)
 refine aW ?_
 refine aC (aA M (faR 3 M M M underlying28 M ti24 (lb M) M M)<|aA M (lrL la24 M M M M M (nle M) M)<|aA M (cN aD (l:=a0.Pieces) M M (lb M) underlying24 (svL M))<|aA M (aK M M (lb M) (sv (d:=.int _ 0) M))<|aB ?_)
 refine bG ?_
 refine dA (α:=Nat × Int × Int) (fun z=>⟨[(1,.ref 0 0),(3,.int .i64 z.2.1),(8,.slice false (a0.Pieces.map aD.d)),(9,.int .i64 (a0.Pieces.length:Int)),(10,.int .i64 z.2.2)],[(0,.blk 28 (v3 a0))]⟩) (fun z=>eS a0 z.1 z.2.1 z.2.2=some r) (fun z=>z.1) (fuel,0,0) (fun i=>i) ⟨(.sames M M),(.cons (.blk M M M) .nil),cA [0] M (by decide),fun _ _=>M⟩ ?_ ?_
 ·exact h
 ·
  rintro ⟨n0,v11,v12⟩ h
  cases n0 with
  | zero=>exact absurd h (by unfold eS; exact nofun)
  | succ n0 =>
   unfold eS at h
   obtain ⟨x23,hx23,h⟩:=aS h
   refine aC (aA M (aP M M (lb M) (svI M) (svI M) M hx23)<|aB ?_)
   refine aW ?_
   refine aR (b:=_) M (fun hc24=>?_) (fun hc24=>?_)
   ·
    replace h:=bS h hc24
    refine aV ?_
    refine aM ?_
    refine aW ?_
    refine bG ?_
    obtain ⟨x25,hx25,h⟩:=aZ h
    refine aC (aA M (dB aD (cs:=q19) M M (lb M) underlying24 ti52 (svL M) (svI M) hx25 M M)<|aA M (cX (cs:=q19) M M (lb M) underlying52 ag52 ti52 (by decide) (sv (d:=.fptr q19) M) (nle M) M)<|aA M (bI (cs:=q19) (cs':=(w44 0 0 0 false)) 1 M M (lb M) M ti52 M M (.all _))<|aA M (stA q19 q19 ti52 M M M M M M M M (nle M) M)<|aB ?_)
    refine aC (aA M (faR 3 M M M underlying52 M ti4 (lb M) M M)<|aA M (aG (d:=.bool _) M M (lb M) underlying4 ag4 ti4 (by decide) (svR M) M (nle M) M)<|aB ?_)
    refine aR (b:=_) M (fun hc26=>?_) (fun hc26=>?_)
    ·
     replace h:=bS h hc26
     obtain ⟨x27,hx27,h⟩:=aS h
     refine aC (aA M (mvI M M M M)<|aA M (bN M M (lb M) (svI M) (sv (d:=.int _ 1) M) M hx27)<|aA M (asI M M M M)<|aB ?_)
     obtain ⟨x28,hx28,h⟩:=aZ h
     obtain ⟨x29,hx29,h⟩:=aS h
     refine dH M [⟨[5],[],[(18,.ref 1 1)],[]⟩,
      ⟨[18],[1],[(19,.int .i64 x25.To)],[]⟩,
      ⟨[1],[0],[(20,.agg (v3 a0))],[]⟩,
      ⟨[20],[],[(21,.int .i64 x28)],[]⟩,
      ⟨[19,21],[],[(22,.bool x29)],[]⟩] M ?_ (by kernel_rfl) ?_
     ·refine .cons (lop M M fun S hA=>(aO M M (lb M) underlying52 M ti3 (by decide) (svaR hA M M) (off':=1) M)) ?_
      refine .cons (lop M M fun S hA=>(aG (d:=.int _ _) M M (lb M) underlying3 ag3 ti3 (by decide) (svaR hA M M) (agi hA M M) (nle M) M)) ?_
      refine .cons (lop M M fun S hA=>(bY (cs:=q14) M M (lb M) underlying28 ag28 ti28 (by decide) (svaR hA M M) (agi hA M M) (nle M) M)) ?_
      refine .cons (lop M M fun S hA=>(aX (r:=.int _ _) M M (lb M) cl51 (.cons (svaA q14 hA M M) .nil) M (fY _ _ hx28))) ?_
      refine .cons (lop M M fun S hA=>(aP M M (lb M) (svaI hA M M) (svaI hA M M) M hx29)) ?_
      exact .nil
     refine aR (b:=_) M (fun hc30=>?_) (fun hc30=>?_)
     ·
      replace h:=bS h hc30
      refine aC (aA M (aE M M (lb M) (sv (d:=.bool false) M))<|aB ?_)
      refine aT ?_
      refine bP ?_
      refine bA ?_
      refine bA ?_
      refine bP ?_
      refine bA ?_
      obtain rfl:=sj_ h
      refine ⟨.inr M,(.cons (sv M) .nil)⟩
     ·
      replace h:=bT h hc30
      refine aV ?_
      refine bZ ?_
      refine aM ?_
      obtain ⟨x31,hx31,h⟩:=aS h
      refine bE (aA M (bN M M (lb M) (svI M) (sv (d:=.int _ 1) M) M hx31)<|aA M (mvI M M M M)<|cB ?_)
      refine aM ⟨(n0,x27,x31),(fun i=>i),⟨(.sames M M),(.cons (.blk M M M) .nil),cA [0] M (by decide),fun _ _=>M⟩,?_,?_⟩
      exact h
      exact Nat.lt_succ_self _
    ·
     replace h:=bT h hc26
     refine aV ?_
     refine bZ ?_
     refine aM ?_
     obtain ⟨x32,hx32,h⟩:=aS h
     refine bE (aA M (bN M M (lb M) (svI M) (sv (d:=.int _ 1) M) M hx32)<|aA M (mvI M M M M)<|cB ?_)
     refine aM ⟨(n0,v11,x32),(fun i=>i),⟨(.sames M M),(.cons (.blk M M M) .nil),cA [0] M (by decide),fun _ _=>M⟩,?_,?_⟩
     exact h
     exact Nat.lt_succ_self _
   ·
    replace h:=bT h hc24
    refine cQ ?_
    refine bJ ?_
    refine bJ ?_
    refine cR ?_
    refine aM ?_
    refine aW ?_
    refine aC (aA M (faR 6 M M M underlying28 M ti4 (lb M) M M)<|aA M (aG (d:=.bool _) M M (lb M) underlying4 ag4 ti4 (by decide) (svR M) M (nle M) M)<|aA M (dN M M (lb M) (svB M))<|aB ?_)
    refine aR (b:=_) M (fun hc33=>?_) (fun hc33=>?_)
    ·
     replace h:=bS h hc33
     obtain ⟨x34,hx34,h⟩:=aS h
     obtain ⟨x35,hx35,h⟩:=aS h
     obtain ⟨x36,hx36,h⟩:=aS h
     refine aC (aA M (mvI M M M M)<|aA M (aP M M (lb M) (svI M) (sv (d:=.int _ 0) M) M hx34)<|aA M (mvB M M M M)<|aF M M (.one M) M (by decide) (fun hb=>(faR 7 M M M underlying28 M ti4 (lb M) M M))<|aF M M (.one M) M (by decide) (fun hb=>(aG (d:=.bool _) M M (lb M) underlying4 ag4 ti4 (by decide) (svcR M hb) M (nle M) M))<|aF M M (.one M) M (by decide) (fun hb=>(dN M M (lb M) (svcB M hb)))<|aA M (cC M M (lb M) (svB M) M M hx35)<|aA M (mvB M M M M)<|aF M M (.one M) M (by decide) (fun hb=>(faR 8 M M M underlying28 M ti4 (lb M) M M))<|aF M M (.one M) M (by decide) (fun hb=>(aG (d:=.bool _) M M (lb M) underlying4 ag4 ti4 (by decide) (svcR M hb) M (nle M) M))<|aF M M (.one M) M (by decide) (fun hb=>(dN M M (lb M) (svcB M hb)))<|aA M (cC M M (lb M) (svB M) M M hx36)<|aA M (asB M M M M)<|aB ?_)
     refine aT ?_
     refine bA ?_
     obtain rfl:=sj_ h
     refine ⟨.inr M,(.cons (sv M) .nil)⟩
    ·
     replace h:=bT h hc33
     refine aV ?_
     refine aM ?_
     refine aW ?_
     obtain ⟨x37,hx37,h⟩:=aZ h
     obtain ⟨x38,hx38,h⟩:=aS h
     obtain ⟨x39,hx39,h⟩:=aS h
     obtain ⟨x40,hx40,h⟩:=aS h
     obtain ⟨x41,hx41,h⟩:=aS h
     refine dH M [⟨[1],[],[(39,.ref 0 5)],[]⟩,
      ⟨[39],[0],[(40,.bool a0.Closed)],[]⟩,
      ⟨[40],[],[(41,.bool (!a0.Closed))],[]⟩,
      ⟨[41],[],[(42,.bool (!a0.Closed))],[]⟩,
      ⟨[1,42],[],[(43,.cnd ((!a0.Closed) == false) (.ref 0 2))],[]⟩,
      ⟨[42,43],[0],[(44,.cnd ((!a0.Closed) == false) (.int .i64 a0.Next))],[]⟩,
      ⟨[1,42],[0],[(45,.cnd ((!a0.Closed) == false) (.agg (v3 a0)))],[]⟩,
      ⟨[42,45],[],[(46,.cnd ((!a0.Closed) == false) (.int .i64 x37))],[]⟩,
      ⟨[42,44,46],[],[(47,.cnd ((!a0.Closed) == false) (.bool x38))],[]⟩,
      ⟨[42,47],[],[(48,.bool x39)],[]⟩,
      ⟨[48],[],[(49,.bool x39)],[]⟩,
      ⟨[1,49],[],[(50,.cnd (x39 == false) (.ref 0 7))],[]⟩,
      ⟨[49,50],[0],[(51,.cnd (x39 == false) (.bool a0.Again))],[]⟩,
      ⟨[49,51],[],[(52,.cnd (x39 == false) (.bool a0.Again))],[]⟩,
      ⟨[1,52],[],[(53,.cnd (((x39 == false) && (a0.Again == true))) (.ref 0 8))],[]⟩,
      ⟨[52,53],[0],[(54,.cnd (((x39 == false) && (a0.Again == true))) (.bool a0.Done))],[]⟩,
      ⟨[49,52,54],[],[(55,.cnd (x39 == false) (.bool x40))],[]⟩,
      ⟨[49,55],[],[(56,.bool x41)],[]⟩] M ?_ (by kernel_rfl) ?_
     ·refine .cons (lop M M fun S hA=>(aO M M (lb M) underlying28 M ti4 (by decide) (svaR hA M M) (off':=5) M)) ?_
      refine .cons (lop M M fun S hA=>(aG (d:=.bool _) M M (lb M) underlying4 ag4 ti4 (by decide) (svaR hA M M) (agi hA M M) (nle M) M)) ?_
      refine .cons (lop M M fun S hA=>(dN M M (lb M) (svaB hA M M))) ?_
      refine .cons (lop M M fun S hA=>(aK M M (lb M) (svaB hA M M))) ?_
      refine .cons (lopg M M M M (by decide) (fun S hA=>grd1 hA M M) (fun S hA hb=>(aO M M (lb M) underlying28 M ti3 (by decide) (svaR hA M M) (off':=2) M))) ?_
      refine .cons (lopg M M M M (by decide) (fun S hA=>grd1 hA M M) (fun S hA hb=>(aG (d:=.int _ _) M M (lb M) underlying3 ag3 ti3 (by decide) (svc (d:=.ref _ _) (agr hA M M) hb) (agi hA M M) (nle M) M))) ?_
      refine .cons (lopg M M M M (by decide) (fun S hA=>grd1 hA M M) (fun S hA hb=>(bY (cs:=q14) M M (lb M) underlying28 ag28 ti28 (by decide) (svaR hA M M) (agi hA M M) (nle M) M))) ?_
      refine .cons (lopg M M M M (by decide) (fun S hA=>grd1 hA M M) (fun S hA hb=>(aX (r:=.int _ _) M M (lb M) cl51 (.cons (svc (d:=.agg (v3 a0)) (agr hA M M) hb) .nil) M (fY _ _ (gd_t hx37 hb))))) ?_
      refine .cons (lopg M M M M (by decide) (fun S hA=>grd1 hA M M) (fun S hA hb=>(aP M M (lb M) (svc (d:=.int _ _) (agr hA M M) hb) (svc (d:=.int _ _) (agr hA M M) hb) M hx38))) ?_
      refine .cons (lop M M fun S hA=>(dT M M (lb M) (svaB hA M M) M (agr hA M M) hx39)) ?_
      refine .cons (lop M M fun S hA=>(aK M M (lb M) (svaB hA M M))) ?_
      refine .cons (lopg M M M M (by decide) (fun S hA=>grd1 hA M M) (fun S hA hb=>(aO M M (lb M) underlying28 M ti4 (by decide) (svaR hA M M) (off':=7) M))) ?_
      refine .cons (lopg M M M M (by decide) (fun S hA=>grd1 hA M M) (fun S hA hb=>(aG (d:=.bool _) M M (lb M) underlying4 ag4 ti4 (by decide) (svc (d:=.ref _ _) (agr hA M M) hb) (agi hA M M) (nle M) M))) ?_
      refine .cons (lopg M M M M (by decide) (fun S hA=>grd1 hA M M) (fun S hA hb=>(aK M M (lb M) (svc (d:=.bool _) (agr hA M M) hb)))) ?_
      refine .cons (lopg M M M M (by decide) (fun S hA=>grd2 hA M M) (fun S hA hb=>(aO M M (lb M) underlying28 M ti4 (by decide) (svaR hA M M) (off':=8) M))) ?_
      refine .cons (lopg M M M M (by decide) (fun S hA=>grd2 hA M M) (fun S hA hb=>(aG (d:=.bool _) M M (lb M) underlying4 ag4 ti4 (by decide) (svc (d:=.ref _ _) (agr hA M M) hb) (agi hA M M) (nle M) M))) ?_
      refine .cons (lopg M M M M (by decide) (fun S hA=>grd1 hA M M) (fun S hA hb=>(pX M M (lb M) hb (svc (d:=.bool _) (agr hA M M) hb) (agr hA M M) M hx40))) ?_
      refine .cons (lop M M fun S hA=>(dT M M (lb M) (svaB hA M M) M (agr hA M M) hx41)) ?_
      exact .nil
     refine aR (b:=_) M (fun hc42=>?_) (fun hc42=>?_)
     ·
      replace h:=bS h hc42
      refine aC (aA M (aE M M (lb M) (sv (d:=.bool false) M))<|aB ?_)
      refine aT ?_
      refine bA ?_
      obtain rfl:=sj_ h
      refine ⟨.inr M,(.cons (sv M) .nil)⟩
     ·
      replace h:=bT h hc42
      refine aV ?_
      refine aM ?_
      obtain ⟨x43,hx43,h⟩:=aS h
      refine aC (aA M (faR 7 M M M underlying28 M ti4 (lb M) M M)<|aA M (aG (d:=.bool _) M M (lb M) underlying4 ag4 ti4 (by decide) (svR M) M (nle M) M)<|aA M (dN M M (lb M) (svB M))<|aA M (mvB M M M M)<|aF M M (.one M) M (by decide) (fun hb=>(faR 8 M M M underlying28 M ti4 (lb M) M M))<|aF M M (.one M) M (by decide) (fun hb=>(aG (d:=.bool _) M M (lb M) underlying4 ag4 ti4 (by decide) (svcR M hb) M (nle M) M))<|aF M M (.one M) M (by decide) (fun hb=>(dN M M (lb M) (svcB M hb)))<|aA M (cC M M (lb M) (svB M) M M hx43)<|aA M (asB M M M M)<|aB ?_)
      obtain ⟨x44,hx44,h⟩:=aS h
      obtain ⟨x45,hx45,h⟩:=aS h
      obtain ⟨x46,hx46,h⟩:=aS h
      obtain ⟨x47,hx47,h⟩:=aS h
      obtain ⟨x48,hx48,h⟩:=aS h
      refine aC (aA M (mvB M M M M)<|aA M (mvB M M M M)<|aF M M (.one M) M (by decide) (fun hb=>(mvI M M M M))<|aF M M (.one M) M (by decide) (fun hb=>(aP M M (lb M) (svcI M hb) (sv (d:=.int _ 1) M) M hx44))<|aA M (cC M M (lb M) (svB M) M M hx45)<|aA M (mvB M M M M)<|aF M M (.one M) M (by decide) (fun hb=>(mvB M M M M))<|aF M M (.one M) M (by decide) (fun hb=>(dN M M (lb M) (svcB M hb)))<|aF M M (.one M) M (by decide) (fun hb=>(aK M M (lb M) (svcB M hb)))<|aF M M (.two M) M (by decide) (fun hb=>(mvI M M M M))<|aF M M (.two M) M (by decide) (fun hb=>(aP M M (lb M) (svcI M hb) (sv (d:=.int _ 0) M) M hx46))<|aF M M (.one M) M (by decide) (fun hb=>(pX M M (lb M) hb (svcB M hb) M M hx47))<|aA M (dT M M (lb M) (svB M) M M hx48)<|aA M (asB M M M M)<|aB ?_)
      refine aT ?_
      obtain rfl:=sj_ h
      refine ⟨.inr M,(.cons (sv M) .nil)⟩

theorem mC (a0:aY) (r:Int) (h:kP a0=some r):cJ prog 39 [.agg (v3 a0)] (.int .i64 r):=by
 refine bC (rs:=[.int .i64 r]) func39 M ntmps39 (nle M) M fun O hO=>?_
 show IWP _ _ _ _ ⟨[(0,.agg (v3 a0))],[]⟩ _
 unfold kP at h
 refine aC (aA M (bV (cs:=q14) 0 M M (lb M) M (svA q14 M) M M)<|aA M (aE M M (lb M) (sv (d:=.int _ 0) M))<|aB ?_)
 refine aW ?_
 refine bG ?_
 refine gP (α:=Bool) (fun z=>⟨[(1,.ref 0 0),(6,.bool z)],[(0,.blk 28 (v3 a0))]⟩) (fun z=>kD a0 z=some r) ?_ ?_
 ·
  obtain ⟨x37,hx37,h⟩:=aS h
  refine aC (aA M (faR 0 M M M underlying28 M ti3 (lb M) M M)<|aA M (aG (d:=.int _ _) M M (lb M) underlying3 ag3 ti3 (by decide) (svR M) M (nle M) M)<|aA M (aP M M (lb M) (svI M) (sv (d:=.int _ 0) M) M hx37)<|aA M (asB M M M M)<|aB ?_)
  refine aR (b:=_) M (fun hc38=>?_) (fun hc38=>?_)
  ·
   replace h:=bS h hc38
   refine aV ?_
   refine aM ⟨x37,(fun i=>i),⟨(.sames M M),(.cons (.blk M M M) .nil),cA [0] M (by decide),fun _ _=>M⟩,?_⟩
   exact h
  ·
   replace h:=bT h hc38
   obtain ⟨x39,hx39,h⟩:=aS h
   refine aC (aA M (faR 0 M M M underlying28 M ti3 (lb M) M M)<|aA M (aG (d:=.int _ _) M M (lb M) underlying3 ag3 ti3 (by decide) (svR M) M (nle M) M)<|aA M (aP M M (lb M) (svI M) (sv (d:=.int _ 1099511623680) M) M hx39)<|aA M (asB M M M M)<|aB ?_)
   refine aR (b:=_) M (fun hc40=>?_) (fun hc40=>?_)
   ·
    replace h:=bS h hc40
    refine aV ?_
    refine aM ⟨x39,(fun i=>i),⟨(.sames M M),(.cons (.blk M M M) .nil),cA [0] M (by decide),fun _ _=>M⟩,?_⟩
    exact h
   ·
    replace h:=bT h hc40
    obtain ⟨x41,hx41,h⟩:=aS h
    refine aC (aA M (faR 2 M M M underlying28 M ti3 (lb M) M M)<|aA M (aG (d:=.int _ _) M M (lb M) underlying3 ag3 ti3 (by decide) (svR M) M (nle M) M)<|aA M (faR 0 M M M underlying28 M ti3 (lb M) M M)<|aA M (aG (d:=.int _ _) M M (lb M) underlying3 ag3 ti3 (by decide) (svR M) M (nle M) M)<|aA M (aP M M (lb M) (svI M) (svI M) M hx41)<|aA M (asB M M M M)<|aB ?_)
    refine aR (b:=_) M (fun hc42=>?_) (fun hc42=>?_)
    ·
     replace h:=bS h hc42
     refine aV ?_
     refine aM ⟨x41,(fun i=>i),⟨(.sames M M),(.cons (.blk M M M) .nil),cA [0] M (by decide),fun _ _=>M⟩,?_⟩
     exact h
    ·
     replace h:=bT h hc42
     obtain ⟨x43,hx43,h⟩:=aS h
     obtain ⟨x44,hx44,h⟩:=aS h
     refine bE (aA M (faR 2 M M M underlying28 M ti3 (lb M) M M)<|aA M (aG (d:=.int _ _) M M (lb M) underlying3 ag3 ti3 (by decide) (svR M) M (nle M) M)<|aA M (faR 0 M M M underlying28 M ti3 (lb M) M M)<|aA M (aG (d:=.int _ _) M M (lb M) underlying3 ag3 ti3 (by decide) (svR M) M (nle M) M)<|aA M (bN M M (lb M) (svI M) (svI M) M hx43)<|aA M (faR 1 M M M underlying28 M ti9 (lb M) M M)<|aA M (aG (d:=.str _) M M (lb M) underlying9 ag9 ti9 (by decide) (svR M) M (nle M) M)<|aA M (dF M M (lb M) underlying9 (sv (d:=.str _) M) M)<|aA M (aP M M (lb M) (svI M) (svI M) M hx44)<|aA M (asB M M M M)<|cB ?_)
     refine aM ⟨x44,(fun i=>i),⟨(.sames M M),(.cons (.blk M M M) .nil),cA [0] M (by decide),fun _ _=>M⟩,?_⟩
     exact h
 ·
  rintro v9 h
  unfold kD at h
  refine aR (b:=_) M (fun hc10=>?_) (fun hc10=>?_)
  ·
   replace h:=bS h hc10
   refine aC (aA M (aE M M (lb M) (sv (d:=.int _ 8) M))<|aB ?_)
   refine aT ?_
   refine bP ?_
   refine bA ?_
   obtain rfl:=sj_ h
   refine ⟨.inr M,(.cons (sv M) .nil)⟩
  ·
   replace h:=bT h hc10
   obtain ⟨x11,hx11,h⟩:=aS h
   refine aC (aA M (faR 1 M M M underlying28 M ti9 (lb M) M M)<|aA M (aG (d:=.str _) M M (lb M) underlying9 ag9 ti9 (by decide) (svR M) M (nle M) M)<|aA M (dF M M (lb M) underlying9 (sv (d:=.str _) M) M)<|aA M (aP M M (lb M) (svI M) (sv (d:=.int _ 4096) M) M hx11)<|aA M (asB M M M M)<|aB ?_)
   refine aR (b:=_) M (fun hc12=>?_) (fun hc12=>?_)
   ·
    replace h:=bS h hc12
    refine aC (aA M (aE M M (lb M) (sv (d:=.int _ 5) M))<|aB ?_)
    refine aT ?_
    refine bP ?_
    refine bA ?_
    obtain rfl:=sj_ h
    refine ⟨.inr M,(.cons (sv M) .nil)⟩
   ·
    replace h:=bT h hc12
    obtain ⟨x13,hx13,h⟩:=aZ h
    refine aC (aA M (lra q14 la28 M M M M M (nle M) M)<|aA M (aX (r:=.bool _) M M (lb M) cl69 (.cons (svA q14 M) .nil) M (vK _ _ hx13))<|aA M (dN M M (lb M) (svB M))<|aA M (asB M M M M)<|aB ?_)
    refine aR (b:=_) M (fun hc14=>?_) (fun hc14=>?_)
    ·
     replace h:=bS h hc14
     refine aC (aA M (aE M M (lb M) (sv (d:=.int _ 4) M))<|aB ?_)
     refine aT ?_
     refine bP ?_
     refine bA ?_
     obtain rfl:=sj_ h
     refine ⟨.inr M,(.cons (sv M) .nil)⟩
    ·
     replace h:=bT h hc14
     refine aV ?_
     refine bZ ?_
     refine aM ?_
     refine aC (aA M (faR 0 M M M underlying28 M ti3 (lb M) M M)<|aA M (aG (d:=.int _ _) M M (lb M) underlying3 ag3 ti3 (by decide) (svR M) M (nle M) M)<|aA M (asI M M M M)<|aB ?_)
     refine aW ?_
     refine aC (aA M (faR 3 M M M underlying28 M ti24 (lb M) M M)<|aA M (lrL la24 M M M M M (nle M) M)<|aA M (cN aD (l:=a0.Pieces) M M (lb M) underlying24 (svL M))<|aA M (aK M M (lb M) (sv (d:=.int _ 0) M))<|aB ?_)
     refine bG ?_
     refine dA (α:=Nat × Int × Int) (fun z=>⟨[(1,.ref 0 0),(3,.int .i64 z.2.1),(39,.slice false (a0.Pieces.map aD.d)),(40,.int .i64 (a0.Pieces.length:Int)),(41,.int .i64 z.2.2)],[(0,.blk 28 (v3 a0))]⟩) (fun z=>iR a0 z.1 z.2.1 z.2.2=some r) (fun z=>z.1) (fuel,a0.Base,0) (fun i=>i) ⟨(.sames M M),(.cons (.blk M M M) .nil),cA [0] M (by decide),fun _ _=>M⟩ ?_ ?_
     ·exact h
     ·
      rintro ⟨n1,v21,v22⟩ h
      cases n1 with
      | zero=>exact absurd h (by unfold iR; exact nofun)
      | succ n1 =>
       unfold iR at h
       obtain ⟨x29,hx29,h⟩:=aS h
       refine aC (aA M (aP M M (lb M) (svI M) (svI M) M hx29)<|aB ?_)
       refine aW ?_
       refine aR (b:=_) M (fun hc30=>?_) (fun hc30=>?_)
       ·
        replace h:=bS h hc30
        refine aV ?_
        refine aM ?_
        refine aW ?_
        refine bG ?_
        obtain ⟨x31,hx31,h⟩:=aZ h
        refine aC (aA M (dB aD (cs:=q19) M M (lb M) underlying24 ti52 (svL M) (svI M) hx31 M M)<|aA M (cX (cs:=q19) M M (lb M) underlying52 ag52 ti52 (by decide) (sv (d:=.fptr q19) M) (nle M) M)<|aA M (bI (cs:=q19) (cs':=(w44 0 0 0 false)) 1 M M (lb M) M ti52 M M (.all _))<|aA M (stA q19 q19 ti52 M M M M M M M M (nle M) M)<|aB ?_)
        refine aW ?_
        obtain ⟨x32,hx32,h⟩:=aZ h
        refine aC (aA M (lra q14 la28 M M M M M (nle M) M)<|aA M (lra q19 la52 M M M M M (nle M) M)<|aA M (mvI M M M M)<|aA M (aX (r:=.bool _) M M (lb M) cl70 (.cons (svA q14 M) (.cons (svA q19 M) (.cons (svI M) .nil))) M (vL _ _ _ _ hx32))<|aA M (dN M M (lb M) (svB M))<|aB ?_)
        refine aR (b:=_) M (fun hc33=>?_) (fun hc33=>?_)
        ·
         replace h:=bS h hc33
         refine aC (aA M (aE M M (lb M) (sv (d:=.int _ 10) M))<|aB ?_)
         refine aT ?_
         refine bA ?_
         refine bP ?_
         refine bA ?_
         refine bA ?_
         refine bP ?_
         refine bA ?_
         obtain rfl:=sj_ h
         refine ⟨.inr M,(.cons (sv M) .nil)⟩
        ·
         replace h:=bT h hc33
         refine aV ?_
         refine aM ?_
         refine bE (aA M (faR 1 M M M underlying52 M ti3 (lb M) M M)<|aA M (aG (d:=.int _ _) M M (lb M) underlying3 ag3 ti3 (by decide) (svR M) M (nle M) M)<|aA M (asI M M M M)<|cB ?_)
         refine bZ ?_
         refine aM ?_
         obtain ⟨x34,hx34,h⟩:=aS h
         refine bE (aA M (bN M M (lb M) (svI M) (sv (d:=.int _ 1) M) M hx34)<|aA M (mvI M M M M)<|cB ?_)
         refine aM ⟨(n1,x31.To,x34),(fun i=>i),⟨(.sames M M),(.cons (.blk M M M) .nil),cA [0] M (by decide),fun _ _=>M⟩,?_,?_⟩
         exact h
         exact Nat.lt_succ_self _
       ·
        replace h:=bT h hc30
        refine cQ ?_
        refine bJ ?_
        refine bJ ?_
        refine cR ?_
        refine aM ?_
        refine aW ?_
        obtain ⟨x35,hx35,h⟩:=aZ h
        refine aC (aA M (lra q14 la28 M M M M M (nle M) M)<|aA M (aX (r:=.bool _) M M (lb M) cl71 (.cons (svA q14 M) .nil) M (vM _ _ hx35))<|aA M (dN M M (lb M) (svB M))<|aB ?_)
        refine aR (b:=_) M (fun hc36=>?_) (fun hc36=>?_)
        ·
         replace h:=bS h hc36
         refine aC (aA M (aE M M (lb M) (sv (d:=.int _ 9) M))<|aB ?_)
         refine aT ?_
         refine bA ?_
         obtain rfl:=sj_ h
         refine ⟨.inr M,(.cons (sv M) .nil)⟩
        ·
         replace h:=bT h hc36
         refine aV ?_
         refine aM ?_
         refine aC (aA M (aE M M (lb M) (sv (d:=.int _ 0) M))<|aB ?_)
         refine aT ?_
         obtain rfl:=sj_ h
         refine ⟨.inr M,(.cons (sv M) .nil)⟩

theorem uB (a0:bM) (r:Int) (h:mY a0=some r):cJ prog 99 [.agg (v6 a0)] (.int .i64 r):=by
 refine bC (rs:=[.int .i64 r]) func99 M ntmps99 (nle M) M fun O hO=>?_
 show IWP _ _ _ _ ⟨[(0,.agg (v6 a0))],[]⟩ _
 unfold mY at h
 refine aC (aA M (bV (cs:=q21) 0 M M (lb M) M (svA q21 M) M M)<|aA M (aE M M (lb M) (sv (d:=.int _ 0) M))<|aB ?_)
 obtain ⟨x1,hx1,h⟩:=aS h
 obtain ⟨x2,hx2,h⟩:=aS h
 obtain ⟨x3,hx3,h⟩:=aS h
 refine aC (aA M (faR 0 M M M underlying31 M ti3 (lb M) M M)<|aA M (aG (d:=.int _ _) M M (lb M) underlying3 ag3 ti3 (by decide) (svR M) M (nle M) M)<|aA M (faR 1 M M M underlying31 M ti9 (lb M) M M)<|aA M (aG (d:=.str _) M M (lb M) underlying9 ag9 ti9 (by decide) (svR M) M (nle M) M)<|aA M (dF M M (lb M) underlying9 (sv (d:=.str _) M) M)<|aA M (bN M M (lb M) (svI M) (svI M) M hx1)<|aA M (bN M M (lb M) (svI M) (sv (d:=.int _ 4096) M) M hx2)<|aA M (nG M M (lb M) (svI M) (sv (d:=.int _ 1099511627776) M) hx3)<|aA M (asI M M M M)<|aB ?_)
 refine aT ?_
 obtain rfl:=sj_ h
 refine ⟨.inr M,(.cons (sv M) .nil)⟩

theorem iP (a0:aU) (r:Int) (h:fE a0=some r):cJ prog 102 [.agg [.int .i64 a0.At,.str a0.Data]] (.int .i64 r):=by
 refine bC (rs:=[.int .i64 r]) func102 M ntmps102 (nle M) M fun O hO=>?_
 show IWP _ _ _ _ ⟨[(0,.agg [.int .i64 a0.At,.str a0.Data])],[]⟩ _
 unfold fE at h
 refine aC (aA M (bV (cs:=q28) 0 M M (lb M) M (svA q28 M) M M)<|aA M (aE M M (lb M) (sv (d:=.int _ 0) M))<|aB ?_)
 obtain ⟨x1,hx1,h⟩:=aS h
 refine aC (aA M (faR 0 M M M underlying165 M ti3 (lb M) M M)<|aA M (aG (d:=.int _ _) M M (lb M) underlying3 ag3 ti3 (by decide) (svR M) M (nle M) M)<|aA M (faR 1 M M M underlying165 M ti9 (lb M) M M)<|aA M (aG (d:=.str _) M M (lb M) underlying9 ag9 ti9 (by decide) (svR M) M (nle M) M)<|aA M (dF M M (lb M) underlying9 (sv (d:=.str _) M) M)<|aA M (bN M M (lb M) (svI M) (svI M) M hx1)<|aA M (asI M M M M)<|aB ?_)
 refine aT ?_
 obtain rfl:=sj_ h
 refine ⟨.inr M,(.cons (sv M) .nil)⟩

theorem qM (a0:bM) (r:Int) (h:lU a0=some r):cJ prog 72 [.agg (v6 a0)] (.int .i64 r):=by
 refine bC (rs:=[.int .i64 r]) func72 M ntmps72 (nle M) M fun O hO=>?_
 show IWP _ _ _ _ ⟨[(0,.agg (v6 a0))],[]⟩ _
 unfold lU at h
 refine aC (aA M (bV (cs:=q21) 0 M M (lb M) M (svA q21 M) M M)<|aA M (aE M M (lb M) (sv (d:=.int _ 0) M))<|aB ?_)
 refine aW ?_
 obtain ⟨x1,hx1,h⟩:=aS h
 obtain ⟨x2,hx2,h⟩:=aS h
 obtain ⟨x3,hx3,h⟩:=aS h
 obtain ⟨x4,hx4,h⟩:=aS h
 obtain ⟨x5,hx5,h⟩:=aS h
 obtain ⟨x6,hx6,h⟩:=aS h
 refine aC (aA M (faR 0 M M M underlying31 M ti3 (lb M) M M)<|aA M (aG (d:=.int _ _) M M (lb M) underlying3 ag3 ti3 (by decide) (svR M) M (nle M) M)<|aA M (aP M M (lb M) (svI M) (sv (d:=.int _ 0) M) M hx1)<|aA M (mvB M M M M)<|aF M M (.one M) M (by decide) (fun hb=>(faR 0 M M M underlying31 M ti3 (lb M) M M))<|aF M M (.one M) M (by decide) (fun hb=>(aG (d:=.int _ _) M M (lb M) underlying3 ag3 ti3 (by decide) (svcR M hb) M (nle M) M))<|aF M M (.one M) M (by decide) (fun hb=>(aP M M (lb M) (svcI M hb) (sv (d:=.int _ 1099511627776) M) M hx2))<|aA M (dT M M (lb M) (svB M) M M hx3)<|aA M (mvB M M M M)<|aF M M (.one M) M (by decide) (fun hb=>(faR 1 M M M underlying31 M ti9 (lb M) M M))<|aF M M (.one M) M (by decide) (fun hb=>(aG (d:=.str _) M M (lb M) underlying9 ag9 ti9 (by decide) (svcR M hb) M (nle M) M))<|aF M M (.one M) M (by decide) (fun hb=>(dF M M (lb M) underlying9 (svc (d:=.str _) M hb) M))<|aF M M (.one M) M (by decide) (fun hb=>(faR 0 M M M underlying31 M ti3 (lb M) M M))<|aF M M (.one M) M (by decide) (fun hb=>(aG (d:=.int _ _) M M (lb M) underlying3 ag3 ti3 (by decide) (svcR M hb) M (nle M) M))<|aF M M (.one M) M (by decide) (fun hb=>(nG M M (lb M) (svcI M hb) (sv (d:=.int _ 4096) M) hx4))<|aF M M (.one M) M (by decide) (fun hb=>(aP M M (lb M) (svcI M hb) (svcI M hb) M hx5))<|aA M (dT M M (lb M) (svB M) M M hx6)<|aB ?_)
 refine aR (b:=_) M (fun hc7=>?_) (fun hc7=>?_)
 ·
  replace h:=bS h hc7
  refine aC (aA M (aE M M (lb M) (sv (d:=.int _ 8) M))<|aB ?_)
  refine aT ?_
  refine bA ?_
  obtain rfl:=sj_ h
  refine ⟨.inr M,(.cons (sv M) .nil)⟩
 ·
  replace h:=bT h hc7
  refine aV ?_
  refine aM ?_
  obtain ⟨x8,hx8,h⟩:=aZ h
  refine dH M [⟨[1],[],[(24,.ref 0 0)],[]⟩,
   ⟨[24],[0],[(25,.int .i64 a0.Base)],[]⟩,
   ⟨[1],[0],[(26,.agg (v6 a0))],[]⟩,
   ⟨[26],[],[(27,.int .i64 x8)],[]⟩,
   ⟨[25],[],[(3,.int .i64 a0.Base)],[]⟩,
   ⟨[27],[],[(4,.int .i64 x8)],[]⟩] M ?_ (by kernel_rfl) ?_
  ·refine .cons (lop M M fun S hA=>(aO M M (lb M) underlying31 M ti3 (by decide) (svaR hA M M) (off':=0) M)) ?_
   refine .cons (lop M M fun S hA=>(aG (d:=.int _ _) M M (lb M) underlying3 ag3 ti3 (by decide) (svaR hA M M) (agi hA M M) (nle M) M)) ?_
   refine .cons (lop M M fun S hA=>(bY (cs:=q21) M M (lb M) underlying31 ag31 ti31 (by decide) (svaR hA M M) (agi hA M M) (nle M) M)) ?_
   refine .cons (lop M M fun S hA=>(aX (r:=.int _ _) M M (lb M) cl99 (.cons (svaA q21 hA M M) .nil) M (uB _ _ hx8))) ?_
   refine .cons (lop M M fun S hA=>(aE M M (lb M) (svaI hA M M))) ?_
   refine .cons (lop M M fun S hA=>(aE M M (lb M) (svaI hA M M))) ?_
   exact .nil
  refine aW ?_
  refine aC (aA M (faR 2 M M M underlying31 M ti29 (lb M) M M)<|aA M (lrL la29 M M M M M (nle M) M)<|aA M (cN aN (l:=a0.Parts) M M (lb M) underlying29 (svL M))<|aA M (aK M M (lb M) (sv (d:=.int _ 0) M))<|aB ?_)
  refine bG ?_
  refine dA (α:=Nat × Int × Int) (fun z=>⟨[(3,.int .i64 z.2.1),(4,.int .i64 x8),(29,.slice false (a0.Parts.map aN.d)),(30,.int .i64 (a0.Parts.length:Int)),(31,.int .i64 z.2.2)],[]⟩) (fun z=>gV a0 x8 z.1 z.2.1 z.2.2=some r) (fun z=>z.1) (fuel,a0.Base,0) (fun i=>i) ⟨(.sames M M),.nil,cA [] M (by decide),fun _ _=>M⟩ ?_ ?_
  ·exact h
  ·
   rintro ⟨n0,v23,v24⟩ h
   cases n0 with
   | zero=>exact absurd h (by unfold gV; exact nofun)
   | succ n0 =>
    unfold gV at h
    obtain ⟨x39,hx39,h⟩:=aS h
    refine aC (aA M (aP M M (lb M) (svI M) (svI M) M hx39)<|aB ?_)
    refine aW ?_
    refine aR (b:=_) M (fun hc40=>?_) (fun hc40=>?_)
    ·
     replace h:=bS h hc40
     refine aV ?_
     refine aM ?_
     refine aW ?_
     refine bG ?_
     obtain ⟨x41,hx41,h⟩:=aZ h
     refine aC (aA M (dB aN (cs:=q28) M M (lb M) underlying29 gR (svL M) (svI M) hx41 M M)<|aA M (cX (cs:=q28) M M (lb M) underlying165 vC gR (by decide) (sv (d:=.fptr q28) M) (nle M) M)<|aA M (bI (cs:=q28) (cs':=[.int .i64 0,.str []]) 0 M M (lb M) M gR M M (.all _))<|aA M (stA q28 q28 gR M M M M M M M M (nle M) M)<|aB ?_)
     refine aW ?_
     obtain ⟨x42,hx42,h⟩:=aS h
     obtain ⟨x43,hx43,h⟩:=aS h
     obtain ⟨x44,hx44,h⟩:=aS h
     obtain ⟨x45,hx45,h⟩:=aS h
     obtain ⟨x46,hx46,h⟩:=aS h
     obtain ⟨x47,hx47,h⟩:=aS h
     obtain ⟨x48,hx48,h⟩:=aS h
     obtain ⟨x49,hx49,h⟩:=aS h
     refine aC (aA M (faR 0 M M M underlying165 M ti3 (lb M) M M)<|aA M (aG (d:=.int _ _) M M (lb M) underlying3 ag3 ti3 (by decide) (svR M) M (nle M) M)<|aA M (mvI M M M M)<|aA M (aP M M (lb M) (svI M) (svI M) M hx42)<|aA M (mvB M M M M)<|aF M M (.one M) M (by decide) (fun hb=>(faR 1 M M M underlying165 M ti9 (lb M) M M))<|aF M M (.one M) M (by decide) (fun hb=>(aG (d:=.str _) M M (lb M) underlying9 ag9 ti9 (by decide) (svcR M hb) M (nle M) M))<|aF M M (.one M) M (by decide) (fun hb=>(jC M M (lb M) (svc (d:=.str _) M hb) (sv (d:=.str []) M) M hx43))<|aA M (dT M M (lb M) (svB M) M M hx44)<|aA M (mvB M M M M)<|aF M M (.one M) M (by decide) (fun hb=>(faR 0 M M M underlying165 M ti3 (lb M) M M))<|aF M M (.one M) M (by decide) (fun hb=>(aG (d:=.int _ _) M M (lb M) underlying3 ag3 ti3 (by decide) (svcR M hb) M (nle M) M))<|aF M M (.one M) M (by decide) (fun hb=>(mvI M M M M))<|aF M M (.one M) M (by decide) (fun hb=>(aP M M (lb M) (svcI M hb) (svcI M hb) M hx45))<|aA M (dT M M (lb M) (svB M) M M hx46)<|aA M (mvB M M M M)<|aF M M (.one M) M (by decide) (fun hb=>(faR 1 M M M underlying165 M ti9 (lb M) M M))<|aF M M (.one M) M (by decide) (fun hb=>(aG (d:=.str _) M M (lb M) underlying9 ag9 ti9 (by decide) (svcR M hb) M (nle M) M))<|aF M M (.one M) M (by decide) (fun hb=>(dF M M (lb M) underlying9 (svc (d:=.str _) M hb) M))<|aF M M (.one M) M (by decide) (fun hb=>(mvI M M M M))<|aF M M (.one M) M (by decide) (fun hb=>(faR 0 M M M underlying165 M ti3 (lb M) M M))<|aF M M (.one M) M (by decide) (fun hb=>(aG (d:=.int _ _) M M (lb M) underlying3 ag3 ti3 (by decide) (svcR M hb) M (nle M) M))<|aF M M (.one M) M (by decide) (fun hb=>(bN M M (lb M) (svcI M hb) (svcI M hb) M hx47))<|aF M M (.one M) M (by decide) (fun hb=>(aP M M (lb M) (svcI M hb) (svcI M hb) M hx48))<|aA M (dT M M (lb M) (svB M) M M hx49)<|aB ?_)
     refine aR (b:=_) M (fun hc50=>?_) (fun hc50=>?_)
     ·
      replace h:=bS h hc50
      refine aC (aA M (aE M M (lb M) (sv (d:=.int _ 10) M))<|aB ?_)
      refine aT ?_
      refine bA ?_
      refine bP ?_
      refine bA ?_
      refine bA ?_
      refine bP ?_
      refine bA ?_
      obtain rfl:=sj_ h
      refine ⟨.inr M,(.cons (sv M) .nil)⟩
     ·
      replace h:=bT h hc50
      refine aV ?_
      refine aM ?_
      obtain ⟨x51,hx51,h⟩:=aZ h
      refine bE (aA M (lra q28 la165 M M M M M (nle M) M)<|aA M (aX (r:=.int _ _) M M (lb M) aC4 (.cons (svA q28 M) .nil) M (iP _ _ hx51))<|aA M (asI M M M M)<|cB ?_)
      refine bZ ?_
      refine aM ?_
      obtain ⟨x52,hx52,h⟩:=aS h
      refine bE (aA M (bN M M (lb M) (svI M) (sv (d:=.int _ 1) M) M hx52)<|aA M (mvI M M M M)<|cB ?_)
      refine aM ⟨(n0,x51,x52),(fun i=>i),⟨(.sames M M),.nil,cA [] M (by decide),fun _ _=>M⟩,?_,?_⟩
      exact h
      exact Nat.lt_succ_self _
    ·
     replace h:=bT h hc40
     refine cQ ?_
     refine bJ ?_
     refine bJ ?_
     refine cR ?_
     refine aM ?_
     refine aC (aA M (aE M M (lb M) (sv (d:=.int _ 0) M))<|aB ?_)
     refine aT ?_
     obtain rfl:=sj_ h
     refine ⟨.inr M,(.cons (sv M) .nil)⟩

theorem tI (a0:bX) (r:gE) (h:nL a0=some r):cJ prog 59 [.agg (v5 a0)] (.agg (v4 r)):=by
 refine bC (rs:=[.agg (v4 r)]) func59 M ntmps59 (nle M) M fun O hO=>?_
 show IWP _ _ _ _ ⟨[(0,.agg (v5 a0))],[]⟩ _
 unfold nL at h
 refine aC (aA M (bV (cs:=q18) 0 M M (lb M) M (svA q18 M) M M)<|aA M (bI (cs:=q20) (cs':=(w42 0 [] ([]:List aU) 0)) 1 M M (lb M) M aCd M M (.k (.k (.cons (.nils _) (.all _)))))<|aB ?_)
 refine aC (aA M (faR 0 M M M underlying33 M ti31 (lb M) M M)<|aA M (lra q21 la31 M M M M M (nle M) M)<|aA M (faR 3 M M M underlying33 M ti3 (lb M) M M)<|aA M (aG (d:=.int _ _) M M (lb M) underlying3 ag3 ti3 (by decide) (svR M) M (nle M) M)<|aA M (cF (cs:=q18) M M (lb M) underlying121 aCd pl121 M (.cons (svA q21 M) (.cons (svI M) .nil)) M)<|aA M (stA q18 q18 aCd M M M M M M M M (nle M) M)<|aB ?_)
 refine aT ?_
 obtain rfl:=sj_ h
 refine ⟨.inr M,(.cons (rva aE3 M M (nle M) M) .nil)⟩

theorem pA (a0:gE) (r:Int) (h:gQ a0=some r):cJ prog 97 [.agg (v4 a0)] (.int .i64 r):=by
 refine bC (rs:=[.int .i64 r]) func97 M ntmps97 (nle M) M fun O hO=>?_
 show IWP _ _ _ _ ⟨[(0,.agg (v4 a0))],[]⟩ _
 unfold gQ at h
 refine aC (aA M (bV (cs:=q18) 0 M M (lb M) M (svA q18 M) M M)<|aA M (aE M M (lb M) (sv (d:=.int _ 0) M))<|aB ?_)
 refine aW ?_
 refine aC (aA M (faR 0 M M M underlying121 M ti31 (lb M) M M)<|aA M (faR 2 M M M underlying31 M ti29 (lb M) M M)<|aA M (lrL la29 M M M M M (nle M) M)<|aA M (cN aN (l:=a0.State.Parts) M M (lb M) underlying29 (svL M))<|aA M (asI M M M M)<|aB ?_)
 obtain ⟨x1,hx1,h⟩:=aS h
 refine aC (aA M (mvI M M M M)<|aA M (aP M M (lb M) (svI M) (sv (d:=.int _ 0) M) M hx1)<|aB ?_)
 refine aR (b:=_) M (fun hc2=>?_) (fun hc2=>?_)
 ·
  replace h:=bS h hc2
  obtain ⟨x3,hx3,h⟩:=aS h
  obtain ⟨x4,hx4,h⟩:=aZ h
  obtain ⟨x5,hx5,h⟩:=aS h
  obtain ⟨x6,hx6,h⟩:=aZ h
  obtain ⟨x7,hx7,h⟩:=aS h
  refine dH M [⟨[1],[],[(10,.ref 0 0)],[]⟩,
   ⟨[10],[],[(11,.ref 0 2)],[]⟩,
   ⟨[11],[0],[(12,.slice false (a0.State.Parts.map aN.d))],[]⟩,
   ⟨[3],[],[(13,.int .i64 (a0.State.Parts.length:Int))],[]⟩,
   ⟨[13],[],[(14,.int .i64 x3)],[]⟩,
   ⟨[12,14],[],[(15,.fptr [.int .i64 x4.At,.str x4.Data])],[]⟩,
   ⟨[15],[],[(16,.fptr [.int .i64 x4.At])],[]⟩,
   ⟨[16],[],[(17,.int .i64 x4.At)],[]⟩,
   ⟨[1],[],[(18,.ref 0 0)],[]⟩,
   ⟨[18],[],[(19,.ref 0 2)],[]⟩,
   ⟨[19],[0],[(20,.slice false (a0.State.Parts.map aN.d))],[]⟩,
   ⟨[3],[],[(21,.int .i64 (a0.State.Parts.length:Int))],[]⟩,
   ⟨[21],[],[(22,.int .i64 x5)],[]⟩,
   ⟨[20,22],[],[(23,.fptr [.int .i64 x6.At,.str x6.Data])],[]⟩,
   ⟨[23],[],[(24,.fptr [.str x6.Data])],[]⟩,
   ⟨[24],[],[(25,.str x6.Data)],[]⟩,
   ⟨[25],[],[(26,.int .i64 (x6.Data.length:Int))],[]⟩,
   ⟨[17,26],[],[(27,.int .i64 x7)],[]⟩,
   ⟨[27],[],[(2,.int .i64 x7)],[]⟩] M ?_ (by kernel_rfl) ?_
  ·refine .cons (lop M M fun S hA=>(aO M M (lb M) underlying121 M ti31 (by decide) (svaR hA M M) (off':=0) M)) ?_
   refine .cons (lop M M fun S hA=>(aO M M (lb M) underlying31 M ti29 (by decide) (svaR hA M M) (off':=2) M)) ?_
   refine .cons (lop M M fun S hA=>(aG (d:=.slice _ _) M M (lb M) underlying29 ag29 ti29 (by decide) (svaR hA M M) (agi hA M M) (nle M) M)) ?_
   refine .cons (lop M M fun S hA=>(aK M M (lb M) (svaI hA M M))) ?_
   refine .cons (lop M M fun S hA=>(bN M M (lb M) (svaI hA M M) (sv (d:=.int _ 1) M) M hx3)) ?_
   refine .cons (lop M M fun S hA=>(dB aN (cs:=q28) M M (lb M) underlying29 gR (svaL hA M M) (svaI hA M M) hx4 M M)) ?_
   refine .cons (lop M M fun S hA=>(cV (cs':=[.int _ _]) M M (lb M) underlying165 M ti3 (by decide) (sv (d:=.fptr q28) (agr hA M M)) M)) ?_
   refine .cons (lop M M fun S hA=>(eB M M (lb M) underlying3 ag3 ti3 (by decide) (sv (d:=.fptr [.int _ _]) (agr hA M M)) (nle M))) ?_
   refine .cons (lop M M fun S hA=>(aO M M (lb M) underlying121 M ti31 (by decide) (svaR hA M M) (off':=0) M)) ?_
   refine .cons (lop M M fun S hA=>(aO M M (lb M) underlying31 M ti29 (by decide) (svaR hA M M) (off':=2) M)) ?_
   refine .cons (lop M M fun S hA=>(aG (d:=.slice _ _) M M (lb M) underlying29 ag29 ti29 (by decide) (svaR hA M M) (agi hA M M) (nle M) M)) ?_
   refine .cons (lop M M fun S hA=>(aK M M (lb M) (svaI hA M M))) ?_
   refine .cons (lop M M fun S hA=>(bN M M (lb M) (svaI hA M M) (sv (d:=.int _ 1) M) M hx5)) ?_
   refine .cons (lop M M fun S hA=>(dB aN (cs:=q28) M M (lb M) underlying29 gR (svaL hA M M) (svaI hA M M) hx6 M M)) ?_
   refine .cons (lop M M fun S hA=>(cV (cs':=[.str _]) M M (lb M) underlying165 M ti9 (by decide) (sv (d:=.fptr q28) (agr hA M M)) M)) ?_
   refine .cons (lop M M fun S hA=>(eB M M (lb M) underlying9 ag9 ti9 (by decide) (sv (d:=.fptr [.str _]) (agr hA M M)) (nle M))) ?_
   refine .cons (lop M M fun S hA=>(dF M M (lb M) underlying9 (sv (d:=.str _) (agr hA M M)) M)) ?_
   refine .cons (lop M M fun S hA=>(bN M M (lb M) (svaI hA M M) (svaI hA M M) M hx7)) ?_
   refine .cons (lop M M fun S hA=>(aE M M (lb M) (svaI hA M M))) ?_
   exact .nil
  refine aT ?_
  refine bA ?_
  obtain rfl:=sj_ h
  refine ⟨.inr M,(.cons (sv M) .nil)⟩
 ·
  replace h:=bT h hc2
  refine aV ?_
  refine aM ?_
  refine aC (aA M (faR 0 M M M underlying121 M ti31 (lb M) M M)<|aA M (faR 0 M M M underlying31 M ti3 (lb M) M M)<|aA M (aG (d:=.int _ _) M M (lb M) underlying3 ag3 ti3 (by decide) (svR M) M (nle M) M)<|aA M (asI M M M M)<|aB ?_)
  refine aT ?_
  obtain rfl:=sj_ h
  refine ⟨.inr M,(.cons (sv M) .nil)⟩

theorem aBt (a0:bX) (r:Int) (h:tW a0=some r):cJ prog 73 [.agg (v5 a0)] (.int .i64 r):=by
 refine bC (rs:=[.int .i64 r]) func73 M ntmps73 (nle M) M fun O hO=>?_
 show IWP _ _ _ _ ⟨[(0,.agg (v5 a0))],[]⟩ _
 unfold tW at h
 refine aC (aA M (bV (cs:=q18) 0 M M (lb M) M (svA q18 M) M M)<|aA M (aE M M (lb M) (sv (d:=.int _ 0) M))<|aB ?_)
 obtain ⟨x1,hx1,h⟩:=aZ h
 obtain ⟨x2,hx2,h⟩:=aZ h
 refine aC (aA M (lra q18 la33 M M M M M (nle M) M)<|aA M (aX (r:=.agg q18) M M (lb M) cl59 (.cons (svA q18 M) .nil) M (tI _ _ hx1))<|aA M (aX (r:=.int _ _) M M (lb M) cl97 (.cons (svA q18 M) .nil) M (pA _ _ hx2))<|aA M (asI M M M M)<|aB ?_)
 refine aT ?_
 obtain rfl:=sj_ h
 refine ⟨.inr M,(.cons (sv M) .nil)⟩

theorem rN (a0:bX) (r:Int) (h:mB a0=some r):cJ prog 40 [.agg (v5 a0)] (.int .i64 r):=by
 refine bC (rs:=[.int .i64 r]) func40 M ntmps40 (nle M) M fun O hO=>?_
 show IWP _ _ _ _ ⟨[(0,.agg (v5 a0))],[]⟩ _
 unfold mB at h
 refine aC (aA M (bV (cs:=q18) 0 M M (lb M) M (svA q18 M) M M)<|aA M (aE M M (lb M) (sv (d:=.int _ 0) M))<|aB ?_)
 refine aW ?_
 obtain ⟨x1,hx1,h⟩:=aZ h
 refine aC (aA M (faR 0 M M M underlying33 M ti31 (lb M) M M)<|aA M (lra q21 la31 M M M M M (nle M) M)<|aA M (aX (r:=.int _ _) M M (lb M) cl72 (.cons (svA q21 M) .nil) M (qM _ _ hx1))<|aA M (asI M M M M)<|aB ?_)
 obtain ⟨x2,hx2,h⟩:=aS h
 refine aC (aA M (mvI M M M M)<|aA M (aP M M (lb M) (svI M) (sv (d:=.int _ 0) M) M hx2)<|aB ?_)
 refine aR (b:=_) M (fun hc3=>?_) (fun hc3=>?_)
 ·
  replace h:=bS h hc3
  refine aC (aA M (mvI M M M M)<|aA M (asI M M M M)<|aB ?_)
  refine aT ?_
  refine bA ?_
  obtain rfl:=sj_ h
  refine ⟨.inr M,(.cons (sv M) .nil)⟩
 ·
  replace h:=bT h hc3
  refine aV ?_
  refine aM ?_
  refine aW ?_
  obtain ⟨x4,hx4,h⟩:=aS h
  obtain ⟨x5,hx5,h⟩:=aZ h
  obtain ⟨x6,hx6,h⟩:=aS h
  obtain ⟨x7,hx7,h⟩:=aS h
  obtain ⟨x8,hx8,h⟩:=aS h
  obtain ⟨x9,hx9,h⟩:=aS h
  refine dH M [⟨[1],[],[(10,.ref 0 3)],[]⟩,
   ⟨[10],[0],[(11,.int .i64 a0.End)],[]⟩,
   ⟨[11],[],[(12,.bool x4)],[]⟩,
   ⟨[12],[],[(13,.bool x4)],[]⟩,
   ⟨[1,13],[],[(14,.cnd (x4 == true) (.ref 0 3))],[]⟩,
   ⟨[13,14],[0],[(15,.cnd (x4 == true) (.int .i64 a0.End))],[]⟩,
   ⟨[1,13],[0],[(16,.cnd (x4 == true) (.agg (v5 a0)))],[]⟩,
   ⟨[13,16],[],[(17,.cnd (x4 == true) (.int .i64 x5))],[]⟩,
   ⟨[13,15,17],[],[(18,.cnd (x4 == true) (.bool x6))],[]⟩,
   ⟨[13,18],[],[(19,.cnd (x4 == true) (.bool x6))],[]⟩,
   ⟨[1,19],[],[(20,.cnd (((x4 == true) && (x6 == false))) (.ref 0 3))],[]⟩,
   ⟨[19,20],[0],[(21,.cnd (((x4 == true) && (x6 == false))) (.int .i64 a0.End))],[]⟩,
   ⟨[19,21],[],[(22,.cnd (((x4 == true) && (x6 == false))) (.bool x7))],[]⟩,
   ⟨[13,19,22],[],[(23,.cnd (x4 == true) (.bool x8))],[]⟩,
   ⟨[13,23],[],[(24,.bool x9)],[]⟩] M ?_ (by kernel_rfl) ?_
  ·refine .cons (lop M M fun S hA=>(aO M M (lb M) underlying33 M ti3 (by decide) (svaR hA M M) (off':=3) M)) ?_
   refine .cons (lop M M fun S hA=>(aG (d:=.int _ _) M M (lb M) underlying3 ag3 ti3 (by decide) (svaR hA M M) (agi hA M M) (nle M) M)) ?_
   refine .cons (lop M M fun S hA=>(aP M M (lb M) (svaI hA M M) (sv (d:=.int _ (-1)) M) M hx4)) ?_
   refine .cons (lop M M fun S hA=>(aK M M (lb M) (svaB hA M M))) ?_
   refine .cons (lopg M M M M (by decide) (fun S hA=>grd1 hA M M) (fun S hA hb=>(aO M M (lb M) underlying33 M ti3 (by decide) (svaR hA M M) (off':=3) M))) ?_
   refine .cons (lopg M M M M (by decide) (fun S hA=>grd1 hA M M) (fun S hA hb=>(aG (d:=.int _ _) M M (lb M) underlying3 ag3 ti3 (by decide) (svc (d:=.ref _ _) (agr hA M M) hb) (agi hA M M) (nle M) M))) ?_
   refine .cons (lopg M M M M (by decide) (fun S hA=>grd1 hA M M) (fun S hA hb=>(bY (cs:=q18) M M (lb M) underlying33 ag33 ti33 (by decide) (svaR hA M M) (agi hA M M) (nle M) M))) ?_
   refine .cons (lopg M M M M (by decide) (fun S hA=>grd1 hA M M) (fun S hA hb=>(aX (r:=.int _ _) M M (lb M) cl73 (.cons (svc (d:=.agg (v5 a0)) (agr hA M M) hb) .nil) M (aBt _ _ (gd_t hx5 hb))))) ?_
   refine .cons (lopg M M M M (by decide) (fun S hA=>grd1 hA M M) (fun S hA hb=>(aP M M (lb M) (svc (d:=.int _ _) (agr hA M M) hb) (svc (d:=.int _ _) (agr hA M M) hb) M hx6))) ?_
   refine .cons (lopg M M M M (by decide) (fun S hA=>grd1 hA M M) (fun S hA hb=>(aK M M (lb M) (svc (d:=.bool _) (agr hA M M) hb)))) ?_
   refine .cons (lopg M M M M (by decide) (fun S hA=>grd2 hA M M) (fun S hA hb=>(aO M M (lb M) underlying33 M ti3 (by decide) (svaR hA M M) (off':=3) M))) ?_
   refine .cons (lopg M M M M (by decide) (fun S hA=>grd2 hA M M) (fun S hA hb=>(aG (d:=.int _ _) M M (lb M) underlying3 ag3 ti3 (by decide) (svc (d:=.ref _ _) (agr hA M M) hb) (agi hA M M) (nle M) M))) ?_
   refine .cons (lopg M M M M (by decide) (fun S hA=>grd2 hA M M) (fun S hA hb=>(aP M M (lb M) (svc (d:=.int _ _) (agr hA M M) hb) (sv (d:=.int _ 1099511627776) M) M hx7))) ?_
   refine .cons (lopg M M M M (by decide) (fun S hA=>grd1 hA M M) (fun S hA hb=>(aCK M M (lb M) hb (svc (d:=.bool _) (agr hA M M) hb) M (agr hA M M) hx8))) ?_
   refine .cons (lop M M fun S hA=>(cC M M (lb M) (svaB hA M M) (agr hA M M) M hx9)) ?_
   exact .nil
  refine aR (b:=_) M (fun hc10=>?_) (fun hc10=>?_)
  ·
   replace h:=bS h hc10
   refine aC (aA M (aE M M (lb M) (sv (d:=.int _ 8) M))<|aB ?_)
   refine aT ?_
   refine bA ?_
   obtain rfl:=sj_ h
   refine ⟨.inr M,(.cons (sv M) .nil)⟩
  ·
   replace h:=bT h hc10
   refine aV ?_
   refine aM ?_
   refine aC (aA M (aE M M (lb M) (sv (d:=.int _ 0) M))<|aB ?_)
   refine aT ?_
   obtain rfl:=sj_ h
   refine ⟨.inr M,(.cons (sv M) .nil)⟩

theorem uC (a0:Int) (r:Bool) (h:oS a0=some r):cJ prog 78 [.int .u8 a0] (.bool r):=by
 refine bC (rs:=[.bool r]) func78 M ntmps78 (nle M) M fun O hO=>?_
 show IWP _ _ _ _ ⟨[(0,.int .u8 a0)],[]⟩ _
 unfold oS at h
 refine aC (aA M (aE M M (lb M) (sv (d:=.bool false) M))<|aB ?_)
 obtain ⟨x1,hx1,h⟩:=aS h
 obtain ⟨x2,hx2,h⟩:=aS h
 obtain ⟨x3,hx3,h⟩:=aS h
 refine aC (aA M (mvI M M M M)<|aA M (aP M M (lb M) (svI M) (sv (d:=.int _ 10) M) M hx1)<|aA M (mvB M M M M)<|aF M M (.one M) M (by decide) (fun hb=>(mvI M M M M))<|aF M M (.one M) M (by decide) (fun hb=>(aP M M (lb M) (svcI M hb) (sv (d:=.int _ 5) M) M hx2))<|aA M (cC M M (lb M) (svB M) M M hx3)<|aA M (asB M M M M)<|aB ?_)
 refine aT ?_
 obtain rfl:=sj_ h
 refine ⟨.inr M,(.cons (sv M) .nil)⟩

theorem vN (a0:Int) (r:Int) (h:lB a0=some r):cJ prog 128 [.int .u64 a0] (.int .i64 r):=by
 refine bC (rs:=[.int .i64 r]) func128 M ntmps128 (nle M) M fun O hO=>?_
 show IWP _ _ _ _ ⟨[(0,.int .u64 a0)],[]⟩ _
 unfold lB at h
 refine aC (aA M (aE M M (lb M) (sv (d:=.int _ 0) M))<|aB ?_)
 refine gP (α:=Int × Int) (fun z=>⟨[(0,.int .u64 z.1),(2,.int .i64 z.2)],[]⟩) (fun z=>gO z.1 z.2=some r) ?_ ?_
 ·
  obtain ⟨x30,hx30,h⟩:=aS h
  refine aC (aA M (mvI M M M M)<|aA M (aP M M (lb M) (svI M) (sv (d:=.int _ 4294967296) M) M hx30)<|aB ?_)
  refine aR (b:=_) M (fun hc31=>?_) (fun hc31=>?_)
  ·
   replace h:=bS h hc31
   obtain ⟨x32,hx32,h⟩:=aZ h
   refine aC (aA M (mvI M M M M)<|aA M (qQ M M (lb M) (svI M) (sv (d:=.int _ 32) M) hx32)<|aA M (asI M M M M)<|aB ?_)
   refine bE (aA M (aE M M (lb M) (sv (d:=.int _ 32) M))<|cB ?_)
   refine aM ⟨(x32,32),(fun i=>i),⟨(.sames M M),.nil,cA [] M (by decide),fun _ _=>M⟩,?_⟩
   exact h
  ·
   replace h:=bT h hc31
   refine aV ?_
   refine aM ⟨(a0,0),(fun i=>i),⟨(.sames M M),.nil,cA [] M (by decide),fun _ _=>M⟩,?_⟩
   exact h
 ·
  rintro ⟨v4,v5⟩ h
  unfold gO at h
  refine gP (α:=Int × Int) (fun z=>⟨[(0,.int .u64 z.1),(2,.int .i64 z.2)],[]⟩) (fun z=>gN z.1 z.2=some r) ?_ ?_
  ·
   obtain ⟨x26,hx26,h⟩:=aS h
   refine aC (aA M (mvI M M M M)<|aA M (aP M M (lb M) (svI M) (sv (d:=.int _ 65536) M) M hx26)<|aB ?_)
   refine aR (b:=_) M (fun hc27=>?_) (fun hc27=>?_)
   ·
    replace h:=bS h hc27
    obtain ⟨x28,hx28,h⟩:=aZ h
    refine aC (aA M (mvI M M M M)<|aA M (qQ M M (lb M) (svI M) (sv (d:=.int _ 16) M) hx28)<|aA M (asI M M M M)<|aB ?_)
    obtain ⟨x29,hx29,h⟩:=aS h
    refine bE (aA M (mvI M M M M)<|aA M (bN M M (lb M) (svI M) (sv (d:=.int _ 16) M) M hx29)<|aA M (asI M M M M)<|cB ?_)
    refine aM ⟨(x28,x29),(fun i=>i),⟨(.sames M M),.nil,cA [] M (by decide),fun _ _=>M⟩,?_⟩
    exact h
   ·
    replace h:=bT h hc27
    refine aV ?_
    refine aM ⟨(v4,v5),(fun i=>i),⟨(.sames M M),.nil,cA [] M (by decide),fun _ _=>M⟩,?_⟩
    exact h
  ·
   rintro ⟨v10,v11⟩ h
   unfold gN at h
   refine gP (α:=Int × Int) (fun z=>⟨[(0,.int .u64 z.1),(2,.int .i64 z.2)],[]⟩) (fun z=>gM z.1 z.2=some r) ?_ ?_
   ·
    obtain ⟨x22,hx22,h⟩:=aS h
    refine aC (aA M (mvI M M M M)<|aA M (aP M M (lb M) (svI M) (sv (d:=.int _ 256) M) M hx22)<|aB ?_)
    refine aR (b:=_) M (fun hc23=>?_) (fun hc23=>?_)
    ·
     replace h:=bS h hc23
     obtain ⟨x24,hx24,h⟩:=aZ h
     refine aC (aA M (mvI M M M M)<|aA M (qQ M M (lb M) (svI M) (sv (d:=.int _ 8) M) hx24)<|aA M (asI M M M M)<|aB ?_)
     obtain ⟨x25,hx25,h⟩:=aS h
     refine bE (aA M (mvI M M M M)<|aA M (bN M M (lb M) (svI M) (sv (d:=.int _ 8) M) M hx25)<|aA M (asI M M M M)<|cB ?_)
     refine aM ⟨(x24,x25),(fun i=>i),⟨(.sames M M),.nil,cA [] M (by decide),fun _ _=>M⟩,?_⟩
     exact h
    ·
     replace h:=bT h hc23
     refine aV ?_
     refine aM ⟨(v10,v11),(fun i=>i),⟨(.sames M M),.nil,cA [] M (by decide),fun _ _=>M⟩,?_⟩
     exact h
   ·
    rintro ⟨v16,v17⟩ h
    unfold gM at h
    obtain ⟨x18,hx18,h⟩:=aS h
    obtain ⟨x19,hx19,h⟩:=aZ h
    obtain ⟨x20,hx20,h⟩:=aS h
    obtain ⟨x21,hx21,h⟩:=aS h
    refine aC (aA M (mvI M M M M)<|aA M (mvI M M M M)<|aA M (fB M M (lb M) ⟨_,underlying192⟩ underlying5 (svI M) hx18)<|aA M (nB M M (lb M) underlying9 (sv (d:=.str [0,1,2,2,3,3,3,3,4,4,4,4,4,4,4,4,5,5,5,5,5,5,5,5,5,5,5,5,5,5,5,5,6,6,6,6,6,6,6,6,6,6,6,6,6,6,6,6,6,6,6,6,6,6,6,6,6,6,6,6,6,6,6,6,7,7,7,7,7,7,7,7,7,7,7,7,7,7,7,7,7,7,7,7,7,7,7,7,7,7,7,7,7,7,7,7,7,7,7,7,7,7,7,7,7,7,7,7,7,7,7,7,7,7,7,7,7,7,7,7,7,7,7,7,7,7,7,7,8,8,8,8,8,8,8,8,8,8,8,8,8,8,8,8,8,8,8,8,8,8,8,8,8,8,8,8,8,8,8,8,8,8,8,8,8,8,8,8,8,8,8,8,8,8,8,8,8,8,8,8,8,8,8,8,8,8,8,8,8,8,8,8,8,8,8,8,8,8,8,8,8,8,8,8,8,8,8,8,8,8,8,8,8,8,8,8,8,8,8,8,8,8,8,8,8,8,8,8,8,8,8,8,8,8,8,8,8,8,8,8,8,8,8,8,8,8,8,8,8,8,8,8,8,8,8,8]) M) (svI M) hx19)<|aA M (fB M M (lb M) ⟨_,underlying5⟩ underlying3 (svI M) hx20)<|aA M (bN M M (lb M) (svI M) (svI M) M hx21)<|aA M (asI M M M M)<|aB ?_)
    refine aT ?_
    obtain rfl:=sj_ h
    refine ⟨.inr M,(.cons (sv M) .nil)⟩

theorem xO (a0:Int) (r:Int) (h:mL a0=some r):cJ prog 118 [.int .u64 a0] (.int .i64 r):=by
 refine bC (rs:=[.int .i64 r]) func118 M ntmps118 (nle M) M fun O hO=>?_
 show IWP _ _ _ _ ⟨[(0,.int .u64 a0)],[]⟩ _
 unfold mL at h
 refine aC (aA M (aE M M (lb M) (sv (d:=.int _ 0) M))<|aB ?_)
 refine aW ?_
 refine aCt M M ?_
 refine aV ?_
 refine aM ?_
 obtain ⟨x1,hx1,h⟩:=aZ h
 refine aC (aA M (mvI M M M M)<|aA M (aX (r:=.int _ _) M M (lb M) cl128 (.cons (svI M) .nil) M (vN _ _ hx1))<|aA M (asI M M M M)<|aB ?_)
 refine aT ?_
 obtain rfl:=sj_ h
 refine ⟨.inr M,(.cons (sv M) .nil)⟩

theorem tX (a0:Int) (r:Int) (h:mU a0=some r):cJ prog 84 [.int .i64 a0] (.int .i64 r):=by
 refine bC (rs:=[.int .i64 r]) func84 M ntmps84 (nle M) M fun O hO=>?_
 show IWP _ _ _ _ ⟨[(0,.int .i64 a0)],[]⟩ _
 unfold mU at h
 refine aC (aA M (aE M M (lb M) (sv (d:=.int _ 0) M))<|aB ?_)
 refine aW ?_
 obtain ⟨x1,hx1,h⟩:=aS h
 obtain ⟨x2,hx2,h⟩:=aS h
 obtain ⟨x3,hx3,h⟩:=aS h
 refine aC (aA M (mvI M M M M)<|aA M (aP M M (lb M) (svI M) (sv (d:=.int _ 0) M) M hx1)<|aA M (mvB M M M M)<|aF M M (.one M) M (by decide) (fun hb=>(mvI M M M M))<|aF M M (.one M) M (by decide) (fun hb=>(aP M M (lb M) (svcI M hb) (sv (d:=.int _ 4611686018427387903) M) M hx2))<|aA M (dT M M (lb M) (svB M) M M hx3)<|aB ?_)
 refine aR (b:=_) M (fun hc4=>?_) (fun hc4=>?_)
 ·
  replace h:=bS h hc4
  refine aC (aA M (aE M M (lb M) (sv (d:=.int _ (-1)) M))<|aB ?_)
  refine aT ?_
  refine bA ?_
  obtain rfl:=sj_ h
  refine ⟨.inr M,(.cons (sv M) .nil)⟩
 ·
  replace h:=bT h hc4
  refine aV ?_
  refine aM ?_
  refine aW ?_
  refine aC (aA M (aK M M (lb M) (sv (d:=.int _ 0) M))<|aB ?_)
  refine bG ?_
  refine dA (α:=Nat × Int) (fun z=>⟨[(0,.int .i64 a0),(10,.int .i64 z.2)],[]⟩) (fun z=>jG a0 z.1 z.2=some r) (fun z=>z.1) (fuel,0) (fun i=>i) ⟨(.sames M M),.nil,cA [] M (by decide),fun _ _=>M⟩ ?_ ?_
  ·exact h
  ·
   rintro ⟨n0,v14⟩ h
   cases n0 with
   | zero=>exact absurd h (by unfold jG; exact nofun)
   | succ n0 =>
    unfold jG at h
    obtain ⟨x24,hx24,h⟩:=aS h
    refine aC (aA M (aP M M (lb M) (svI M) (sv (d:=.int _ 4) M) M hx24)<|aB ?_)
    refine aW ?_
    refine aR (b:=_) M (fun hc25=>?_) (fun hc25=>?_)
    ·
     replace h:=bS h hc25
     refine aV ?_
     refine aM ?_
     refine aW ?_
     refine bG ?_
     refine aC (aA M (mvI M M M M)<|aA M (asI M M M M)<|aB ?_)
     obtain ⟨x26,hx26,h⟩:=aS h
     obtain ⟨x27,hx27,h⟩:=aZ h
     obtain ⟨x28,hx28,h⟩:=aZ h
     obtain ⟨x29,hx29,h⟩:=aS h
     obtain ⟨x30,hx30,h⟩:=aS h
     refine dH M [⟨[0],[],[(13,.int .i64 a0)],[]⟩,
      ⟨[13],[],[(14,.int .u64 x26)],[]⟩,
      ⟨[14],[],[(15,.int .i64 x27)],[]⟩,
      ⟨[3],[],[(16,.int .i64 v14)],[]⟩,
      ⟨[16],[],[(17,.int .i64 x28)],[]⟩,
      ⟨[17],[],[(18,.int .i64 x29)],[]⟩,
      ⟨[15,18],[],[(19,.bool x30)],[]⟩] M ?_ (by kernel_rfl) ?_
     ·refine .cons (lop M M fun S hA=>(aK M M (lb M) (svaI hA M M))) ?_
      refine .cons (lop M M fun S hA=>(fB M M (lb M) ⟨_,underlying3⟩ underlying153 (svaI hA M M) hx26)) ?_
      refine .cons (lop M M fun S hA=>(aX (r:=.int _ _) M M (lb M) cl118 (.cons (svaI hA M M) .nil) M (xO _ _ hx27))) ?_
      refine .cons (lop M M fun S hA=>(aK M M (lb M) (svaI hA M M))) ?_
      refine .cons (lop M M fun S hA=>(uN M M (lb M) (sv (d:=.int _ 8) M) (svaI hA M M) hx28)) ?_
      refine .cons (lop M M fun S hA=>(bN M M (lb M) (svaI hA M M) (sv (d:=.int _ 2) M) M hx29)) ?_
      refine .cons (lop M M fun S hA=>(aP M M (lb M) (svaI hA M M) (svaI hA M M) M hx30)) ?_
      exact .nil
     refine aR (b:=_) M (fun hc31=>?_) (fun hc31=>?_)
     ·
      replace h:=bS h hc31
      refine aC (aA M (mvI M M M M)<|aA M (asI M M M M)<|aB ?_)
      refine aT ?_
      refine bP ?_
      refine bA ?_
      refine bA ?_
      refine bP ?_
      refine bA ?_
      obtain rfl:=sj_ h
      refine ⟨.inr M,(.cons (sv M) .nil)⟩
     ·
      replace h:=bT h hc31
      refine aV ?_
      refine bZ ?_
      refine aM ?_
      obtain ⟨x32,hx32,h⟩:=aS h
      refine bE (aA M (bN M M (lb M) (svI M) (sv (d:=.int _ 1) M) M hx32)<|aA M (mvI M M M M)<|cB ?_)
      refine aM ⟨(n0,x32),(fun i=>i),⟨(.sames M M),.nil,cA [] M (by decide),fun _ _=>M⟩,?_,?_⟩
      exact h
      exact Nat.lt_succ_self _
    ·
     replace h:=bT h hc25
     refine cQ ?_
     refine bJ ?_
     refine bJ ?_
     refine cR ?_
     refine aM ?_
     refine aC (aA M (aE M M (lb M) (sv (d:=.int _ (-1)) M))<|aB ?_)
     refine aT ?_
     obtain rfl:=sj_ h
     refine ⟨.inr M,(.cons (sv M) .nil)⟩

theorem rL (a0:(List UInt8)) (r:(Int × Int × Int)) (h:mW a0=some r):cJ prog 124 [.str a0] (retD [.int .i64 r.1,.int .i64 r.2.1,.int .i64 r.2.2]):=by
 refine bC (rs:=[.int .i64 r.1,.int .i64 r.2.1,.int .i64 r.2.2]) func124 M ntmps124 (nle M) M fun O hO=>?_
 show IWP _ _ _ _ ⟨[(0,.str a0)],[]⟩ _
 unfold mW at h
 refine aC (aA M (aE M M (lb M) (sv (d:=.int _ 0) M))<|aA M (aE M M (lb M) (sv (d:=.int _ 0) M))<|aA M (aE M M (lb M) (sv (d:=.int _ 0) M))<|aB ?_)
 refine aW ?_
 obtain ⟨x1,hx1,h⟩:=aS h
 refine aC (aA M (aK M M (lb M) (sv (d:=.str _) M))<|aA M (jC M M (lb M) (sv (d:=.str _) M) (sv (d:=.str []) M) M hx1)<|aB ?_)
 refine aR (b:=_) M (fun hc2=>?_) (fun hc2=>?_)
 ·
  replace h:=bS h hc2
  refine aC (aA M (aE M M (lb M) (sv (d:=.int _ 0) M))<|aA M (aE M M (lb M) (sv (d:=.int _ 0) M))<|aA M (aE M M (lb M) (sv (d:=.int _ 3) M))<|aB ?_)
  refine aT ?_
  refine bA ?_
  obtain rfl:=sj_ h
  refine ⟨.inr M,(.cons (sv M) (.cons (sv M) (.cons (sv M) .nil)))⟩
 ·
  replace h:=bT h hc2
  refine aV ?_
  refine aM ?_
  obtain ⟨x3,hx3,h⟩:=aZ h
  obtain ⟨x4,hx4,h⟩:=aZ h
  obtain ⟨x5,hx5,h⟩:=aS h
  refine aC (aA M (aK M M (lb M) (sv (d:=.str _) M))<|aA M (nB M M (lb M) underlying9 (sv (d:=.str _) M) (sv (d:=.int _ 0) M) hx3)<|aA M (qQ M M (lb M) (svI M) (sv (d:=.int _ 6) M) hx4)<|aA M (fB M M (lb M) ⟨_,underlying5⟩ underlying3 (svI M) hx5)<|aA M (asI M M M M)<|aB ?_)
  obtain ⟨x6,hx6,h⟩:=aZ h
  refine aC (aA M (mvI M M M M)<|aA M (uN M M (lb M) (sv (d:=.int _ 1) M) (svI M) hx6)<|aA M (asI M M M M)<|aB ?_)
  refine aW ?_
  obtain ⟨x7,hx7,h⟩:=aS h
  refine aC (aA M (aK M M (lb M) (sv (d:=.str _) M))<|aA M (dF M M (lb M) underlying9 (sv (d:=.str _) M) M)<|aA M (mvI M M M M)<|aA M (aP M M (lb M) (svI M) (svI M) M hx7)<|aB ?_)
  refine aR (b:=_) M (fun hc8=>?_) (fun hc8=>?_)
  ·
   replace h:=bS h hc8
   refine aC (aA M (aE M M (lb M) (sv (d:=.int _ 0) M))<|aA M (aE M M (lb M) (sv (d:=.int _ 0) M))<|aA M (aE M M (lb M) (sv (d:=.int _ 3) M))<|aB ?_)
   refine aT ?_
   refine bA ?_
   obtain rfl:=sj_ h
   refine ⟨.inr M,(.cons (sv M) (.cons (sv M) (.cons (sv M) .nil)))⟩
  ·
   replace h:=bT h hc8
   refine aV ?_
   refine aM ?_
   obtain ⟨x9,hx9,h⟩:=aZ h
   obtain ⟨x10,hx10,h⟩:=aS h
   obtain ⟨x11,hx11,h⟩:=aS h
   refine aC (aA M (aK M M (lb M) (sv (d:=.str _) M))<|aA M (nB M M (lb M) underlying9 (sv (d:=.str _) M) (sv (d:=.int _ 0) M) hx9)<|aA M (bN M M (lb M) (svI M) (sv (d:=.int _ 63) M) M hx10)<|aA M (fB M M (lb M) ⟨_,underlying5⟩ underlying3 (svI M) hx11)<|aA M (asI M M M M)<|aB ?_)
   refine aW ?_
   obtain ⟨x12,hx12,h⟩:=aZ h
   refine aC (aA M (aK M M (lb M) (sv (d:=.str _) M))<|aA M (mvI M M M M)<|aA M (jO M M (lb M) underlying9 (sv (d:=.str _) M) ⟨_,(sv (d:=.int _ 1) M)⟩ ⟨_,(svI M)⟩ hx12)<|aA M (aAJ M M (lb M) underlying9 underlying106 underlying5 (sv (d:=.str _) M))<|aA M (cN iO (l:=x12) M M (lb M) underlying106 (svL M))<|aA M (aK M M (lb M) (sv (d:=.int _ 0) M))<|aB ?_)
   refine bG ?_
   refine dA (α:=Nat × Int × Int) (fun z=>⟨[(5,.int .i64 x5),(6,.int .i64 x6),(7,.int .i64 z.2.1),(29,.slice false (x12.map iO.d)),(30,.int .i64 (x12.length:Int)),(31,.int .i64 z.2.2)],[]⟩) (fun z=>kB x5 x6 x12 z.1 z.2.1 z.2.2=some r) (fun z=>z.1) (fuel,x11,0) (fun i=>i) ⟨(.sames M M),.nil,cA [] M (by decide),fun _ _=>M⟩ ?_ ?_
   ·exact h
   ·
    rintro ⟨n0,v20,v21⟩ h
    cases n0 with
    | zero=>exact absurd h (by unfold kB; exact nofun)
    | succ n0 =>
     unfold kB at h
     obtain ⟨x29,hx29,h⟩:=aS h
     refine aC (aA M (aP M M (lb M) (svI M) (svI M) M hx29)<|aB ?_)
     refine aW ?_
     refine aR (b:=_) M (fun hc30=>?_) (fun hc30=>?_)
     ·
      replace h:=bS h hc30
      refine aV ?_
      refine aM ?_
      refine aW ?_
      refine bG ?_
      obtain ⟨x31,hx31,h⟩:=aZ h
      refine aC (aA M (dB iO (cs:=[.int _ _]) M M (lb M) underlying106 ti5 (svL M) (svI M) hx31 M M)<|aA M (eB M M (lb M) underlying5 ag5 ti5 (by decide) (sv (d:=.fptr [.int _ _]) M) (nle M))<|aA M (asI M M M M)<|aB ?_)
      obtain ⟨x32,hx32,h⟩:=aZ h
      obtain ⟨x33,hx33,h⟩:=aS h
      obtain ⟨x34,hx34,h⟩:=aS h
      refine bE (aA M (mvI M M M M)<|aA M (uN M M (lb M) (svI M) (sv (d:=.int _ 8) M) hx32)<|aA M (mvI M M M M)<|aA M (fB M M (lb M) ⟨_,underlying5⟩ underlying3 (svI M) hx33)<|aA M (bN M M (lb M) (svI M) (svI M) M hx34)<|aA M (asI M M M M)<|cB ?_)
      refine bZ ?_
      refine aM ?_
      obtain ⟨x35,hx35,h⟩:=aS h
      refine bE (aA M (bN M M (lb M) (svI M) (sv (d:=.int _ 1) M) M hx35)<|aA M (mvI M M M M)<|cB ?_)
      refine aM ⟨(n0,x34,x35),(fun i=>i),⟨(.sames M M),.nil,cA [] M (by decide),fun _ _=>M⟩,?_,?_⟩
      exact h
      exact Nat.lt_succ_self _
     ·
      replace h:=bT h hc30
      refine cQ ?_
      refine bJ ?_
      refine bJ ?_
      refine cR ?_
      refine aM ?_
      refine aW ?_
      obtain ⟨x36,hx36,h⟩:=aZ h
      obtain ⟨x37,hx37,h⟩:=aS h
      refine aC (aA M (mvI M M M M)<|aA M (aX (r:=.int _ _) M M (lb M) cl84 (.cons (svI M) .nil) M (tX _ _ hx36))<|aA M (mvI M M M M)<|aA M (aP M M (lb M) (svI M) (svI M) M hx37)<|aB ?_)
      refine aR (b:=_) M (fun hc38=>?_) (fun hc38=>?_)
      ·
       replace h:=bS h hc38
       refine aC (aA M (aE M M (lb M) (sv (d:=.int _ 0) M))<|aA M (aE M M (lb M) (sv (d:=.int _ 0) M))<|aA M (aE M M (lb M) (sv (d:=.int _ 4) M))<|aB ?_)
       refine aT ?_
       refine bA ?_
       obtain rfl:=sj_ h
       refine ⟨.inr M,(.cons (sv M) (.cons (sv M) (.cons (sv M) .nil)))⟩
      ·
       replace h:=bT h hc38
       refine aV ?_
       refine aM ?_
       refine aC (aA M (mvI M M M M)<|aA M (mvI M M M M)<|aA M (asI M M M M)<|aA M (asI M M M M)<|aA M (aE M M (lb M) (sv (d:=.int _ 0) M))<|aB ?_)
       refine aT ?_
       obtain rfl:=sj_ h
       refine ⟨.inr M,(.cons (sv M) (.cons (sv M) (.cons (sv M) .nil)))⟩

theorem aA7 (a0:(List UInt8)) (r:(aH × Int × Int × Int)) (h:sH a0=some r):cJ prog 108 [.str a0] (retD [.agg (v2 r.1),.int .i64 r.2.1,.int .i64 r.2.2.1,.int .i64 r.2.2.2]):=by
 refine bC (rs:=[.agg (v2 r.1),.int .i64 r.2.1,.int .i64 r.2.2.1,.int .i64 r.2.2.2]) func108 M ntmps108 (nle M) M fun O hO=>?_
 show IWP _ _ _ _ ⟨[(0,.str a0)],[]⟩ _
 unfold sH at h
 refine aC (aA M (bI (cs:=q13) (cs':=(w39 0 false 0 0 0 0 0 0 ([]:List bL) [])) 0 M M (lb M) M ti50 M M (.k4 (.k4 (.cons (.nils _) (.all _)))))<|aA M (aE M M (lb M) (sv (d:=.int _ 0) M))<|aA M (aE M M (lb M) (sv (d:=.int _ 0) M))<|aA M (aE M M (lb M) (sv (d:=.int _ 0) M))<|aB ?_)
 refine aC (aA M (bI (cs:=q13) (cs':=(w39 0 false 0 0 0 0 0 0 ([]:List bL) [])) 1 M M (lb M) M ti50 M M (.k4 (.k4 (.cons (.nils _) (.all _)))))<|aB ?_)
 refine aW ?_
 obtain ⟨x1,hx1,h⟩:=aS h
 refine aC (aA M (aK M M (lb M) (sv (d:=.str _) M))<|aA M (jC M M (lb M) (sv (d:=.str _) M) (sv (d:=.str []) M) M hx1)<|aB ?_)
 refine aR (b:=_) M (fun hc2=>?_) (fun hc2=>?_)
 ·
  replace h:=bS h hc2
  refine aC (aA M (lra q12 la50 M M M M M (nle M) M)<|aA M (bQ (ds':=[.int _ _,.bool _,.int _ _,.int _ _,.int _ _,.int _ _,.int _ _,.int _ _,.slice false (([]:List bL).map bR.d),.str _]) M M ti50 (svR M) M (svA q12 M) M M M (nle M) M)<|aA M (aE M M (lb M) (sv (d:=.int _ 0) M))<|aA M (aE M M (lb M) (sv (d:=.int _ 0) M))<|aA M (aE M M (lb M) (sv (d:=.int _ 3) M))<|aB ?_)
  refine aT ?_
  refine bA ?_
  obtain rfl:=sj_ h
  refine ⟨.inr M,(.cons (rva la50 M M (nle M) M) (.cons (sv M) (.cons (sv M) (.cons (sv M) .nil))))⟩
 ·
  replace h:=bT h hc2
  refine aV ?_
  refine aM ?_
  refine aW ?_
  obtain ⟨x3,hx3,h⟩:=aZ h
  obtain ⟨x4,hx4,h⟩:=aZ h
  refine aC (aA M (aK M M (lb M) (sv (d:=.str _) M))<|aA M (nB M M (lb M) underlying9 (sv (d:=.str _) M) (sv (d:=.int _ 0) M) hx3)<|aA M (aX (r:=.bool _) M M (lb M) cl78 (.cons (svI M) .nil) M (uC _ _ hx4))<|aA M (dN M M (lb M) (svB M))<|aB ?_)
  refine aR (b:=_) M (fun hc5=>?_) (fun hc5=>?_)
  ·
   replace h:=bS h hc5
   refine aC (aA M (lra q12 la50 M M M M M (nle M) M)<|aA M (bQ (ds':=[.int _ _,.bool _,.int _ _,.int _ _,.int _ _,.int _ _,.int _ _,.int _ _,.slice false (([]:List bL).map bR.d),.str _]) M M ti50 (svR M) M (svA q12 M) M M M (nle M) M)<|aA M (aE M M (lb M) (sv (d:=.int _ 0) M))<|aA M (aE M M (lb M) (sv (d:=.int _ 0) M))<|aA M (aE M M (lb M) (sv (d:=.int _ 12) M))<|aB ?_)
   refine aT ?_
   refine bA ?_
   obtain rfl:=sj_ h
   refine ⟨.inr M,(.cons (rva la50 M M (nle M) M) (.cons (sv M) (.cons (sv M) (.cons (sv M) .nil))))⟩
  ·
   replace h:=bT h hc5
   refine aV ?_
   refine aM ?_
   refine aW ?_
   obtain ⟨x6,hx6,h⟩:=aS h
   refine aC (aA M (aK M M (lb M) (sv (d:=.str _) M))<|aA M (dF M M (lb M) underlying9 (sv (d:=.str _) M) M)<|aA M (aP M M (lb M) (svI M) (sv (d:=.int _ 2) M) M hx6)<|aB ?_)
   refine aR (b:=_) M (fun hc7=>?_) (fun hc7=>?_)
   ·
    replace h:=bS h hc7
    refine aC (aA M (lra q12 la50 M M M M M (nle M) M)<|aA M (bQ (ds':=[.int _ _,.bool _,.int _ _,.int _ _,.int _ _,.int _ _,.int _ _,.int _ _,.slice false (([]:List bL).map bR.d),.str _]) M M ti50 (svR M) M (svA q12 M) M M M (nle M) M)<|aA M (aE M M (lb M) (sv (d:=.int _ 0) M))<|aA M (aE M M (lb M) (sv (d:=.int _ 0) M))<|aA M (aE M M (lb M) (sv (d:=.int _ 3) M))<|aB ?_)
    refine aT ?_
    refine bA ?_
    obtain rfl:=sj_ h
    refine ⟨.inr M,(.cons (rva la50 M M (nle M) M) (.cons (sv M) (.cons (sv M) (.cons (sv M) .nil))))⟩
   ·
    replace h:=bT h hc7
    refine aV ?_
    refine aM ?_
    refine aW ?_
    obtain ⟨x8,hx8,h⟩:=aZ h
    obtain ⟨x9,hx9,h⟩:=aS h
    refine aC (aA M (aK M M (lb M) (sv (d:=.str _) M))<|aA M (nB M M (lb M) underlying9 (sv (d:=.str _) M) (sv (d:=.int _ 1) M) hx8)<|aA M (aP M M (lb M) (svI M) (sv (d:=.int _ 1) M) M hx9)<|aB ?_)
    refine aR (b:=_) M (fun hc10=>?_) (fun hc10=>?_)
    ·
     replace h:=bS h hc10
     refine aC (aA M (lra q12 la50 M M M M M (nle M) M)<|aA M (bQ (ds':=[.int _ _,.bool _,.int _ _,.int _ _,.int _ _,.int _ _,.int _ _,.int _ _,.slice false (([]:List bL).map bR.d),.str _]) M M ti50 (svR M) M (svA q12 M) M M M (nle M) M)<|aA M (aE M M (lb M) (sv (d:=.int _ 0) M))<|aA M (aE M M (lb M) (sv (d:=.int _ 0) M))<|aA M (aE M M (lb M) (sv (d:=.int _ 4) M))<|aB ?_)
     refine aT ?_
     refine bA ?_
     obtain rfl:=sj_ h
     refine ⟨.inr M,(.cons (rva la50 M M (nle M) M) (.cons (sv M) (.cons (sv M) (.cons (sv M) .nil))))⟩
    ·
     replace h:=bT h hc10
     refine aV ?_
     refine aM ?_
     obtain ⟨x11,hx11,h⟩:=aZ h
     obtain ⟨x12,hx12,h⟩:=aZ h
     refine aC (aA M (aK M M (lb M) (sv (d:=.str _) M))<|aA M (jO M M (lb M) underlying9 (sv (d:=.str _) M) ⟨_,(sv (d:=.int _ 2) M)⟩ M hx11)<|aA M (aX (r:=.tuple q22) M M (lb M) cl124 (.cons (sv (d:=.str _) M) .nil) M (rL _ _ hx12))<|aA M (aK M M (lb M) (sv (d:=.tuple q22) M))<|aA M (bD (d:=.int _ _) M M (lb M) (sv (d:=.tuple q22) M) M)<|aA M (bD (d:=.int _ _) M M (lb M) (sv (d:=.tuple q22) M) M)<|aA M (bD (d:=.int _ _) M M (lb M) (sv (d:=.tuple q22) M) M)<|aA M (asI M M M M)<|aA M (asI M M M M)<|aA M (asI M M M M)<|aB ?_)
     refine aW ?_
     refine bG ?_
     obtain ⟨x13,hx13,h⟩:=aS h
     refine aC (aA M (mvI M M M M)<|aA M (aP M M (lb M) (svI M) (sv (d:=.int _ 0) M) M hx13)<|aA M (asB M M M M)<|aB ?_)
     refine aR (b:=_) M (fun hc14=>?_) (fun hc14=>?_)
     ·
      replace h:=bS h hc14
      refine aC (aA M (lra q12 la50 M M M M M (nle M) M)<|aA M (mvI M M M M)<|aA M (bQ (ds':=[.int _ _,.bool _,.int _ _,.int _ _,.int _ _,.int _ _,.int _ _,.int _ _,.slice false (([]:List bL).map bR.d),.str _]) M M ti50 (svR M) M (svA q12 M) M M M (nle M) M)<|aA M (aE M M (lb M) (sv (d:=.int _ 0) M))<|aA M (aE M M (lb M) (sv (d:=.int _ 0) M))<|aA M (asI M M M M)<|aB ?_)
      refine aT ?_
      refine bP ?_
      refine bA ?_
      obtain rfl:=sj_ h
      refine ⟨.inr M,(.cons (rva la50 M M (nle M) M) (.cons (sv M) (.cons (sv M) (.cons (sv M) .nil))))⟩
     ·
      replace h:=bT h hc14
      obtain ⟨x15,hx15,h⟩:=aS h
      refine aC (aA M (mvI M M M M)<|aA M (aP M M (lb M) (svI M) (sv (d:=.int _ 64) M) M hx15)<|aA M (asB M M M M)<|aB ?_)
      refine aR (b:=_) M (fun hc16=>?_) (fun hc16=>?_)
      ·
       replace h:=bS h hc16
       refine aC (aA M (lra q12 la50 M M M M M (nle M) M)<|aA M (bQ (ds':=[.int _ _,.bool _,.int _ _,.int _ _,.int _ _,.int _ _,.int _ _,.int _ _,.slice false (([]:List bL).map bR.d),.str _]) M M ti50 (svR M) M (svA q12 M) M M M (nle M) M)<|aA M (aE M M (lb M) (sv (d:=.int _ 0) M))<|aA M (aE M M (lb M) (sv (d:=.int _ 0) M))<|aA M (aE M M (lb M) (sv (d:=.int _ 5) M))<|aB ?_)
       refine aT ?_
       refine bP ?_
       refine bA ?_
       obtain rfl:=sj_ h
       refine ⟨.inr M,(.cons (rva la50 M M (nle M) M) (.cons (sv M) (.cons (sv M) (.cons (sv M) .nil))))⟩
      ·
       replace h:=bT h hc16
       obtain ⟨x17,hx17,h⟩:=aS h
       obtain ⟨x18,hx18,h⟩:=aS h
       obtain ⟨x19,hx19,h⟩:=aS h
       refine aC (aA M (mvI M M M M)<|aA M (aK M M (lb M) (sv (d:=.str _) M))<|aA M (dF M M (lb M) underlying9 (sv (d:=.str _) M) M)<|aA M (bN M M (lb M) (svI M) (sv (d:=.int _ 2) M) M hx17)<|aA M (mvI M M M M)<|aA M (bN M M (lb M) (svI M) (svI M) M hx18)<|aA M (aP M M (lb M) (svI M) (svI M) M hx19)<|aA M (asB M M M M)<|aB ?_)
       refine aR (b:=_) M (fun hc20=>?_) (fun hc20=>?_)
       ·
        replace h:=bS h hc20
        refine aC (aA M (lra q12 la50 M M M M M (nle M) M)<|aA M (bQ (ds':=[.int _ _,.bool _,.int _ _,.int _ _,.int _ _,.int _ _,.int _ _,.int _ _,.slice false (([]:List bL).map bR.d),.str _]) M M ti50 (svR M) M (svA q12 M) M M M (nle M) M)<|aA M (aE M M (lb M) (sv (d:=.int _ 0) M))<|aA M (aE M M (lb M) (sv (d:=.int _ 0) M))<|aA M (aE M M (lb M) (sv (d:=.int _ 3) M))<|aB ?_)
        refine aT ?_
        refine bP ?_
        refine bA ?_
        obtain rfl:=sj_ h
        refine ⟨.inr M,(.cons (rva la50 M M (nle M) M) (.cons (sv M) (.cons (sv M) (.cons (sv M) .nil))))⟩
       ·
        replace h:=bT h hc20
        refine aV ?_
        refine bZ ?_
        refine aM ?_
        obtain ⟨x21,hx21,h⟩:=aZ h
        obtain ⟨x22,hx22,h⟩:=aZ h
        obtain ⟨x23,hx23,h⟩:=aS h
        refine dH M [⟨[0],[],[(51,.str a0)],[]⟩,
         ⟨[51],[],[(52,.int .u8 (x21.toNat:Int))],[]⟩,
         ⟨[0],[],[(53,.str a0)],[]⟩,
         ⟨[53],[],[(54,.int .u8 (x22.toNat:Int))],[]⟩,
         ⟨[54],[],[(55,.bool x23)],[]⟩,
         ⟨[6],[],[(56,.ref 1 0)],[]⟩,
         ⟨[52,56],[1],[],[(1,.blk 50 (w39 (x21.toNat:Int) false 0 0 0 0 0 0 ([]:List bL) []))]⟩,
         ⟨[6],[],[(57,.ref 1 1)],[]⟩,
         ⟨[55,57],[1],[],[(1,.blk 50 (w39 (x21.toNat:Int) x23 0 0 0 0 0 0 ([]:List bL) []))]⟩] M ?_ (by kernel_rfl) ?_
        ·refine .cons (lop M M fun S hA=>(aK M M (lb M) (sv (d:=.str _) (agr hA M M)))) ?_
         refine .cons (lop M M fun S hA=>(nB M M (lb M) underlying9 (sv (d:=.str _) (agr hA M M)) (sv (d:=.int _ 0) M) hx21)) ?_
         refine .cons (lop M M fun S hA=>(aK M M (lb M) (sv (d:=.str _) (agr hA M M)))) ?_
         refine .cons (lop M M fun S hA=>(nB M M (lb M) underlying9 (sv (d:=.str _) (agr hA M M)) (sv (d:=.int _ 1) M) hx22)) ?_
         refine .cons (lop M M fun S hA=>(aP M M (lb M) (svaI hA M M) (sv (d:=.int _ 1) M) M hx23)) ?_
         refine .cons (lop M M fun S hA=>(aO M M (lb M) underlying50 M ti5 (by decide) (svaR hA M M) (off':=0) M)) ?_
         refine .cons (lop M M fun S hA=>(bQ (ds':=[.int _ _,.bool _,.int _ _,.int _ _,.int _ _,.int _ _,.int _ _,.int _ _,.slice false (([]:List bL).map bR.d),.str _]) M M ti5 (svaR hA M M) (agi hA M M) (svaI hA M M) M M M (nle M) M)) ?_
         refine .cons (lop M M fun S hA=>(aO M M (lb M) underlying50 M ti4 (by decide) (svaR hA M M) (off':=1) M)) ?_
         refine .cons (lop M M fun S hA=>(bQ (ds':=[.int _ _,.bool _,.int _ _,.int _ _,.int _ _,.int _ _,.int _ _,.int _ _,.slice false (([]:List bL).map bR.d),.str _]) M M ti4 (svaR hA M M) (agi hA M M) (svaB hA M M) M M M (nle M) M)) ?_
         exact .nil
        obtain ⟨x24,hx24,h⟩:=aS h
        obtain ⟨x25,hx25,h⟩:=aS h
        obtain ⟨x26,hx26,h⟩:=aS h
        refine aC (aA M (lra q12 la50 M M M M M (nle M) M)<|aA M (mvI M M M M)<|aA M (bN M M (lb M) (sv (d:=.int _ 2) M) (svI M) M hx24)<|aA M (mvI M M M M)<|aA M (bN M M (lb M) (sv (d:=.int _ 2) M) (svI M) M hx25)<|aA M (mvI M M M M)<|aA M (bN M M (lb M) (svI M) (svI M) M hx26)<|aA M (bQ (ds':=[.int _ _,.bool _,.int _ _,.int _ _,.int _ _,.int _ _,.int _ _,.int _ _,.slice false (([]:List bL).map bR.d),.str _]) M M ti50 (svR M) M (svA q12 M) M M M (nle M) M)<|aA M (asI M M M M)<|aA M (asI M M M M)<|aA M (aE M M (lb M) (sv (d:=.int _ 0) M))<|aB ?_)
        refine aT ?_
        obtain rfl:=sj_ h
        refine ⟨.inr M,(.cons (rva la50 M M (nle M) M) (.cons (sv M) (.cons (sv M) (.cons (sv M) .nil))))⟩

theorem kE (a0:aH) (r:(List Nat)) (h:eX a0=some r):FnH prog 82 [.ref 1000 0] [(1000,.blk 50 (v2 a0))] (.osl 0 (eRef 1000).sz r.length) [(1000,.blk 50 (v2 a0)),(0,.blk 150 (D.flat (r.map (eRef 1000).d)))]:=by
 refine fN (rs:=[.osl 0 (eRef 1000).sz r.length]) func82 M ntmps82 (nle M) fun O hO=>?_
 show IWP _ _ _ _ ⟨[(0,.ref 1000 0)],[(1000,.blk 50 (v2 a0))]⟩ _
 unfold eX at h
 refine aC (aA M (aE M M (lb M) (sv (d:=.nils) M))<|aB ?_)
 refine aC (aA M (aE M M (lb M) (sv (d:=.nils) M))<|aB ?_)
 refine aW ?_
 refine aC (aA M (mvR M M M M)<|aA M (bO M M (lb M) (svR M))<|aA M (faR 0 M M M underlying50 M ti5 (lb M) M M)<|aA M (aG (d:=.int _ _) M M (lb M) underlying5 ag5 ti5 (by decide) (svR M) M (nle M) M)<|aB ?_)
 refine bG ?_
 refine aW ?_
 refine bG ?_
 refine gP (α:=(List Nat)) (fun z=>⟨[(0,.ref 1000 0),(3,.osl 1 (eRef 1000).sz z.length)],[(1000,.blk 50 (v2 a0)),(1,.blk 150 (D.flat (z.map (eRef 1000).d)))]⟩) (fun z=>fM z=some r) ?_ ?_
 ·
  refine bG ?_
  refine aW ?_
  refine bG ?_
  refine aW ?_
  refine bG ?_
  refine aW ?_
  refine bG ?_
  refine aW ?_
  refine bG ?_
  refine aW ?_
  refine bG ?_
  refine aW ?_
  refine aW ?_
  refine aW ?_
  obtain ⟨x28,hx28,h⟩:=aS h
  refine aC (aA M (aP M M (lb M) (svI M) (sv (d:=.int _ 0) M) M hx28)<|aA M (asB M M M M)<|aB ?_)
  refine aR (b:=_) M (fun hc29=>?_) (fun hc29=>?_)
  ·
   replace h:=bS h hc29
   refine aV ?_
   refine aM ?_
   refine fV M hc29 ?_
   refine cQ ?_
   refine bJ ?_
   refine bJ ?_
   refine cR ?_
   refine aM ?_
   obtain ⟨x30,hx30,h⟩:=aZ h
   refine dH M [⟨[3],[],[(24,.nils)],[]⟩,
    ⟨[0],[],[(25,.ref 1000 0)],[]⟩,
    ⟨[25],[],[(26,.ref 1000 0)],[]⟩,
    ⟨[26],[],[(27,.ref 1000 2)],[]⟩,
    ⟨[0],[],[(28,.ref 1000 0)],[]⟩,
    ⟨[28],[],[(29,.ref 1000 0)],[]⟩,
    ⟨[29],[],[(30,.ref 1000 3)],[]⟩,
    ⟨[27,30],[0],[(31,.osl 0 (eRef 1000).sz (([2,3]:(List Nat)).length))],[(0,.blk 150 (D.flat (([2,3]:(List Nat)).map (eRef 1000).d)))]⟩,
    ⟨[24,31],[0,1],[(32,.osl 1 (eRef 1000).sz x30.length)],[(1,.blk 150 (D.flat (x30.map (eRef 1000).d)))]⟩,
    ⟨[32],[],[(3,.osl 1 (eRef 1000).sz x30.length)],[]⟩] M ?_ (by kernel_rfl) ?_
   ·refine .cons (lop M M fun S hA=>(aK M M (lb M) (sv (d:=.nils) (agr hA M M)))) ?_
    refine .cons (lop M M fun S hA=>(aK M M (lb M) (svaR hA M M))) ?_
    refine .cons (lop M M fun S hA=>(bO M M (lb M) (svaR hA M M))) ?_
    refine .cons (lop M M fun S hA=>(aO M M (lb M) underlying50 M ti3 (by decide) (svaR hA M M) (off':=2) M)) ?_
    refine .cons (lop M M fun S hA=>(aK M M (lb M) (svaR hA M M))) ?_
    refine .cons (lop M M fun S hA=>(bO M M (lb M) (svaR hA M M))) ?_
    refine .cons (lop M M fun S hA=>(aO M M (lb M) underlying50 M ti3 (by decide) (svaR hA M M) (off':=3) M)) ?_
    refine .cons (lop M M fun S hA=>(kG (eRef 1000) ([2,3]:(List Nat)) 0 M M (lb M) underlying148 nY (agi hA M M) (.cons (svaR hA M M) (.cons (svaR hA M M) .nil)) M M (by decide))) ?_
    refine .cons (lop M M fun S hA=>(mO (eRef 1000) 1 M M (lb M) underlying148 nY M (agr hA M M) (agi hA M M) (rD (eRef 1000) (agr hA M M) M (agi hA M M)) hx30)) ?_
    refine .cons (lop M M fun S hA=>(aE M M (lb M) (sv (d:=.osl _ _ _) (agr hA M M)))) ?_
    exact .nil
   refine cQ ?_
   refine cT M ?_
   refine bJ ?_
   refine cT M ?_
   refine bJ ?_
   refine cT M ?_
   refine bJ ?_
   refine cT M ?_
   refine bJ ?_
   refine cT M ?_
   refine bJ ?_
   refine cT M ?_
   refine bJ ?_
   refine cR ?_
   refine aM ?_
   refine aC (aA M (aK M M (lb M) (sv (d:=.osl _ _ _) M))<|aA M (aE M M (lb M) (sv (d:=.osl _ _ _) M))<|aB ?_)
   refine aT ?_
   obtain rfl:=sj_ h
   refine ⟨.inr M,(fun i=>if i=0 then 1 else i),⟨.nil,(.cons (.blk M M M) (.cons (EntW.lstR M M) .nil)),cA [1000,1] M (by decide),(fun i hi=>by first | rfl | (show (if _ then _ else _)=_; (repeat' split) <;> omega))⟩,(.cons (sv M) .nil),M⟩
  ·
   replace h:=bT h hc29
   obtain ⟨x31,hx31,h⟩:=aS h
   refine bE (aA M (aP M M (lb M) (svI M) (sv (d:=.int _ 9) M) M hx31)<|aA M (asB M M M M)<|cB ?_)
   refine aM ?_
   refine aR (b:=_) M (fun hc32=>?_) (fun hc32=>?_)
   ·
    replace h:=bS h hc32
    refine cQ ?_
    refine bJ ?_
    refine bJ ?_
    refine cR ?_
    refine aM ?_
    obtain ⟨x33,hx33,h⟩:=aZ h
    refine dH M [⟨[3],[],[(24,.nils)],[]⟩,
     ⟨[0],[],[(25,.ref 1000 0)],[]⟩,
     ⟨[25],[],[(26,.ref 1000 0)],[]⟩,
     ⟨[26],[],[(27,.ref 1000 2)],[]⟩,
     ⟨[0],[],[(28,.ref 1000 0)],[]⟩,
     ⟨[28],[],[(29,.ref 1000 0)],[]⟩,
     ⟨[29],[],[(30,.ref 1000 3)],[]⟩,
     ⟨[27,30],[0],[(31,.osl 0 (eRef 1000).sz (([2,3]:(List Nat)).length))],[(0,.blk 150 (D.flat (([2,3]:(List Nat)).map (eRef 1000).d)))]⟩,
     ⟨[24,31],[0,1],[(32,.osl 1 (eRef 1000).sz x33.length)],[(1,.blk 150 (D.flat (x33.map (eRef 1000).d)))]⟩,
     ⟨[32],[],[(3,.osl 1 (eRef 1000).sz x33.length)],[]⟩] M ?_ (by kernel_rfl) ?_
    ·refine .cons (lop M M fun S hA=>(aK M M (lb M) (sv (d:=.nils) (agr hA M M)))) ?_
     refine .cons (lop M M fun S hA=>(aK M M (lb M) (svaR hA M M))) ?_
     refine .cons (lop M M fun S hA=>(bO M M (lb M) (svaR hA M M))) ?_
     refine .cons (lop M M fun S hA=>(aO M M (lb M) underlying50 M ti3 (by decide) (svaR hA M M) (off':=2) M)) ?_
     refine .cons (lop M M fun S hA=>(aK M M (lb M) (svaR hA M M))) ?_
     refine .cons (lop M M fun S hA=>(bO M M (lb M) (svaR hA M M))) ?_
     refine .cons (lop M M fun S hA=>(aO M M (lb M) underlying50 M ti3 (by decide) (svaR hA M M) (off':=3) M)) ?_
     refine .cons (lop M M fun S hA=>(kG (eRef 1000) ([2,3]:(List Nat)) 0 M M (lb M) underlying148 nY (agi hA M M) (.cons (svaR hA M M) (.cons (svaR hA M M) .nil)) M M (by decide))) ?_
     refine .cons (lop M M fun S hA=>(mO (eRef 1000) 1 M M (lb M) underlying148 nY M (agr hA M M) (agi hA M M) (rD (eRef 1000) (agr hA M M) M (agi hA M M)) hx33)) ?_
     refine .cons (lop M M fun S hA=>(aE M M (lb M) (sv (d:=.osl _ _ _) (agr hA M M)))) ?_
     exact .nil
    refine cQ ?_
    refine cT M ?_
    refine bJ ?_
    refine cT M ?_
    refine bJ ?_
    refine cT M ?_
    refine bJ ?_
    refine cT M ?_
    refine bJ ?_
    refine cT M ?_
    refine bJ ?_
    refine cT M ?_
    refine bJ ?_
    refine cR ?_
    refine aM ?_
    refine aC (aA M (aK M M (lb M) (sv (d:=.osl _ _ _) M))<|aA M (aE M M (lb M) (sv (d:=.osl _ _ _) M))<|aB ?_)
    refine aT ?_
    obtain rfl:=sj_ h
    refine ⟨.inr M,(fun i=>if i=0 then 1 else i),⟨.nil,(.cons (.blk M M M) (.cons (EntW.lstR M M) .nil)),cA [1000,1] M (by decide),(fun i hi=>by first | rfl | (show (if _ then _ else _)=_; (repeat' split) <;> omega))⟩,(.cons (sv M) .nil),M⟩
   ·
    replace h:=bT h hc32
    refine aV ?_
    refine aM ?_
    refine aW ?_
    refine aW ?_
    obtain ⟨x34,hx34,h⟩:=aS h
    refine aC (aA M (aP M M (lb M) (svI M) (sv (d:=.int _ 1) M) M hx34)<|aA M (asB M M M M)<|aB ?_)
    refine aR (b:=_) M (fun hc35=>?_) (fun hc35=>?_)
    ·
     replace h:=bS h hc35
     refine aV ?_
     refine aM ?_
     refine fV M hc35 ?_
     refine cQ ?_
     refine bJ ?_
     refine bJ ?_
     refine cT M ?_
     refine bJ ?_
     refine cR ?_
     refine aM ?_
     obtain ⟨x36,hx36,h⟩:=aZ h
     refine dH M [⟨[3],[],[(33,.nils)],[]⟩,
      ⟨[0],[],[(34,.ref 1000 0)],[]⟩,
      ⟨[34],[],[(35,.ref 1000 0)],[]⟩,
      ⟨[35],[],[(36,.ref 1000 2)],[]⟩,
      ⟨[0],[],[(37,.ref 1000 0)],[]⟩,
      ⟨[37],[],[(38,.ref 1000 0)],[]⟩,
      ⟨[38],[],[(39,.ref 1000 4)],[]⟩,
      ⟨[0],[],[(40,.ref 1000 0)],[]⟩,
      ⟨[40],[],[(41,.ref 1000 0)],[]⟩,
      ⟨[41],[],[(42,.ref 1000 5)],[]⟩,
      ⟨[36,39,42],[0],[(43,.osl 0 (eRef 1000).sz (([2,4,5]:(List Nat)).length))],[(0,.blk 150 (D.flat (([2,4,5]:(List Nat)).map (eRef 1000).d)))]⟩,
      ⟨[33,43],[0,1],[(44,.osl 1 (eRef 1000).sz x36.length)],[(1,.blk 150 (D.flat (x36.map (eRef 1000).d)))]⟩,
      ⟨[44],[],[(3,.osl 1 (eRef 1000).sz x36.length)],[]⟩] M ?_ (by kernel_rfl) ?_
     ·refine .cons (lop M M fun S hA=>(aK M M (lb M) (sv (d:=.nils) (agr hA M M)))) ?_
      refine .cons (lop M M fun S hA=>(aK M M (lb M) (svaR hA M M))) ?_
      refine .cons (lop M M fun S hA=>(bO M M (lb M) (svaR hA M M))) ?_
      refine .cons (lop M M fun S hA=>(aO M M (lb M) underlying50 M ti3 (by decide) (svaR hA M M) (off':=2) M)) ?_
      refine .cons (lop M M fun S hA=>(aK M M (lb M) (svaR hA M M))) ?_
      refine .cons (lop M M fun S hA=>(bO M M (lb M) (svaR hA M M))) ?_
      refine .cons (lop M M fun S hA=>(aO M M (lb M) underlying50 M ti3 (by decide) (svaR hA M M) (off':=4) M)) ?_
      refine .cons (lop M M fun S hA=>(aK M M (lb M) (svaR hA M M))) ?_
      refine .cons (lop M M fun S hA=>(bO M M (lb M) (svaR hA M M))) ?_
      refine .cons (lop M M fun S hA=>(aO M M (lb M) underlying50 M ti3 (by decide) (svaR hA M M) (off':=5) M)) ?_
      refine .cons (lop M M fun S hA=>(kG (eRef 1000) ([2,4,5]:(List Nat)) 0 M M (lb M) underlying148 nY (agi hA M M) (.cons (svaR hA M M) (.cons (svaR hA M M) (.cons (svaR hA M M) .nil))) M M (by decide))) ?_
      refine .cons (lop M M fun S hA=>(mO (eRef 1000) 1 M M (lb M) underlying148 nY M (agr hA M M) (agi hA M M) (rD (eRef 1000) (agr hA M M) M (agi hA M M)) hx36)) ?_
      refine .cons (lop M M fun S hA=>(aE M M (lb M) (sv (d:=.osl _ _ _) (agr hA M M)))) ?_
      exact .nil
     refine cQ ?_
     refine cT M ?_
     refine bJ ?_
     refine cT M ?_
     refine bJ ?_
     refine cT M ?_
     refine bJ ?_
     refine cT M ?_
     refine bJ ?_
     refine cT M ?_
     refine bJ ?_
     refine cR ?_
     refine aM ?_
     refine aC (aA M (aK M M (lb M) (sv (d:=.osl _ _ _) M))<|aA M (aE M M (lb M) (sv (d:=.osl _ _ _) M))<|aB ?_)
     refine aT ?_
     obtain rfl:=sj_ h
     refine ⟨.inr M,(fun i=>if i=0 then 1 else i),⟨.nil,(.cons (.blk M M M) (.cons (EntW.lstR M M) .nil)),cA [1000,1] M (by decide),(fun i hi=>by first | rfl | (show (if _ then _ else _)=_; (repeat' split) <;> omega))⟩,(.cons (sv M) .nil),M⟩
    ·
     replace h:=bT h hc35
     obtain ⟨x37,hx37,h⟩:=aS h
     refine bE (aA M (aP M M (lb M) (svI M) (sv (d:=.int _ 2) M) M hx37)<|aA M (asB M M M M)<|cB ?_)
     refine aM ?_
     refine aR (b:=_) M (fun hc38=>?_) (fun hc38=>?_)
     ·
      replace h:=bS h hc38
      refine cQ ?_
      refine bJ ?_
      refine bJ ?_
      refine cT M ?_
      refine bJ ?_
      refine cR ?_
      refine aM ?_
      obtain ⟨x39,hx39,h⟩:=aZ h
      refine dH M [⟨[3],[],[(33,.nils)],[]⟩,
       ⟨[0],[],[(34,.ref 1000 0)],[]⟩,
       ⟨[34],[],[(35,.ref 1000 0)],[]⟩,
       ⟨[35],[],[(36,.ref 1000 2)],[]⟩,
       ⟨[0],[],[(37,.ref 1000 0)],[]⟩,
       ⟨[37],[],[(38,.ref 1000 0)],[]⟩,
       ⟨[38],[],[(39,.ref 1000 4)],[]⟩,
       ⟨[0],[],[(40,.ref 1000 0)],[]⟩,
       ⟨[40],[],[(41,.ref 1000 0)],[]⟩,
       ⟨[41],[],[(42,.ref 1000 5)],[]⟩,
       ⟨[36,39,42],[0],[(43,.osl 0 (eRef 1000).sz (([2,4,5]:(List Nat)).length))],[(0,.blk 150 (D.flat (([2,4,5]:(List Nat)).map (eRef 1000).d)))]⟩,
       ⟨[33,43],[0,1],[(44,.osl 1 (eRef 1000).sz x39.length)],[(1,.blk 150 (D.flat (x39.map (eRef 1000).d)))]⟩,
       ⟨[44],[],[(3,.osl 1 (eRef 1000).sz x39.length)],[]⟩] M ?_ (by kernel_rfl) ?_
      ·refine .cons (lop M M fun S hA=>(aK M M (lb M) (sv (d:=.nils) (agr hA M M)))) ?_
       refine .cons (lop M M fun S hA=>(aK M M (lb M) (svaR hA M M))) ?_
       refine .cons (lop M M fun S hA=>(bO M M (lb M) (svaR hA M M))) ?_
       refine .cons (lop M M fun S hA=>(aO M M (lb M) underlying50 M ti3 (by decide) (svaR hA M M) (off':=2) M)) ?_
       refine .cons (lop M M fun S hA=>(aK M M (lb M) (svaR hA M M))) ?_
       refine .cons (lop M M fun S hA=>(bO M M (lb M) (svaR hA M M))) ?_
       refine .cons (lop M M fun S hA=>(aO M M (lb M) underlying50 M ti3 (by decide) (svaR hA M M) (off':=4) M)) ?_
       refine .cons (lop M M fun S hA=>(aK M M (lb M) (svaR hA M M))) ?_
       refine .cons (lop M M fun S hA=>(bO M M (lb M) (svaR hA M M))) ?_
       refine .cons (lop M M fun S hA=>(aO M M (lb M) underlying50 M ti3 (by decide) (svaR hA M M) (off':=5) M)) ?_
       refine .cons (lop M M fun S hA=>(kG (eRef 1000) ([2,4,5]:(List Nat)) 0 M M (lb M) underlying148 nY (agi hA M M) (.cons (svaR hA M M) (.cons (svaR hA M M) (.cons (svaR hA M M) .nil))) M M (by decide))) ?_
       refine .cons (lop M M fun S hA=>(mO (eRef 1000) 1 M M (lb M) underlying148 nY M (agr hA M M) (agi hA M M) (rD (eRef 1000) (agr hA M M) M (agi hA M M)) hx39)) ?_
       refine .cons (lop M M fun S hA=>(aE M M (lb M) (sv (d:=.osl _ _ _) (agr hA M M)))) ?_
       exact .nil
      refine cQ ?_
      refine cT M ?_
      refine bJ ?_
      refine cT M ?_
      refine bJ ?_
      refine cT M ?_
      refine bJ ?_
      refine cT M ?_
      refine bJ ?_
      refine cT M ?_
      refine bJ ?_
      refine cR ?_
      refine aM ?_
      refine aC (aA M (aK M M (lb M) (sv (d:=.osl _ _ _) M))<|aA M (aE M M (lb M) (sv (d:=.osl _ _ _) M))<|aB ?_)
      refine aT ?_
      obtain rfl:=sj_ h
      refine ⟨.inr M,(fun i=>if i=0 then 1 else i),⟨.nil,(.cons (.blk M M M) (.cons (EntW.lstR M M) .nil)),cA [1000,1] M (by decide),(fun i hi=>by first | rfl | (show (if _ then _ else _)=_; (repeat' split) <;> omega))⟩,(.cons (sv M) .nil),M⟩
     ·
      replace h:=bT h hc38
      refine aV ?_
      refine aM ?_
      refine aW ?_
      obtain ⟨x40,hx40,h⟩:=aS h
      refine aC (aA M (aP M M (lb M) (svI M) (sv (d:=.int _ 3) M) M hx40)<|aA M (asB M M M M)<|aB ?_)
      refine aR (b:=_) M (fun hc41=>?_) (fun hc41=>?_)
      ·
       replace h:=bS h hc41
       refine cQ ?_
       refine bJ ?_
       refine bJ ?_
       refine cT M ?_
       refine bJ ?_
       refine cT M ?_
       refine bJ ?_
       refine cR ?_
       refine aM ?_
       obtain ⟨x42,hx42,h⟩:=aZ h
       refine dH M [⟨[3],[],[(45,.nils)],[]⟩,
        ⟨[0],[],[(46,.ref 1000 0)],[]⟩,
        ⟨[46],[],[(47,.ref 1000 0)],[]⟩,
        ⟨[47],[],[(48,.ref 1000 2)],[]⟩,
        ⟨[0],[],[(49,.ref 1000 0)],[]⟩,
        ⟨[49],[],[(50,.ref 1000 0)],[]⟩,
        ⟨[50],[],[(51,.ref 1000 6)],[]⟩,
        ⟨[0],[],[(52,.ref 1000 0)],[]⟩,
        ⟨[52],[],[(53,.ref 1000 0)],[]⟩,
        ⟨[53],[],[(54,.ref 1000 7)],[]⟩,
        ⟨[48,51,54],[0],[(55,.osl 0 (eRef 1000).sz (([2,6,7]:(List Nat)).length))],[(0,.blk 150 (D.flat (([2,6,7]:(List Nat)).map (eRef 1000).d)))]⟩,
        ⟨[45,55],[0,1],[(56,.osl 1 (eRef 1000).sz x42.length)],[(1,.blk 150 (D.flat (x42.map (eRef 1000).d)))]⟩,
        ⟨[56],[],[(3,.osl 1 (eRef 1000).sz x42.length)],[]⟩] M ?_ (by kernel_rfl) ?_
       ·refine .cons (lop M M fun S hA=>(aK M M (lb M) (sv (d:=.nils) (agr hA M M)))) ?_
        refine .cons (lop M M fun S hA=>(aK M M (lb M) (svaR hA M M))) ?_
        refine .cons (lop M M fun S hA=>(bO M M (lb M) (svaR hA M M))) ?_
        refine .cons (lop M M fun S hA=>(aO M M (lb M) underlying50 M ti3 (by decide) (svaR hA M M) (off':=2) M)) ?_
        refine .cons (lop M M fun S hA=>(aK M M (lb M) (svaR hA M M))) ?_
        refine .cons (lop M M fun S hA=>(bO M M (lb M) (svaR hA M M))) ?_
        refine .cons (lop M M fun S hA=>(aO M M (lb M) underlying50 M ti3 (by decide) (svaR hA M M) (off':=6) M)) ?_
        refine .cons (lop M M fun S hA=>(aK M M (lb M) (svaR hA M M))) ?_
        refine .cons (lop M M fun S hA=>(bO M M (lb M) (svaR hA M M))) ?_
        refine .cons (lop M M fun S hA=>(aO M M (lb M) underlying50 M ti3 (by decide) (svaR hA M M) (off':=7) M)) ?_
        refine .cons (lop M M fun S hA=>(kG (eRef 1000) ([2,6,7]:(List Nat)) 0 M M (lb M) underlying148 nY (agi hA M M) (.cons (svaR hA M M) (.cons (svaR hA M M) (.cons (svaR hA M M) .nil))) M M (by decide))) ?_
        refine .cons (lop M M fun S hA=>(mO (eRef 1000) 1 M M (lb M) underlying148 nY M (agr hA M M) (agi hA M M) (rD (eRef 1000) (agr hA M M) M (agi hA M M)) hx42)) ?_
        refine .cons (lop M M fun S hA=>(aE M M (lb M) (sv (d:=.osl _ _ _) (agr hA M M)))) ?_
        exact .nil
       refine cQ ?_
       refine cT M ?_
       refine bJ ?_
       refine cT M ?_
       refine bJ ?_
       refine cT M ?_
       refine bJ ?_
       refine cT M ?_
       refine bJ ?_
       refine cR ?_
       refine aM ?_
       refine aC (aA M (aK M M (lb M) (sv (d:=.osl _ _ _) M))<|aA M (aE M M (lb M) (sv (d:=.osl _ _ _) M))<|aB ?_)
       refine aT ?_
       obtain rfl:=sj_ h
       refine ⟨.inr M,(fun i=>if i=0 then 1 else i),⟨.nil,(.cons (.blk M M M) (.cons (EntW.lstR M M) .nil)),cA [1000,1] M (by decide),(fun i hi=>by first | rfl | (show (if _ then _ else _)=_; (repeat' split) <;> omega))⟩,(.cons (sv M) .nil),M⟩
      ·
       replace h:=bT h hc41
       refine aV ?_
       refine aM ?_
       refine aW ?_
       obtain ⟨x43,hx43,h⟩:=aS h
       refine aC (aA M (aP M M (lb M) (svI M) (sv (d:=.int _ 7) M) M hx43)<|aA M (asB M M M M)<|aB ?_)
       refine aR (b:=_) M (fun hc44=>?_) (fun hc44=>?_)
       ·
        replace h:=bS h hc44
        refine cQ ?_
        refine bJ ?_
        refine bJ ?_
        refine cT M ?_
        refine bJ ?_
        refine cT M ?_
        refine bJ ?_
        refine cT M ?_
        refine bJ ?_
        refine cR ?_
        refine aM ?_
        obtain ⟨x45,hx45,h⟩:=aZ h
        refine dH M [⟨[3],[],[(57,.nils)],[]⟩,
         ⟨[0],[],[(58,.ref 1000 0)],[]⟩,
         ⟨[58],[],[(59,.ref 1000 0)],[]⟩,
         ⟨[59],[],[(60,.ref 1000 2)],[]⟩,
         ⟨[0],[],[(61,.ref 1000 0)],[]⟩,
         ⟨[61],[],[(62,.ref 1000 0)],[]⟩,
         ⟨[62],[],[(63,.ref 1000 7)],[]⟩,
         ⟨[60,63],[0],[(64,.osl 0 (eRef 1000).sz (([2,7]:(List Nat)).length))],[(0,.blk 150 (D.flat (([2,7]:(List Nat)).map (eRef 1000).d)))]⟩,
         ⟨[57,64],[0,1],[(65,.osl 1 (eRef 1000).sz x45.length)],[(1,.blk 150 (D.flat (x45.map (eRef 1000).d)))]⟩,
         ⟨[65],[],[(3,.osl 1 (eRef 1000).sz x45.length)],[]⟩] M ?_ (by kernel_rfl) ?_
        ·refine .cons (lop M M fun S hA=>(aK M M (lb M) (sv (d:=.nils) (agr hA M M)))) ?_
         refine .cons (lop M M fun S hA=>(aK M M (lb M) (svaR hA M M))) ?_
         refine .cons (lop M M fun S hA=>(bO M M (lb M) (svaR hA M M))) ?_
         refine .cons (lop M M fun S hA=>(aO M M (lb M) underlying50 M ti3 (by decide) (svaR hA M M) (off':=2) M)) ?_
         refine .cons (lop M M fun S hA=>(aK M M (lb M) (svaR hA M M))) ?_
         refine .cons (lop M M fun S hA=>(bO M M (lb M) (svaR hA M M))) ?_
         refine .cons (lop M M fun S hA=>(aO M M (lb M) underlying50 M ti3 (by decide) (svaR hA M M) (off':=7) M)) ?_
         refine .cons (lop M M fun S hA=>(kG (eRef 1000) ([2,7]:(List Nat)) 0 M M (lb M) underlying148 nY (agi hA M M) (.cons (svaR hA M M) (.cons (svaR hA M M) .nil)) M M (by decide))) ?_
         refine .cons (lop M M fun S hA=>(mO (eRef 1000) 1 M M (lb M) underlying148 nY M (agr hA M M) (agi hA M M) (rD (eRef 1000) (agr hA M M) M (agi hA M M)) hx45)) ?_
         refine .cons (lop M M fun S hA=>(aE M M (lb M) (sv (d:=.osl _ _ _) (agr hA M M)))) ?_
         exact .nil
        refine cQ ?_
        refine cT M ?_
        refine bJ ?_
        refine cT M ?_
        refine bJ ?_
        refine cT M ?_
        refine bJ ?_
        refine cR ?_
        refine aM ?_
        refine aC (aA M (aK M M (lb M) (sv (d:=.osl _ _ _) M))<|aA M (aE M M (lb M) (sv (d:=.osl _ _ _) M))<|aB ?_)
        refine aT ?_
        obtain rfl:=sj_ h
        refine ⟨.inr M,(fun i=>if i=0 then 1 else i),⟨.nil,(.cons (.blk M M M) (.cons (EntW.lstR M M) .nil)),cA [1000,1] M (by decide),(fun i hi=>by first | rfl | (show (if _ then _ else _)=_; (repeat' split) <;> omega))⟩,(.cons (sv M) .nil),M⟩
       ·
        replace h:=bT h hc44
        refine aV ?_
        refine aM ?_
        refine aW ?_
        obtain ⟨x46,hx46,h⟩:=aS h
        refine aC (aA M (aP M M (lb M) (svI M) (sv (d:=.int _ 8) M) M hx46)<|aA M (asB M M M M)<|aB ?_)
        refine aR (b:=_) M (fun hc47=>?_) (fun hc47=>?_)
        ·
         replace h:=bS h hc47
         refine cQ ?_
         refine bJ ?_
         refine bJ ?_
         refine cT M ?_
         refine bJ ?_
         refine cT M ?_
         refine bJ ?_
         refine cT M ?_
         refine bJ ?_
         refine cT M ?_
         refine bJ ?_
         refine cR ?_
         refine aM ?_
         obtain ⟨x48,hx48,h⟩:=aZ h
         refine bE (aA M (aK M M (lb M) (sv (d:=.nils) M))<|aA M (mvR M M M M)<|aA M (bO M M (lb M) (svR M))<|aA M (faR 2 M M M underlying50 M ti3 (lb M) M M)<|aA M (kG (eRef 1000) ([2]:(List Nat)) 0 M M (lb M) underlying148 nY M (.cons (svR M) .nil) M M (by decide))<|aA M (mO (eRef 1000) 1 M M (lb M) underlying148 nY M M M (rD (eRef 1000) M M M) hx48)<|aA M (aE M M (lb M) (sv (d:=.osl _ _ _) M))<|cB ?_)
         refine bZ ?_
         refine aM ⟨x48,(fun i=>i),⟨(.sames M M),(.cons (.blk M M M) (.cons (EntW.lstR M M) .nil)),cA [1000,1] M (by decide),fun _ _=>M⟩,?_⟩
         exact h
        ·
         replace h:=bT h hc47
         refine aV ?_
         refine aM ?_
         refine aW ?_
         obtain ⟨x49,hx49,h⟩:=aS h
         refine aC (aA M (aP M M (lb M) (svI M) (sv (d:=.int _ 6) M) M hx49)<|aA M (asB M M M M)<|aB ?_)
         refine aR (b:=_) M (fun hc50=>?_) (fun hc50=>?_)
         ·
          replace h:=bS h hc50
          refine cQ ?_
          refine bJ ?_
          refine bJ ?_
          refine cT M ?_
          refine bJ ?_
          refine cT M ?_
          refine bJ ?_
          refine cT M ?_
          refine bJ ?_
          refine cT M ?_
          refine bJ ?_
          refine cT M ?_
          refine bJ ?_
          refine cR ?_
          refine aM ⟨([]:(List Nat)),(fun i=>if i=1 then 51 else i),⟨(.s M M (.cons (.nilo M) .nil)),(.cons (.blk M M M) (.cons (.nilb M) .nil)),cA [1000,51] M (by decide),(fun i hi=>by first | rfl | (show (if _ then _ else _)=_; (repeat' split) <;> omega))⟩,?_⟩
          exact h
         ·
          replace h:=bT h hc50
          refine aV ?_
          refine aM ?_
          obtain ⟨x51,hx51,h⟩:=aS h
          refine aC (aA M (aP M M (lb M) (svI M) (sv (d:=.int _ 10) M) M hx51)<|aA M (asB M M M M)<|aB ?_)
          refine aR (b:=_) M (fun hc52=>?_) (fun hc52=>?_)
          ·
           replace h:=bS h hc52
           refine cQ ?_
           refine bJ ?_
           refine cT M ?_
           refine bJ ?_
           refine cT M ?_
           refine bJ ?_
           refine cT M ?_
           refine bJ ?_
           refine cT M ?_
           refine bJ ?_
           refine cT M ?_
           refine bJ ?_
           refine cT M ?_
           refine bJ ?_
           refine cR ?_
           refine aM ?_
           obtain ⟨x53,hx53,h⟩:=aZ h
           refine dH M [⟨[3],[],[(78,.nils)],[]⟩,
            ⟨[0],[],[(79,.ref 1000 0)],[]⟩,
            ⟨[79],[],[(80,.ref 1000 0)],[]⟩,
            ⟨[80],[],[(81,.ref 1000 6)],[]⟩,
            ⟨[0],[],[(82,.ref 1000 0)],[]⟩,
            ⟨[82],[],[(83,.ref 1000 0)],[]⟩,
            ⟨[83],[],[(84,.ref 1000 7)],[]⟩,
            ⟨[81,84],[0],[(85,.osl 0 (eRef 1000).sz (([6,7]:(List Nat)).length))],[(0,.blk 150 (D.flat (([6,7]:(List Nat)).map (eRef 1000).d)))]⟩,
            ⟨[78,85],[0,1],[(86,.osl 1 (eRef 1000).sz x53.length)],[(1,.blk 150 (D.flat (x53.map (eRef 1000).d)))]⟩,
            ⟨[86],[],[(3,.osl 1 (eRef 1000).sz x53.length)],[]⟩] M ?_ (by kernel_rfl) ?_
           ·refine .cons (lop M M fun S hA=>(aK M M (lb M) (sv (d:=.nils) (agr hA M M)))) ?_
            refine .cons (lop M M fun S hA=>(aK M M (lb M) (svaR hA M M))) ?_
            refine .cons (lop M M fun S hA=>(bO M M (lb M) (svaR hA M M))) ?_
            refine .cons (lop M M fun S hA=>(aO M M (lb M) underlying50 M ti3 (by decide) (svaR hA M M) (off':=6) M)) ?_
            refine .cons (lop M M fun S hA=>(aK M M (lb M) (svaR hA M M))) ?_
            refine .cons (lop M M fun S hA=>(bO M M (lb M) (svaR hA M M))) ?_
            refine .cons (lop M M fun S hA=>(aO M M (lb M) underlying50 M ti3 (by decide) (svaR hA M M) (off':=7) M)) ?_
            refine .cons (lop M M fun S hA=>(kG (eRef 1000) ([6,7]:(List Nat)) 0 M M (lb M) underlying148 nY (agi hA M M) (.cons (svaR hA M M) (.cons (svaR hA M M) .nil)) M M (by decide))) ?_
            refine .cons (lop M M fun S hA=>(mO (eRef 1000) 1 M M (lb M) underlying148 nY M (agr hA M M) (agi hA M M) (rD (eRef 1000) (agr hA M M) M (agi hA M M)) hx53)) ?_
            refine .cons (lop M M fun S hA=>(aE M M (lb M) (sv (d:=.osl _ _ _) (agr hA M M)))) ?_
            exact .nil
           refine cQ ?_
           refine cR ?_
           refine aM ?_
           refine aC (aA M (aK M M (lb M) (sv (d:=.osl _ _ _) M))<|aA M (aE M M (lb M) (sv (d:=.osl _ _ _) M))<|aB ?_)
           refine aT ?_
           obtain rfl:=sj_ h
           refine ⟨.inr M,(fun i=>if i=0 then 1 else i),⟨.nil,(.cons (.blk M M M) (.cons (EntW.lstR M M) .nil)),cA [1000,1] M (by decide),(fun i hi=>by first | rfl | (show (if _ then _ else _)=_; (repeat' split) <;> omega))⟩,(.cons (sv M) .nil),M⟩
          ·
           replace h:=bT h hc52
           refine aV ?_
           refine aM ?_
           refine cQ ?_
           refine cT M ?_
           refine bJ ?_
           refine cT M ?_
           refine bJ ?_
           refine cT M ?_
           refine bJ ?_
           refine cT M ?_
           refine bJ ?_
           refine cT M ?_
           refine bJ ?_
           refine cT M ?_
           refine bJ ?_
           refine cT M ?_
           refine bJ ?_
           refine cR ?_
           refine aM ?_
           refine aC (aA M (aK M M (lb M) (sv (d:=.nils) M))<|aA M (aE M M (lb M) (sv (d:=.nils) M))<|aB ?_)
           refine aT ?_
           obtain rfl:=sj_ h
           refine ⟨.inr M,(fun i=>if i=0 then 50 else i),⟨.nil,(.cons (.blk M M M) (.cons (.nilb M) .nil)),cA [1000,50] M (by decide),(fun i hi=>by first | rfl | (show (if _ then _ else _)=_; (repeat' split) <;> omega))⟩,(.cons (svno M) .nil),M⟩
 ·
  rintro v26 h
  unfold fM at h
  obtain ⟨x27,hx27,h⟩:=aZ h
  refine aC (aA M (aK M M (lb M) (sv (d:=.osl _ _ _) M))<|aA M (mvR M M M M)<|aA M (bO M M (lb M) (svR M))<|aA M (faR 6 M M M underlying50 M ti3 (lb M) M M)<|aA M (kG (eRef 1000) ([6]:(List Nat)) 2 M M (lb M) underlying148 nY M (.cons (svR M) .nil) M M (by decide))<|aA M (lQ (eRef 1000) 3 M M (lb M) underlying148 nY M M M M M (rD (eRef 1000) M M M) hx27)<|aA M (aE M M (lb M) (sv (d:=.osl _ _ _) M))<|aB ?_)
  refine cQ ?_
  refine cT M ?_
  refine bJ ?_
  refine cR ?_
  refine aM ?_
  refine aC (aA M (aK M M (lb M) (sv (d:=.osl _ _ _) M))<|aA M (aE M M (lb M) (sv (d:=.osl _ _ _) M))<|aB ?_)
  refine aT ?_
  obtain rfl:=sj_ h
  refine ⟨.inr M,(fun i=>if i=0 then 3 else i),⟨.nil,(.cons (.blk M M M) (.cons (EntW.lstR M M) .nil)),cA [1000,3] M (by decide),(fun i hi=>by first | rfl | (show (if _ then _ else _)=_; (repeat' split) <;> omega))⟩,(.cons (sv M) .nil),M⟩

theorem aA0 (a0:(List UInt8)) (r:((List Int) × Int)) (h:pM a0=some r):cJ prog 131 [.str a0] (retD [.slice false (r.1.map (eInt .i64).d),.int .i64 r.2]):=by
 refine bC (rs:=[.slice false (r.1.map (eInt .i64).d),.int .i64 r.2]) func131 M ntmps131 (nle M) M fun O hO=>?_
 show IWP _ _ _ _ ⟨[(0,.str a0)],[]⟩ _
 unfold pM at h
 refine aC (aA M (aE M M (lb M) (sv (d:=.nils) M))<|aA M (aE M M (lb M) (sv (d:=.int _ 0) M))<|aB ?_)
 refine aC (aA M (aE M M (lb M) (sv (d:=.nils) M))<|aB ?_)
 refine aW ?_
 refine bG ?_
 refine dA (α:=Nat × (List UInt8) × (List Int)) (fun z=>⟨[(0,.str z.2.1),(4,.gsl 21 (eInt .i64).sz (z.2.2.map (eInt .i64).d))],[(21,.tail 3 (eInt .i64).sz z.2.2.length)]⟩) (fun z=>kC z.1 z.2.1 z.2.2=some r) (fun z=>z.1) (fuel,a0,([]:(List Int))) (fun i=>if i=21 then 71 else i) ⟨(.s M M (.cons (.nils M) .nil)),(.cons (.nils M) .nil),cA [71] M (by decide),(fun i hi=>by first | rfl | (show (if _ then _ else _)=_; (repeat' split) <;> omega))⟩ ?_ ?_
 ·exact h
 ·
  rintro ⟨n0,v8,v9⟩ h
  cases n0 with
  | zero=>exact absurd h (by unfold kC; exact nofun)
  | succ n0 =>
   unfold kC at h
   refine aW ?_
   obtain ⟨x17,hx17,h⟩:=aS h
   refine aC (aA M (aK M M (lb M) (sv (d:=.str _) M))<|aA M (jC M M (lb M) (sv (d:=.str _) M) (sv (d:=.str []) M) M hx17)<|aB ?_)
   refine aR (b:=_) M (fun hc18=>?_) (fun hc18=>?_)
   ·
    replace h:=bS h hc18
    refine aV ?_
    refine aM ?_
    refine bG ?_
    obtain ⟨x19,hx19,h⟩:=aZ h
    refine aC (aA M (aK M M (lb M) (sv (d:=.str _) M))<|aA M (aX (r:=.tuple q22) M M (lb M) cl124 (.cons (sv (d:=.str _) M) .nil) M (rL _ _ hx19))<|aA M (aK M M (lb M) (sv (d:=.tuple q22) M))<|aA M (bD (d:=.int _ _) M M (lb M) (sv (d:=.tuple q22) M) M)<|aA M (bD (d:=.int _ _) M M (lb M) (sv (d:=.tuple q22) M) M)<|aA M (bD (d:=.int _ _) M M (lb M) (sv (d:=.tuple q22) M) M)<|aA M (asI M M M M)<|aA M (asI M M M M)<|aA M (asI M M M M)<|aB ?_)
    refine aW ?_
    obtain ⟨x20,hx20,h⟩:=aS h
    refine aC (aA M (mvI M M M M)<|aA M (aP M M (lb M) (svI M) (sv (d:=.int _ 0) M) M hx20)<|aB ?_)
    refine aR (b:=_) M (fun hc21=>?_) (fun hc21=>?_)
    ·
     replace h:=bS h hc21
     refine aC (aA M (mvI M M M M)<|aA M (aE M M (lb M) (sv (d:=.nils) M))<|aA M (asI M M M M)<|aB ?_)
     refine aT ?_
     refine bA ?_
     refine bP ?_
     refine bA ?_
     refine bP ?_
     refine bA ?_
     obtain rfl:=sj_ h
     refine ⟨.inr M,(.cons (tU M M) (.cons (sv M) .nil))⟩
    ·
     replace h:=bT h hc21
     refine aV ?_
     refine aM ?_
     obtain ⟨x22,hx22,h⟩:=aZ h
     refine aC (aA M (aK M M (lb M) (sv (d:=.gsl _ _ _) M))<|aA M (mvI M M M M)<|aA M (oP (eInt .i64) ([x19.1]:(List Int)) 22 M M (lb M) underlying147 ti3 M (.cons (svI M) .nil) M M (by decide))<|aA M (mN (eInt .i64) 23 M M (lb M) underlying147 ti3 M M M M (svg M) hx22)<|aA M (aE M M (lb M) (sv (d:=.gsl _ _ _) M))<|aB ?_)
     obtain ⟨x23,hx23,h⟩:=aZ h
     refine bE (aA M (aK M M (lb M) (sv (d:=.str _) M))<|aA M (mvI M M M M)<|aA M (jO M M (lb M) underlying9 (sv (d:=.str _) M) ⟨_,(svI M)⟩ M hx23)<|aA M (aE M M (lb M) (sv (d:=.str _) M))<|cB ?_)
     refine bZ ?_
     refine aM ⟨(n0,x23,x22),(fun i=>if i=21 then 23 else i),⟨(.sames M M),(.cons (.tail M) .nil),cA [23] M (by decide),(fun i hi=>by first | rfl | (show (if _ then _ else _)=_; (repeat' split) <;> omega))⟩,?_,?_⟩
     exact h
     exact Nat.lt_succ_self _
   ·
    replace h:=bT h hc18
    refine cQ ?_
    refine bJ ?_
    refine bJ ?_
    refine cR ?_
    refine aM ?_
    refine aC (aA M (aK M M (lb M) (sv (d:=.gsl _ _ _) M))<|aA M (aE M M (lb M) (sv (d:=.gsl _ _ _) M))<|aA M (aE M M (lb M) (sv (d:=.int _ 0) M))<|aB ?_)
    refine aT ?_
    obtain rfl:=sj_ h
    refine ⟨.inr M,(.cons (yS M M) (.cons (sv M) .nil))⟩

theorem wI (a0:(List UInt8)) (r:((List bL) × Bool)) (h:kQ a0=some r):cJ prog 125 [.str a0] (retD [.slice false (r.1.map bR.d),.bool r.2]):=by
 refine bC (rs:=[.slice false (r.1.map bR.d),.bool r.2]) func125 M ntmps125 (nle M) M fun O hO=>?_
 show IWP _ _ _ _ ⟨[(0,.str a0)],[]⟩ _
 unfold kQ at h
 refine aC (aA M (aE M M (lb M) (sv (d:=.nils) M))<|aA M (aE M M (lb M) (sv (d:=.bool false) M))<|aB ?_)
 obtain ⟨x1,hx1,h⟩:=aZ h
 refine aC (aA M (aK M M (lb M) (sv (d:=.str _) M))<|aA M (aX (r:=.tuple q26) M M (lb M) cl131 (.cons (sv (d:=.str _) M) .nil) M (aA0 _ _ hx1))<|aA M (aK M M (lb M) (sv (d:=.tuple q26) M))<|aA M (bD (d:=.slice _ _) M M (lb M) (sv (d:=.tuple q26) M) M)<|aA M (bD (d:=.int _ _) M M (lb M) (sv (d:=.tuple q26) M) M)<|aA M (aE M M (lb M) (svL M))<|aA M (asI M M M M)<|aB ?_)
 refine aW ?_
 obtain ⟨x2,hx2,h⟩:=aS h
 obtain ⟨x3,hx3,h⟩:=aZ h
 obtain ⟨x4,hx4,h⟩:=aS h
 obtain ⟨x5,hx5,h⟩:=aS h
 refine aC (aA M (mvI M M M M)<|aA M (aP M M (lb M) (svI M) (sv (d:=.int _ 0) M) M hx2)<|aA M (mvB M M M M)<|aF M M (.one M) M (by decide) (fun hb=>(mvL M M M M))<|aF M M (.one M) M (by decide) (fun hb=>(cN (eInt .i64) (l:=x1.1) M M (lb M) underlying147 (svcL M hb)))<|aF M M (.one M) M (by decide) (fun hb=>(uO M M (lb M) (svcI M hb) (sv (d:=.int _ 2) M) (gd_t hx3 hb)))<|aF M M (.one M) M (by decide) (fun hb=>(aP M M (lb M) (svcI M hb) (sv (d:=.int _ 1) M) M hx4))<|aA M (dT M M (lb M) (svB M) M M hx5)<|aB ?_)
 refine aR (b:=_) M (fun hc6=>?_) (fun hc6=>?_)
 ·
  replace h:=bS h hc6
  refine aC (aA M (aE M M (lb M) (sv (d:=.nils) M))<|aA M (aE M M (lb M) (sv (d:=.bool false) M))<|aB ?_)
  refine aT ?_
  refine bA ?_
  obtain rfl:=sj_ h
  refine ⟨.inr M,(.cons (tU M M) (.cons (sv M) .nil))⟩
 ·
  replace h:=bT h hc6
  refine aV ?_
  refine aM ?_
  refine aC (aA M (aE M M (lb M) (sv (d:=.nils) M))<|aB ?_)
  refine aW ?_
  refine bG ?_
  refine dA (α:=Nat × (List Int) × (List bL)) (fun z=>⟨[(4,.slice false (z.2.1.map (eInt .i64).d)),(6,.gsl 21 bR.sz (z.2.2.map bR.d))],[(21,.tail 136 bR.sz z.2.2.length)]⟩) (fun z=>gB z.1 z.2.1 z.2.2=some r) (fun z=>z.1) (fuel,x1.1,([]:(List bL))) (fun i=>if i=21 then 71 else i) ⟨(.s M M (.cons (.nils M) .nil)),(.cons (.nils M) .nil),cA [71] M (by decide),(fun i hi=>by first | rfl | (show (if _ then _ else _)=_; (repeat' split) <;> omega))⟩ ?_ ?_
  ·exact h
  ·
   rintro ⟨n0,v13,v14⟩ h
   cases n0 with
   | zero=>exact absurd h (by unfold gB; exact nofun)
   | succ n0 =>
    unfold gB at h
    refine aW ?_
    obtain ⟨x21,hx21,h⟩:=aS h
    refine aC (aA M (mvL M M M M)<|aA M (cN (eInt .i64) (l:=v13) M M (lb M) underlying147 (svL M))<|aA M (aP M M (lb M) (svI M) (sv (d:=.int _ 0) M) M hx21)<|aB ?_)
    refine aR (b:=_) M (fun hc22=>?_) (fun hc22=>?_)
    ·
     replace h:=bS h hc22
     refine aV ?_
     refine aM ?_
     refine aW ?_
     refine bG ?_
     obtain ⟨x23,hx23,h⟩:=aZ h
     obtain ⟨x24,hx24,h⟩:=aZ h
     obtain ⟨x25,hx25,h⟩:=aZ h
     refine qO M [⟨[6],[],[(25,.gsl 21 bR.sz (v14.map bR.d))],[]⟩,
      ⟨[4],[],[(26,.slice false (v13.map (eInt .i64).d))],[]⟩,
      ⟨[26],[],[(27,.fptr [.int .i64 x23])],[]⟩,
      ⟨[27],[],[(28,.int .i64 x23)],[]⟩,
      ⟨[4],[],[(29,.slice false (v13.map (eInt .i64).d))],[]⟩,
      ⟨[29],[],[(30,.fptr [.int .i64 x24])],[]⟩,
      ⟨[30],[],[(31,.int .i64 x24)],[]⟩,
      ⟨[28,31],[],[(32,.agg [.int .i64 x23,.int .i64 x24])],[]⟩,
      ⟨[32],[22],[(33,.gsl 22 bR.sz ((([(⟨x23,x24⟩:bL)]:(List bL))).map bR.d))],[(22,.tail 136 bR.sz (([(⟨x23,x24⟩:bL)]:(List bL))).length)]⟩,
      ⟨[25,33],[21,23],[(34,.gsl 23 bR.sz (x25.map bR.d))],[(23,.tail 136 bR.sz x25.length),(21,.none)]⟩,
      ⟨[34],[],[(6,.gsl 23 bR.sz (x25.map bR.d))],[]⟩] M ?_ (by kernel_rfl) ?_
     ·refine .cons (lop M M fun S hA=>(aK M M (lb M) (sv (d:=.gsl _ _ _) (agr hA M M)))) ?_
      refine .cons (lop M M fun S hA=>(aK M M (lb M) (svaL hA M M))) ?_
      refine .cons (lop M M fun S hA=>(dB (eInt .i64) (cs:=[.int _ _]) M M (lb M) underlying147 ti3 (svaL hA M M) (sv (d:=.int _ 0) M) hx23 M M)) ?_
      refine .cons (lop M M fun S hA=>(eB M M (lb M) underlying3 ag3 ti3 (by decide) (sv (d:=.fptr [.int _ _]) (agr hA M M)) (nle M))) ?_
      refine .cons (lop M M fun S hA=>(aK M M (lb M) (svaL hA M M))) ?_
      refine .cons (lop M M fun S hA=>(dB (eInt .i64) (cs:=[.int _ _]) M M (lb M) underlying147 ti3 (svaL hA M M) (sv (d:=.int _ 1) M) hx24 M M)) ?_
      refine .cons (lop M M fun S hA=>(eB M M (lb M) underlying3 ag3 ti3 (by decide) (sv (d:=.fptr [.int _ _]) (agr hA M M)) (nle M))) ?_
      refine .cons (lop M M fun S hA=>(cF (cs:=q27) M M (lb M) underlying136 rC pl136 M (.cons (svaI hA M M) (.cons (svaI hA M M) .nil)) M)) ?_
      refine .cons (lop M M fun S hA=>(oP bR ([(⟨x23,x24⟩:bL)]:(List bL)) 22 M M (lb M) underlying42 rC (agi hA M M) (.cons (svaA q27 hA M M) .nil) M M (by decide))) ?_
      refine .cons (lop M M fun S hA=>(mN bR 23 M M (lb M) underlying42 rC M (agr hA M M) (agi hA M M) (agi hA M M) (svg (agr hA M M)) hx25)) ?_
      refine .cons (lop M M fun S hA=>(aE M M (lb M) (sv (d:=.gsl _ _ _) (agr hA M M)))) ?_
      exact .nil
     refine bZ ?_
     refine aM ?_
     obtain ⟨x26,hx26,h⟩:=aZ h
     refine bE (aA M (mvL M M M M)<|aA M (uS (eInt .i64) M M (lb M) underlying147 ti3 (svL M) ⟨_,(sv (d:=.int _ 2) M)⟩ M hx26)<|aA M (aE M M (lb M) (svL M))<|cB ?_)
     refine aM ⟨(n0,x26,x25),(fun i=>if i=21 then 23 else i),⟨(.sames M M),(.cons (.tail M) .nil),cA [23] M (by decide),(fun i hi=>by first | rfl | (show (if _ then _ else _)=_; (repeat' split) <;> omega))⟩,?_,?_⟩
     exact h
     exact Nat.lt_succ_self _
    ·
     replace h:=bT h hc22
     refine cQ ?_
     refine bJ ?_
     refine bJ ?_
     refine cR ?_
     refine aM ?_
     refine aC (aA M (aK M M (lb M) (sv (d:=.gsl _ _ _) M))<|aA M (aE M M (lb M) (sv (d:=.gsl _ _ _) M))<|aA M (aE M M (lb M) (sv (d:=.bool true) M))<|aB ?_)
     refine aT ?_
     obtain rfl:=sj_ h
     refine ⟨.inr M,(.cons (yS M M) (.cons (sv M) .nil))⟩

theorem sP (a0:(List UInt8)) (a1:aH) (r:(Bool × aH)) (h:jD a0 a1=some r):FnH prog 109 [.ref 1000 0,.str a0] [(1000,.blk 50 (v2 a1))] (.bool r.1) [(1000,.blk 50 (v2 r.2))]:=by
 refine fN (rs:=[.bool r.1]) func109 M ntmps109 (nle M) fun O hO=>?_
 show IWP _ _ _ _ ⟨[(0,.ref 1000 0),(1,.str a0)],[(1000,.blk 50 (v2 a1))]⟩ _
 unfold jD at h
 refine aC (aA M (aE M M (lb M) (sv (d:=.bool false) M))<|aB ?_)
 refine aW ?_
 obtain ⟨x1,hx1,h⟩:=aZ h
 refine aC (aA M (mvR M M M M)<|aA M (eN (r':=.osl 0 (eRef 1000).sz x1.length) (H1':=[(1000,.blk 50 (v2 a1)),(0,.blk 150 (D.flat (x1.map (eRef 1000).d)))]) 0 [1000] M M (lb M) cl82 (.cons (svR M) .nil) M M ⟨M,M,by decide,M,List.forall_mem_cons.2 ⟨⟨M,M,M,M⟩,List.forall_mem_nil _⟩⟩ (kE _ _ hx1) M M (List.forall_mem_cons.2 ⟨⟨M,M⟩,List.forall_mem_cons.2 ⟨⟨M,(aD8 M)⟩,List.forall_mem_nil _⟩⟩) (by simp only [List.map_cons,List.map_nil,Ent.ren,fR,gL]; rfl))<|aA M (nH M M (lb M) underlying148 (sv (d:=.osl _ _ _) M))<|aA M (aK M M (lb M) (sv (d:=.int _ 0) M))<|aB ?_)
 refine bG ?_
 refine dA (α:=Nat × (List UInt8) × Int × Int × Int × Int × Int × Int × Int) (fun z=>⟨[(0,.ref 1000 0),(1,.str z.2.1),(13,.osl 0 (eRef 1000).sz x1.length),(14,.int .i64 (x1.length:Int)),(15,.int .i64 z.2.2.1)],[(1000,.blk 50 (w39 a1.Kind a1.Flag z.2.2.2.1 z.2.2.2.2.1 z.2.2.2.2.2.1 z.2.2.2.2.2.2.1 z.2.2.2.2.2.2.2.1 z.2.2.2.2.2.2.2.2 a1.Pairs a1.Data)),(0,.blk 150 (D.flat (x1.map (eRef 1000).d)))]⟩) (fun z=>eW a1 x1 z.1 z.2.1 z.2.2.1 z.2.2.2.1 z.2.2.2.2.1 z.2.2.2.2.2.1 z.2.2.2.2.2.2.1 z.2.2.2.2.2.2.2.1 z.2.2.2.2.2.2.2.2=some r) (fun z=>z.1) (fuel,a0,0,a1.Stream,a1.Offset,a1.Dep,a1.Weight,a1.N,a1.Code) (fun i=>i) ⟨(.sames M M),(.cons (.blk M M M) (.cons (EntW.lstR M M) .nil)),cA [1000,0] M (by decide),fun _ _=>M⟩ ?_ ?_
 ·exact h
 ·
  rintro ⟨n0,v12,v13,v14,v15,v16,v17,v18,v19⟩ h
  cases n0 with
  | zero=>exact absurd h (by unfold eW; exact nofun)
  | succ n0 =>
   unfold eW at h
   obtain ⟨x30,hx30,h⟩:=aS h
   refine aC (aA M (aP M M (lb M) (svI M) (svI M) M hx30)<|aB ?_)
   refine aW ?_
   refine aR (b:=_) M (fun hc31=>?_) (fun hc31=>?_)
   ·
    replace h:=bS h hc31
    refine aV ?_
    refine aM ?_
    refine aW ?_
    refine bG ?_
    obtain ⟨x32,hx32,h⟩:=aZ h
    obtain ⟨x33,hx33,h⟩:=aZ h
    refine aC (aA M (jN (eRef 1000) M M (lb M) underlying148 nY (sv (d:=.osl _ _ _) M) M (svI M) hx32)<|aA M (lJ (eRef 1000) (d:=.ref _ _) M M (lb M) underlying150 ag150 nY (by decide) (svR M) M hx33 (nle M) M)<|aA M (aE M M (lb M) (svR M))<|aB ?_)
    obtain ⟨x34,hx34,h⟩:=aZ h
    refine aC (aA M (aK M M (lb M) (sv (d:=.str _) M))<|aA M (aX (r:=.tuple q22) M M (lb M) cl124 (.cons (sv (d:=.str _) M) .nil) M (rL _ _ hx34))<|aA M (aK M M (lb M) (sv (d:=.tuple q22) M))<|aA M (bD (d:=.int _ _) M M (lb M) (sv (d:=.tuple q22) M) M)<|aA M (bD (d:=.int _ _) M M (lb M) (sv (d:=.tuple q22) M) M)<|aA M (bD (d:=.int _ _) M M (lb M) (sv (d:=.tuple q22) M) M)<|aA M (asI M M M M)<|aA M (asI M M M M)<|aA M (asI M M M M)<|aB ?_)
    refine aW ?_
    obtain ⟨x35,hx35,h⟩:=aS h
    refine aC (aA M (mvI M M M M)<|aA M (aP M M (lb M) (svI M) (sv (d:=.int _ 0) M) M hx35)<|aB ?_)
    refine aR (b:=_) M (fun hc36=>?_) (fun hc36=>?_)
    ·
     replace h:=bS h hc36
     refine aC (aA M (aE M M (lb M) (sv (d:=.bool false) M))<|aB ?_)
     refine aT ?_
     refine bA ?_
     refine bP ?_
     refine bA ?_
     refine bA ?_
     refine bP ?_
     refine bA ?_
     obtain rfl:=sj_ h
     refine ⟨.inr M,(fun i=>i),⟨.nil,(.cons (.blk M M M) .nil),cA [1000] M (by decide),fun _ _=>M⟩,(.cons (sv M) .nil),M⟩
    ·
     replace h:=bT h hc36
     refine aV ?_
     refine aM ?_
     obtain ⟨x37,hx37,h⟩:=aZ h
     refine aC (aA M (mvR M M M M)<|aA M (mvI M M M M)<|aA M (bO M M (lb M) (svR M))<|aA M (uL (cs':=(w39 a1.Kind a1.Flag (bif Nat.beq x33 2 then x34.1 else v14) (bif Nat.beq x33 3 then x34.1 else v15) (bif Nat.beq x33 4 then x34.1 else v16) (bif Nat.beq x33 5 then x34.1 else v17) (bif Nat.beq x33 6 then x34.1 else v18) (bif Nat.beq x33 7 then x34.1 else v19) a1.Pairs a1.Data)) M M ti3 (svR M) M (svI M) hx37 M)<|aB ?_)
     obtain ⟨x38,hx38,h⟩:=aZ h
     refine bE (aA M (aK M M (lb M) (sv (d:=.str _) M))<|aA M (mvI M M M M)<|aA M (jO M M (lb M) underlying9 (sv (d:=.str _) M) ⟨_,(svI M)⟩ M hx38)<|aA M (aE M M (lb M) (sv (d:=.str _) M))<|cB ?_)
     refine bZ ?_
     refine aM ?_
     obtain ⟨x39,hx39,h⟩:=aS h
     refine bE (aA M (bN M M (lb M) (svI M) (sv (d:=.int _ 1) M) M hx39)<|aA M (mvI M M M M)<|cB ?_)
     refine aM ⟨(n0,x38,x39,(bif Nat.beq x33 2 then x34.1 else v14),(bif Nat.beq x33 3 then x34.1 else v15),(bif Nat.beq x33 4 then x34.1 else v16),(bif Nat.beq x33 5 then x34.1 else v17),(bif Nat.beq x33 6 then x34.1 else v18),(bif Nat.beq x33 7 then x34.1 else v19)),(fun i=>i),⟨(.sames M M),(.cons (.blk M M M) (.cons (EntW.lstR M M) .nil)),cA [1000,0] M (by decide),fun _ _=>M⟩,?_,?_⟩
     exact h
     exact Nat.lt_succ_self _
   ·
    replace h:=bT h hc31
    refine cQ ?_
    refine bJ ?_
    refine bJ ?_
    refine cR ?_
    refine aM ?_
    refine aW ?_
    refine aC (aA M (mvR M M M M)<|aA M (bO M M (lb M) (svR M))<|aA M (faR 0 M M M underlying50 M ti5 (lb M) M M)<|aA M (aG (d:=.int _ _) M M (lb M) underlying5 ag5 ti5 (by decide) (svR M) M (nle M) M)<|aB ?_)
    refine bG ?_
    obtain ⟨x40,hx40,h⟩:=aS h
    refine aC (aA M (aP M M (lb M) (svI M) (sv (d:=.int _ 0) M) M hx40)<|aA M (asB M M M M)<|aB ?_)
    refine aR (b:=_) M (fun hc41=>?_) (fun hc41=>?_)
    ·
     replace h:=bS h hc41
     refine aC (aA M (mvR M M M M)<|aA M (aK M M (lb M) (sv (d:=.str _) M))<|aA M (bO M M (lb M) (svR M))<|aA M (faR 9 M M M underlying50 M ti9 (lb M) M M)<|aA M (bQ (ds':=q12) M M ti9 (svR M) M (sv (d:=.str _) M) M M M (nle M) M)<|aB ?_)
     refine aC (aA M (aE M M (lb M) (sv (d:=.bool true) M))<|aB ?_)
     refine aT ?_
     refine bP ?_
     refine bA ?_
     obtain rfl:=sj_ h
     refine ⟨.inr M,(fun i=>i),⟨.nil,(.cons (.blk M M M) .nil),cA [1000] M (by decide),fun _ _=>M⟩,(.cons (sv M) .nil),M⟩
    ·
     replace h:=bT h hc41
     obtain ⟨x42,hx42,h⟩:=aS h
     refine aC (aA M (aP M M (lb M) (svI M) (sv (d:=.int _ 4) M) M hx42)<|aA M (asB M M M M)<|aB ?_)
     refine aR (b:=_) M (fun hc43=>?_) (fun hc43=>?_)
     ·
      replace h:=bS h hc43
      obtain ⟨x44,hx44,h⟩:=aZ h
      refine aC (aA M (aK M M (lb M) (sv (d:=.str _) M))<|aA M (aX (r:=.tuple [.slice _ _,.bool _]) M M (lb M) cl125 (.cons (sv (d:=.str _) M) .nil) M (wI _ _ hx44))<|aA M (aK M M (lb M) (sv (d:=.tuple [.slice _ _,.bool _]) M))<|aA M (bD (d:=.slice _ _) M M (lb M) (sv (d:=.tuple [.slice _ _,.bool _]) M) M)<|aA M (bD (d:=.bool _) M M (lb M) (sv (d:=.tuple [.slice _ _,.bool _]) M) M)<|aA M (aE M M (lb M) (svL M))<|aA M (asB M M M M)<|aB ?_)
      refine aC (aA M (mvR M M M M)<|aA M (mvL M M M M)<|aA M (bO M M (lb M) (svR M))<|aA M (faR 8 M M M underlying50 M ti42 (lb M) M M)<|aA M (bQ (ds':=q12) M M ti42 (svR M) M (svL M) M M M (nle M) M)<|aB ?_)
      refine aC (aA M (mvB M M M M)<|aA M (asB M M M M)<|aB ?_)
      refine aT ?_
      refine bP ?_
      refine bA ?_
      obtain rfl:=sj_ h
      refine ⟨.inr M,(fun i=>i),⟨.nil,(.cons (.blk M M M) .nil),cA [1000] M (by decide),fun _ _=>M⟩,(.cons (sv M) .nil),M⟩
     ·
      replace h:=bT h hc43
      refine aV ?_
      refine bZ ?_
      refine aM ?_
      obtain ⟨x45,hx45,h⟩:=aS h
      refine aC (aA M (aK M M (lb M) (sv (d:=.str _) M))<|aA M (jC M M (lb M) (sv (d:=.str _) M) (sv (d:=.str []) M) M hx45)<|aA M (asB M M M M)<|aB ?_)
      refine aT ?_
      obtain rfl:=sj_ h
      refine ⟨.inr M,(fun i=>i),⟨.nil,(.cons (.blk M M M) .nil),cA [1000] M (by decide),fun _ _=>M⟩,(.cons (sv M) .nil),M⟩

theorem mD (a0:Int) (a1:Int) (a2:Int) (r:Bool) (h:mP a0 a1 a2=some r):cJ prog 112 [.int .i64 a0,.int .i64 a1,.int .i64 a2] (.bool r):=by
 refine bC (rs:=[.bool r]) func112 M ntmps112 (nle M) M fun O hO=>?_
 show IWP _ _ _ _ ⟨[(0,.int .i64 a0),(1,.int .i64 a1),(2,.int .i64 a2)],[]⟩ _
 unfold mP at h
 refine aC (aA M (aE M M (lb M) (sv (d:=.bool false) M))<|aB ?_)
 obtain ⟨x1,hx1,h⟩:=aS h
 obtain ⟨x2,hx2,h⟩:=aS h
 obtain ⟨x3,hx3,h⟩:=aS h
 refine aC (aA M (mvI M M M M)<|aA M (mvI M M M M)<|aA M (aP M M (lb M) (svI M) (svI M) M hx1)<|aA M (mvB M M M M)<|aF M M (.one M) M (by decide) (fun hb=>(mvI M M M M))<|aF M M (.one M) M (by decide) (fun hb=>(mvI M M M M))<|aF M M (.one M) M (by decide) (fun hb=>(aP M M (lb M) (svcI M hb) (svcI M hb) M hx2))<|aA M (cC M M (lb M) (svB M) M M hx3)<|aA M (asB M M M M)<|aB ?_)
 refine aT ?_
 obtain rfl:=sj_ h
 refine ⟨.inr M,(.cons (sv M) .nil)⟩

theorem rA (a0:bL) (r:Bool) (h:gT a0=some r):cJ prog 113 [.agg [.int .i64 a0.ID,.int .i64 a0.Value]] (.bool r):=by
 refine bC (rs:=[.bool r]) func113 M ntmps113 (nle M) M fun O hO=>?_
 show IWP _ _ _ _ ⟨[(0,.agg [.int .i64 a0.ID,.int .i64 a0.Value])],[]⟩ _
 unfold gT at h
 refine aC (aA M (bV (cs:=q27) 0 M M (lb M) M (svA q27 M) M M)<|aA M (aE M M (lb M) (sv (d:=.bool false) M))<|aB ?_)
 obtain ⟨x1,hx1,h⟩:=aZ h
 obtain ⟨x2,hx2,h⟩:=aZ h
 obtain ⟨x3,hx3,h⟩:=aS h
 refine aC (aA M (faR 0 M M M underlying136 M ti3 (lb M) M M)<|aA M (aG (d:=.int _ _) M M (lb M) underlying3 ag3 ti3 (by decide) (svR M) M (nle M) M)<|aA M (aX (r:=.bool _) M M (lb M) aBb (.cons (svI M) (.cons (sv (d:=.int _ 0) M) (.cons (sv (d:=.int _ 1099511627776) M) .nil))) M (mD _ _ _ _ hx1))<|aA M (dN M M (lb M) (svB M))<|aA M (mvB M M M M)<|aF M M (.one M) M (by decide) (fun hb=>(faR 1 M M M underlying136 M ti3 (lb M) M M))<|aF M M (.one M) M (by decide) (fun hb=>(aG (d:=.int _ _) M M (lb M) underlying3 ag3 ti3 (by decide) (svcR M hb) M (nle M) M))<|aF M M (.one M) M (by decide) (fun hb=>(aX (r:=.bool _) M M (lb M) aBb (.cons (svcI M hb) (.cons (sv (d:=.int _ 0) M) (.cons (sv (d:=.int _ 1099511627776) M) .nil))) M (mD _ _ _ _ (gd_t hx2 hb))))<|aF M M (.one M) M (by decide) (fun hb=>(dN M M (lb M) (svcB M hb)))<|aA M (dT M M (lb M) (svB M) M M hx3)<|aA M (asB M M M M)<|aB ?_)
 refine aT ?_
 obtain rfl:=sj_ h
 refine ⟨.inr M,(.cons (sv M) .nil)⟩

theorem jS (a0:(List bL)) (r:Int) (h:dX a0=some r):cJ prog 126 [.slice false (a0.map bR.d),.fn 113 []] (.int .i64 r):=by
 refine bC (rs:=[.int .i64 r]) func126 M ntmps126 (nle M) M fun O hO=>?_
 show IWP _ _ _ _ ⟨[(0,.slice false (a0.map bR.d)),(1,.fn 113 [])],[]⟩ _
 unfold dX at h
 refine aC (aA M (aE M M (lb M) (sv (d:=.int _ 0) M))<|aB ?_)
 refine aW ?_
 refine aC (aA M (mvL M M M M)<|aA M (cN bR (l:=a0) M M (lb M) underlying42 (svL M))<|aA M (aK M M (lb M) (sv (d:=.int _ 0) M))<|aB ?_)
 refine bG ?_
 refine dA (α:=Nat × Int) (fun z=>⟨[(0,.slice false (a0.map bR.d)),(1,.fn 113 []),(7,.int .i64 (a0.length:Int)),(8,.int .i64 z.2)],[]⟩) (fun z=>cK a0 z.1 z.2=some r) (fun z=>z.1) (fuel,0) (fun i=>i) ⟨(.sames M M),.nil,cA [] M (by decide),fun _ _=>M⟩ ?_ ?_
 ·exact h
 ·
  rintro ⟨n0,v7⟩ h
  cases n0 with
  | zero=>exact absurd h (by unfold cK; exact nofun)
  | succ n0 =>
   unfold cK at h
   obtain ⟨x14,hx14,h⟩:=aS h
   refine aC (aA M (aP M M (lb M) (svI M) (svI M) M hx14)<|aB ?_)
   refine aW ?_
   refine aR (b:=_) M (fun hc15=>?_) (fun hc15=>?_)
   ·
    replace h:=bS h hc15
    refine aV ?_
    refine aM ?_
    refine aW ?_
    refine bG ?_
    refine aC (aA M (mvI M M M M)<|aA M (asI M M M M)<|aB ?_)
    obtain ⟨x16,hx16,h⟩:=aZ h
    obtain ⟨x17,hx17,h⟩:=aZ h
    refine aC (aA M (aK M M (lb M) (sv (d:=.fn 113 []) M))<|aA M (mvL M M M M)<|aA M (mvI M M M M)<|aA M (dB bR (cs:=q27) M M (lb M) underlying42 rC (svL M) (svI M) hx16 M M)<|aA M (cX (cs:=q27) M M (lb M) underlying136 aC7 rC (by decide) (sv (d:=.fptr q27) M) (nle M) M)<|aA M (nP (r:=.bool _) M M (lb M) cl113 (sv (d:=.fn 113 []) M) (.cons (svA q27 M) .nil) M (rA _ _ hx17))<|aB ?_)
    refine aR (b:=_) M (fun hc18=>?_) (fun hc18=>?_)
    ·
     replace h:=bS h hc18
     refine aC (aA M (mvI M M M M)<|aA M (asI M M M M)<|aB ?_)
     refine aT ?_
     refine bP ?_
     refine bA ?_
     refine bA ?_
     refine bP ?_
     refine bA ?_
     obtain rfl:=sj_ h
     refine ⟨.inr M,(.cons (sv M) .nil)⟩
    ·
     replace h:=bT h hc18
     refine aV ?_
     refine bZ ?_
     refine aM ?_
     obtain ⟨x19,hx19,h⟩:=aS h
     refine bE (aA M (bN M M (lb M) (svI M) (sv (d:=.int _ 1) M) M hx19)<|aA M (mvI M M M M)<|cB ?_)
     refine aM ⟨(n0,x19),(fun i=>i),⟨(.sames M M),.nil,cA [] M (by decide),fun _ _=>M⟩,?_,?_⟩
     exact h
     exact Nat.lt_succ_self _
   ·
    replace h:=bT h hc15
    refine cQ ?_
    refine bJ ?_
    refine bJ ?_
    refine cR ?_
    refine aM ?_
    refine aC (aA M (aE M M (lb M) (sv (d:=.int _ (-1)) M))<|aB ?_)
    refine aT ?_
    obtain rfl:=sj_ h
    refine ⟨.inr M,(.cons (sv M) .nil)⟩

theorem iX (a0:(List bL)) (r:Bool) (h:dC a0=some r):cJ prog 114 [.slice false (a0.map bR.d),.fn 113 []] (.bool r):=by
 refine bC (rs:=[.bool r]) func114 M ntmps114 (nle M) M fun O hO=>?_
 show IWP _ _ _ _ ⟨[(0,.slice false (a0.map bR.d)),(1,.fn 113 [])],[]⟩ _
 unfold dC at h
 refine aC (aA M (aE M M (lb M) (sv (d:=.bool false) M))<|aB ?_)
 obtain ⟨x1,hx1,h⟩:=aZ h
 obtain ⟨x2,hx2,h⟩:=aS h
 refine aC (aA M (mvL M M M M)<|aA M (aK M M (lb M) (sv (d:=.fn 113 []) M))<|aA M (aX (r:=.int _ _) M M (lb M) cl126 (.cons (svL M) (.cons (sv (d:=.fn 113 []) M) .nil)) M (jS _ _ hx1))<|aA M (aP M M (lb M) (svI M) (sv (d:=.int _ 0) M) M hx2)<|aA M (asB M M M M)<|aB ?_)
 refine aT ?_
 obtain rfl:=sj_ h
 refine ⟨.inr M,(.cons (sv M) .nil)⟩

theorem sQ (a0:aH) (r:Bool) (h:jE a0=some r):cJ prog 79 [.agg (v2 a0)] (.bool r):=by
 refine bC (rs:=[.bool r]) func79 M ntmps79 (nle M) M fun O hO=>?_
 show IWP _ _ _ _ ⟨[(0,.agg (v2 a0))],[]⟩ _
 unfold jE at h
 refine aC (aA M (bV (cs:=q12) 0 M M (lb M) M (svA q12 M) M M)<|aA M (aE M M (lb M) (sv (d:=.bool false) M))<|aB ?_)
 refine aC (aA M (aE M M (lb M) (sv (d:=.int _ 0) M))<|aA M (aE M M (lb M) (sv (d:=.int _ 1099511627776) M))<|aA M (aE M M (lb M) (sv (d:=.int _ 255) M))<|aB ?_)
 refine gP (α:=Int × Int × Int) (fun z=>⟨[(1,.ref 0 0),(3,.int .i64 z.1),(4,.int .i64 z.2.1),(5,.int .i64 z.2.2)],[(0,.blk 50 (v2 a0))]⟩) (fun z=>eH a0 z.1 z.2.1 z.2.2=some r) ?_ ?_
 ·
  refine aC (aA M (faR 0 M M M underlying50 M ti5 (lb M) M M)<|aA M (aG (d:=.int _ _) M M (lb M) underlying5 ag5 ti5 (by decide) (svR M) M (nle M) M)<|aB ?_)
  refine bG ?_
  obtain ⟨x29,hx29,h⟩:=aS h
  refine aC (aA M (aP M M (lb M) (svI M) (sv (d:=.int _ 8) M) M hx29)<|aA M (asB M M M M)<|aB ?_)
  refine aR (b:=_) M (fun hc30=>?_) (fun hc30=>?_)
  ·
   replace h:=bS h hc30
   refine bE (aA M (aE M M (lb M) (sv (d:=.int _ 1) M))<|cB ?_)
   refine bZ ?_
   refine aM ⟨(1,1099511627776,255),(fun i=>i),⟨(.sames M M),(.cons (.blk M M M) .nil),cA [0] M (by decide),fun _ _=>M⟩,?_⟩
   exact h
  ·
   replace h:=bT h hc30
   obtain ⟨x31,hx31,h⟩:=aS h
   refine aC (aA M (aP M M (lb M) (svI M) (sv (d:=.int _ 10) M) M hx31)<|aA M (asB M M M M)<|aB ?_)
   refine aR (b:=_) M (fun hc32=>?_) (fun hc32=>?_)
   ·
    replace h:=bS h hc32
    refine bE (aA M (aE M M (lb M) (sv (d:=.int _ 3) M))<|aA M (aE M M (lb M) (sv (d:=.int _ 1) M))<|cB ?_)
    refine bZ ?_
    refine aM ⟨(0,3,1),(fun i=>i),⟨(.sames M M),(.cons (.blk M M M) .nil),cA [0] M (by decide),fun _ _=>M⟩,?_⟩
    exact h
   ·
    replace h:=bT h hc32
    refine gP (α:=Bool) (fun z=>⟨[(1,.ref 0 0),(3,.int .i64 0),(4,.int .i64 1099511627776),(5,.int .i64 255),(13,.bool z)],[(0,.blk 50 (v2 a0))]⟩) (fun z=>gH a0 z=some r) ?_ ?_
    ·
     obtain ⟨x40,hx40,h⟩:=aS h
     refine aC (aA M (aP M M (lb M) (svI M) (sv (d:=.int _ 1) M) M hx40)<|aA M (asB M M M M)<|aB ?_)
     refine aR (b:=_) M (fun hc41=>?_) (fun hc41=>?_)
     ·
      replace h:=bS h hc41
      refine aV ?_
      refine aM ⟨x40,(fun i=>i),⟨(.sames M M),(.cons (.blk M M M) .nil),cA [0] M (by decide),fun _ _=>M⟩,?_⟩
      exact h
     ·
      replace h:=bT h hc41
      obtain ⟨x42,hx42,h⟩:=aS h
      refine bE (aA M (aP M M (lb M) (svI M) (sv (d:=.int _ 2) M) M hx42)<|aA M (asB M M M M)<|cB ?_)
      refine aM ⟨x42,(fun i=>i),⟨(.sames M M),(.cons (.blk M M M) .nil),cA [0] M (by decide),fun _ _=>M⟩,?_⟩
      exact h
    ·
     rintro v36 h
     unfold gH at h
     refine aR (b:=_) M (fun hc37=>?_) (fun hc37=>?_)
     ·
      replace h:=bS h hc37
      obtain ⟨x38,hx38,h⟩:=aZ h
      refine aC (aA M (faR 5 M M M underlying50 M ti3 (lb M) M M)<|aA M (aG (d:=.int _ _) M M (lb M) underlying3 ag3 ti3 (by decide) (svR M) M (nle M) M)<|aA M (aX (r:=.bool _) M M (lb M) aBb (.cons (svI M) (.cons (sv (d:=.int _ 1) M) (.cons (sv (d:=.int _ 256) M) .nil))) M (mD _ _ _ _ hx38))<|aA M (dN M M (lb M) (svB M))<|aB ?_)
      refine aR (b:=_) M (fun hc39=>?_) (fun hc39=>?_)
      ·
       replace h:=bS h hc39
       refine aC (aA M (aE M M (lb M) (sv (d:=.bool false) M))<|aB ?_)
       refine aT ?_
       refine bP ?_
       refine bA ?_
       obtain rfl:=sj_ h
       refine ⟨.inr M,(.cons (sv M) .nil)⟩
      ·
       replace h:=bT h hc39
       refine aV ?_
       refine bZ ?_
       refine aM ⟨(0,1099511627776,255),(fun i=>i),⟨(.sames M M),(.cons (.blk M M M) .nil),cA [0] M (by decide),fun _ _=>M⟩,?_⟩
       exact h
     ·
      replace h:=bT h hc37
      refine aV ?_
      refine bZ ?_
      refine aM ⟨(0,1099511627776,255),(fun i=>i),⟨(.sames M M),(.cons (.blk M M M) .nil),cA [0] M (by decide),fun _ _=>M⟩,?_⟩
      exact h
 ·
  rintro ⟨v15,v16,v17⟩ h
  unfold eH at h
  refine aC (aA M (aE M M (lb M) (sv (d:=.fn 113 []) M))<|aB ?_)
  refine aW ?_
  obtain ⟨x18,hx18,h⟩:=aZ h
  obtain ⟨x19,hx19,h⟩:=aZ h
  obtain ⟨x20,hx20,h⟩:=aS h
  obtain ⟨x21,hx21,h⟩:=aZ h
  obtain ⟨x22,hx22,h⟩:=aS h
  refine aC (aA M (faR 8 M M M underlying50 M ti42 (lb M) M M)<|aA M (lrL la42 M M M M M (nle M) M)<|aA M (aK M M (lb M) (sv (d:=.fn 113 []) M))<|aA M (aX (r:=.bool _) M M (lb M) cl114 (.cons (svL M) (.cons (sv (d:=.fn 113 []) M) .nil)) M (iX _ _ hx18))<|aA M (mvB M M M M)<|aF M M (.one M) M (by decide) (fun hb=>(faR 6 M M M underlying50 M ti3 (lb M) M M))<|aF M M (.one M) M (by decide) (fun hb=>(aG (d:=.int _ _) M M (lb M) underlying3 ag3 ti3 (by decide) (svcR M hb) M (nle M) M))<|aF M M (.one M) M (by decide) (fun hb=>(mvI M M M M))<|aF M M (.one M) M (by decide) (fun hb=>(mvI M M M M))<|aF M M (.one M) M (by decide) (fun hb=>(aX (r:=.bool _) M M (lb M) aBb (.cons (svcI M hb) (.cons (svcI M hb) (.cons (svcI M hb) .nil))) M (mD _ _ _ _ (gd_t hx19 hb))))<|aF M M (.one M) M (by decide) (fun hb=>(dN M M (lb M) (svcB M hb)))<|aA M (dT M M (lb M) (svB M) M M hx20)<|aA M (mvB M M M M)<|aF M M (.one M) M (by decide) (fun hb=>(faR 7 M M M underlying50 M ti3 (lb M) M M))<|aF M M (.one M) M (by decide) (fun hb=>(aG (d:=.int _ _) M M (lb M) underlying3 ag3 ti3 (by decide) (svcR M hb) M (nle M) M))<|aF M M (.one M) M (by decide) (fun hb=>(mvI M M M M))<|aF M M (.one M) M (by decide) (fun hb=>(aX (r:=.bool _) M M (lb M) aBb (.cons (svcI M hb) (.cons (sv (d:=.int _ 0) M) (.cons (svcI M hb) .nil))) M (mD _ _ _ _ (gd_t hx21 hb))))<|aF M M (.one M) M (by decide) (fun hb=>(dN M M (lb M) (svcB M hb)))<|aA M (dT M M (lb M) (svB M) M M hx22)<|aB ?_)
  refine aR (b:=_) M (fun hc23=>?_) (fun hc23=>?_)
  ·
   replace h:=bS h hc23
   refine aC (aA M (aE M M (lb M) (sv (d:=.bool false) M))<|aB ?_)
   refine aT ?_
   refine bA ?_
   obtain rfl:=sj_ h
   refine ⟨.inr M,(.cons (sv M) .nil)⟩
  ·
   replace h:=bT h hc23
   refine aV ?_
   refine aM ?_
   obtain ⟨x24,hx24,h⟩:=aZ h
   obtain ⟨x25,hx25,h⟩:=aZ h
   obtain ⟨x26,hx26,h⟩:=aS h
   obtain ⟨x27,hx27,h⟩:=aZ h
   obtain ⟨x28,hx28,h⟩:=aS h
   refine aC (aA M (faR 2 M M M underlying50 M ti3 (lb M) M M)<|aA M (aG (d:=.int _ _) M M (lb M) underlying3 ag3 ti3 (by decide) (svR M) M (nle M) M)<|aA M (aX (r:=.bool _) M M (lb M) aBb (.cons (svI M) (.cons (sv (d:=.int _ 0) M) (.cons (sv (d:=.int _ 1048576) M) .nil))) M (mD _ _ _ _ hx24))<|aA M (mvB M M M M)<|aF M M (.one M) M (by decide) (fun hb=>(faR 4 M M M underlying50 M ti3 (lb M) M M))<|aF M M (.one M) M (by decide) (fun hb=>(aG (d:=.int _ _) M M (lb M) underlying3 ag3 ti3 (by decide) (svcR M hb) M (nle M) M))<|aF M M (.one M) M (by decide) (fun hb=>(aX (r:=.bool _) M M (lb M) aBb (.cons (svcI M hb) (.cons (sv (d:=.int _ 0) M) (.cons (sv (d:=.int _ 1048576) M) .nil))) M (mD _ _ _ _ (gd_t hx25 hb))))<|aA M (cC M M (lb M) (svB M) M M hx26)<|aA M (mvB M M M M)<|aF M M (.one M) M (by decide) (fun hb=>(faR 3 M M M underlying50 M ti3 (lb M) M M))<|aF M M (.one M) M (by decide) (fun hb=>(aG (d:=.int _ _) M M (lb M) underlying3 ag3 ti3 (by decide) (svcR M hb) M (nle M) M))<|aF M M (.one M) M (by decide) (fun hb=>(aX (r:=.bool _) M M (lb M) aBb (.cons (svcI M hb) (.cons (sv (d:=.int _ 0) M) (.cons (sv (d:=.int _ 1099511627776) M) .nil))) M (mD _ _ _ _ (gd_t hx27 hb))))<|aA M (cC M M (lb M) (svB M) M M hx28)<|aA M (asB M M M M)<|aB ?_)
   refine aT ?_
   obtain rfl:=sj_ h
   refine ⟨.inr M,(.cons (sv M) .nil)⟩
end Go.Proofs.YtfaflcdfgaoehaaGreat
