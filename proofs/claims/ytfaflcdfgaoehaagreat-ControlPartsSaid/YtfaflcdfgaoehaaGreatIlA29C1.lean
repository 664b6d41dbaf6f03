/-
  A part of the proof: rules and plain facts. No condition.
-/
import Derived.Test.YtfaflcdfgaoehaaGreatProg
import Derived.KernelRfl
import Derived.Test.YtfaflcdfgaoehaaGreatIlA29D
set_option linter.all false
set_option maxRecDepth 8000
set_option maxHeartbeats 2000000
open Go Go.IL Go.Fn Go.Proofs
namespace Go.Proofs.YtfaflcdfgaoehaaGreat
theorem ti3 : TI Tryz.prog 3 (some (.int .i64 0)) 1 8:=by unfold TI; kernel_rfl
theorem ti4 : TI Tryz.prog 4 (some (.bool false)) 1 1:=by unfold TI; kernel_rfl
theorem ti5 : TI Tryz.prog 5 (some (.int .u8 0)) 1 1:=by unfold TI; kernel_rfl
theorem ti9 : TI Tryz.prog 9 (some (.string ⟨#[]⟩)) 1 16:=by unfold TI; kernel_rfl
theorem ti24 : TI Tryz.prog 24 (some (.slice none 0 0)) 1 24:=by unfold TI; kernel_rfl
theorem ti26 : TI Tryz.prog 26 (some (.slice none 0 0)) 1 24:=by unfold TI; kernel_rfl
theorem ti28 : TI Tryz.prog 28 (some (.agg #[.int .i64 0,.string ⟨#[]⟩,.int .i64 0,.slice none 0 0,.slice none 0 0,.bool false,.bool false,.bool false,.bool false])) 9 88:=by unfold TI; kernel_rfl
theorem ti29 : TI Tryz.prog 29 (some (.slice none 0 0)) 1 24:=by unfold TI; kernel_rfl
theorem ti31 : TI Tryz.prog 31 (some (.agg #[.int .i64 0,.string ⟨#[]⟩,.slice none 0 0])) 3 48:=by unfold TI; kernel_rfl
theorem ti33 : TI Tryz.prog 33 (some (.agg #[.int .i64 0,.string ⟨#[]⟩,.slice none 0 0,.int .i64 0])) 4 56:=by unfold TI; kernel_rfl
theorem ti38 : TI Tryz.prog 38 (some (.agg #[.int .i64 0,.string ⟨#[]⟩,.int .i64 0,.slice none 0 0,.slice none 0 0,.bool false,.bool false,.bool false,.bool false,.int .i64 0,.string ⟨#[]⟩,.slice none 0 0,.int .i64 0,.string ⟨#[]⟩,.int .i64 0,.int .i64 0])) 16 176:=by unfold TI; kernel_rfl
theorem ti42 : TI Tryz.prog 42 (some (.slice none 0 0)) 1 24:=by unfold TI; kernel_rfl
theorem ti50 : TI Tryz.prog 50 (some (.agg #[.int .u8 0,.bool false,.int .i64 0,.int .i64 0,.int .i64 0,.int .i64 0,.int .i64 0,.int .i64 0,.slice none 0 0,.string ⟨#[]⟩])) 10 96:=by unfold TI; kernel_rfl
theorem ti52 : TI Tryz.prog 52 (some (.agg #[.int .i64 0,.int .i64 0,.int .i64 0,.bool false])) 4 32:=by unfold TI; kernel_rfl
theorem fS : TI Tryz.prog 116 (some (.agg #[.int .i64 0,.int .i64 0])) 2 16:=by unfold TI; kernel_rfl
theorem aCD : TI Tryz.prog 121 (some (.agg #[.int .i64 0,.string ⟨#[]⟩,.slice none 0 0,.int .i64 0])) 4 56:=by unfold TI; kernel_rfl
theorem qN : TI Tryz.prog 136 (some (.agg #[.int .i64 0,.int .i64 0])) 2 16:=by unfold TI; kernel_rfl
theorem nF : TI Tryz.prog 150 (some (.pointer none)) 1 8:=by unfold TI; kernel_rfl
theorem gG : TI Tryz.prog 165 (some (.agg #[.int .i64 0,.string ⟨#[]⟩])) 2 24:=by unfold TI; kernel_rfl
theorem ti184 : TI Tryz.prog 184 (some (.agg #[.int .i64 0,.int .i64 0,.int .i64 0,.int .i64 0])) 4 32:=by unfold TI; kernel_rfl
theorem ag3 : gF Tryz.prog 3 = false:=by kernel_rfl
theorem ag4 : gF Tryz.prog 4 = false:=by kernel_rfl
theorem ag5 : gF Tryz.prog 5 = false:=by kernel_rfl
theorem ag9 : gF Tryz.prog 9 = false:=by kernel_rfl
theorem ag24 : gF Tryz.prog 24 = false:=by kernel_rfl
theorem ag26 : gF Tryz.prog 26 = false:=by kernel_rfl
theorem ag28 : gF Tryz.prog 28 = true:=by kernel_rfl
theorem ag29 : gF Tryz.prog 29 = false:=by kernel_rfl
theorem ag31 : gF Tryz.prog 31 = true:=by kernel_rfl
theorem ag33 : gF Tryz.prog 33 = true:=by kernel_rfl
theorem ag38 : gF Tryz.prog 38 = true:=by kernel_rfl
theorem ag42 : gF Tryz.prog 42 = false:=by kernel_rfl
theorem ag50 : gF Tryz.prog 50 = true:=by kernel_rfl
theorem ag52 : gF Tryz.prog 52 = true:=by kernel_rfl
theorem xS : gF Tryz.prog 116 = true:=by kernel_rfl
theorem ag121 : gF Tryz.prog 121 = true:=by kernel_rfl
theorem aCh : gF Tryz.prog 136 = true:=by kernel_rfl
theorem ag150 : gF Tryz.prog 150 = false:=by kernel_rfl
theorem uB : gF Tryz.prog 165 = true:=by kernel_rfl
theorem aEB : ∀ w,(Array.mapM (m:=Sem) (fun (f : Field)=>Functor.map (Prod.mk f.offset) (sizeOf f.type)) (fieldsOf Tryz.prog 116)).run Tryz.prog w = .ok #[(0,1),(1,1)] w:=fun w=>by kernel_rfl
theorem pl121 : ∀ w,(Array.mapM (m:=Sem) (fun (f : Field)=>Functor.map (Prod.mk f.offset) (sizeOf f.type)) (fieldsOf Tryz.prog 121)).run Tryz.prog w = .ok #[(0,3),(3,1)] w:=fun w=>by kernel_rfl
theorem pl136 : ∀ w,(Array.mapM (m:=Sem) (fun (f : Field)=>Functor.map (Prod.mk f.offset) (sizeOf f.type)) (fieldsOf Tryz.prog 136)).run Tryz.prog w = .ok #[(0,1),(1,1)] w:=fun w=>by kernel_rfl
theorem pl28 : ∀ w,(Array.mapM (m:=Sem) (fun (f : Field)=>Functor.map (Prod.mk f.offset) (sizeOf f.type)) (fieldsOf Tryz.prog 28)).run Tryz.prog w = .ok #[(0,1),(1,1),(2,1),(3,1),(4,1),(5,1),(6,1),(7,1),(8,1)] w:=fun w=>by kernel_rfl
theorem pl31 : ∀ w,(Array.mapM (m:=Sem) (fun (f : Field)=>Functor.map (Prod.mk f.offset) (sizeOf f.type)) (fieldsOf Tryz.prog 31)).run Tryz.prog w = .ok #[(0,1),(1,1),(2,1)] w:=fun w=>by kernel_rfl
theorem pl33 : ∀ w,(Array.mapM (m:=Sem) (fun (f : Field)=>Functor.map (Prod.mk f.offset) (sizeOf f.type)) (fieldsOf Tryz.prog 33)).run Tryz.prog w = .ok #[(0,3),(3,1)] w:=fun w=>by kernel_rfl
theorem pl38 : ∀ w,(Array.mapM (m:=Sem) (fun (f : Field)=>Functor.map (Prod.mk f.offset) (sizeOf f.type)) (fieldsOf Tryz.prog 38)).run Tryz.prog w = .ok #[(0,9),(9,4),(13,3)] w:=fun w=>by kernel_rfl
theorem st116 : Tryz.prog.stoodInHeld 116 = false ∧ Tryz.prog.eqGuardType Tryz.prog.depth 116 = false:=⟨by kernel_rfl,by kernel_rfl⟩
theorem cl19 : bF Tryz.prog 19:=⟨Tryz.f19,Tryz.func19,rfl,rfl⟩
theorem cl20 : bF Tryz.prog 20:=⟨Tryz.f20,Tryz.func20,rfl,rfl⟩
theorem cl45 : bF Tryz.prog 45:=⟨Tryz.f45,Tryz.func45,rfl,rfl⟩
theorem cl51 : bF Tryz.prog 51:=⟨Tryz.f51,Tryz.func51,rfl,rfl⟩
theorem cl52 : bF Tryz.prog 52:=⟨Tryz.f52,Tryz.func52,rfl,rfl⟩
theorem cl54 : bF Tryz.prog 54:=⟨Tryz.f54,Tryz.func54,rfl,rfl⟩
theorem cl55 : bF Tryz.prog 55:=⟨Tryz.f55,Tryz.func55,rfl,rfl⟩
theorem cl59 : bF Tryz.prog 59:=⟨Tryz.f59,Tryz.func59,rfl,rfl⟩
theorem cl69 : bF Tryz.prog 69:=⟨Tryz.f69,Tryz.func69,rfl,rfl⟩
theorem cl70 : bF Tryz.prog 70:=⟨Tryz.f70,Tryz.func70,rfl,rfl⟩
theorem cl71 : bF Tryz.prog 71:=⟨Tryz.f71,Tryz.func71,rfl,rfl⟩
theorem cl72 : bF Tryz.prog 72:=⟨Tryz.f72,Tryz.func72,rfl,rfl⟩
theorem cl73 : bF Tryz.prog 73:=⟨Tryz.f73,Tryz.func73,rfl,rfl⟩
theorem cl76 : bF Tryz.prog 76:=⟨Tryz.f76,Tryz.func76,rfl,rfl⟩
theorem cl78 : bF Tryz.prog 78:=⟨Tryz.f78,Tryz.func78,rfl,rfl⟩
theorem cl82 : bF Tryz.prog 82:=⟨Tryz.f82,Tryz.func82,rfl,rfl⟩
theorem cl84 : bF Tryz.prog 84:=⟨Tryz.f84,Tryz.func84,rfl,rfl⟩
theorem cl87 : bF Tryz.prog 87:=⟨Tryz.f87,Tryz.func87,rfl,rfl⟩
theorem cl88 : bF Tryz.prog 88:=⟨Tryz.f88,Tryz.func88,rfl,rfl⟩
theorem cl89 : bF Tryz.prog 89:=⟨Tryz.f89,Tryz.func89,rfl,rfl⟩
theorem cl90 : bF Tryz.prog 90:=⟨Tryz.f90,Tryz.func90,rfl,rfl⟩
theorem cl91 : bF Tryz.prog 91:=⟨Tryz.f91,Tryz.func91,rfl,rfl⟩
theorem cl97 : bF Tryz.prog 97:=⟨Tryz.f97,Tryz.func97,rfl,rfl⟩
theorem cl99 : bF Tryz.prog 99:=⟨Tryz.f99,Tryz.func99,rfl,rfl⟩
theorem aCe : bF Tryz.prog 102:=⟨Tryz.f102,Tryz.func102,rfl,rfl⟩
theorem cl107 : bF Tryz.prog 107:=⟨Tryz.f107,Tryz.func107,rfl,rfl⟩
theorem cl110 : bF Tryz.prog 110:=⟨Tryz.f110,Tryz.func110,rfl,rfl⟩
theorem aBB : bF Tryz.prog 112:=⟨Tryz.f112,Tryz.func112,rfl,rfl⟩
theorem cl113 : bF Tryz.prog 113:=⟨Tryz.f113,Tryz.func113,rfl,rfl⟩
theorem cl114 : bF Tryz.prog 114:=⟨Tryz.f114,Tryz.func114,rfl,rfl⟩
theorem cl118 : bF Tryz.prog 118:=⟨Tryz.f118,Tryz.func118,rfl,rfl⟩
theorem cl119 : bF Tryz.prog 119:=⟨Tryz.f119,Tryz.func119,rfl,rfl⟩
theorem cl120 : bF Tryz.prog 120:=⟨Tryz.f120,Tryz.func120,rfl,rfl⟩
theorem cl121 : bF Tryz.prog 121:=⟨Tryz.f121,Tryz.func121,rfl,rfl⟩
theorem cl122 : bF Tryz.prog 122:=⟨Tryz.f122,Tryz.func122,rfl,rfl⟩
theorem cl124 : bF Tryz.prog 124:=⟨Tryz.f124,Tryz.func124,rfl,rfl⟩
theorem cl125 : bF Tryz.prog 125:=⟨Tryz.f125,Tryz.func125,rfl,rfl⟩
theorem cl126 : bF Tryz.prog 126:=⟨Tryz.f126,Tryz.func126,rfl,rfl⟩
theorem cl128 : bF Tryz.prog 128:=⟨Tryz.f128,Tryz.func128,rfl,rfl⟩
theorem cl129 : bF Tryz.prog 129:=⟨Tryz.f129,Tryz.func129,rfl,rfl⟩
theorem cl131 : bF Tryz.prog 131:=⟨Tryz.f131,Tryz.func131,rfl,rfl⟩
def la24:=LA.mk Tryz.underlying24 ag24 ti24 (by decide)
def la26:=LA.mk Tryz.underlying26 ag26 ti26 (by decide)
def la28:=LA.mk Tryz.underlying28 ag28 ti28 (by decide)
def la29:=LA.mk Tryz.underlying29 ag29 ti29 (by decide)
def la31:=LA.mk Tryz.underlying31 ag31 ti31 (by decide)
def la33:=LA.mk Tryz.underlying33 ag33 ti33 (by decide)
def la38:=LA.mk Tryz.underlying38 ag38 ti38 (by decide)
def la42:=LA.mk Tryz.underlying42 ag42 ti42 (by decide)
def la50:=LA.mk Tryz.underlying50 ag50 ti50 (by decide)
def la52:=LA.mk Tryz.underlying52 ag52 ti52 (by decide)
def pW:=LA.mk Tryz.underlying116 xS fS (by decide)
def aEI:=LA.mk Tryz.underlying121 ag121 aCD (by decide)
def la165:=LA.mk Tryz.underlying165 uB gG (by decide)
abbrev v0 (x : bH) : List D:=[.int .i64 x.Send.Base,.str x.Send.Data,.int .i64 x.Send.Next,.slice false (x.Send.Pieces.map aD.d),.slice false (x.Send.Lost.map aJ.d),.bool x.Send.Closed,.bool x.Send.Sent,.bool x.Send.Again,.bool x.Send.Done,.int .i64 x.Recv.Recv.Base,.str x.Recv.Recv.Ready,.slice false (x.Recv.Recv.Parts.map aL.d),.int .i64 x.Recv.End,.str x.In.Buf,.int .i64 x.In.Bad,.int .i64 x.In.Seen]
abbrev v1 (x : aH) : List D:=[.int .u8 x.Kind,.bool x.Flag,.int .i64 x.Stream,.int .i64 x.Offset,.int .i64 x.Dep,.int .i64 x.Weight,.int .i64 x.N,.int .i64 x.Code,.slice false (x.Pairs.map bN.d),.str x.Data]
abbrev v2 (x : bB) : List D:=[.int .i64 x.Base,.str x.Data,.int .i64 x.Next,.slice false (x.Pieces.map aD.d),.slice false (x.Lost.map aJ.d),.bool x.Closed,.bool x.Sent,.bool x.Again,.bool x.Done]
abbrev v3 (x : fU) : List D:=[.int .i64 x.State.Base,.str x.State.Ready,.slice false (x.State.Parts.map aL.d),.int .i64 x.end_]
abbrev v4 (x : cI) : List D:=[.int .i64 x.Recv.Base,.str x.Recv.Ready,.slice false (x.Recv.Parts.map aL.d),.int .i64 x.End]
abbrev v5 (x : bS) : List D:=[.int .i64 x.Base,.str x.Ready,.slice false (x.Parts.map aL.d)]
abbrev v6 (x : aM) : List D:=[.int .i64 x.From,.int .i64 x.To,.int .i64 x.Path,.bool x.Fin]
abbrev v7 (x : cX) : List D:=[.str x.Buf,.int .i64 x.Bad,.int .i64 x.Seen]
abbrev q8 {a1 : IntKind} {a2 : Int} {a3 : List UInt8} {a4 : IntKind} {a5 : Int} {a6 : Bool} {a7 : List D} {a8 : Bool} {a9 : List D} {a10 : Bool} {a11 : Bool} {a12 : Bool} {a13 : Bool} {a14 : IntKind} {a15 : Int} {a16 : List UInt8} {a17 : Bool} {a18 : List D} {a19 : IntKind} {a20 : Int} {a21 : List UInt8} {a22 : IntKind} {a23 : Int} {a24 : IntKind} {a25 : Int} : List D:=[.int a1 a2,.str a3,.int a4 a5,.slice a6 a7,.slice a8 a9,.bool a10,.bool a11,.bool a12,.bool a13,.int a14 a15,.str a16,.slice a17 a18,.int a19 a20,.str a21,.int a22 a23,.int a24 a25]
abbrev q9 {a1 : IntKind} {a2 : Int} {a3 : List UInt8} {a4 : IntKind} {a5 : Int} {a6 : Bool} {a7 : Bool} {a8 : Bool} {a9 : Bool} {a10 : IntKind} {a11 : Int} {a12 : List UInt8} {a13 : IntKind} {a14 : Int} {a15 : List UInt8} {a16 : IntKind} {a17 : Int} {a18 : IntKind} {a19 : Int} : List D:=[.int a1 a2,.str a3,.int a4 a5,.nils,.nils,.bool a6,.bool a7,.bool a8,.bool a9,.int a10 a11,.str a12,.nils,.int a13 a14,.str a15,.int a16 a17,.int a18 a19]
abbrev q10 {a1 : IntKind} {a2 : Int} {a3 : Bool} {a4 : IntKind} {a5 : Int} {a6 : IntKind} {a7 : Int} {a8 : IntKind} {a9 : Int} {a10 : IntKind} {a11 : Int} {a12 : IntKind} {a13 : Int} {a14 : IntKind} {a15 : Int} {a16 : Bool} {a17 : List D} {a18 : List UInt8} : List D:=[.int a1 a2,.bool a3,.int a4 a5,.int a6 a7,.int a8 a9,.int a10 a11,.int a12 a13,.int a14 a15,.slice a16 a17,.str a18]
abbrev q11 {a1 : IntKind} {a2 : Int} {a3 : Bool} {a4 : IntKind} {a5 : Int} {a6 : IntKind} {a7 : Int} {a8 : IntKind} {a9 : Int} {a10 : IntKind} {a11 : Int} {a12 : IntKind} {a13 : Int} {a14 : IntKind} {a15 : Int} {a16 : List UInt8} : List D:=[.int a1 a2,.bool a3,.int a4 a5,.int a6 a7,.int a8 a9,.int a10 a11,.int a12 a13,.int a14 a15,.nils,.str a16]
abbrev q12 {a1 : IntKind} {a2 : Int} {a3 : List UInt8} {a4 : IntKind} {a5 : Int} {a6 : Bool} {a7 : List D} {a8 : Bool} {a9 : List D} {a10 : Bool} {a11 : Bool} {a12 : Bool} {a13 : Bool} : List D:=[.int a1 a2,.str a3,.int a4 a5,.slice a6 a7,.slice a8 a9,.bool a10,.bool a11,.bool a12,.bool a13]
abbrev q13 {a1 : IntKind} {a2 : Int} {a3 : List UInt8} {a4 : IntKind} {a5 : Int} {a6 : Nat} {a7 : Nat} {a8 : Nat} {a9 : Bool} {a10 : List D} {a11 : Bool} {a12 : Bool} {a13 : Bool} {a14 : Bool} : List D:=[.int a1 a2,.str a3,.int a4 a5,.osl a6 a7 a8,.slice a9 a10,.bool a11,.bool a12,.bool a13,.bool a14]
abbrev q14 {a1 : IntKind} {a2 : Int} {a3 : List UInt8} {a4 : IntKind} {a5 : Int} {a6 : Bool} {a7 : Bool} {a8 : Bool} {a9 : Bool} : List D:=[.int a1 a2,.str a3,.int a4 a5,.nils,.nils,.bool a6,.bool a7,.bool a8,.bool a9]
abbrev q15 {a1 : Nat} {a2 : Nat} {a3 : Nat} {a4 : Nat} {a5 : Nat} {a6 : Nat} {a7 : Nat} {a8 : Nat} {a9 : Nat} {a10 : Nat} : List D:=[.ref a1 a2,.ref a3 a4,.ref a5 a6,.ref a7 a8,.ref a9 a10]
abbrev q16 {a1 : IntKind} {a2 : Int} {a3 : List UInt8} {a4 : Bool} {a5 : List D} {a6 : IntKind} {a7 : Int} : List D:=[.int a1 a2,.str a3,.slice a4 a5,.int a6 a7]
abbrev q17 {a1 : IntKind} {a2 : Int} {a3 : IntKind} {a4 : Int} {a5 : IntKind} {a6 : Int} {a7 : Bool} : List D:=[.int a1 a2,.int a3 a4,.int a5 a6,.bool a7]
abbrev q18 {a1 : IntKind} {a2 : Int} {a3 : List UInt8} {a4 : IntKind} {a5 : Int} : List D:=[.int a1 a2,.str a3,.nils,.int a4 a5]
abbrev q19 {a1 : IntKind} {a2 : Int} {a3 : List UInt8} {a4 : Bool} {a5 : List D} : List D:=[.int a1 a2,.str a3,.slice a4 a5]
abbrev q20 {a1 : IntKind} {a2 : Int} {a3 : IntKind} {a4 : Int} {a5 : IntKind} {a6 : Int} : List D:=[.int a1 a2,.int a3 a4,.int a5 a6]
abbrev q21 {a1 : IntKind} {a2 : Int} {a3 : List UInt8} {a4 : Nat} {a5 : Nat} {a6 : Nat} : List D:=[.int a1 a2,.str a3,.osl a4 a5 a6]
abbrev q22 {a1 : List UInt8} {a2 : IntKind} {a3 : Int} {a4 : IntKind} {a5 : Int} : List D:=[.str a1,.int a2 a3,.int a4 a5]
abbrev q23 {a1 : IntKind} {a2 : Int} {a3 : List UInt8} : List D:=[.int a1 a2,.str a3,.nils]
abbrev q24 {a1 : Bool} {a2 : List D} {a3 : IntKind} {a4 : Int} : List D:=[.slice a1 a2,.int a3 a4]
abbrev q25 {a1 : IntKind} {a2 : Int} {a3 : IntKind} {a4 : Int} : List D:=[.int a1 a2,.int a3 a4]
abbrev q26 {a1 : IntKind} {a2 : Int} {a3 : List UInt8} : List D:=[.int a1 a2,.str a3]
abbrev q27 {a1 : IntKind} {a2 : Int} {a3 : Bool} {a4 : IntKind} {a5 : Int} {a6 : IntKind} {a7 : Int} {a8 : IntKind} {a9 : Int} {a10 : IntKind} {a11 : Int} {a12 : IntKind} {a13 : Int} {a14 : IntKind} {a15 : Int} {a16 : Bool} {a17 : List D} {a18 : List UInt8} {a19 : IntKind} {a20 : Int} {a21 : IntKind} {a22 : Int} {a23 : IntKind} {a24 : Int} : List D:=[.agg [.int a1 a2,.bool a3,.int a4 a5,.int a6 a7,.int a8 a9,.int a10 a11,.int a12 a13,.int a14 a15,.slice a16 a17,.str a18],.int a19 a20,.int a21 a22,.int a23 a24]
abbrev q28 {a1 : IntKind} {a2 : Int} {a3 : List UInt8} {a4 : IntKind} {a5 : Int} {a6 : Bool} {a7 : List D} {a8 : Bool} {a9 : List D} {a10 : Bool} {a11 : Bool} {a12 : Bool} {a13 : Bool} {a14 : IntKind} {a15 : Int} {a16 : IntKind} {a17 : Int} {a18 : IntKind} {a19 : Int} {a20 : Bool} {a21 : List UInt8} {a22 : Bool} : List D:=[.agg [.int a1 a2,.str a3,.int a4 a5,.slice a6 a7,.slice a8 a9,.bool a10,.bool a11,.bool a12,.bool a13],.agg [.int a14 a15,.int a16 a17,.int a18 a19,.bool a20],.str a21,.bool a22]
abbrev q29 {a1 : IntKind} {a2 : Int} {a3 : List UInt8} {a4 : IntKind} {a5 : Int} {a6 : Bool} {a7 : List D} {a8 : Bool} {a9 : List D} {a10 : Bool} {a11 : Bool} {a12 : Bool} {a13 : Bool} {a14 : IntKind} {a15 : Int} {a16 : List UInt8} {a17 : Bool} {a18 : List D} {a19 : IntKind} {a20 : Int} {a21 : List UInt8} {a22 : IntKind} {a23 : Int} {a24 : IntKind} {a25 : Int} {a26 : IntKind} {a27 : Int} {a28 : IntKind} {a29 : Int} {a30 : IntKind} {a31 : Int} {a32 : Bool} {a33 : List UInt8} {a34 : Bool} : List D:=[.agg [.int a1 a2,.str a3,.int a4 a5,.slice a6 a7,.slice a8 a9,.bool a10,.bool a11,.bool a12,.bool a13,.int a14 a15,.str a16,.slice a17 a18,.int a19 a20,.str a21,.int a22 a23,.int a24 a25],.agg [.int a26 a27,.int a28 a29,.int a30 a31,.bool a32],.str a33,.bool a34]
abbrev q30 {a1 : IntKind} {a2 : Int} {a3 : List UInt8} {a4 : IntKind} {a5 : Int} {a6 : Bool} {a7 : List D} {a8 : Bool} {a9 : List D} {a10 : Bool} {a11 : Bool} {a12 : Bool} {a13 : Bool} {a14 : IntKind} {a15 : Int} {a16 : List UInt8} {a17 : Bool} {a18 : List D} {a19 : IntKind} {a20 : Int} {a21 : List UInt8} {a22 : IntKind} {a23 : Int} {a24 : IntKind} {a25 : Int} {a26 : Bool} {a27 : List D} {a28 : IntKind} {a29 : Int} : List D:=[.agg [.int a1 a2,.str a3,.int a4 a5,.slice a6 a7,.slice a8 a9,.bool a10,.bool a11,.bool a12,.bool a13,.int a14 a15,.str a16,.slice a17 a18,.int a19 a20,.str a21,.int a22 a23,.int a24 a25],.slice a26 a27,.int a28 a29]
abbrev q31 {a1 : IntKind} {a2 : Int} {a3 : Bool} {a4 : IntKind} {a5 : Int} {a6 : IntKind} {a7 : Int} {a8 : IntKind} {a9 : Int} {a10 : IntKind} {a11 : Int} {a12 : IntKind} {a13 : Int} {a14 : IntKind} {a15 : Int} {a16 : Bool} {a17 : List D} {a18 : List UInt8} {a19 : IntKind} {a20 : Int} {a21 : IntKind} {a22 : Int} : List D:=[.agg [.int a1 a2,.bool a3,.int a4 a5,.int a6 a7,.int a8 a9,.int a10 a11,.int a12 a13,.int a14 a15,.slice a16 a17,.str a18],.int a19 a20,.int a21 a22]
abbrev q32 {a1 : IntKind} {a2 : Int} {a3 : List UInt8} {a4 : Bool} {a5 : List D} {a6 : IntKind} {a7 : Int} {a8 : IntKind} {a9 : Int} {a10 : IntKind} {a11 : Int} : List D:=[.agg [.int a1 a2,.str a3,.slice a4 a5,.int a6 a7],.int a8 a9,.int a10 a11]
abbrev q33 {a1 : IntKind} {a2 : Int} {a3 : List UInt8} {a4 : Bool} {a5 : List D} {a6 : IntKind} {a7 : Int} {a8 : List UInt8} {a9 : Bool} : List D:=[.agg [.int a1 a2,.str a3,.slice a4 a5,.int a6 a7],.str a8,.bool a9]
abbrev q34 {a1 : IntKind} {a2 : Int} {a3 : IntKind} {a4 : Int} {a5 : IntKind} {a6 : Int} {a7 : Bool} {a8 : Bool} : List D:=[.agg [.int a1 a2,.int a3 a4,.int a5 a6,.bool a7],.bool a8]
abbrev q35 {a1 : IntKind} {a2 : Int} {a3 : List UInt8} {a4 : IntKind} {a5 : Int} {a6 : Bool} {a7 : List D} {a8 : Bool} {a9 : List D} {a10 : Bool} {a11 : Bool} {a12 : Bool} {a13 : Bool} {a14 : IntKind} {a15 : Int} {a16 : List UInt8} {a17 : Bool} {a18 : List D} {a19 : IntKind} {a20 : Int} {a21 : List UInt8} {a22 : IntKind} {a23 : Int} {a24 : IntKind} {a25 : Int} {a26 : IntKind} {a27 : Int} : List D:=[.agg [.int a1 a2,.str a3,.int a4 a5,.slice a6 a7,.slice a8 a9,.bool a10,.bool a11,.bool a12,.bool a13,.int a14 a15,.str a16,.slice a17 a18,.int a19 a20,.str a21,.int a22 a23,.int a24 a25],.int a26 a27]
abbrev w36 (a0 : Int) (a1 : List UInt8) (a2 : Int) (a3 : List aM) (a4 : List aI) (a5 : Bool) (a6 : Bool) (a7 : Bool) (a8 : Bool) (a9 : Int) (a10 : List UInt8) (a11 : List aX) (a12 : Int) (a13 : List UInt8) (a14 : Int) (a15 : Int) : List D:=[.int .i64 a0,.str a1,.int .i64 a2,.slice false (a3.map aD.d),.slice false (a4.map aJ.d),.bool a5,.bool a6,.bool a7,.bool a8,.int .i64 a9,.str a10,.slice false (a11.map aL.d),.int .i64 a12,.str a13,.int .i64 a14,.int .i64 a15]
abbrev w37 (a0 : Int) (a1 : Bool) (a2 : Int) (a3 : Int) (a4 : Int) (a5 : Int) (a6 : Int) (a7 : Int) (a8 : List bK) (a9 : List UInt8) : List D:=[.int .u8 a0,.bool a1,.int .i64 a2,.int .i64 a3,.int .i64 a4,.int .i64 a5,.int .i64 a6,.int .i64 a7,.slice false (a8.map bN.d),.str a9]
abbrev w38 (a0 : Int) (a1 : List UInt8) (a2 : Int) (a3 : List aM) (a4 : List aI) (a5 : Bool) (a6 : Bool) (a7 : Bool) (a8 : Bool) : List D:=[.int .i64 a0,.str a1,.int .i64 a2,.slice false (a3.map aD.d),.slice false (a4.map aJ.d),.bool a5,.bool a6,.bool a7,.bool a8]
abbrev w39 (a0 : Int) (a1 : List UInt8) (a2 : Int) (a3 : D) (a4 : List aI) (a5 : Bool) (a6 : Bool) (a7 : Bool) (a8 : Bool) : List D:=[.int .i64 a0,.str a1,.int .i64 a2,a3,.slice false (a4.map aJ.d),.bool a5,.bool a6,.bool a7,.bool a8]
abbrev w40 (a0 : Int) (a1 : List UInt8) (a2 : List aX) (a3 : Int) : List D:=[.int .i64 a0,.str a1,.slice false (a2.map aL.d),.int .i64 a3]
abbrev w41 (a0 : Int) (a1 : Int) (a2 : Int) (a3 : Int) : List D:=[.int .i64 a0,.int .i64 a1,.int .i64 a2,.int .i64 a3]
abbrev w42 (a0 : Int) (a1 : Int) (a2 : Int) (a3 : Bool) : List D:=[.int .i64 a0,.int .i64 a1,.int .i64 a2,.bool a3]


theorem aCO  (r : bB) (h : yU = some r) : cD Tryz.prog 19 [] (.agg (v2 r)):=by
 refine bA (rs:=[.agg (v2 r)]) Tryz.func19 rfl Tryz.ntmps19 (nle rfl) rfl fun O hO=>?_
 show IWP _ _ _ _ ⟨[],[]⟩ _
 unfold yU at h
 refine aC (aA rfl (bJ (cs:=q14) (cs':=(w38 0 [] 0 ([] : List aM) ([] : List aI) false false false false)) 0 rfl rfl (lb rfl) rfl ti28 rfl rfl (.k (.k (.k (.cons (.nils _) (.cons (.nils _) (.all _))))))) <|aB ?_)
 refine aC (aA rfl (pX (d':=.agg (w38 0 [] 0 ([] : List aM) ([] : List aI) false false false false)) (cC (cs:=q14) rfl rfl (lb rfl) Tryz.underlying28 ti28 pl28 rfl .nil rfl) (.agg (.k (.k (.k (.cons (.nils _) (.cons (.nils _) (.all _)))))))) <|aA rfl (bQ (ds':=[.int _ _,.str _,.int _ _,.slice false (([] : List aM).map aD.d),.slice false (([] : List aI).map aJ.d),.bool _,.bool _,.bool _,.bool _]) rfl rfl ti28 (svR rfl) rfl (svA q12 rfl) rfl rfl rfl (nle rfl) rfl) <|aB ?_)
 refine aS ?_
 obtain rfl:=Option.some.inj h
 refine ⟨.inr rfl,(.cons (rva la28 rfl rfl (nle rfl) rfl) .nil)⟩

theorem aBS  (r : bS) (h : wE = some r) : cD Tryz.prog 45 [] (.agg (v5 r)):=by
 refine bA (rs:=[.agg (v5 r)]) Tryz.func45 rfl Tryz.ntmps45 (nle rfl) rfl fun O hO=>?_
 show IWP _ _ _ _ ⟨[],[]⟩ _
 unfold wE at h
 refine aC (aA rfl (bJ (cs:=q23) (cs':=[.int .i64 0,.str [],.slice false (([] : List aX).map aL.d)]) 0 rfl rfl (lb rfl) rfl ti31 rfl rfl (.k (.k (.cons (.nils _) .nil)))) <|aB ?_)
 refine aC (aA rfl (pX (d':=.agg [.int .i64 0,.str [],.slice false (([] : List aX).map aL.d)]) (cC (cs:=q23) rfl rfl (lb rfl) Tryz.underlying31 ti31 pl31 rfl .nil rfl) (.agg (.k (.k (.cons (.nils _) .nil))))) <|aA rfl (bQ (ds':=[.int _ _,.str _,.slice false (([] : List aX).map aL.d)]) rfl rfl ti31 (svR rfl) rfl (svA q19 rfl) rfl rfl rfl (nle rfl) rfl) <|aB ?_)
 refine aS ?_
 obtain rfl:=Option.some.inj h
 refine ⟨.inr rfl,(.cons (rva la31 rfl rfl (nle rfl) rfl) .nil)⟩

theorem aCQ  (r : cI) (h : yX = some r) : cD Tryz.prog 20 [] (.agg (v4 r)):=by
 refine bA (rs:=[.agg (v4 r)]) Tryz.func20 rfl Tryz.ntmps20 (nle rfl) rfl fun O hO=>?_
 show IWP _ _ _ _ ⟨[],[]⟩ _
 unfold yX at h
 refine aC (aA rfl (bJ (cs:=q18) (cs':=(w40 0 [] ([] : List aX) 0)) 0 rfl rfl (lb rfl) rfl ti33 rfl rfl (.k (.k (.cons (.nils _) (.all _))))) <|aB ?_)
 obtain ⟨x1,hx1,h⟩:=aY h
 refine aC (aA rfl (aW (r:=.agg q19) rfl rfl (lb rfl) cl45 .nil rfl (aBS  _ hx1)) <|aA rfl (cC (cs:=q16) rfl rfl (lb rfl) Tryz.underlying33 ti33 pl33 rfl (.cons (svA q19 rfl) (.cons (sv (d:=.int _ (-1)) rfl) .nil)) rfl) <|aA rfl (stA q16 q16 ti33 rfl rfl rfl rfl rfl rfl rfl rfl (nle rfl) rfl) <|aB ?_)
 refine aS ?_
 obtain rfl:=Option.some.inj h
 refine ⟨.inr rfl,(.cons (rva la33 rfl rfl (nle rfl) rfl) .nil)⟩

theorem lQ  (r : bH) (h : kM = some r) : cD Tryz.prog 6 [] (.agg (v0 r)):=by
 refine bA (rs:=[.agg (v0 r)]) Tryz.func6 rfl Tryz.ntmps6 (nle rfl) rfl fun O hO=>?_
 show IWP _ _ _ _ ⟨[],[]⟩ _
 unfold kM at h
 refine aC (aA rfl (bJ (cs:=q9) (cs':=(w36 0 [] 0 ([] : List aM) ([] : List aI) false false false false 0 [] ([] : List aX) 0 [] 0 0)) 0 rfl rfl (lb rfl) rfl ti38 rfl rfl (.k (.k (.k (.cons (.nils _) (.cons (.nils _) (.k4 (.k (.k (.cons (.nils _) (.all _))))))))))) <|aB ?_)
 obtain ⟨x1,hx1,h⟩:=aY h
 obtain ⟨x2,hx2,h⟩:=aY h
 refine aC (aA rfl (aW (r:=.agg q12) rfl rfl (lb rfl) cl19 .nil rfl (aCO  _ hx1)) <|aA rfl (aW (r:=.agg q16) rfl rfl (lb rfl) cl20 .nil rfl (aCQ  _ hx2)) <|aA rfl (cC (cs:=q8) rfl rfl (lb rfl) Tryz.underlying38 ti38 pl38 rfl (.cons (svA q12 rfl) (.cons (svA q16 rfl) .nil)) rfl) <|aA rfl (stA q8 q8 ti38 rfl rfl rfl rfl rfl rfl rfl rfl (nle rfl) rfl) <|aB ?_)
 refine aS ?_
 obtain rfl:=Option.some.inj h
 refine ⟨.inr rfl,(.cons (rva la38 rfl rfl (nle rfl) rfl) .nil)⟩

theorem wM (a0 : Int) (r : Bool) (h : rD a0 = some r) : cD Tryz.prog 119 [.int .i64 a0] (.bool r):=by
 refine bA (rs:=[.bool r]) Tryz.func119 rfl Tryz.ntmps119 (nle rfl) rfl fun O hO=>?_
 show IWP _ _ _ _ ⟨[(0,.int .i64 a0)],[]⟩ _
 unfold rD at h
 refine aC (aA rfl (aE rfl rfl (lb rfl) (sv (d:=.bool false) rfl)) <|aB ?_)
 obtain ⟨x1,hx1,h⟩:=aR h
 obtain ⟨x2,hx2,h⟩:=aR h
 obtain ⟨x3,hx3,h⟩:=aR h
 refine aC (aA rfl (mvI rfl rfl rfl rfl) <|aA rfl (aP rfl rfl (lb rfl) (svI rfl) (sv (d:=.int _ 0) rfl) rfl hx1) <|aA rfl (mvB rfl rfl rfl rfl) <|aF rfl rfl (.one rfl) rfl (by decide) (fun hb=>(mvI rfl rfl rfl rfl)) <|aF rfl rfl (.one rfl) rfl (by decide) (fun hb=>(aP rfl rfl (lb rfl) (svcI rfl hb) (sv (d:=.int _ 4611686018427387903) rfl) rfl hx2)) <|aA rfl (bO rfl rfl (lb rfl) (svB rfl) rfl rfl hx3) <|aA rfl (asB rfl rfl rfl rfl) <|aB ?_)
 refine aS ?_
 obtain rfl:=Option.some.inj h
 refine ⟨.inr rfl,(.cons (sv rfl) .nil)⟩

theorem lA (a0 : aI) (r : Bool) (h : gP a0 = some r) : cD Tryz.prog 88 [.agg [.int .i64 a0.From,.int .i64 a0.To]] (.bool r):=by
 refine bA (rs:=[.bool r]) Tryz.func88 rfl Tryz.ntmps88 (nle rfl) rfl fun O hO=>?_
 show IWP _ _ _ _ ⟨[(0,.agg [.int .i64 a0.From,.int .i64 a0.To])],[]⟩ _
 unfold gP at h
 refine aC (aA rfl (bR (cs:=q25) 0 rfl rfl (lb rfl) rfl (svA q25 rfl) rfl rfl) <|aA rfl (aE rfl rfl (lb rfl) (sv (d:=.bool false) rfl)) <|aB ?_)
 obtain ⟨x1,hx1,h⟩:=aY h
 obtain ⟨x2,hx2,h⟩:=aY h
 obtain ⟨x3,hx3,h⟩:=aR h
 refine aC (aA rfl (faR 0 rfl rfl rfl Tryz.underlying116 rfl ti3 (lb rfl) rfl rfl) <|aA rfl (aG (d:=.int _ _) rfl rfl (lb rfl) Tryz.underlying3 ag3 ti3 (by decide) (svR rfl) rfl (nle rfl) rfl) <|aA rfl (aW (r:=.bool _) rfl rfl (lb rfl) cl119 (.cons (svI rfl) .nil) rfl (wM _ _ hx1)) <|aA rfl (mvB rfl rfl rfl rfl) <|aF rfl rfl (.one rfl) rfl (by decide) (fun hb=>(faR 1 rfl rfl rfl Tryz.underlying116 rfl ti3 (lb rfl) rfl rfl)) <|aF rfl rfl (.one rfl) rfl (by decide) (fun hb=>(aG (d:=.int _ _) rfl rfl (lb rfl) Tryz.underlying3 ag3 ti3 (by decide) (svcR rfl hb) rfl (nle rfl) rfl)) <|aF rfl rfl (.one rfl) rfl (by decide) (fun hb=>(aW (r:=.bool _) rfl rfl (lb rfl) cl119 (.cons (svcI rfl hb) .nil) rfl (wM _ _ (gd_t hx2 hb)))) <|aA rfl (bO rfl rfl (lb rfl) (svB rfl) rfl rfl hx3) <|aA rfl (asB rfl rfl rfl rfl) <|aB ?_)
 refine aS ?_
 obtain rfl:=Option.some.inj h
 refine ⟨.inr rfl,(.cons (sv rfl) .nil)⟩

theorem wO (a0 : aI) (r : Bool) (h : lT a0 = some r) : cD Tryz.prog 121 [.agg [.int .i64 a0.From,.int .i64 a0.To]] (.bool r):=by
 refine bA (rs:=[.bool r]) Tryz.func121 rfl Tryz.ntmps121 (nle rfl) rfl fun O hO=>?_
 show IWP _ _ _ _ ⟨[(0,.agg [.int .i64 a0.From,.int .i64 a0.To])],[]⟩ _
 unfold lT at h
 refine aC (aA rfl (bR (cs:=q25) 0 rfl rfl (lb rfl) rfl (svA q25 rfl) rfl rfl) <|aA rfl (aE rfl rfl (lb rfl) (sv (d:=.bool false) rfl)) <|aB ?_)
 obtain ⟨x1,hx1,h⟩:=aY h
 refine aC (aA rfl (lra q25 pW rfl rfl rfl rfl rfl (nle rfl) rfl) <|aA rfl (aW (r:=.bool _) rfl rfl (lb rfl) cl88 (.cons (svA q25 rfl) .nil) rfl (lA _ _ hx1)) <|aA rfl (dD rfl rfl (lb rfl) (svB rfl)) <|aA rfl (asB rfl rfl rfl rfl) <|aB ?_)
 refine aS ?_
 obtain rfl:=Option.some.inj h
 refine ⟨.inr rfl,(.cons (sv rfl) .nil)⟩

theorem iX (a0 : (List aI)) (r : Int) (h : dZ a0 = some r) : cD Tryz.prog 129 [.slice false (a0.map aJ.d),.fn 121 []] (.int .i64 r):=by
 refine bA (rs:=[.int .i64 r]) Tryz.func129 rfl Tryz.ntmps129 (nle rfl) rfl fun O hO=>?_
 show IWP _ _ _ _ ⟨[(0,.slice false (a0.map aJ.d)),(1,.fn 121 [])],[]⟩ _
 unfold dZ at h
 refine aC (aA rfl (aE rfl rfl (lb rfl) (sv (d:=.int _ 0) rfl)) <|aB ?_)
 refine aV ?_
 refine aC (aA rfl (mvL rfl rfl rfl rfl) <|aA rfl (cJ aJ (l:=a0) rfl rfl (lb rfl) Tryz.underlying26 (svL rfl)) <|aA rfl (aK rfl rfl (lb rfl) (sv (d:=.int _ 0) rfl)) <|aB ?_)
 refine bG ?_
 refine cW (α:=Nat × Int) (fun z=>⟨[(0,.slice false (a0.map aJ.d)),(1,.fn 121 []),(7,.int .i64 (a0.length : Int)),(8,.int .i64 z.2)],[]⟩) (fun z=>bY a0 z.1 z.2 = some r) (fun z=>z.1) (fuel,0) (fun i=>i) ⟨(.sames rfl rfl),.nil,bX [] rfl (by decide),fun _ _=>rfl⟩ ?_ ?_
 ·exact h
 ·
  rintro ⟨n0,v7⟩ h
  cases n0 with
  | zero=>exact absurd h (by unfold bY; exact nofun)
  | succ n0 =>
   unfold bY at h
   obtain ⟨x14,hx14,h⟩:=aR h
   refine aC (aA rfl (aP rfl rfl (lb rfl) (svI rfl) (svI rfl) rfl hx14) <|aB ?_)
   refine aV ?_
   refine aT (b:=_) rfl (fun hc15=>?_) (fun hc15=>?_)
   ·
    replace h:=bT h hc15
    refine aU ?_
    refine aN ?_
    refine aV ?_
    refine bG ?_
    refine aC (aA rfl (mvI rfl rfl rfl rfl) <|aA rfl (asI rfl rfl rfl rfl) <|aB ?_)
    obtain ⟨x16,hx16,h⟩:=aY h
    obtain ⟨x17,hx17,h⟩:=aY h
    refine aC (aA rfl (aK rfl rfl (lb rfl) (sv (d:=.fn 121 []) rfl)) <|aA rfl (mvL rfl rfl rfl rfl) <|aA rfl (mvI rfl rfl rfl rfl) <|aA rfl (cY aJ (cs:=q25) rfl rfl (lb rfl) Tryz.underlying26 fS (svL rfl) (svI rfl) hx16 rfl rfl) <|aA rfl (cQ (cs:=q25) rfl rfl (lb rfl) Tryz.underlying116 xS fS (by decide) (sv (d:=.fptr q25) rfl) (nle rfl) rfl) <|aA rfl (mT (r:=.bool _) rfl rfl (lb rfl) cl121 (sv (d:=.fn 121 []) rfl) (.cons (svA q25 rfl) .nil) rfl (wO _ _ hx17)) <|aB ?_)
    refine aT (b:=_) rfl (fun hc18=>?_) (fun hc18=>?_)
    ·
     replace h:=bT h hc18
     refine aC (aA rfl (mvI rfl rfl rfl rfl) <|aA rfl (asI rfl rfl rfl rfl) <|aB ?_)
     refine aS ?_
     refine bP ?_
     refine aZ ?_
     refine aZ ?_
     refine bP ?_
     refine aZ ?_
     obtain rfl:=Option.some.inj h
     refine ⟨.inr rfl,(.cons (sv rfl) .nil)⟩
    ·
     replace h:=bU h hc18
     refine aU ?_
     refine bZ ?_
     refine aN ?_
     obtain ⟨x19,hx19,h⟩:=aR h
     refine bD (aA rfl (bL rfl rfl (lb rfl) (svI rfl) (sv (d:=.int _ 1) rfl) rfl hx19) <|aA rfl (mvI rfl rfl rfl rfl) <|bW ?_)
     refine aN ⟨(n0,x19),(fun i=>i),⟨(.sames rfl rfl),.nil,bX [] rfl (by decide),fun _ _=>rfl⟩,?_,?_⟩
     exact h
     exact Nat.lt_succ_self _
   ·
    replace h:=bU h hc15
    refine cN ?_
    refine bI ?_
    refine bI ?_
    refine cO ?_
    refine aN ?_
    refine aC (aA rfl (aE rfl rfl (lb rfl) (sv (d:=.int _ (-1)) rfl)) <|aB ?_)
    refine aS ?_
    obtain rfl:=Option.some.inj h
    refine ⟨.inr rfl,(.cons (sv rfl) .nil)⟩

theorem iB (a0 : (List aI)) (r : Bool) (h : dE a0 = some r) : cD Tryz.prog 120 [.slice false (a0.map aJ.d),.fn 121 []] (.bool r):=by
 refine bA (rs:=[.bool r]) Tryz.func120 rfl Tryz.ntmps120 (nle rfl) rfl fun O hO=>?_
 show IWP _ _ _ _ ⟨[(0,.slice false (a0.map aJ.d)),(1,.fn 121 [])],[]⟩ _
 unfold dE at h
 refine aC (aA rfl (aE rfl rfl (lb rfl) (sv (d:=.bool false) rfl)) <|aB ?_)
 obtain ⟨x1,hx1,h⟩:=aY h
 obtain ⟨x2,hx2,h⟩:=aR h
 refine aC (aA rfl (mvL rfl rfl rfl rfl) <|aA rfl (aK rfl rfl (lb rfl) (sv (d:=.fn 121 []) rfl)) <|aA rfl (aW (r:=.int _ _) rfl rfl (lb rfl) cl129 (.cons (svL rfl) (.cons (sv (d:=.fn 121 []) rfl) .nil)) rfl (iX _ _ hx1)) <|aA rfl (aP rfl rfl (lb rfl) (svI rfl) (sv (d:=.int _ 0) rfl) rfl hx2) <|aA rfl (asB rfl rfl rfl rfl) <|aB ?_)
 refine aS ?_
 obtain rfl:=Option.some.inj h
 refine ⟨.inr rfl,(.cons (sv rfl) .nil)⟩

theorem gT (a0 : aI) (r : Bool) (h : fI a0 = some r) : cD Tryz.prog 89 [.agg [.int .i64 a0.From,.int .i64 a0.To]] (.bool r):=by
 refine bA (rs:=[.bool r]) Tryz.func89 rfl Tryz.ntmps89 (nle rfl) rfl fun O hO=>?_
 show IWP _ _ _ _ ⟨[(0,.agg [.int .i64 a0.From,.int .i64 a0.To])],[]⟩ _
 unfold fI at h
 refine aC (aA rfl (bR (cs:=q25) 0 rfl rfl (lb rfl) rfl (svA q25 rfl) rfl rfl) <|aA rfl (aE rfl rfl (lb rfl) (sv (d:=.bool false) rfl)) <|aB ?_)
 obtain ⟨x1,hx1,h⟩:=aR h
 refine aC (aA rfl (faR 1 rfl rfl rfl Tryz.underlying116 rfl ti3 (lb rfl) rfl rfl) <|aA rfl (aG (d:=.int _ _) rfl rfl (lb rfl) Tryz.underlying3 ag3 ti3 (by decide) (svR rfl) rfl (nle rfl) rfl) <|aA rfl (faR 0 rfl rfl rfl Tryz.underlying116 rfl ti3 (lb rfl) rfl rfl) <|aA rfl (aG (d:=.int _ _) rfl rfl (lb rfl) Tryz.underlying3 ag3 ti3 (by decide) (svR rfl) rfl (nle rfl) rfl) <|aA rfl (aP rfl rfl (lb rfl) (svI rfl) (svI rfl) rfl hx1) <|aA rfl (asB rfl rfl rfl rfl) <|aB ?_)
 refine aS ?_
 obtain rfl:=Option.some.inj h
 refine ⟨.inr rfl,(.cons (sv rfl) .nil)⟩

theorem jF (a0 : (List aI)) (r : Int) (h : eE a0 = some r) : cD Tryz.prog 129 [.slice false (a0.map aJ.d),.fn 89 []] (.int .i64 r):=by
 refine bA (rs:=[.int .i64 r]) Tryz.func129 rfl Tryz.ntmps129 (nle rfl) rfl fun O hO=>?_
 show IWP _ _ _ _ ⟨[(0,.slice false (a0.map aJ.d)),(1,.fn 89 [])],[]⟩ _
 unfold eE at h
 refine aC (aA rfl (aE rfl rfl (lb rfl) (sv (d:=.int _ 0) rfl)) <|aB ?_)
 refine aV ?_
 refine aC (aA rfl (mvL rfl rfl rfl rfl) <|aA rfl (cJ aJ (l:=a0) rfl rfl (lb rfl) Tryz.underlying26 (svL rfl)) <|aA rfl (aK rfl rfl (lb rfl) (sv (d:=.int _ 0) rfl)) <|aB ?_)
 refine bG ?_
 refine cW (α:=Nat × Int) (fun z=>⟨[(0,.slice false (a0.map aJ.d)),(1,.fn 89 []),(7,.int .i64 (a0.length : Int)),(8,.int .i64 z.2)],[]⟩) (fun z=>cB a0 z.1 z.2 = some r) (fun z=>z.1) (fuel,0) (fun i=>i) ⟨(.sames rfl rfl),.nil,bX [] rfl (by decide),fun _ _=>rfl⟩ ?_ ?_
 ·exact h
 ·
  rintro ⟨n0,v7⟩ h
  cases n0 with
  | zero=>exact absurd h (by unfold cB; exact nofun)
  | succ n0 =>
   unfold cB at h
   obtain ⟨x14,hx14,h⟩:=aR h
   refine aC (aA rfl (aP rfl rfl (lb rfl) (svI rfl) (svI rfl) rfl hx14) <|aB ?_)
   refine aV ?_
   refine aT (b:=_) rfl (fun hc15=>?_) (fun hc15=>?_)
   ·
    replace h:=bT h hc15
    refine aU ?_
    refine aN ?_
    refine aV ?_
    refine bG ?_
    refine aC (aA rfl (mvI rfl rfl rfl rfl) <|aA rfl (asI rfl rfl rfl rfl) <|aB ?_)
    obtain ⟨x16,hx16,h⟩:=aY h
    obtain ⟨x17,hx17,h⟩:=aY h
    refine aC (aA rfl (aK rfl rfl (lb rfl) (sv (d:=.fn 89 []) rfl)) <|aA rfl (mvL rfl rfl rfl rfl) <|aA rfl (mvI rfl rfl rfl rfl) <|aA rfl (cY aJ (cs:=q25) rfl rfl (lb rfl) Tryz.underlying26 fS (svL rfl) (svI rfl) hx16 rfl rfl) <|aA rfl (cQ (cs:=q25) rfl rfl (lb rfl) Tryz.underlying116 xS fS (by decide) (sv (d:=.fptr q25) rfl) (nle rfl) rfl) <|aA rfl (mT (r:=.bool _) rfl rfl (lb rfl) cl89 (sv (d:=.fn 89 []) rfl) (.cons (svA q25 rfl) .nil) rfl (gT _ _ hx17)) <|aB ?_)
    refine aT (b:=_) rfl (fun hc18=>?_) (fun hc18=>?_)
    ·
     replace h:=bT h hc18
     refine aC (aA rfl (mvI rfl rfl rfl rfl) <|aA rfl (asI rfl rfl rfl rfl) <|aB ?_)
     refine aS ?_
     refine bP ?_
     refine aZ ?_
     refine aZ ?_
     refine bP ?_
     refine aZ ?_
     obtain rfl:=Option.some.inj h
     refine ⟨.inr rfl,(.cons (sv rfl) .nil)⟩
    ·
     replace h:=bU h hc18
     refine aU ?_
     refine bZ ?_
     refine aN ?_
     obtain ⟨x19,hx19,h⟩:=aR h
     refine bD (aA rfl (bL rfl rfl (lb rfl) (svI rfl) (sv (d:=.int _ 1) rfl) rfl hx19) <|aA rfl (mvI rfl rfl rfl rfl) <|bW ?_)
     refine aN ⟨(n0,x19),(fun i=>i),⟨(.sames rfl rfl),.nil,bX [] rfl (by decide),fun _ _=>rfl⟩,?_,?_⟩
     exact h
     exact Nat.lt_succ_self _
   ·
    replace h:=bU h hc15
    refine cN ?_
    refine bI ?_
    refine bI ?_
    refine cO ?_
    refine aN ?_
    refine aC (aA rfl (aE rfl rfl (lb rfl) (sv (d:=.int _ (-1)) rfl)) <|aB ?_)
    refine aS ?_
    obtain rfl:=Option.some.inj h
    refine ⟨.inr rfl,(.cons (sv rfl) .nil)⟩

theorem iY (a0 : (List aI)) (r : Bool) (h : dK a0 = some r) : cD Tryz.prog 120 [.slice false (a0.map aJ.d),.fn 89 []] (.bool r):=by
 refine bA (rs:=[.bool r]) Tryz.func120 rfl Tryz.ntmps120 (nle rfl) rfl fun O hO=>?_
 show IWP _ _ _ _ ⟨[(0,.slice false (a0.map aJ.d)),(1,.fn 89 [])],[]⟩ _
 unfold dK at h
 refine aC (aA rfl (aE rfl rfl (lb rfl) (sv (d:=.bool false) rfl)) <|aB ?_)
 obtain ⟨x1,hx1,h⟩:=aY h
 obtain ⟨x2,hx2,h⟩:=aR h
 refine aC (aA rfl (mvL rfl rfl rfl rfl) <|aA rfl (aK rfl rfl (lb rfl) (sv (d:=.fn 89 []) rfl)) <|aA rfl (aW (r:=.int _ _) rfl rfl (lb rfl) cl129 (.cons (svL rfl) (.cons (sv (d:=.fn 89 []) rfl) .nil)) rfl (jF _ _ hx1)) <|aA rfl (aP rfl rfl (lb rfl) (svI rfl) (sv (d:=.int _ 0) rfl) rfl hx2) <|aA rfl (asB rfl rfl rfl rfl) <|aB ?_)
 refine aS ?_
 obtain rfl:=Option.some.inj h
 refine ⟨.inr rfl,(.cons (sv rfl) .nil)⟩

theorem nH (a0 : (List aI)) (r : Int) (h : kJ a0 = some r) : cD Tryz.prog 90 [.slice false (a0.map aJ.d)] (.int .i64 r):=by
 refine bA (rs:=[.int .i64 r]) Tryz.func90 rfl Tryz.ntmps90 (nle rfl) rfl fun O hO=>?_
 show IWP _ _ _ _ ⟨[(0,.slice false (a0.map aJ.d))],[]⟩ _
 unfold kJ at h
 refine aC (aA rfl (aE rfl rfl (lb rfl) (sv (d:=.int _ 0) rfl)) <|aB ?_)
 refine aV ?_
 refine bG ?_
 obtain ⟨x1,hx1,h⟩:=aY h
 refine aC (aA rfl (mvL rfl rfl rfl rfl) <|aA rfl (aW (r:=.bool _) rfl rfl (lb rfl) cl120 (.cons (svL rfl) (.cons (sv (d:=.fn 121 []) rfl) .nil)) rfl (iB _ _ hx1)) <|aA rfl (asB rfl rfl rfl rfl) <|aB ?_)
 refine aT (b:=_) rfl (fun hc2=>?_) (fun hc2=>?_)
 ·
  replace h:=bT h hc2
  refine aC (aA rfl (aE rfl rfl (lb rfl) (sv (d:=.int _ 8) rfl)) <|aB ?_)
  refine aS ?_
  refine bP ?_
  refine aZ ?_
  obtain rfl:=Option.some.inj h
  refine ⟨.inr rfl,(.cons (sv rfl) .nil)⟩
 ·
  replace h:=bU h hc2
  obtain ⟨x3,hx3,h⟩:=aY h
  refine aC (aA rfl (mvL rfl rfl rfl rfl) <|aA rfl (aW (r:=.bool _) rfl rfl (lb rfl) cl120 (.cons (svL rfl) (.cons (sv (d:=.fn 89 []) rfl) .nil)) rfl (iY _ _ hx3)) <|aA rfl (asB rfl rfl rfl rfl) <|aB ?_)
  refine aT (b:=_) rfl (fun hc4=>?_) (fun hc4=>?_)
  ·
   replace h:=bT h hc4
   refine aC (aA rfl (aE rfl rfl (lb rfl) (sv (d:=.int _ 4) rfl)) <|aB ?_)
   refine aS ?_
   refine bP ?_
   refine aZ ?_
   obtain rfl:=Option.some.inj h
   refine ⟨.inr rfl,(.cons (sv rfl) .nil)⟩
  ·
   replace h:=bU h hc4
   refine aU ?_
   refine bZ ?_
   refine aN ?_
   refine aV ?_
   refine aC (aA rfl (aE rfl rfl (lb rfl) (sv (d:=.int _ 1) rfl)) <|aB ?_)
   refine bG ?_
   refine cW (α:=Nat × Int) (fun z=>⟨[(0,.slice false (a0.map aJ.d)),(3,.int .i64 z.2)],[]⟩) (fun z=>fT a0 z.1 z.2 = some r) (fun z=>z.1) (fuel,1) (fun i=>i) ⟨(.sames rfl rfl),.nil,bX [] rfl (by decide),fun _ _=>rfl⟩ ?_ ?_
   ·exact h
   ·
    rintro ⟨n0,v13⟩ h
    cases n0 with
    | zero=>exact absurd h (by unfold fT; exact nofun)
    | succ n0 =>
     unfold fT at h
     refine aV ?_
     obtain ⟨x22,hx22,h⟩:=aR h
     refine aC (aA rfl (mvI rfl rfl rfl rfl) <|aA rfl (mvL rfl rfl rfl rfl) <|aA rfl (cJ aJ (l:=a0) rfl rfl (lb rfl) Tryz.underlying26 (svL rfl)) <|aA rfl (aP rfl rfl (lb rfl) (svI rfl) (svI rfl) rfl hx22) <|aB ?_)
     refine aT (b:=_) rfl (fun hc23=>?_) (fun hc23=>?_)
     ·
      replace h:=bT h hc23
      refine aU ?_
      refine aN ?_
      refine aV ?_
      refine bG ?_
      obtain ⟨x24,hx24,h⟩:=aY h
      obtain ⟨x25,hx25,h⟩:=aR h
      obtain ⟨x26,hx26,h⟩:=aY h
      obtain ⟨x27,hx27,h⟩:=aR h
      refine dG rfl [⟨[0],[],[(16,.slice false (a0.map aJ.d))],[]⟩,
       ⟨[3],[],[(17,.int .i64 v13)],[]⟩,
       ⟨[16,17],[],[(18,.fptr [.int .i64 x24.From,.int .i64 x24.To])],[]⟩,
       ⟨[18],[],[(19,.fptr [.int .i64 x24.From])],[]⟩,
       ⟨[19],[],[(20,.int .i64 x24.From)],[]⟩,
       ⟨[0],[],[(21,.slice false (a0.map aJ.d))],[]⟩,
       ⟨[3],[],[(22,.int .i64 v13)],[]⟩,
       ⟨[22],[],[(23,.int .i64 x25)],[]⟩,
       ⟨[21,23],[],[(24,.fptr [.int .i64 x26.From,.int .i64 x26.To])],[]⟩,
       ⟨[24],[],[(25,.fptr [.int .i64 x26.To])],[]⟩,
       ⟨[25],[],[(26,.int .i64 x26.To)],[]⟩,
       ⟨[20,26],[],[(27,.bool x27)],[]⟩] rfl ?_ (by kernel_rfl) ?_
      ·refine .cons (lop rfl rfl fun S hA=>(aK rfl rfl (lb rfl) (svaL hA rfl rfl))) ?_
       refine .cons (lop rfl rfl fun S hA=>(aK rfl rfl (lb rfl) (svaI hA rfl rfl))) ?_
       refine .cons (lop rfl rfl fun S hA=>(cY aJ (cs:=q25) rfl rfl (lb rfl) Tryz.underlying26 fS (svaL hA rfl rfl) (svaI hA rfl rfl) hx24 rfl rfl)) ?_
       refine .cons (lop rfl rfl fun S hA=>(dS (cs':=[.int _ _]) rfl rfl (lb rfl) Tryz.underlying116 rfl ti3 (by decide) (sv (d:=.fptr q25) (agr hA rfl rfl)) rfl)) ?_
       refine .cons (lop rfl rfl fun S hA=>(eT rfl rfl (lb rfl) Tryz.underlying3 ag3 ti3 (by decide) (sv (d:=.fptr [.int _ _]) (agr hA rfl rfl)) (nle rfl))) ?_
       refine .cons (lop rfl rfl fun S hA=>(aK rfl rfl (lb rfl) (svaL hA rfl rfl))) ?_
       refine .cons (lop rfl rfl fun S hA=>(aK rfl rfl (lb rfl) (svaI hA rfl rfl))) ?_
       refine .cons (lop rfl rfl fun S hA=>(bL rfl rfl (lb rfl) (svaI hA rfl rfl) (sv (d:=.int _ 1) rfl) rfl hx25)) ?_
       refine .cons (lop rfl rfl fun S hA=>(cY aJ (cs:=q25) rfl rfl (lb rfl) Tryz.underlying26 fS (svaL hA rfl rfl) (svaI hA rfl rfl) hx26 rfl rfl)) ?_
       refine .cons (lop rfl rfl fun S hA=>(dS (cs':=[.int _ _]) rfl rfl (lb rfl) Tryz.underlying116 rfl ti3 (by decide) (sv (d:=.fptr q25) (agr hA rfl rfl)) rfl)) ?_
       refine .cons (lop rfl rfl fun S hA=>(eT rfl rfl (lb rfl) Tryz.underlying3 ag3 ti3 (by decide) (sv (d:=.fptr [.int _ _]) (agr hA rfl rfl)) (nle rfl))) ?_
       refine .cons (lop rfl rfl fun S hA=>(aP rfl rfl (lb rfl) (svaI hA rfl rfl) (svaI hA rfl rfl) rfl hx27)) ?_
       exact .nil
      refine aT (b:=_) rfl (fun hc28=>?_) (fun hc28=>?_)
      ·
       replace h:=bT h hc28
       refine aC (aA rfl (aE rfl rfl (lb rfl) (sv (d:=.int _ 10) rfl)) <|aB ?_)
       refine aS ?_
       refine bP ?_
       refine aZ ?_
       refine aZ ?_
       refine bP ?_
       refine aZ ?_
       obtain rfl:=Option.some.inj h
       refine ⟨.inr rfl,(.cons (sv rfl) .nil)⟩
      ·
       replace h:=bU h hc28
       refine aU ?_
       refine bZ ?_
       refine aN ?_
       obtain ⟨x29,hx29,h⟩:=aR h
       refine bD (aA rfl (mvI rfl rfl rfl rfl) <|aA rfl (bL rfl rfl (lb rfl) (svI rfl) (sv (d:=.int _ 1) rfl) rfl hx29) <|aA rfl (asI rfl rfl rfl rfl) <|bW ?_)
       refine aN ⟨(n0,x29),(fun i=>i),⟨(.sames rfl rfl),.nil,bX [] rfl (by decide),fun _ _=>rfl⟩,?_,?_⟩
       exact h
       exact Nat.lt_succ_self _
     ·
      replace h:=bU h hc23
      refine cN ?_
      refine bI ?_
      refine bI ?_
      refine cO ?_
      refine aN ?_
      refine aC (aA rfl (aE rfl rfl (lb rfl) (sv (d:=.int _ 0) rfl)) <|aB ?_)
      refine aS ?_
      obtain rfl:=Option.some.inj h
      refine ⟨.inr rfl,(.cons (sv rfl) .nil)⟩

theorem uI (a0 : bB) (r : Bool) (h : kC a0 = some r) : cD Tryz.prog 69 [.agg (v2 a0)] (.bool r):=by
 refine bA (rs:=[.bool r]) Tryz.func69 rfl Tryz.ntmps69 (nle rfl) rfl fun O hO=>?_
 show IWP _ _ _ _ ⟨[(0,.agg (v2 a0))],[]⟩ _
 unfold kC at h
 refine aC (aA rfl (bR (cs:=q12) 0 rfl rfl (lb rfl) rfl (svA q12 rfl) rfl rfl) <|aA rfl (aE rfl rfl (lb rfl) (sv (d:=.bool false) rfl)) <|aB ?_)
 refine aV ?_
 obtain ⟨x1,hx1,h⟩:=aY h
 obtain ⟨x2,hx2,h⟩:=aR h
 refine aC (aA rfl (faR 4 rfl rfl rfl Tryz.underlying28 rfl ti26 (lb rfl) rfl rfl) <|aA rfl (lrL la26 rfl rfl rfl rfl rfl (nle rfl) rfl) <|aA rfl (aW (r:=.int _ _) rfl rfl (lb rfl) cl90 (.cons (svL rfl) .nil) rfl (nH _ _ hx1)) <|aA rfl (aP rfl rfl (lb rfl) (svI rfl) (sv (d:=.int _ 0) rfl) rfl hx2) <|aB ?_)
 refine aT (b:=_) rfl (fun hc3=>?_) (fun hc3=>?_)
 ·
  replace h:=bT h hc3
  refine aC (aA rfl (aE rfl rfl (lb rfl) (sv (d:=.bool false) rfl)) <|aB ?_)
  refine aS ?_
  refine aZ ?_
  obtain rfl:=Option.some.inj h
  refine ⟨.inr rfl,(.cons (sv rfl) .nil)⟩
 ·
  replace h:=bU h hc3
  refine aU ?_
  refine aN ?_
  obtain ⟨x4,hx4,h⟩:=aR h
  obtain ⟨x5,hx5,h⟩:=aY h
  obtain ⟨x6,hx6,h⟩:=aR h
  obtain ⟨x7,hx7,h⟩:=aR h
  obtain ⟨x8,hx8,h⟩:=aY h
  obtain ⟨x9,hx9,h⟩:=aR h
  obtain ⟨x10,hx10,h⟩:=aR h
  obtain ⟨x11,hx11,h⟩:=aR h
  refine dG rfl [⟨[1],[],[(7,.ref 0 4)],[]⟩,
   ⟨[7],[0],[(8,.slice false (a0.Lost.map aJ.d))],[]⟩,
   ⟨[8],[],[(9,.int .i64 (a0.Lost.length : Int))],[]⟩,
   ⟨[9],[],[(10,.bool x4)],[]⟩,
   ⟨[10],[],[(11,.bool x4)],[]⟩,
   ⟨[1,11],[],[(12,.cnd (x4 == false) (.ref 0 4))],[]⟩,
   ⟨[11,12],[0],[(13,.cnd (x4 == false) (.slice false (a0.Lost.map aJ.d)))],[]⟩,
   ⟨[11,13],[],[(14,.cnd (x4 == false) (.fptr [.int .i64 x5.From,.int .i64 x5.To]))],[]⟩,
   ⟨[11,14],[],[(15,.cnd (x4 == false) (.fptr [.int .i64 x5.From]))],[]⟩,
   ⟨[11,15],[],[(16,.cnd (x4 == false) (.int .i64 x5.From))],[]⟩,
   ⟨[1,11],[],[(17,.cnd (x4 == false) (.ref 0 0))],[]⟩,
   ⟨[11,17],[0],[(18,.cnd (x4 == false) (.int .i64 a0.Base))],[]⟩,
   ⟨[11,16,18],[],[(19,.cnd (x4 == false) (.bool x6))],[]⟩,
   ⟨[11,19],[],[(20,.cnd (x4 == false) (.bool x6))],[]⟩,
   ⟨[1,20],[],[(21,.cnd (((x4 == false) && (x6 == true))) (.ref 0 4))],[]⟩,
   ⟨[20,21],[0],[(22,.cnd (((x4 == false) && (x6 == true))) (.slice false (a0.Lost.map aJ.d)))],[]⟩,
   ⟨[1,20],[],[(23,.cnd (((x4 == false) && (x6 == true))) (.ref 0 4))],[]⟩,
   ⟨[20,23],[0],[(24,.cnd (((x4 == false) && (x6 == true))) (.slice false (a0.Lost.map aJ.d)))],[]⟩,
   ⟨[20,24],[],[(25,.cnd (((x4 == false) && (x6 == true))) (.int .i64 (a0.Lost.length : Int)))],[]⟩,
   ⟨[20,25],[],[(26,.cnd (((x4 == false) && (x6 == true))) (.int .i64 x7))],[]⟩,
   ⟨[20,22,26],[],[(27,.cnd (((x4 == false) && (x6 == true))) (.fptr [.int .i64 x8.From,.int .i64 x8.To]))],[]⟩,
   ⟨[20,27],[],[(28,.cnd (((x4 == false) && (x6 == true))) (.fptr [.int .i64 x8.To]))],[]⟩,
   ⟨[20,28],[],[(29,.cnd (((x4 == false) && (x6 == true))) (.int .i64 x8.To))],[]⟩,
   ⟨[1,20],[],[(30,.cnd (((x4 == false) && (x6 == true))) (.ref 0 2))],[]⟩,
   ⟨[20,30],[0],[(31,.cnd (((x4 == false) && (x6 == true))) (.int .i64 a0.Next))],[]⟩,
   ⟨[20,29,31],[],[(32,.cnd (((x4 == false) && (x6 == true))) (.bool x9))],[]⟩,
   ⟨[11,20,32],[],[(33,.cnd (x4 == false) (.bool x10))],[]⟩,
   ⟨[11,33],[],[(34,.bool x11)],[]⟩,
   ⟨[34],[],[(2,.bool x11)],[]⟩] rfl ?_ (by kernel_rfl) ?_
  ·refine .cons (lop rfl rfl fun S hA=>(aO rfl rfl (lb rfl) Tryz.underlying28 rfl ti26 (by decide) (svaR hA rfl rfl) (off':=4) rfl)) ?_
   refine .cons (lop rfl rfl fun S hA=>(aG (d:=.slice _ _) rfl rfl (lb rfl) Tryz.underlying26 ag26 ti26 (by decide) (svaR hA rfl rfl) (agi hA rfl rfl) (nle rfl) rfl)) ?_
   refine .cons (lop rfl rfl fun S hA=>(cJ aJ (l:=a0.Lost) rfl rfl (lb rfl) Tryz.underlying26 (svaL hA rfl rfl))) ?_
   refine .cons (lop rfl rfl fun S hA=>(aP rfl rfl (lb rfl) (svaI hA rfl rfl) (sv (d:=.int _ 0) rfl) rfl hx4)) ?_
   refine .cons (lop rfl rfl fun S hA=>(aK rfl rfl (lb rfl) (svaB hA rfl rfl))) ?_
   refine .cons (lopg rfl rfl rfl rfl (by decide) (fun S hA=>grd1 hA rfl rfl) (fun S hA hb=>(aO rfl rfl (lb rfl) Tryz.underlying28 rfl ti26 (by decide) (svaR hA rfl rfl) (off':=4) rfl))) ?_
   refine .cons (lopg rfl rfl rfl rfl (by decide) (fun S hA=>grd1 hA rfl rfl) (fun S hA hb=>(aG (d:=.slice _ _) rfl rfl (lb rfl) Tryz.underlying26 ag26 ti26 (by decide) (svc (d:=.ref _ _) (agr hA rfl rfl) hb) (agi hA rfl rfl) (nle rfl) rfl))) ?_
   refine .cons (lopg rfl rfl rfl rfl (by decide) (fun S hA=>grd1 hA rfl rfl) (fun S hA hb=>(cY aJ (cs:=q25) rfl rfl (lb rfl) Tryz.underlying26 fS (svc (d:=.slice _ _) (agr hA rfl rfl) hb) (sv (d:=.int _ 0) rfl) (gd_t hx5 hb) rfl rfl))) ?_
   refine .cons (lopg rfl rfl rfl rfl (by decide) (fun S hA=>grd1 hA rfl rfl) (fun S hA hb=>(dS (cs':=[.int _ _]) rfl rfl (lb rfl) Tryz.underlying116 rfl ti3 (by decide) (svc (d:=.fptr q25) (agr hA rfl rfl) hb) rfl))) ?_
   refine .cons (lopg rfl rfl rfl rfl (by decide) (fun S hA=>grd1 hA rfl rfl) (fun S hA hb=>(eT rfl rfl (lb rfl) Tryz.underlying3 ag3 ti3 (by decide) (svc (d:=.fptr [.int _ _]) (agr hA rfl rfl) hb) (nle rfl)))) ?_
   refine .cons (lopg rfl rfl rfl rfl (by decide) (fun S hA=>grd1 hA rfl rfl) (fun S hA hb=>(aO rfl rfl (lb rfl) Tryz.underlying28 rfl ti3 (by decide) (svaR hA rfl rfl) (off':=0) rfl))) ?_
   refine .cons (lopg rfl rfl rfl rfl (by decide) (fun S hA=>grd1 hA rfl rfl) (fun S hA hb=>(aG (d:=.int _ _) rfl rfl (lb rfl) Tryz.underlying3 ag3 ti3 (by decide) (svc (d:=.ref _ _) (agr hA rfl rfl) hb) (agi hA rfl rfl) (nle rfl) rfl))) ?_
   refine .cons (lopg rfl rfl rfl rfl (by decide) (fun S hA=>grd1 hA rfl rfl) (fun S hA hb=>(aP rfl rfl (lb rfl) (svc (d:=.int _ _) (agr hA rfl rfl) hb) (svc (d:=.int _ _) (agr hA rfl rfl) hb) rfl hx6))) ?_
   refine .cons (lopg rfl rfl rfl rfl (by decide) (fun S hA=>grd1 hA rfl rfl) (fun S hA hb=>(aK rfl rfl (lb rfl) (svc (d:=.bool _) (agr hA rfl rfl) hb)))) ?_
   refine .cons (lopg rfl rfl rfl rfl (by decide) (fun S hA=>grd2 hA rfl rfl) (fun S hA hb=>(aO rfl rfl (lb rfl) Tryz.underlying28 rfl ti26 (by decide) (svaR hA rfl rfl) (off':=4) rfl))) ?_
   refine .cons (lopg rfl rfl rfl rfl (by decide) (fun S hA=>grd2 hA rfl rfl) (fun S hA hb=>(aG (d:=.slice _ _) rfl rfl (lb rfl) Tryz.underlying26 ag26 ti26 (by decide) (svc (d:=.ref _ _) (agr hA rfl rfl) hb) (agi hA rfl rfl) (nle rfl) rfl))) ?_
   refine .cons (lopg rfl rfl rfl rfl (by decide) (fun S hA=>grd2 hA rfl rfl) (fun S hA hb=>(aO rfl rfl (lb rfl) Tryz.underlying28 rfl ti26 (by decide) (svaR hA rfl rfl) (off':=4) rfl))) ?_
   refine .cons (lopg rfl rfl rfl rfl (by decide) (fun S hA=>grd2 hA rfl rfl) (fun S hA hb=>(aG (d:=.slice _ _) rfl rfl (lb rfl) Tryz.underlying26 ag26 ti26 (by decide) (svc (d:=.ref _ _) (agr hA rfl rfl) hb) (agi hA rfl rfl) (nle rfl) rfl))) ?_
   refine .cons (lopg rfl rfl rfl rfl (by decide) (fun S hA=>grd2 hA rfl rfl) (fun S hA hb=>(cJ aJ (l:=a0.Lost) rfl rfl (lb rfl) Tryz.underlying26 (svc (d:=.slice _ _) (agr hA rfl rfl) hb)))) ?_
   refine .cons (lopg rfl rfl rfl rfl (by decide) (fun S hA=>grd2 hA rfl rfl) (fun S hA hb=>(bL rfl rfl (lb rfl) (svc (d:=.int _ _) (agr hA rfl rfl) hb) (sv (d:=.int _ 1) rfl) rfl hx7))) ?_
   refine .cons (lopg rfl rfl rfl rfl (by decide) (fun S hA=>grd2 hA rfl rfl) (fun S hA hb=>(cY aJ (cs:=q25) rfl rfl (lb rfl) Tryz.underlying26 fS (svc (d:=.slice _ _) (agr hA rfl rfl) hb) (svc (d:=.int _ _) (agr hA rfl rfl) hb) (gd_t hx8 hb) rfl rfl))) ?_
   refine .cons (lopg rfl rfl rfl rfl (by decide) (fun S hA=>grd2 hA rfl rfl) (fun S hA hb=>(dS (cs':=[.int _ _]) rfl rfl (lb rfl) Tryz.underlying116 rfl ti3 (by decide) (svc (d:=.fptr q25) (agr hA rfl rfl) hb) rfl))) ?_
   refine .cons (lopg rfl rfl rfl rfl (by decide) (fun S hA=>grd2 hA rfl rfl) (fun S hA hb=>(eT rfl rfl (lb rfl) Tryz.underlying3 ag3 ti3 (by decide) (svc (d:=.fptr [.int _ _]) (agr hA rfl rfl) hb) (nle rfl)))) ?_
   refine .cons (lopg rfl rfl rfl rfl (by decide) (fun S hA=>grd2 hA rfl rfl) (fun S hA hb=>(aO rfl rfl (lb rfl) Tryz.underlying28 rfl ti3 (by decide) (svaR hA rfl rfl) (off':=2) rfl))) ?_
   refine .cons (lopg rfl rfl rfl rfl (by decide) (fun S hA=>grd2 hA rfl rfl) (fun S hA hb=>(aG (d:=.int _ _) rfl rfl (lb rfl) Tryz.underlying3 ag3 ti3 (by decide) (svc (d:=.ref _ _) (agr hA rfl rfl) hb) (agi hA rfl rfl) (nle rfl) rfl))) ?_
   refine .cons (lopg rfl rfl rfl rfl (by decide) (fun S hA=>grd2 hA rfl rfl) (fun S hA hb=>(aP rfl rfl (lb rfl) (svc (d:=.int _ _) (agr hA rfl rfl) hb) (svc (d:=.int _ _) (agr hA rfl rfl) hb) rfl hx9))) ?_
   refine .cons (lopg rfl rfl rfl rfl (by decide) (fun S hA=>grd1 hA rfl rfl) (fun S hA hb=>(pE rfl rfl (lb rfl) hb (svc (d:=.bool _) (agr hA rfl rfl) hb) (agr hA rfl rfl) rfl hx10))) ?_
   refine .cons (lop rfl rfl fun S hA=>(dM rfl rfl (lb rfl) (svaB hA rfl rfl) rfl (agr hA rfl rfl) hx11)) ?_
   refine .cons (lop rfl rfl fun S hA=>(aE rfl rfl (lb rfl) (svaB hA rfl rfl))) ?_
   exact .nil
  refine aS ?_
  obtain rfl:=Option.some.inj h
  refine ⟨.inr rfl,(.cons (sv rfl) .nil)⟩

theorem wJ (a0 : Int) (r : Bool) (h : qP a0 = some r) : cD Tryz.prog 52 [.int .i64 a0] (.bool r):=by
 refine bA (rs:=[.bool r]) Tryz.func52 rfl Tryz.ntmps52 (nle rfl) rfl fun O hO=>?_
 show IWP _ _ _ _ ⟨[(0,.int .i64 a0)],[]⟩ _
 unfold qP at h
 refine aC (aA rfl (aE rfl rfl (lb rfl) (sv (d:=.bool false) rfl)) <|aB ?_)
 obtain ⟨x1,hx1,h⟩:=aR h
 obtain ⟨x2,hx2,h⟩:=aR h
 obtain ⟨x3,hx3,h⟩:=aR h
 refine aC (aA rfl (mvI rfl rfl rfl rfl) <|aA rfl (aP rfl rfl (lb rfl) (svI rfl) (sv (d:=.int _ 0) rfl) rfl hx1) <|aA rfl (mvB rfl rfl rfl rfl) <|aF rfl rfl (.one rfl) rfl (by decide) (fun hb=>(mvI rfl rfl rfl rfl)) <|aF rfl rfl (.one rfl) rfl (by decide) (fun hb=>(aP rfl rfl (lb rfl) (svcI rfl hb) (sv (d:=.int _ 4) rfl) rfl hx2)) <|aA rfl (bO rfl rfl (lb rfl) (svB rfl) rfl rfl hx3) <|aA rfl (asB rfl rfl rfl rfl) <|aB ?_)
 refine aS ?_
 obtain rfl:=Option.some.inj h
 refine ⟨.inr rfl,(.cons (sv rfl) .nil)⟩

theorem kQ (a0 : aM) (r : aI) (h : gV a0 = some r) : cD Tryz.prog 55 [.agg (v6 a0)] (.agg [.int .i64 r.From,.int .i64 r.To]):=by
 refine bA (rs:=[.agg [.int .i64 r.From,.int .i64 r.To]]) Tryz.func55 rfl Tryz.ntmps55 (nle rfl) rfl fun O hO=>?_
 show IWP _ _ _ _ ⟨[(0,.agg (v6 a0))],[]⟩ _
 unfold gV at h
 refine aC (aA rfl (bR (cs:=q17) 0 rfl rfl (lb rfl) rfl (svA q17 rfl) rfl rfl) <|aA rfl (bJ (cs:=q25) (cs':=[.int .i64 0,.int .i64 0]) 1 rfl rfl (lb rfl) rfl fS rfl rfl (.all _)) <|aB ?_)
 refine aC (aA rfl (faR 0 rfl rfl rfl Tryz.underlying52 rfl ti3 (lb rfl) rfl rfl) <|aA rfl (aG (d:=.int _ _) rfl rfl (lb rfl) Tryz.underlying3 ag3 ti3 (by decide) (svR rfl) rfl (nle rfl) rfl) <|aA rfl (faR 1 rfl rfl rfl Tryz.underlying52 rfl ti3 (lb rfl) rfl rfl) <|aA rfl (aG (d:=.int _ _) rfl rfl (lb rfl) Tryz.underlying3 ag3 ti3 (by decide) (svR rfl) rfl (nle rfl) rfl) <|aA rfl (cC (cs:=q25) rfl rfl (lb rfl) Tryz.underlying116 fS aEB rfl (.cons (svI rfl) (.cons (svI rfl) .nil)) rfl) <|aA rfl (stA q25 q25 fS rfl rfl rfl rfl rfl rfl rfl rfl (nle rfl) rfl) <|aB ?_)
 refine aS ?_
 obtain rfl:=Option.some.inj h
 refine ⟨.inr rfl,(.cons (rva pW rfl rfl (nle rfl) rfl) .nil)⟩

theorem gI (a0 : (List aI)) (r : (List aI)) (h : dF a0 = some r) : FnH Tryz.prog 87 [.slice false (a0.map aJ.d)] [] (.osl 0 aJ.sz r.length) [(0,.blk 116 (D.flat (r.map aJ.d)))]:=by
 refine eU (rs:=[.osl 0 aJ.sz r.length]) Tryz.func87 rfl Tryz.ntmps87 (nle rfl) fun O hO=>?_
 show IWP _ _ _ _ ⟨[(0,.slice false (a0.map aJ.d))],[]⟩ _
 unfold dF at h
 refine aC (aA rfl (aE rfl rfl (lb rfl) (sv (d:=.nils) rfl)) <|aB ?_)
 refine aV ?_
 refine aC (aA rfl (mvL rfl rfl rfl rfl) <|tW rfl rfl rfl (by decide) Tryz.underlying26 (svL rfl) rfl <| fun bn1 hbn1 =>
  aB ?_)
 refine aT (b:=_) rfl (fun hc2=>?_) (fun hc2=>?_)
 ·
  replace h:=aAC h (mapE (hbn1 hc2))
  refine aC (aA rfl (aE rfl rfl (lb rfl) (sv (d:=.nils) rfl)) <|aB ?_)
  refine aS ?_
  refine aZ ?_
  obtain rfl:=Option.some.inj h
  refine ⟨.inr rfl,(fun i=>if i = 0 then 50 else i),⟨.nil,(.cons (.nilb rfl) .nil),bX [50] rfl (by decide),(fun i hi=>by first | rfl | (show (if _ then _ else _) = _; (repeat' split) <;> omega))⟩,(.cons (svno rfl) .nil),rfl⟩
 ·
  replace h:=aAD h
  refine aU ?_
  refine aN ?_
  obtain ⟨x3,hx3,h⟩:=aY h
  refine aC (aA rfl (jP aJ.toEnc0 ([] : (List aI)) 0 rfl rfl (lb rfl) Tryz.underlying26 fS rfl .nil rfl rfl (by decide)) <|aA rfl (mvL rfl rfl rfl rfl) <|aA rfl (kS aJ.toEnc0 1 rfl rfl (lb rfl) Tryz.underlying26 fS rfl rfl rfl rfl rfl (aAP aJ (ys:=a0) (svL rfl)) hx3) <|aA rfl (aE rfl rfl (lb rfl) (sv (d:=.osl _ _ _) rfl)) <|aB ?_)
  refine aS ?_
  obtain rfl:=Option.some.inj h
  refine ⟨.inr rfl,(fun i=>if i = 0 then 1 else i),⟨.nil,(.cons (EntW.lst rfl) .nil),bX [1] rfl (by decide),(fun i hi=>by first | rfl | (show (if _ then _ else _) = _; (repeat' split) <;> omega))⟩,(.cons (sv rfl) .nil),rfl⟩

theorem sP (a0 : (List aI)) (a1 : aI) (r : (List aI)) (h : nS a0 a1 = some r) : cD Tryz.prog 54 [.slice false (a0.map aJ.d), .agg [.int .i64 a1.From, .int .i64 a1.To]] (.slice false (r.map aJ.d)) := by
 refine iM (rs:=[.slice false (r.map aJ.d)]) Tryz.func54 rfl Tryz.ntmps54 (nle rfl) rfl fun O hO=>?_
 show IWP _ _ _ _ ⟨[(0,.slice false (a0.map aJ.d)),(1,.agg [.int .i64 a1.From,.int .i64 a1.To])],[]⟩ _
 unfold nS at h
 refine aC (aA rfl (bR (cs:=q25) 0 rfl rfl (lb rfl) rfl (svA q25 rfl) rfl rfl) <|aA rfl (aE rfl rfl (lb rfl) (sv (d:=.nils) rfl)) <|aB ?_)
 refine aV ?_
 obtain ⟨x1,hx1,h⟩:=aY h
 obtain ⟨x2,hx2,h⟩:=aY h
 obtain ⟨x3,hx3,h⟩:=aR h
 obtain ⟨x4,hx4,h⟩:=aY h
 obtain ⟨x5,hx5,h⟩:=aR h
 obtain ⟨x6,hx6,h⟩:=aR h
 refine aC (aA rfl (lra q25 pW rfl rfl rfl rfl rfl (nle rfl) rfl) <|aA rfl (aW (r:=.bool _) rfl rfl (lb rfl) cl88 (.cons (svA q25 rfl) .nil) rfl (lA _ _ hx1)) <|aA rfl (dD rfl rfl (lb rfl) (svB rfl)) <|aA rfl (mvB rfl rfl rfl rfl) <|aF rfl rfl (.one rfl) rfl (by decide) (fun hb=>(lra q25 pW rfl rfl rfl rfl rfl (nle rfl) rfl)) <|aF rfl rfl (.one rfl) rfl (by decide) (fun hb=>(aW (r:=.bool _) rfl rfl (lb rfl) cl89 (.cons (svc (d:=.agg [.int .i64 a1.From,.int .i64 a1.To]) rfl hb) .nil) rfl (gT _ _ (gd_t hx2 hb)))) <|aA rfl (dM rfl rfl (lb rfl) (svB rfl) rfl rfl hx3) <|aA rfl (mvB rfl rfl rfl rfl) <|aF rfl rfl (.one rfl) rfl (by decide) (fun hb=>(mvL rfl rfl rfl rfl)) <|aF rfl rfl (.one rfl) rfl (by decide) (fun hb=>(aW (r:=.int _ _) rfl rfl (lb rfl) cl90 (.cons (svcL rfl hb) .nil) rfl (nH _ _ (gd_t hx4 hb)))) <|aF rfl rfl (.one rfl) rfl (by decide) (fun hb=>(aP rfl rfl (lb rfl) (svcI rfl hb) (sv (d:=.int _ 0) rfl) rfl hx5)) <|aA rfl (dM rfl rfl (lb rfl) (svB rfl) rfl rfl hx6) <|aB ?_)
 refine aT (b:=_) rfl (fun hc7=>?_) (fun hc7=>?_)
 ·
  replace h:=bT h hc7
  obtain ⟨x8,hx8,h⟩:=aY h
  refine aC (aA rfl (mvL rfl rfl rfl rfl) <|aA rfl (dU (r':=.osl 1 aJ.sz x8.length) (H1':=[(1,.blk 116 (D.flat (x8.map aJ.d)))]) 1 [] rfl rfl (lb rfl) cl87 (.cons (svL rfl) .nil) rfl rfl ⟨rfl,rfl,by decide,rfl,List.forall_mem_nil _⟩ (gI _ _ hx8) rfl rfl (List.forall_mem_cons.2 ⟨⟨rfl,(jT aJ)⟩,List.forall_mem_nil _⟩) (by simp only [List.map_cons,List.map_nil,Ent.ren,eS,fH]; rfl)) <|aA rfl (aE rfl rfl (lb rfl) (sv (d:=.osl _ _ _) rfl)) <|aB ?_)
  refine aS ?_
  refine aZ ?_
  obtain rfl:=Option.some.inj h
  refine ⟨.inr rfl,_,(.cons (sv rfl) .nil),(.cons (FDT aJ rfl rfl) .nil)⟩
 ·
  replace h:=bU h hc7
  refine aU ?_
  refine aN ?_
  refine aC (aA rfl (bJ (cs:=[.nils]) (cs':=[.nils]) 1 rfl rfl (lb rfl) rfl ti26 rfl rfl (.all _)) <|aB ?_)
  refine aV ?_
  refine aC (aA rfl (mvL rfl rfl rfl rfl) <|aA rfl (lra q25 pW rfl rfl rfl rfl rfl (nle rfl) rfl) <|?_)
  refine vP (S':=⟨[(5,.ref 1 0),(21,.slice false (a0.map aJ.d)),(22,.agg [.int .i64 a1.From,.int .i64 a1.To])],[(1,.blk 26 [.nils])]⟩) (fun i=>i) ⟨(.sames rfl rfl),(.cons (.blk rfl rfl rfl) .nil),bX [1] rfl (by decide),fun _ _=>rfl⟩ ?_
  refine aDV 1 2 rfl rfl rfl (by decide) cl91 Tryz.func91 rfl (.cons (svL rfl) (.cons (svA q25 rfl) .nil)) Tryz.ntmps91 (nle rfl) rfl hO fun O1 hO1=>?_
  show IWP _ _ _ _ ⟨[(0,.slice false (a0.map aJ.d)),(1,.agg [.int .i64 a1.From,.int .i64 a1.To])],[(2,.kept 1 [.dead,.dead,.dead,.dead,.dead,.ref 1 0,.dead,.dead,.dead,.dead,.dead,.dead,.dead,.dead,.dead,.dead,.dead,.dead,.dead,.dead,.dead,.slice false (a0.map aJ.d),.agg [.int .i64 a1.From,.int .i64 a1.To],.dead,.dead,.dead,.dead,.dead,.dead,.dead]),(1,.blk 26 [.nils])]⟩ _
  refine aC (aA rfl (bR (cs:=[.slice _ _]) 3 rfl rfl (lb rfl) rfl (svL rfl) rfl rfl) <|aA rfl (bR (cs:=q25) 4 rfl rfl (lb rfl) rfl (svA q25 rfl) rfl rfl) <|aA rfl (aE rfl rfl (lb rfl) (sv (d:=.nilf) rfl)) <|aB ?_)
  refine aC (aA rfl (kL rfl rfl (lb rfl) (.cons (svR rfl) (.cons (svR rfl) .nil))) <|aA rfl (aE rfl rfl (lb rfl) (sv (d:=.fn 122 [.ref _ _,.ref _ _]) rfl)) <|aB ?_)
  refine aS ?_
  refine ⟨.inr rfl,2,_,[.fn 122 [.ref 3 0,.ref 4 0]],(.cons (sv rfl) .nil),rfl,rfl,⟨[(5,.ref 1 0),(23,.fn 122 [.ref 3 0,.ref 4 0])],[(1,.blk 26 [.nils]),(3,.blk 26 [.slice false (a0.map aJ.d)]),(4,.blk 116 [.int .i64 a1.From,.int .i64 a1.To])]⟩,(fun i=>i),⟨(.sames rfl rfl),(.cons (.blk rfl rfl rfl) (.cons (.blk rfl rfl rfl) (.cons (.blk rfl rfl rfl) .nil))),bX [1,3,4] rfl (by decide),fun _ _=>rfl⟩,?_⟩
  refine aB ?_
  refine bG ?_
  refine vN (S':=⟨[(5,.ref 1 0),(23,.fn 122 [.ref 3 0,.ref 4 0])],[(1,.blk 26 [.nils]),(3,.blk 26 [.slice false (a0.map aJ.d)]),(4,.blk 116 [.int .i64 a1.From,.int .i64 a1.To])]⟩) (fun i=>i) ⟨(.sames rfl rfl),(.cons (.blk rfl rfl rfl) (.cons (.blk rfl rfl rfl) (.cons (.blk rfl rfl rfl) .nil))),bX [1,3,4] rfl (by decide),fun _ _=>rfl⟩ ?_
  refine aAl 1 5 6 (sv (d:=.fn 122 [.ref _ _,.ref _ _]) rfl) cl122 Tryz.func122 rfl rfl Tryz.ntmps122 (nle rfl) rfl rfl hO fun O1 hO1 hlc1=>?_
  show IWP _ _ _ _ ⟨[(0,.yld 5),(1,.ref 3 0),(2,.ref 4 0)],[(6,.kept 1 [.dead,.dead,.dead,.dead,.dead,.ref 1 0,.dead,.dead,.dead,.dead,.dead,.dead,.dead,.dead,.dead,.dead,.dead,.dead,.dead,.dead,.dead,.dead,.dead,.fn 122 [.ref 3 0,.ref 4 0],.dead,.dead,.dead,.dead,.dead,.dead]),(5,.loop 1 [.dead,.dead,.dead,.dead,.dead,.ref 1 0,.dead,.dead,.dead,.dead,.dead,.dead,.dead,.dead,.dead,.dead,.dead,.dead,.dead,.dead,.dead,.dead,.dead,.fn 122 [.ref 3 0,.ref 4 0],.dead,.dead,.dead,.dead,.dead,.dead] .ready none),(1,.blk 26 [.nils]),(3,.blk 26 [.slice false (a0.map aJ.d)]),(4,.blk 116 [.int .i64 a1.From,.int .i64 a1.To])]⟩ _
  refine aC (aA rfl (lrL la26 rfl rfl rfl rfl rfl (nle rfl) rfl) <|aA rfl (cJ aJ (l:=a0) rfl rfl (lb rfl) Tryz.underlying26 (svL rfl)) <|aA rfl (aK rfl rfl (lb rfl) (sv (d:=.int _ 0) rfl)) <|aB ?_)
  refine bG ?_
  refine cW (α:=Nat × Int × (List aI)) (fun z=>⟨[(0,.yld 5),(2,.ref 4 0),(8,.slice false (a0.map aJ.d)),(9,.int .i64 (a0.length : Int)),(10,.int .i64 z.2.1)],[(5,.loop 1 [.dead,.dead,.dead,.dead,.dead,.ref 1 0,.dead,.dead,.dead,.dead,.dead,.dead,.dead,.dead,.dead,.dead,.dead,.dead,.dead,.dead,.dead,.dead,.dead,.fn 122 [.ref 3 0,.ref 4 0],.dead,.dead,.dead,.dead,.dead,.dead] .ready none),(4,.blk 116 [.int .i64 a1.From,.int .i64 a1.To]),(6,.kept 1 [.dead,.dead,.dead,.dead,.dead,.ref 1 0,.dead,.dead,.dead,.dead,.dead,.dead,.dead,.dead,.dead,.dead,.dead,.dead,.dead,.dead,.dead,.dead,.dead,.fn 122 [.ref 3 0,.ref 4 0],.dead,.dead,.dead,.dead,.dead,.dead]),(1,.blk 26 [.osl 28 aJ.sz z.2.2.length]),(3,.blk 26 [.slice false (a0.map aJ.d)]),(28,.blk 116 (D.flat (z.2.2.map aJ.d)))]⟩) (fun z=>iQ a0 a1 z.1 z.2.1 z.2.2 = some r) (fun z=>z.1) (fuel,0,([] : (List aI))) (fun i=>if i = 28 then 85 else i) ⟨(.sames rfl rfl),(.cons (.loop rfl rfl rfl) (.cons (.blk rfl rfl rfl) (.cons (.kept rfl rfl rfl) (.cons (.sub rfl (.nilo .nil) rfl) (.cons (.blk rfl rfl rfl) (.cons (.nilb rfl) .nil)))))),bX [5,4,6,1,3,85] rfl (by decide),(fun i hi=>by first | rfl | (show (if _ then _ else _) = _; (repeat' split) <;> omega))⟩ ?_ ?_
  ·exact h
  ·
   rintro ⟨n0,v52,v53⟩ h
   cases n0 with
   | zero=>exact absurd h (by unfold iQ; exact nofun)
   | succ n0 =>
    unfold iQ at h
    obtain ⟨x97,hx97,h⟩:=aR h
    refine aC (aA rfl (aP rfl rfl (lb rfl) (svI rfl) (svI rfl) rfl hx97) <|aB ?_)
    refine aV ?_
    refine aT (b:=_) rfl (fun hc98=>?_) (fun hc98=>?_)
    ·
     replace h:=bT h hc98
     refine aU ?_
     refine aN ?_
     refine aV ?_
     refine bG ?_
     obtain ⟨x99,hx99,h⟩:=aY h
     refine aC (aA rfl (cY aJ (cs:=q25) rfl rfl (lb rfl) Tryz.underlying26 fS (svL rfl) (svI rfl) hx99 rfl rfl) <|aA rfl (cQ (cs:=q25) rfl rfl (lb rfl) Tryz.underlying116 xS fS (by decide) (sv (d:=.fptr q25) rfl) (nle rfl) rfl) <|aA rfl (bJ (cs:=q25) (cs':=[.int .i64 0,.int .i64 0]) 29 rfl rfl (lb rfl) rfl fS rfl rfl (.all _)) <|aA rfl (stA q25 q25 fS rfl rfl rfl rfl rfl rfl rfl rfl (nle rfl) rfl) <|aB ?_)
     obtain ⟨x100,hx100,h⟩:=aR h
     obtain ⟨x101,hx101,h⟩:=aR h
     refine aC (aA rfl (faR 0 rfl rfl rfl Tryz.underlying116 rfl ti3 (lb rfl) rfl rfl) <|aA rfl (aG (d:=.int _ _) rfl rfl (lb rfl) Tryz.underlying3 ag3 ti3 (by decide) (svR rfl) rfl (nle rfl) rfl) <|aA rfl (faR 1 rfl rfl rfl Tryz.underlying116 rfl ti3 (lb rfl) rfl rfl) <|aA rfl (aG (d:=.int _ _) rfl rfl (lb rfl) Tryz.underlying3 ag3 ti3 (by decide) (svR rfl) rfl (nle rfl) rfl) <|aA rfl (faR 0 rfl rfl rfl Tryz.underlying116 rfl ti3 (lb rfl) rfl rfl) <|aA rfl (aG (d:=.int _ _) rfl rfl (lb rfl) Tryz.underlying3 ag3 ti3 (by decide) (svR rfl) rfl (nle rfl) rfl) <|aA rfl (mM rfl rfl (lb rfl) (svI rfl) (svI rfl) hx100) <|aA rfl (cC (cs:=q25) rfl rfl (lb rfl) Tryz.underlying116 fS aEB rfl (.cons (svI rfl) (.cons (svI rfl) .nil)) rfl) <|aA rfl (faR 0 rfl rfl rfl Tryz.underlying116 rfl ti3 (lb rfl) rfl rfl) <|aA rfl (aG (d:=.int _ _) rfl rfl (lb rfl) Tryz.underlying3 ag3 ti3 (by decide) (svR rfl) rfl (nle rfl) rfl) <|aA rfl (faR 1 rfl rfl rfl Tryz.underlying116 rfl ti3 (lb rfl) rfl rfl) <|aA rfl (aG (d:=.int _ _) rfl rfl (lb rfl) Tryz.underlying3 ag3 ti3 (by decide) (svR rfl) rfl (nle rfl) rfl) <|aA rfl (pZ rfl rfl (lb rfl) (svI rfl) (svI rfl) hx101) <|aA rfl (faR 1 rfl rfl rfl Tryz.underlying116 rfl ti3 (lb rfl) rfl rfl) <|aA rfl (aG (d:=.int _ _) rfl rfl (lb rfl) Tryz.underlying3 ag3 ti3 (by decide) (svR rfl) rfl (nle rfl) rfl) <|aA rfl (cC (cs:=q25) rfl rfl (lb rfl) Tryz.underlying116 fS aEB rfl (.cons (svI rfl) (.cons (svI rfl) .nil)) rfl) <|aA rfl (xA (cs:=[.int _ _,.int _ _,.int _ _,.int _ _]) rfl rfl (lb rfl) Tryz.underlying184 ti184 fS rfl (.cons (svA q25 rfl) (.cons (svA q25 rfl) .nil)) rfl) <|aA rfl (aK rfl rfl (lb rfl) (sv (d:=.int _ 0) rfl)) <|aB ?_)
     refine bG ?_
     refine cW (α:=Nat × Int × (List aI)) (fun z=>⟨[(0,.yld 5),(2,.ref 4 0),(8,.slice false (a0.map aJ.d)),(9,.int .i64 (a0.length : Int)),(10,.int .i64 v52),(30,.agg (w41 x99.From x100 x101 x99.To)),(31,.int .i64 z.2.1)],[(5,.loop 1 [.dead,.dead,.dead,.dead,.dead,.ref 1 0,.dead,.dead,.dead,.dead,.dead,.dead,.dead,.dead,.dead,.dead,.dead,.dead,.dead,.dead,.dead,.dead,.dead,.fn 122 [.ref 3 0,.ref 4 0],.dead,.dead,.dead,.dead,.dead,.dead] .ready none),(4,.blk 116 [.int .i64 a1.From,.int .i64 a1.To]),(6,.kept 1 [.dead,.dead,.dead,.dead,.dead,.ref 1 0,.dead,.dead,.dead,.dead,.dead,.dead,.dead,.dead,.dead,.dead,.dead,.dead,.dead,.dead,.dead,.dead,.dead,.fn 122 [.ref 3 0,.ref 4 0],.dead,.dead,.dead,.dead,.dead,.dead]),(1,.blk 26 [.osl 28 aJ.sz z.2.2.length]),(3,.blk 26 [.slice false (a0.map aJ.d)]),(28,.blk 116 (D.flat (z.2.2.map aJ.d)))]⟩) (fun z=>fO v52 (iQ a0 a1 n0) x99 x100 x101 z.1 z.2.1 z.2.2 = some r) (fun z=>z.1) (fuel,0,v53) (fun i=>i) ⟨(.sames rfl rfl),(.cons (.loop rfl rfl rfl) (.cons (.blk rfl rfl rfl) (.cons (.kept rfl rfl rfl) (.cons (.blk rfl rfl rfl) (.cons (.blk rfl rfl rfl) (.cons (EntW.lst rfl) .nil)))))),bX [5,4,6,1,3,28] rfl (by decide),fun _ _=>rfl⟩ ?_ ?_
     ·exact h
     ·
      rintro ⟨n1,v113,v114⟩ h
      cases n1 with
      | zero=>exact absurd h (by unfold fO; exact nofun)
      | succ n1 =>
       unfold fO at h
       obtain ⟨x127,hx127,h⟩:=aR h
       refine aC (aA rfl (aP rfl rfl (lb rfl) (svI rfl) (sv (d:=.int _ 2) rfl) rfl hx127) <|aB ?_)
       refine aV ?_
       refine aT (b:=_) rfl (fun hc128=>?_) (fun hc128=>?_)
       ·
        replace h:=bT h hc128
        refine aU ?_
        refine aN ?_
        refine aV ?_
        refine bG ?_
        obtain ⟨x129,hx129,h⟩:=aY h
        refine aC (aA rfl (aAr aJ (ds:=q25) rfl rfl (lb rfl) Tryz.underlying184 Tryz.underlying116 xS fS (by decide) (sv (d:=.agg [.int _ _,.int _ _,.int _ _,.int _ _]) rfl) (svI rfl) hx129 rfl ⟨rfl,⟨rfl,trivial⟩⟩ rfl rfl) <|aA rfl (bJ (cs:=q25) (cs':=[.int .i64 0,.int .i64 0]) 29 rfl rfl (lb rfl) rfl fS rfl rfl (.all _)) <|aA rfl (stA q25 q25 fS rfl rfl rfl rfl rfl rfl rfl rfl (nle rfl) rfl) <|aB ?_)
        obtain ⟨x130,hx130,h⟩:=aY h
        refine aC (aA rfl (lra q25 pW rfl rfl rfl rfl rfl (nle rfl) rfl) <|aA rfl (aW (r:=.bool _) rfl rfl (lb rfl) cl89 (.cons (svA q25 rfl) .nil) rfl (gT _ _ hx130)) <|aA rfl (dD rfl rfl (lb rfl) (svB rfl)) <|aA rfl (mvB rfl rfl rfl rfl) <|aF rfl rfl (.one rfl) rfl (by decide) (fun hb=>(aK rfl rfl (lb rfl) (sv (d:=.yld _) rfl))) <|aF rfl rfl (.one rfl) rfl (by decide) (fun hb=>(lra q25 pW rfl rfl rfl rfl rfl (nle rfl) rfl)) <|?_)
        refine fQ rfl rfl (.one rfl) rfl (by decide) (fun hc131=>?_) (fun hc131=>?_)
        ·
         replace h:=bT h hc131
         refine nU 38 rfl hc131 ?_
         refine nU 39 rfl hc131 ?_
         refine vP (S':=⟨[(0,.yld 5),(2,.ref 4 0),(8,.slice false (a0.map aJ.d)),(9,.int .i64 (a0.length : Int)),(10,.int .i64 v52),(30,.agg (w41 x99.From x100 x101 x99.To)),(31,.int .i64 v113),(37,.bool (!x130)),(38,.yld 5),(39,.agg [.int .i64 x129.From,.int .i64 x129.To])],[(1,.blk 26 [.osl 28 aJ.sz v114.length]),(3,.blk 26 [.slice false (a0.map aJ.d)]),(4,.blk 116 [.int .i64 a1.From,.int .i64 a1.To]),(5,.loop 1 [.dead,.dead,.dead,.dead,.dead,.ref 1 0,.dead,.dead,.dead,.dead,.dead,.dead,.dead,.dead,.dead,.dead,.dead,.dead,.dead,.dead,.dead,.dead,.dead,.fn 122 [.ref 3 0,.ref 4 0],.dead,.dead,.dead,.dead,.dead,.dead] .ready none),(6,.kept 1 [.dead,.dead,.dead,.dead,.dead,.ref 1 0,.dead,.dead,.dead,.dead,.dead,.dead,.dead,.dead,.dead,.dead,.dead,.dead,.dead,.dead,.dead,.dead,.dead,.fn 122 [.ref 3 0,.ref 4 0],.dead,.dead,.dead,.dead,.dead,.dead]),(28,.blk 116 (D.flat (v114.map aJ.d)))]⟩) (fun i=>i) ⟨(.sames rfl rfl),(.cons (.blk rfl rfl rfl) (.cons (.blk rfl rfl rfl) (.cons (.blk rfl rfl rfl) (.cons (.loop rfl rfl rfl) (.cons (.kept rfl rfl rfl) (.cons (EntW.lst rfl) .nil)))))),bX [1,3,4,5,6,28] rfl (by decide),fun _ _=>rfl⟩ ?_
         refine aAy 2 5 30 rfl rfl rfl (by decide) rfl (.cons (svA q25 rfl) .nil) rfl rfl rfl rfl rfl rfl hO1 hlc1 ⟨[(24,.agg [.int .i64 x129.From,.int .i64 x129.To]),(5,.ref 1 0)],[(1,.blk 26 [.osl 28 aJ.sz v114.length]),(3,.blk 26 [.slice false (a0.map aJ.d)]),(4,.blk 116 [.int .i64 a1.From,.int .i64 a1.To]),(5,.loop 1 [.dead,.dead,.dead,.dead,.dead,.ref 1 0,.dead,.dead,.dead,.dead,.dead,.dead,.dead,.dead,.dead,.dead,.dead,.dead,.dead,.dead,.dead,.dead,.dead,.fn 122 [.ref 3 0,.ref 4 0],.dead,.dead,.dead,.dead,.dead,.dead] .ready none),(6,.kept 1 [.dead,.dead,.dead,.dead,.dead,.ref 1 0,.dead,.dead,.dead,.dead,.dead,.dead,.dead,.dead,.dead,.dead,.dead,.dead,.dead,.dead,.dead,.dead,.dead,.fn 122 [.ref 3 0,.ref 4 0],.dead,.dead,.dead,.dead,.dead,.dead]),(28,.blk 116 (D.flat (v114.map aJ.d))),(30,.kept 2 [.yld 5,.dead,.ref 4 0,.dead,.dead,.dead,.dead,.dead,.slice false (a0.map aJ.d),.int .i64 (a0.length : Int),.int .i64 v52,.dead,.dead,.dead,.dead,.dead,.dead,.dead,.dead,.dead,.dead,.dead,.dead,.dead,.dead,.dead,.dead,.dead,.dead,.dead,.agg (w41 x99.From x100 x101 x99.To),.int .i64 v113,.dead,.dead,.dead,.dead,.dead,.bool (!x130),.yld 5,.agg [.int .i64 x129.From,.int .i64 x129.To],.dead,.dead,.dead,.dead,.dead])]⟩ (fun i=>i) ⟨(.sames rfl rfl),(.cons (.blk rfl rfl rfl) (.cons (.blk rfl rfl rfl) (.cons (.blk rfl rfl rfl) (.cons (.loop rfl rfl rfl) (.cons (.kept rfl rfl rfl) (.cons (EntW.lst rfl) (.cons (.kept rfl rfl rfl) .nil))))))),bX [1,3,4,5,6,28,30] rfl (by decide),fun _ _=>rfl⟩ fun O2=>?_
         refine bD (aA rfl (bJ (cs:=q25) (cs':=[.int .i64 0,.int .i64 0]) 31 rfl rfl (lb rfl) rfl fS rfl rfl (.all _)) <|aA rfl (stA q25 q25 fS rfl rfl rfl rfl rfl rfl rfl rfl (nle rfl) rfl) <|bW ?_)
         refine ⟨rfl,5,_,rfl,⟨[(5,.ref 1 0),(6,.ref 31 0)],[(1,.blk 26 [.osl 28 aJ.sz v114.length]),(3,.blk 26 [.slice false (a0.map aJ.d)]),(4,.blk 116 [.int .i64 a1.From,.int .i64 a1.To]),(5,.loop 1 [.dead,.dead,.dead,.dead,.dead,.ref 1 0,.dead,.dead,.dead,.dead,.dead,.dead,.dead,.dead,.dead,.dead,.dead,.dead,.dead,.dead,.dead,.dead,.dead,.fn 122 [.ref 3 0,.ref 4 0],.dead,.dead,.dead,.dead,.dead,.dead] .busy none),(6,.kept 1 [.dead,.dead,.dead,.dead,.dead,.ref 1 0,.dead,.dead,.dead,.dead,.dead,.dead,.dead,.dead,.dead,.dead,.dead,.dead,.dead,.dead,.dead,.dead,.dead,.fn 122 [.ref 3 0,.ref 4 0],.dead,.dead,.dead,.dead,.dead,.dead]),(28,.blk 116 (D.flat (v114.map aJ.d))),(30,.kept 2 [.yld 5,.dead,.ref 4 0,.dead,.dead,.dead,.dead,.dead,.slice false (a0.map aJ.d),.int .i64 (a0.length : Int),.int .i64 v52,.dead,.dead,.dead,.dead,.dead,.dead,.dead,.dead,.dead,.dead,.dead,.dead,.dead,.dead,.dead,.dead,.dead,.dead,.dead,.agg (w41 x99.From x100 x101 x99.To),.int .i64 v113,.dead,.dead,.dead,.dead,.dead,.bool (!x130),.yld 5,.agg [.int .i64 x129.From,.int .i64 x129.To],.dead,.dead,.dead,.dead,.dead]),(31,.blk 116 [.int .i64 x129.From,.int .i64 x129.To])]⟩,(fun i=>i),⟨(.sames rfl rfl),(.cons (.blk rfl rfl rfl) (.cons (.blk rfl rfl rfl) (.cons (.blk rfl rfl rfl) (.cons (.loop rfl rfl rfl) (.cons (.kept rfl rfl rfl) (.cons (EntW.lst rfl) (.cons (.kept rfl rfl rfl) (.cons (.blk rfl rfl rfl) .nil)))))))),bX [1,3,4,5,6,28,30,31] rfl (by decide),fun _ _=>rfl⟩,?_⟩
         refine bG ?_
         obtain ⟨x132,hx132,h⟩:=aY h
         refine bD (aA rfl (aG (d:=.osl _ _ _) rfl rfl (lb rfl) Tryz.underlying26 ag26 ti26 (by decide) (svR rfl) rfl (nle rfl) rfl) <|aA rfl (lra q25 pW rfl rfl rfl rfl rfl (nle rfl) rfl) <|aA rfl (jP aJ.toEnc0 ([(⟨x129.From,x129.To⟩ : aI)] : (List aI)) 32 rfl rfl (lb rfl) Tryz.underlying26 fS rfl (.cons (svA q25 rfl) .nil) rfl rfl (by decide)) <|aA rfl (kS aJ.toEnc0 33 rfl rfl (lb rfl) Tryz.underlying26 fS rfl rfl rfl rfl rfl (qK aJ.toEnc0 rfl rfl rfl) hx132) <|aA rfl (bQ (ds':=[.osl _ _ _]) rfl rfl ti26 (svR rfl) rfl (sv (d:=.osl _ _ _) rfl) rfl rfl rfl (nle rfl) rfl) <|bW ?_)
         refine bZ ?_
         refine ⟨5,30,_,_,none,rfl,rfl,rfl,rfl,(by decide),⟨[(0,.yld 5),(2,.ref 4 0),(8,.slice false (a0.map aJ.d)),(9,.int .i64 (a0.length : Int)),(10,.int .i64 v52),(30,.agg (w41 x99.From x100 x101 x99.To)),(31,.int .i64 v113),(37,.bool (!x130)),(38,.yld 5),(39,.agg [.int .i64 x129.From,.int .i64 x129.To]),(40,.bool true)],[(1,.blk 26 [.osl 33 aJ.sz x132.length]),(3,.blk 26 [.slice false (a0.map aJ.d)]),(4,.blk 116 [.int .i64 a1.From,.int .i64 a1.To]),(5,.loop 1 [.dead,.dead,.dead,.dead,.dead,.ref 1 0,.dead,.dead,.dead,.dead,.dead,.dead,.dead,.dead,.dead,.dead,.dead,.dead,.dead,.dead,.dead,.dead,.dead,.fn 122 [.ref 3 0,.ref 4 0],.dead,.dead,.dead,.dead,.dead,.dead] .ready none),(6,.kept 1 [.dead,.dead,.dead,.dead,.dead,.ref 1 0,.dead,.dead,.dead,.dead,.dead,.dead,.dead,.dead,.dead,.dead,.dead,.dead,.dead,.dead,.dead,.dead,.dead,.fn 122 [.ref 3 0,.ref 4 0],.dead,.dead,.dead,.dead,.dead,.dead]),(33,.blk 116 (D.flat (x132.map aJ.d)))]⟩,(fun i=>i),⟨(.sames rfl rfl),(.cons (.blk rfl rfl rfl) (.cons (.blk rfl rfl rfl) (.cons (.blk rfl rfl rfl) (.cons (.loop rfl rfl rfl) (.cons (.kept rfl rfl rfl) (.cons (EntW.lst rfl) .nil)))))),bX [1,3,4,5,6,33] rfl (by decide),fun _ _=>rfl⟩,?_⟩
         obtain ⟨x133,hx133,h⟩:=aR h
         refine aF rfl rfl (.one rfl) rfl (by decide) (fun hb=>(dD rfl rfl (lb rfl) (svB rfl))) <|aA rfl (bO rfl rfl (lb rfl) (svB rfl) rfl rfl hx133) <|aB ?_
         refine aT (b:=_) rfl (fun hc134=>?_) (fun hc134=>?_)
         ·
          replace h:=bT h hc134
          refine aS ?_
          refine bP ?_
          refine aZ ?_
          refine aZ ?_
          refine bP ?_
          refine bP ?_
          refine aZ ?_
          refine aZ ?_
          refine bP ?_
          refine ⟨.inr rfl,5,6,_,_,_,_,rfl,(by simp),rfl,rfl,⟨[(5,.ref 1 0)],[(1,.blk 26 [.osl 33 aJ.sz x132.length]),(33,.blk 116 (D.flat (x132.map aJ.d)))]⟩,(fun i=>i),⟨(.sames rfl rfl),(.cons (.blk rfl rfl rfl) (.cons (EntW.lst rfl) .nil)),bX [1,33] rfl (by decide),fun _ _=>rfl⟩,?_⟩
          refine bZ ?_
          refine aN ?_
          refine aC (aA rfl (aG (d:=.osl _ _ _) rfl rfl (lb rfl) Tryz.underlying26 ag26 ti26 (by decide) (svR rfl) rfl (nle rfl) rfl) <|aA rfl (aE rfl rfl (lb rfl) (sv (d:=.osl _ _ _) rfl)) <|aB ?_)
          refine aS ?_
          obtain rfl:=Option.some.inj h
          refine ⟨.inr rfl,_,(.cons (sv rfl) .nil),(.cons (FDT aJ rfl rfl) .nil)⟩
         ·
          replace h:=bU h hc134
          refine aU ?_
          refine bZ ?_
          refine aN ?_
          obtain ⟨x135,hx135,h⟩:=aR h
          refine bD (aA rfl (bL rfl rfl (lb rfl) (svI rfl) (sv (d:=.int _ 1) rfl) rfl hx135) <|aA rfl (mvI rfl rfl rfl rfl) <|bW ?_)
          refine aN ⟨(n1,x135,x132),(fun i=>if i = 28 then 33 else i),⟨(.sames rfl rfl),(.cons (.loop rfl rfl rfl) (.cons (.blk rfl rfl rfl) (.cons (.kept rfl rfl rfl) (.cons (.blk rfl rfl rfl) (.cons (.blk rfl rfl rfl) (.cons (EntW.lst rfl) .nil)))))),bX [5,4,6,1,3,33] rfl (by decide),(fun i hi=>by first | rfl | (show (if _ then _ else _) = _; (repeat' split) <;> omega))⟩,?_,?_⟩
          exact h
          exact Nat.lt_succ_self _
        ·
         replace h:=bU h hc131
         obtain ⟨x136,hx136,h⟩:=aR h
         refine aF rfl rfl (.one rfl) rfl (by decide) (fun hb=>(dD rfl rfl (lb rfl) (svcB rfl hb))) <|aA rfl (bO rfl rfl (lb rfl) (svB rfl) rfl rfl hx136) <|aB ?_
         refine aT (b:=_) rfl (fun hc137=>?_) (fun hc137=>?_)
         ·
          replace h:=bT h hc137
          refine aS ?_
          refine bP ?_
          refine aZ ?_
          refine aZ ?_
          refine bP ?_
          refine bP ?_
          refine aZ ?_
          refine aZ ?_
          refine bP ?_
          refine ⟨.inr rfl,5,6,_,_,_,_,rfl,(by simp),rfl,rfl,⟨[(5,.ref 1 0)],[(1,.blk 26 [.osl 28 aJ.sz v114.length]),(28,.blk 116 (D.flat (v114.map aJ.d)))]⟩,(fun i=>i),⟨(.sames rfl rfl),(.cons (.blk rfl rfl rfl) (.cons (EntW.lst rfl) .nil)),bX [1,28] rfl (by decide),fun _ _=>rfl⟩,?_⟩
          refine bZ ?_
          refine aN ?_
          refine aC (aA rfl (aG (d:=.osl _ _ _) rfl rfl (lb rfl) Tryz.underlying26 ag26 ti26 (by decide) (svR rfl) rfl (nle rfl) rfl) <|aA rfl (aE rfl rfl (lb rfl) (sv (d:=.osl _ _ _) rfl)) <|aB ?_)
          refine aS ?_
          obtain rfl:=Option.some.inj h
          refine ⟨.inr rfl,_,(.cons (sv rfl) .nil),(.cons (FDT aJ rfl rfl) .nil)⟩
         ·
          replace h:=bU h hc137
          refine aU ?_
          refine bZ ?_
          refine aN ?_
          obtain ⟨x138,hx138,h⟩:=aR h
          refine bD (aA rfl (bL rfl rfl (lb rfl) (svI rfl) (sv (d:=.int _ 1) rfl) rfl hx138) <|aA rfl (mvI rfl rfl rfl rfl) <|bW ?_)
          refine aN ⟨(n1,x138,v114),(fun i=>i),⟨(.sames rfl rfl),(.cons (.loop rfl rfl rfl) (.cons (.blk rfl rfl rfl) (.cons (.kept rfl rfl rfl) (.cons (.blk rfl rfl rfl) (.cons (.blk rfl rfl rfl) (.cons (EntW.lst rfl) .nil)))))),bX [5,4,6,1,3,28] rfl (by decide),fun _ _=>rfl⟩,?_,?_⟩
          exact h
          exact Nat.lt_succ_self _
       ·
        replace h:=bU h hc128
        refine cN ?_
        refine bI ?_
        refine bI ?_
        refine cO ?_
        refine bZ ?_
        refine aN ?_
        obtain ⟨x139,hx139,h⟩:=aR h
        refine bD (aA rfl (bL rfl rfl (lb rfl) (svI rfl) (sv (d:=.int _ 1) rfl) rfl hx139) <|aA rfl (mvI rfl rfl rfl rfl) <|bW ?_)
        refine aN ⟨(n0,x139,v114),(fun i=>i),⟨(.sames rfl rfl),(.cons (.loop rfl rfl rfl) (.cons (.blk rfl rfl rfl) (.cons (.kept rfl rfl rfl) (.cons (.blk rfl rfl rfl) (.cons (.blk rfl rfl rfl) (.cons (EntW.lst rfl) .nil)))))),bX [5,4,6,1,3,28] rfl (by decide),fun _ _=>rfl⟩,?_,?_⟩
        exact h
        exact Nat.lt_succ_self _
    ·
     replace h:=bU h hc98
     refine cN ?_
     refine bI ?_
     refine bI ?_
     refine cO ?_
     refine ⟨.inl rfl,5,6,_,_,_,_,rfl,(by simp),rfl,rfl,⟨[(5,.ref 1 0)],[(1,.blk 26 [.osl 28 aJ.sz v53.length]),(28,.blk 116 (D.flat (v53.map aJ.d)))]⟩,(fun i=>i),⟨(.sames rfl rfl),(.cons (.blk rfl rfl rfl) (.cons (EntW.lst rfl) .nil)),bX [1,28] rfl (by decide),fun _ _=>rfl⟩,?_⟩
     refine bZ ?_
     refine aN ?_
     refine aC (aA rfl (aG (d:=.osl _ _ _) rfl rfl (lb rfl) Tryz.underlying26 ag26 ti26 (by decide) (svR rfl) rfl (nle rfl) rfl) <|aA rfl (aE rfl rfl (lb rfl) (sv (d:=.osl _ _ _) rfl)) <|aB ?_)
     refine aS ?_
     obtain rfl:=Option.some.inj h
     refine ⟨.inr rfl,_,(.cons (sv rfl) .nil),(.cons (FDT aJ rfl rfl) .nil)⟩

theorem aAg (a0 : (List aI)) (a1 : aI) (r : (List aI)) (h : pC a0 a1 = some r) : cD Tryz.prog 107 [.slice false (a0.map aJ.d),.agg [.int .i64 a1.From,.int .i64 a1.To]] (.slice false (r.map aJ.d)):=by
 refine bA (rs:=[.slice false (r.map aJ.d)]) Tryz.func107 rfl Tryz.ntmps107 (nle rfl) rfl fun O hO=>?_
 show IWP _ _ _ _ ⟨[(0,.slice false (a0.map aJ.d)),(1,.agg [.int .i64 a1.From,.int .i64 a1.To])],[]⟩ _
 unfold pC at h
 refine aC (aA rfl (bR (cs:=q25) 0 rfl rfl (lb rfl) rfl (svA q25 rfl) rfl rfl) <|aA rfl (aE rfl rfl (lb rfl) (sv (d:=.nils) rfl)) <|aB ?_)
 refine aV ?_
 obtain ⟨x1,hx1,h⟩:=aY h
 obtain ⟨x2,hx2,h⟩:=aY h
 obtain ⟨x3,hx3,h⟩:=aR h
 obtain ⟨x4,hx4,h⟩:=aR h
 obtain ⟨x5,hx5,h⟩:=aY h
 obtain ⟨x6,hx6,h⟩:=aR h
 refine aC (aA rfl (lra q25 pW rfl rfl rfl rfl rfl (nle rfl) rfl) <|aA rfl (aW (r:=.bool _) rfl rfl (lb rfl) cl88 (.cons (svA q25 rfl) .nil) rfl (lA _ _ hx1)) <|aA rfl (dD rfl rfl (lb rfl) (svB rfl)) <|aA rfl (mvB rfl rfl rfl rfl) <|aF rfl rfl (.one rfl) rfl (by decide) (fun hb=>(mvL rfl rfl rfl rfl)) <|aF rfl rfl (.one rfl) rfl (by decide) (fun hb=>(aW (r:=.int _ _) rfl rfl (lb rfl) cl90 (.cons (svcL rfl hb) .nil) rfl (nH _ _ (gd_t hx2 hb)))) <|aF rfl rfl (.one rfl) rfl (by decide) (fun hb=>(aP rfl rfl (lb rfl) (svcI rfl hb) (sv (d:=.int _ 0) rfl) rfl hx3)) <|aA rfl (dM rfl rfl (lb rfl) (svB rfl) rfl rfl hx4) <|aA rfl (mvB rfl rfl rfl rfl) <|aF rfl rfl (.one rfl) rfl (by decide) (fun hb=>(lra q25 pW rfl rfl rfl rfl rfl (nle rfl) rfl)) <|aF rfl rfl (.one rfl) rfl (by decide) (fun hb=>(aW (r:=.bool _) rfl rfl (lb rfl) cl89 (.cons (svc (d:=.agg [.int .i64 a1.From,.int .i64 a1.To]) rfl hb) .nil) rfl (gT _ _ (gd_t hx5 hb)))) <|aA rfl (dM rfl rfl (lb rfl) (svB rfl) rfl rfl hx6) <|aB ?_)
 refine aT (b:=_) rfl (fun hc7=>?_) (fun hc7=>?_)
 ·
  replace h:=bT h hc7
  refine aC (aA rfl (aE rfl rfl (lb rfl) (sv (d:=.nils) rfl)) <|aB ?_)
  refine aS ?_
  refine aZ ?_
  obtain rfl:=Option.some.inj h
  refine ⟨.inr rfl,(.cons (sW rfl rfl) .nil)⟩
 ·
  replace h:=bU h hc7
  refine aU ?_
  refine aN ?_
  refine aC (aA rfl (lra q25 pW rfl rfl rfl rfl rfl (nle rfl) rfl) <|aA rfl (oQ aJ ([(⟨a1.From,a1.To⟩ : aI)] : (List aI)) 1 rfl rfl (lb rfl) Tryz.underlying26 fS rfl (.cons (svA q25 rfl) .nil) rfl rfl (by decide)) <|aA rfl (aE rfl rfl (lb rfl) (sv (d:=.gsl _ _ _) rfl)) <|aB ?_)
  refine aV ?_
  refine aC (aA rfl (mvL rfl rfl rfl rfl) <|aA rfl (cJ aJ (l:=a0) rfl rfl (lb rfl) Tryz.underlying26 (svL rfl)) <|aA rfl (aK rfl rfl (lb rfl) (sv (d:=.int _ 0) rfl)) <|aB ?_)
  refine bG ?_
  refine cW (α:=Nat × (List aI) × Int) (fun z=>⟨[(5,.slice false (z.2.1.map aJ.d)),(22,.slice false (a0.map aJ.d)),(23,.int .i64 (a0.length : Int)),(24,.int .i64 z.2.2)],[]⟩) (fun z=>iP a0 z.1 z.2.1 z.2.2 = some r) (fun z=>z.1) (fuel,([(⟨a1.From,a1.To⟩ : aI)] : (List aI)),0) (fun i=>i) ⟨(.cons (.coe (svg rfl) rfl) (.sames rfl rfl)),.nil,bX [] rfl (by decide),fun _ _=>rfl⟩ ?_ ?_
  ·exact h
  ·
   rintro ⟨n0,v13,v14⟩ h
   cases n0 with
   | zero=>exact absurd h (by unfold iP; exact nofun)
   | succ n0 =>
    unfold iP at h
    obtain ⟨x20,hx20,h⟩:=aR h
    refine aC (aA rfl (aP rfl rfl (lb rfl) (svI rfl) (svI rfl) rfl hx20) <|aB ?_)
    refine aV ?_
    refine aT (b:=_) rfl (fun hc21=>?_) (fun hc21=>?_)
    ·
     replace h:=bT h hc21
     refine aU ?_
     refine aN ?_
     refine aV ?_
     refine bG ?_
     obtain ⟨x22,hx22,h⟩:=aY h
     refine aC (aA rfl (cY aJ (cs:=q25) rfl rfl (lb rfl) Tryz.underlying26 fS (svL rfl) (svI rfl) hx22 rfl rfl) <|aA rfl (cQ (cs:=q25) rfl rfl (lb rfl) Tryz.underlying116 xS fS (by decide) (sv (d:=.fptr q25) rfl) (nle rfl) rfl) <|aA rfl (bJ (cs:=q25) (cs':=[.int .i64 0,.int .i64 0]) 0 rfl rfl (lb rfl) rfl fS rfl rfl (.all _)) <|aA rfl (stA q25 q25 fS rfl rfl rfl rfl rfl rfl rfl rfl (nle rfl) rfl) <|aB ?_)
     obtain ⟨x23,hx23,h⟩:=aY h
     refine bD (aA rfl (mvL rfl rfl rfl rfl) <|aA rfl (lra q25 pW rfl rfl rfl rfl rfl (nle rfl) rfl) <|aA rfl (aW (r:=.slice _ _) rfl rfl (lb rfl) cl54 (.cons (svL rfl) (.cons (svA q25 rfl) .nil)) rfl (sP _ _ _ hx23)) <|aA rfl (aE rfl rfl (lb rfl) (svL rfl)) <|bW ?_)
     refine bZ ?_
     refine aN ?_
     obtain ⟨x24,hx24,h⟩:=aR h
     refine bD (aA rfl (bL rfl rfl (lb rfl) (svI rfl) (sv (d:=.int _ 1) rfl) rfl hx24) <|aA rfl (mvI rfl rfl rfl rfl) <|bW ?_)
     refine aN ⟨(n0,x23,x24),(fun i=>i),⟨(.sames rfl rfl),.nil,bX [] rfl (by decide),fun _ _=>rfl⟩,?_,?_⟩
     exact h
     exact Nat.lt_succ_self _
    ·
     replace h:=bU h hc21
     refine cN ?_
     refine bI ?_
     refine bI ?_
     refine cO ?_
     refine aN ?_
     refine aC (aA rfl (mvL rfl rfl rfl rfl) <|aA rfl (aE rfl rfl (lb rfl) (svL rfl)) <|aB ?_)
     refine aS ?_
     obtain rfl:=Option.some.inj h
     refine ⟨.inr rfl,(.cons (sv rfl) .nil)⟩

theorem lC (a0 : (List aI)) (a1 : (List aI)) (r : Bool) (h : eK a0 a1 = some r) : cD Tryz.prog 110 [.slice false (a0.map aJ.d),.slice false (a1.map aJ.d)] (.bool r):=by
 refine bA (rs:=[.bool r]) Tryz.func110 rfl Tryz.ntmps110 (nle rfl) rfl fun O hO=>?_
 show IWP _ _ _ _ ⟨[(0,.slice false (a0.map aJ.d)),(1,.slice false (a1.map aJ.d))],[]⟩ _
 unfold eK at h
 refine aC (aA rfl (aE rfl rfl (lb rfl) (sv (d:=.bool false) rfl)) <|aB ?_)
 refine aV ?_
 obtain ⟨x1,hx1,h⟩:=aR h
 refine aC (aA rfl (mvL rfl rfl rfl rfl) <|aA rfl (cJ aJ (l:=a0) rfl rfl (lb rfl) Tryz.underlying26 (svL rfl)) <|aA rfl (mvL rfl rfl rfl rfl) <|aA rfl (cJ aJ (l:=a1) rfl rfl (lb rfl) Tryz.underlying26 (svL rfl)) <|aA rfl (aP rfl rfl (lb rfl) (svI rfl) (svI rfl) rfl hx1) <|aB ?_)
 refine aT (b:=_) rfl (fun hc2=>?_) (fun hc2=>?_)
 ·
  replace h:=bT h hc2
  refine aC (aA rfl (aE rfl rfl (lb rfl) (sv (d:=.bool false) rfl)) <|aB ?_)
  refine aS ?_
  refine aZ ?_
  obtain rfl:=Option.some.inj h
  refine ⟨.inr rfl,(.cons (sv rfl) .nil)⟩
 ·
  replace h:=bU h hc2
  refine aU ?_
  refine aN ?_
  refine aV ?_
  refine aC (aA rfl (mvL rfl rfl rfl rfl) <|aA rfl (cJ aJ (l:=a0) rfl rfl (lb rfl) Tryz.underlying26 (svL rfl)) <|aA rfl (aK rfl rfl (lb rfl) (sv (d:=.int _ 0) rfl)) <|aB ?_)
  refine bG ?_
  refine cW (α:=Nat × Int) (fun z=>⟨[(0,.slice false (a0.map aJ.d)),(1,.slice false (a1.map aJ.d)),(12,.int .i64 (a0.length : Int)),(13,.int .i64 z.2)],[]⟩) (fun z=>cP a0 a1 z.1 z.2 = some r) (fun z=>z.1) (fuel,0) (fun i=>i) ⟨(.sames rfl rfl),.nil,bX [] rfl (by decide),fun _ _=>rfl⟩ ?_ ?_
  ·exact h
  ·
   rintro ⟨n0,v10⟩ h
   cases n0 with
   | zero=>exact absurd h (by unfold cP; exact nofun)
   | succ n0 =>
    unfold cP at h
    obtain ⟨x18,hx18,h⟩:=aR h
    refine aC (aA rfl (aP rfl rfl (lb rfl) (svI rfl) (svI rfl) rfl hx18) <|aB ?_)
    refine aV ?_
    refine aT (b:=_) rfl (fun hc19=>?_) (fun hc19=>?_)
    ·
     replace h:=bT h hc19
     refine aU ?_
     refine aN ?_
     refine aV ?_
     refine bG ?_
     refine aC (aA rfl (mvI rfl rfl rfl rfl) <|aA rfl (asI rfl rfl rfl rfl) <|aB ?_)
     obtain ⟨x20,hx20,h⟩:=aY h
     obtain ⟨x21,hx21,h⟩:=aY h
     obtain ⟨x22,hx22,h⟩:=aR h
     refine dG rfl [⟨[0],[],[(16,.slice false (a0.map aJ.d))],[]⟩,
      ⟨[5],[],[(17,.int .i64 v10)],[]⟩,
      ⟨[16,17],[],[(18,.fptr [.int .i64 x20.From,.int .i64 x20.To])],[]⟩,
      ⟨[18],[],[(19,.agg [.int .i64 x20.From,.int .i64 x20.To])],[]⟩,
      ⟨[1],[],[(20,.slice false (a1.map aJ.d))],[]⟩,
      ⟨[5],[],[(21,.int .i64 v10)],[]⟩,
      ⟨[20,21],[],[(22,.fptr [.int .i64 x21.From,.int .i64 x21.To])],[]⟩,
      ⟨[22],[],[(23,.agg [.int .i64 x21.From,.int .i64 x21.To])],[]⟩,
      ⟨[19,23],[],[(24,.bool (!x22))],[]⟩] rfl ?_ (by kernel_rfl) ?_
     ·refine .cons (lop rfl rfl fun S hA=>(aK rfl rfl (lb rfl) (svaL hA rfl rfl))) ?_
      refine .cons (lop rfl rfl fun S hA=>(aK rfl rfl (lb rfl) (svaI hA rfl rfl))) ?_
      refine .cons (lop rfl rfl fun S hA=>(cY aJ (cs:=q25) rfl rfl (lb rfl) Tryz.underlying26 fS (svaL hA rfl rfl) (svaI hA rfl rfl) hx20 rfl rfl)) ?_
      refine .cons (lop rfl rfl fun S hA=>(cQ (cs:=q25) rfl rfl (lb rfl) Tryz.underlying116 xS fS (by decide) (sv (d:=.fptr q25) (agr hA rfl rfl)) (nle rfl) rfl)) ?_
      refine .cons (lop rfl rfl fun S hA=>(aK rfl rfl (lb rfl) (svaL hA rfl rfl))) ?_
      refine .cons (lop rfl rfl fun S hA=>(aK rfl rfl (lb rfl) (svaI hA rfl rfl))) ?_
      refine .cons (lop rfl rfl fun S hA=>(cY aJ (cs:=q25) rfl rfl (lb rfl) Tryz.underlying26 fS (svaL hA rfl rfl) (svaI hA rfl rfl) hx21 rfl rfl)) ?_
      refine .cons (lop rfl rfl fun S hA=>(cQ (cs:=q25) rfl rfl (lb rfl) Tryz.underlying116 xS fS (by decide) (sv (d:=.fptr q25) (agr hA rfl rfl)) (nle rfl) rfl)) ?_
      refine .cons (lop rfl rfl fun S hA=>(wY rfl rfl (lb rfl) Tryz.underlying116 st116.1 st116.2 (svaA q25 hA rfl rfl) (svaA q25 hA rfl rfl) (congrArg some hx22))) ?_
      exact .nil
     refine aT (b:=_) rfl (fun hc23=>?_) (fun hc23=>?_)
     ·
      replace h:=bT h hc23
      refine aC (aA rfl (aE rfl rfl (lb rfl) (sv (d:=.bool false) rfl)) <|aB ?_)
      refine aS ?_
      refine bP ?_
      refine aZ ?_
      refine aZ ?_
      refine bP ?_
      refine aZ ?_
      obtain rfl:=Option.some.inj h
      refine ⟨.inr rfl,(.cons (sv rfl) .nil)⟩
     ·
      replace h:=bU h hc23
      refine aU ?_
      refine bZ ?_
      refine aN ?_
      obtain ⟨x24,hx24,h⟩:=aR h
      refine bD (aA rfl (bL rfl rfl (lb rfl) (svI rfl) (sv (d:=.int _ 1) rfl) rfl hx24) <|aA rfl (mvI rfl rfl rfl rfl) <|bW ?_)
      refine aN ⟨(n0,x24),(fun i=>i),⟨(.sames rfl rfl),.nil,bX [] rfl (by decide),fun _ _=>rfl⟩,?_,?_⟩
      exact h
      exact Nat.lt_succ_self _
    ·
     replace h:=bU h hc19
     refine cN ?_
     refine bI ?_
     refine bI ?_
     refine cO ?_
     refine aN ?_
     refine aC (aA rfl (aE rfl rfl (lb rfl) (sv (d:=.bool true) rfl)) <|aB ?_)
     refine aS ?_
     obtain rfl:=Option.some.inj h
     refine ⟨.inr rfl,(.cons (sv rfl) .nil)⟩

theorem uY (a0 : (List aI)) (a1 : (List aI)) (r : Bool) (h : nM a0 a1 = some r) : cD Tryz.prog 76 [.slice false (a0.map aJ.d),.slice false (a1.map aJ.d)] (.bool r):=by
 refine bA (rs:=[.bool r]) Tryz.func76 rfl Tryz.ntmps76 (nle rfl) rfl fun O hO=>?_
 show IWP _ _ _ _ ⟨[(0,.slice false (a0.map aJ.d)),(1,.slice false (a1.map aJ.d))],[]⟩ _
 unfold nM at h
 refine aC (aA rfl (aE rfl rfl (lb rfl) (sv (d:=.bool false) rfl)) <|aB ?_)
 obtain ⟨x1,hx1,h⟩:=aY h
 refine aC (aA rfl (mvL rfl rfl rfl rfl) <|aA rfl (mvL rfl rfl rfl rfl) <|aA rfl (aW (r:=.bool _) rfl rfl (lb rfl) cl110 (.cons (svL rfl) (.cons (svL rfl) .nil)) rfl (lC _ _ _ hx1)) <|aA rfl (asB rfl rfl rfl rfl) <|aB ?_)
 refine aS ?_
 obtain rfl:=Option.some.inj h
 refine ⟨.inr rfl,(.cons (sv rfl) .nil)⟩

theorem uJ (a0 : bB) (a1 : aM) (a2 : Int) (r : Bool) (h : kD a0 a1 a2 = some r) : cD Tryz.prog 70 [.agg (v2 a0),.agg (v6 a1),.int .i64 a2] (.bool r):=by
 refine bA (rs:=[.bool r]) Tryz.func70 rfl Tryz.ntmps70 (nle rfl) rfl fun O hO=>?_
 show IWP _ _ _ _ ⟨[(0,.agg (v2 a0)),(1,.agg (v6 a1)),(2,.int .i64 a2)],[]⟩ _
 unfold kD at h
 refine aC (aA rfl (bR (cs:=q12) 0 rfl rfl (lb rfl) rfl (svA q12 rfl) rfl rfl) <|aA rfl (bR (cs:=q17) 1 rfl rfl (lb rfl) rfl (svA q17 rfl) rfl rfl) <|aA rfl (aE rfl rfl (lb rfl) (sv (d:=.bool false) rfl)) <|aB ?_)
 refine aV ?_
 obtain ⟨x1,hx1,h⟩:=aR h
 obtain ⟨x2,hx2,h⟩:=aR h
 obtain ⟨x3,hx3,h⟩:=aR h
 obtain ⟨x4,hx4,h⟩:=aR h
 obtain ⟨x5,hx5,h⟩:=aR h
 obtain ⟨x6,hx6,h⟩:=aY h
 obtain ⟨x7,hx7,h⟩:=aR h
 refine aC (aA rfl (faR 0 rfl rfl rfl Tryz.underlying52 rfl ti3 (lb rfl) rfl rfl) <|aA rfl (aG (d:=.int _ _) rfl rfl (lb rfl) Tryz.underlying3 ag3 ti3 (by decide) (svR rfl) rfl (nle rfl) rfl) <|aA rfl (mvI rfl rfl rfl rfl) <|aA rfl (aP rfl rfl (lb rfl) (svI rfl) (svI rfl) rfl hx1) <|aA rfl (mvB rfl rfl rfl rfl) <|aF rfl rfl (.one rfl) rfl (by decide) (fun hb=>(faR 1 rfl rfl rfl Tryz.underlying52 rfl ti3 (lb rfl) rfl rfl)) <|aF rfl rfl (.one rfl) rfl (by decide) (fun hb=>(aG (d:=.int _ _) rfl rfl (lb rfl) Tryz.underlying3 ag3 ti3 (by decide) (svcR rfl hb) rfl (nle rfl) rfl)) <|aF rfl rfl (.one rfl) rfl (by decide) (fun hb=>(faR 0 rfl rfl rfl Tryz.underlying52 rfl ti3 (lb rfl) rfl rfl)) <|aF rfl rfl (.one rfl) rfl (by decide) (fun hb=>(aG (d:=.int _ _) rfl rfl (lb rfl) Tryz.underlying3 ag3 ti3 (by decide) (svcR rfl hb) rfl (nle rfl) rfl)) <|aF rfl rfl (.one rfl) rfl (by decide) (fun hb=>(aP rfl rfl (lb rfl) (svcI rfl hb) (svcI rfl hb) rfl hx2)) <|aA rfl (dM rfl rfl (lb rfl) (svB rfl) rfl rfl hx3) <|aA rfl (mvB rfl rfl rfl rfl) <|aF rfl rfl (.one rfl) rfl (by decide) (fun hb=>(faR 1 rfl rfl rfl Tryz.underlying52 rfl ti3 (lb rfl) rfl rfl)) <|aF rfl rfl (.one rfl) rfl (by decide) (fun hb=>(aG (d:=.int _ _) rfl rfl (lb rfl) Tryz.underlying3 ag3 ti3 (by decide) (svcR rfl hb) rfl (nle rfl) rfl)) <|aF rfl rfl (.one rfl) rfl (by decide) (fun hb=>(faR 2 rfl rfl rfl Tryz.underlying28 rfl ti3 (lb rfl) rfl rfl)) <|aF rfl rfl (.one rfl) rfl (by decide) (fun hb=>(aG (d:=.int _ _) rfl rfl (lb rfl) Tryz.underlying3 ag3 ti3 (by decide) (svcR rfl hb) rfl (nle rfl) rfl)) <|aF rfl rfl (.one rfl) rfl (by decide) (fun hb=>(aP rfl rfl (lb rfl) (svcI rfl hb) (svcI rfl hb) rfl hx4)) <|aA rfl (dM rfl rfl (lb rfl) (svB rfl) rfl rfl hx5) <|aA rfl (mvB rfl rfl rfl rfl) <|aF rfl rfl (.one rfl) rfl (by decide) (fun hb=>(faR 2 rfl rfl rfl Tryz.underlying52 rfl ti3 (lb rfl) rfl rfl)) <|aF rfl rfl (.one rfl) rfl (by decide) (fun hb=>(aG (d:=.int _ _) rfl rfl (lb rfl) Tryz.underlying3 ag3 ti3 (by decide) (svcR rfl hb) rfl (nle rfl) rfl)) <|aF rfl rfl (.one rfl) rfl (by decide) (fun hb=>(aW (r:=.bool _) rfl rfl (lb rfl) cl52 (.cons (svcI rfl hb) .nil) rfl (wJ _ _ (gd_t hx6 hb)))) <|aF rfl rfl (.one rfl) rfl (by decide) (fun hb=>(dD rfl rfl (lb rfl) (svcB rfl hb))) <|aA rfl (dM rfl rfl (lb rfl) (svB rfl) rfl rfl hx7) <|aB ?_)
 refine aT (b:=_) rfl (fun hc8=>?_) (fun hc8=>?_)
 ·
  replace h:=bT h hc8
  refine aC (aA rfl (aE rfl rfl (lb rfl) (sv (d:=.bool false) rfl)) <|aB ?_)
  refine aS ?_
  refine aZ ?_
  obtain rfl:=Option.some.inj h
  refine ⟨.inr rfl,(.cons (sv rfl) .nil)⟩
 ·
  replace h:=bU h hc8
  refine aU ?_
  refine aN ?_
  refine aV ?_
  obtain ⟨x9,hx9,h⟩:=aR h
  refine aC (aA rfl (faR 0 rfl rfl rfl Tryz.underlying52 rfl ti3 (lb rfl) rfl rfl) <|aA rfl (aG (d:=.int _ _) rfl rfl (lb rfl) Tryz.underlying3 ag3 ti3 (by decide) (svR rfl) rfl (nle rfl) rfl) <|aA rfl (faR 1 rfl rfl rfl Tryz.underlying52 rfl ti3 (lb rfl) rfl rfl) <|aA rfl (aG (d:=.int _ _) rfl rfl (lb rfl) Tryz.underlying3 ag3 ti3 (by decide) (svR rfl) rfl (nle rfl) rfl) <|aA rfl (aP rfl rfl (lb rfl) (svI rfl) (svI rfl) rfl hx9) <|aB ?_)
  refine aT (b:=_) rfl (fun hc10=>?_) (fun hc10=>?_)
  ·
   replace h:=bT h hc10
   refine aC (aA rfl (faR 3 rfl rfl rfl Tryz.underlying52 rfl ti4 (lb rfl) rfl rfl) <|aA rfl (aG (d:=.bool _) rfl rfl (lb rfl) Tryz.underlying4 ag4 ti4 (by decide) (svR rfl) rfl (nle rfl) rfl) <|aA rfl (asB rfl rfl rfl rfl) <|aB ?_)
   refine aS ?_
   refine aZ ?_
   obtain rfl:=Option.some.inj h
   refine ⟨.inr rfl,(.cons (sv rfl) .nil)⟩
  ·
   replace h:=bU h hc10
   refine aU ?_
   refine aN ?_
   obtain ⟨x11,hx11,h⟩:=aY h
   obtain ⟨x12,hx12,h⟩:=aY h
   obtain ⟨x13,hx13,h⟩:=aY h
   obtain ⟨x14,hx14,h⟩:=aY h
   refine dG rfl [⟨[3],[],[(38,.ref 0 4)],[]⟩,
    ⟨[38],[0],[(39,.slice false (a0.Lost.map aJ.d))],[]⟩,
    ⟨[4],[1],[(40,.agg (v6 a1))],[]⟩,
    ⟨[40],[],[(41,.agg [.int .i64 x11.From,.int .i64 x11.To])],[]⟩,
    ⟨[39,41],[],[(42,.slice false (x12.map aJ.d))],[]⟩,
    ⟨[4],[1],[(43,.agg (v6 a1))],[]⟩,
    ⟨[43],[],[(44,.agg [.int .i64 x13.From,.int .i64 x13.To])],[]⟩,
    ⟨[44],[2],[(45,.gsl 2 aJ.sz ((([(⟨x13.From,x13.To⟩ : aI)] : (List aI))).map aJ.d))],[(2,.tail 116 aJ.sz (([(⟨x13.From,x13.To⟩ : aI)] : (List aI))).length)]⟩,
    ⟨[42,45],[],[(46,.bool x14)],[]⟩,
    ⟨[46],[],[(6,.bool x14)],[]⟩] rfl ?_ (by kernel_rfl) ?_
   ·refine .cons (lop rfl rfl fun S hA=>(aO rfl rfl (lb rfl) Tryz.underlying28 rfl ti26 (by decide) (svaR hA rfl rfl) (off':=4) rfl)) ?_
    refine .cons (lop rfl rfl fun S hA=>(aG (d:=.slice _ _) rfl rfl (lb rfl) Tryz.underlying26 ag26 ti26 (by decide) (svaR hA rfl rfl) (agi hA rfl rfl) (nle rfl) rfl)) ?_
    refine .cons (lop rfl rfl fun S hA=>(cA (cs:=q17) rfl rfl (lb rfl) Tryz.underlying52 ag52 ti52 (by decide) (svaR hA rfl rfl) (agi hA rfl rfl) (nle rfl) rfl)) ?_
    refine .cons (lop rfl rfl fun S hA=>(aW (r:=.agg q25) rfl rfl (lb rfl) cl55 (.cons (svaA q17 hA rfl rfl) .nil) rfl (kQ _ _ hx11))) ?_
    refine .cons (lop rfl rfl fun S hA=>(aW (r:=.slice _ _) rfl rfl (lb rfl) cl107 (.cons (svaL hA rfl rfl) (.cons (svaA q25 hA rfl rfl) .nil)) rfl (aAg _ _ _ hx12))) ?_
    refine .cons (lop rfl rfl fun S hA=>(cA (cs:=q17) rfl rfl (lb rfl) Tryz.underlying52 ag52 ti52 (by decide) (svaR hA rfl rfl) (agi hA rfl rfl) (nle rfl) rfl)) ?_
    refine .cons (lop rfl rfl fun S hA=>(aW (r:=.agg q25) rfl rfl (lb rfl) cl55 (.cons (svaA q17 hA rfl rfl) .nil) rfl (kQ _ _ hx13))) ?_
    refine .cons (lop rfl rfl fun S hA=>(oQ aJ ([(⟨x13.From,x13.To⟩ : aI)] : (List aI)) 2 rfl rfl (lb rfl) Tryz.underlying26 fS (agi hA rfl rfl) (.cons (svaA q25 hA rfl rfl) .nil) rfl rfl (by decide))) ?_
    refine .cons (lop rfl rfl fun S hA=>(aW (r:=.bool _) rfl rfl (lb rfl) cl76 (.cons (svaL hA rfl rfl) (.cons (svg (agr hA rfl rfl)) .nil)) rfl (uY _ _ _ hx14))) ?_
    refine .cons (lop rfl rfl fun S hA=>(aE rfl rfl (lb rfl) (svaB hA rfl rfl))) ?_
    exact .nil
   refine aS ?_
   obtain rfl:=Option.some.inj h
   refine ⟨.inr rfl,(.cons (sv rfl) .nil)⟩

theorem fN (a0 : bB) (r : Int) (h : eR a0 = some r) : cD Tryz.prog 51 [.agg (v2 a0)] (.int .i64 r):=by
 refine bA (rs:=[.int .i64 r]) Tryz.func51 rfl Tryz.ntmps51 (nle rfl) rfl fun O hO=>?_
 show IWP _ _ _ _ ⟨[(0,.agg (v2 a0))],[]⟩ _
 unfold eR at h
 refine aC (aA rfl (bR (cs:=q12) 0 rfl rfl (lb rfl) rfl (svA q12 rfl) rfl rfl) <|aA rfl (aE rfl rfl (lb rfl) (sv (d:=.int _ 0) rfl)) <|aB ?_)
 obtain ⟨x1,hx1,h⟩:=aR h
 refine aC (aA rfl (faR 0 rfl rfl rfl Tryz.underlying28 rfl ti3 (lb rfl) rfl rfl) <|aA rfl (aG (d:=.int _ _) rfl rfl (lb rfl) Tryz.underlying3 ag3 ti3 (by decide) (svR rfl) rfl (nle rfl) rfl) <|aA rfl (faR 1 rfl rfl rfl Tryz.underlying28 rfl ti9 (lb rfl) rfl rfl) <|aA rfl (aG (d:=.str _) rfl rfl (lb rfl) Tryz.underlying9 ag9 ti9 (by decide) (svR rfl) rfl (nle rfl) rfl) <|aA rfl (dB rfl rfl (lb rfl) Tryz.underlying9 (sv (d:=.str _) rfl) rfl) <|aA rfl (bL rfl rfl (lb rfl) (svI rfl) (svI rfl) rfl hx1) <|aA rfl (asI rfl rfl rfl rfl) <|aB ?_)
 refine aS ?_
 obtain rfl:=Option.some.inj h
 refine ⟨.inr rfl,(.cons (sv rfl) .nil)⟩

theorem uK (a0 : bB) (r : Bool) (h : lP a0 = some r) : cD Tryz.prog 71 [.agg (v2 a0)] (.bool r):=by
 refine bA (rs:=[.bool r]) Tryz.func71 rfl Tryz.ntmps71 (nle rfl) rfl fun O hO=>?_
 show IWP _ _ _ _ ⟨[(0,.agg (v2 a0))],[]⟩ _
 unfold lP at h
 refine aC (aA rfl (bR (cs:=q12) 0 rfl rfl (lb rfl) rfl (svA q12 rfl) rfl rfl) <|aA rfl (aE rfl rfl (lb rfl) (sv (d:=.bool false) rfl)) <|aB ?_)
 refine aC (aA rfl (aE rfl rfl (lb rfl) (sv (d:=.int _ 0) rfl)) <|aB ?_)
 refine aV ?_
 refine aC (aA rfl (faR 3 rfl rfl rfl Tryz.underlying28 rfl ti24 (lb rfl) rfl rfl) <|aA rfl (lrL la24 rfl rfl rfl rfl rfl (nle rfl) rfl) <|aA rfl (cJ aD (l:=a0.Pieces) rfl rfl (lb rfl) Tryz.underlying24 (svL rfl)) <|aA rfl (aK rfl rfl (lb rfl) (sv (d:=.int _ 0) rfl)) <|aB ?_)
 refine bG ?_
 refine cW (α:=Nat × Int × Int) (fun z=>⟨[(1,.ref 0 0),(3,.int .i64 z.2.1),(8,.slice false (a0.Pieces.map aD.d)),(9,.int .i64 (a0.Pieces.length : Int)),(10,.int .i64 z.2.2)],[(0,.blk 28 (v2 a0))]⟩) (fun z=>eL a0 z.1 z.2.1 z.2.2 = some r) (fun z=>z.1) (fuel,0,0) (fun i=>i) ⟨(.sames rfl rfl),(.cons (.blk rfl rfl rfl) .nil),bX [0] rfl (by decide),fun _ _=>rfl⟩ ?_ ?_
 ·exact h
 ·
  rintro ⟨n0,v11,v12⟩ h
  cases n0 with
  | zero=>exact absurd h (by unfold eL; exact nofun)
  | succ n0 =>
   unfold eL at h
   obtain ⟨x23,hx23,h⟩:=aR h
   refine aC (aA rfl (aP rfl rfl (lb rfl) (svI rfl) (svI rfl) rfl hx23) <|aB ?_)
   refine aV ?_
   refine aT (b:=_) rfl (fun hc24=>?_) (fun hc24=>?_)
   ·
    replace h:=bT h hc24
    refine aU ?_
    refine aN ?_
    refine aV ?_
    refine bG ?_
    obtain ⟨x25,hx25,h⟩:=aY h
    refine aC (aA rfl (cY aD (cs:=q17) rfl rfl (lb rfl) Tryz.underlying24 ti52 (svL rfl) (svI rfl) hx25 rfl rfl) <|aA rfl (cQ (cs:=q17) rfl rfl (lb rfl) Tryz.underlying52 ag52 ti52 (by decide) (sv (d:=.fptr q17) rfl) (nle rfl) rfl) <|aA rfl (bJ (cs:=q17) (cs':=(w42 0 0 0 false)) 1 rfl rfl (lb rfl) rfl ti52 rfl rfl (.all _)) <|aA rfl (stA q17 q17 ti52 rfl rfl rfl rfl rfl rfl rfl rfl (nle rfl) rfl) <|aB ?_)
    refine aC (aA rfl (faR 3 rfl rfl rfl Tryz.underlying52 rfl ti4 (lb rfl) rfl rfl) <|aA rfl (aG (d:=.bool _) rfl rfl (lb rfl) Tryz.underlying4 ag4 ti4 (by decide) (svR rfl) rfl (nle rfl) rfl) <|aB ?_)
    refine aT (b:=_) rfl (fun hc26=>?_) (fun hc26=>?_)
    ·
     replace h:=bT h hc26
     obtain ⟨x27,hx27,h⟩:=aR h
     refine aC (aA rfl (mvI rfl rfl rfl rfl) <|aA rfl (bL rfl rfl (lb rfl) (svI rfl) (sv (d:=.int _ 1) rfl) rfl hx27) <|aA rfl (asI rfl rfl rfl rfl) <|aB ?_)
     obtain ⟨x28,hx28,h⟩:=aY h
     obtain ⟨x29,hx29,h⟩:=aR h
     refine dG rfl [⟨[5],[],[(18,.ref 1 1)],[]⟩,
      ⟨[18],[1],[(19,.int .i64 x25.To)],[]⟩,
      ⟨[1],[0],[(20,.agg (v2 a0))],[]⟩,
      ⟨[20],[],[(21,.int .i64 x28)],[]⟩,
      ⟨[19,21],[],[(22,.bool x29)],[]⟩] rfl ?_ (by kernel_rfl) ?_
     ·refine .cons (lop rfl rfl fun S hA=>(aO rfl rfl (lb rfl) Tryz.underlying52 rfl ti3 (by decide) (svaR hA rfl rfl) (off':=1) rfl)) ?_
      refine .cons (lop rfl rfl fun S hA=>(aG (d:=.int _ _) rfl rfl (lb rfl) Tryz.underlying3 ag3 ti3 (by decide) (svaR hA rfl rfl) (agi hA rfl rfl) (nle rfl) rfl)) ?_
      refine .cons (lop rfl rfl fun S hA=>(cA (cs:=q12) rfl rfl (lb rfl) Tryz.underlying28 ag28 ti28 (by decide) (svaR hA rfl rfl) (agi hA rfl rfl) (nle rfl) rfl)) ?_
      refine .cons (lop rfl rfl fun S hA=>(aW (r:=.int _ _) rfl rfl (lb rfl) cl51 (.cons (svaA q12 hA rfl rfl) .nil) rfl (fN _ _ hx28))) ?_
      refine .cons (lop rfl rfl fun S hA=>(aP rfl rfl (lb rfl) (svaI hA rfl rfl) (svaI hA rfl rfl) rfl hx29)) ?_
      exact .nil
     refine aT (b:=_) rfl (fun hc30=>?_) (fun hc30=>?_)
     ·
      replace h:=bT h hc30
      refine aC (aA rfl (aE rfl rfl (lb rfl) (sv (d:=.bool false) rfl)) <|aB ?_)
      refine aS ?_
      refine bP ?_
      refine aZ ?_
      refine aZ ?_
      refine bP ?_
      refine aZ ?_
      obtain rfl:=Option.some.inj h
      refine ⟨.inr rfl,(.cons (sv rfl) .nil)⟩
     ·
      replace h:=bU h hc30
      refine aU ?_
      refine bZ ?_
      refine aN ?_
      obtain ⟨x31,hx31,h⟩:=aR h
      refine bD (aA rfl (bL rfl rfl (lb rfl) (svI rfl) (sv (d:=.int _ 1) rfl) rfl hx31) <|aA rfl (mvI rfl rfl rfl rfl) <|bW ?_)
      refine aN ⟨(n0,x27,x31),(fun i=>i),⟨(.sames rfl rfl),(.cons (.blk rfl rfl rfl) .nil),bX [0] rfl (by decide),fun _ _=>rfl⟩,?_,?_⟩
      exact h
      exact Nat.lt_succ_self _
    ·
     replace h:=bU h hc26
     refine aU ?_
     refine bZ ?_
     refine aN ?_
     obtain ⟨x32,hx32,h⟩:=aR h
     refine bD (aA rfl (bL rfl rfl (lb rfl) (svI rfl) (sv (d:=.int _ 1) rfl) rfl hx32) <|aA rfl (mvI rfl rfl rfl rfl) <|bW ?_)
     refine aN ⟨(n0,v11,x32),(fun i=>i),⟨(.sames rfl rfl),(.cons (.blk rfl rfl rfl) .nil),bX [0] rfl (by decide),fun _ _=>rfl⟩,?_,?_⟩
     exact h
     exact Nat.lt_succ_self _
   ·
    replace h:=bU h hc24
    refine cN ?_
    refine bI ?_
    refine bI ?_
    refine cO ?_
    refine aN ?_
    refine aV ?_
    refine aC (aA rfl (faR 6 rfl rfl rfl Tryz.underlying28 rfl ti4 (lb rfl) rfl rfl) <|aA rfl (aG (d:=.bool _) rfl rfl (lb rfl) Tryz.underlying4 ag4 ti4 (by decide) (svR rfl) rfl (nle rfl) rfl) <|aA rfl (dD rfl rfl (lb rfl) (svB rfl)) <|aB ?_)
    refine aT (b:=_) rfl (fun hc33=>?_) (fun hc33=>?_)
    ·
     replace h:=bT h hc33
     obtain ⟨x34,hx34,h⟩:=aR h
     obtain ⟨x35,hx35,h⟩:=aR h
     obtain ⟨x36,hx36,h⟩:=aR h
     refine aC (aA rfl (mvI rfl rfl rfl rfl) <|aA rfl (aP rfl rfl (lb rfl) (svI rfl) (sv (d:=.int _ 0) rfl) rfl hx34) <|aA rfl (mvB rfl rfl rfl rfl) <|aF rfl rfl (.one rfl) rfl (by decide) (fun hb=>(faR 7 rfl rfl rfl Tryz.underlying28 rfl ti4 (lb rfl) rfl rfl)) <|aF rfl rfl (.one rfl) rfl (by decide) (fun hb=>(aG (d:=.bool _) rfl rfl (lb rfl) Tryz.underlying4 ag4 ti4 (by decide) (svcR rfl hb) rfl (nle rfl) rfl)) <|aF rfl rfl (.one rfl) rfl (by decide) (fun hb=>(dD rfl rfl (lb rfl) (svcB rfl hb))) <|aA rfl (bO rfl rfl (lb rfl) (svB rfl) rfl rfl hx35) <|aA rfl (mvB rfl rfl rfl rfl) <|aF rfl rfl (.one rfl) rfl (by decide) (fun hb=>(faR 8 rfl rfl rfl Tryz.underlying28 rfl ti4 (lb rfl) rfl rfl)) <|aF rfl rfl (.one rfl) rfl (by decide) (fun hb=>(aG (d:=.bool _) rfl rfl (lb rfl) Tryz.underlying4 ag4 ti4 (by decide) (svcR rfl hb) rfl (nle rfl) rfl)) <|aF rfl rfl (.one rfl) rfl (by decide) (fun hb=>(dD rfl rfl (lb rfl) (svcB rfl hb))) <|aA rfl (bO rfl rfl (lb rfl) (svB rfl) rfl rfl hx36) <|aA rfl (asB rfl rfl rfl rfl) <|aB ?_)
     refine aS ?_
     refine aZ ?_
     obtain rfl:=Option.some.inj h
     refine ⟨.inr rfl,(.cons (sv rfl) .nil)⟩
    ·
     replace h:=bU h hc33
     refine aU ?_
     refine aN ?_
     refine aV ?_
     obtain ⟨x37,hx37,h⟩:=aY h
     obtain ⟨x38,hx38,h⟩:=aR h
     obtain ⟨x39,hx39,h⟩:=aR h
     obtain ⟨x40,hx40,h⟩:=aR h
     obtain ⟨x41,hx41,h⟩:=aR h
     refine dG rfl [⟨[1],[],[(39,.ref 0 5)],[]⟩,
      ⟨[39],[0],[(40,.bool a0.Closed)],[]⟩,
      ⟨[40],[],[(41,.bool (!a0.Closed))],[]⟩,
      ⟨[41],[],[(42,.bool (!a0.Closed))],[]⟩,
      ⟨[1,42],[],[(43,.cnd ((!a0.Closed) == false) (.ref 0 2))],[]⟩,
      ⟨[42,43],[0],[(44,.cnd ((!a0.Closed) == false) (.int .i64 a0.Next))],[]⟩,
      ⟨[1,42],[0],[(45,.cnd ((!a0.Closed) == false) (.agg (v2 a0)))],[]⟩,
      ⟨[42,45],[],[(46,.cnd ((!a0.Closed) == false) (.int .i64 x37))],[]⟩,
      ⟨[42,44,46],[],[(47,.cnd ((!a0.Closed) == false) (.bool x38))],[]⟩,
      ⟨[42,47],[],[(48,.bool x39)],[]⟩,
      ⟨[48],[],[(49,.bool x39)],[]⟩,
      ⟨[1,49],[],[(50,.cnd (x39 == false) (.ref 0 7))],[]⟩,
      ⟨[49,50],[0],[(51,.cnd (x39 == false) (.bool a0.Again))],[]⟩,
      ⟨[49,51],[],[(52,.cnd (x39 == false) (.bool a0.Again))],[]⟩,
      ⟨[1,52],[],[(53,.cnd (((x39 == false) && (a0.Again == true))) (.ref 0 8))],[]⟩,
      ⟨[52,53],[0],[(54,.cnd (((x39 == false) && (a0.Again == true))) (.bool a0.Done))],[]⟩,
      ⟨[49,52,54],[],[(55,.cnd (x39 == false) (.bool x40))],[]⟩,
      ⟨[49,55],[],[(56,.bool x41)],[]⟩] rfl ?_ (by kernel_rfl) ?_
     ·refine .cons (lop rfl rfl fun S hA=>(aO rfl rfl (lb rfl) Tryz.underlying28 rfl ti4 (by decide) (svaR hA rfl rfl) (off':=5) rfl)) ?_
      refine .cons (lop rfl rfl fun S hA=>(aG (d:=.bool _) rfl rfl (lb rfl) Tryz.underlying4 ag4 ti4 (by decide) (svaR hA rfl rfl) (agi hA rfl rfl) (nle rfl) rfl)) ?_
      refine .cons (lop rfl rfl fun S hA=>(dD rfl rfl (lb rfl) (svaB hA rfl rfl))) ?_
      refine .cons (lop rfl rfl fun S hA=>(aK rfl rfl (lb rfl) (svaB hA rfl rfl))) ?_
      refine .cons (lopg rfl rfl rfl rfl (by decide) (fun S hA=>grd1 hA rfl rfl) (fun S hA hb=>(aO rfl rfl (lb rfl) Tryz.underlying28 rfl ti3 (by decide) (svaR hA rfl rfl) (off':=2) rfl))) ?_
      refine .cons (lopg rfl rfl rfl rfl (by decide) (fun S hA=>grd1 hA rfl rfl) (fun S hA hb=>(aG (d:=.int _ _) rfl rfl (lb rfl) Tryz.underlying3 ag3 ti3 (by decide) (svc (d:=.ref _ _) (agr hA rfl rfl) hb) (agi hA rfl rfl) (nle rfl) rfl))) ?_
      refine .cons (lopg rfl rfl rfl rfl (by decide) (fun S hA=>grd1 hA rfl rfl) (fun S hA hb=>(cA (cs:=q12) rfl rfl (lb rfl) Tryz.underlying28 ag28 ti28 (by decide) (svaR hA rfl rfl) (agi hA rfl rfl) (nle rfl) rfl))) ?_
      refine .cons (lopg rfl rfl rfl rfl (by decide) (fun S hA=>grd1 hA rfl rfl) (fun S hA hb=>(aW (r:=.int _ _) rfl rfl (lb rfl) cl51 (.cons (svc (d:=.agg (v2 a0)) (agr hA rfl rfl) hb) .nil) rfl (fN _ _ (gd_t hx37 hb))))) ?_
      refine .cons (lopg rfl rfl rfl rfl (by decide) (fun S hA=>grd1 hA rfl rfl) (fun S hA hb=>(aP rfl rfl (lb rfl) (svc (d:=.int _ _) (agr hA rfl rfl) hb) (svc (d:=.int _ _) (agr hA rfl rfl) hb) rfl hx38))) ?_
      refine .cons (lop rfl rfl fun S hA=>(dM rfl rfl (lb rfl) (svaB hA rfl rfl) rfl (agr hA rfl rfl) hx39)) ?_
      refine .cons (lop rfl rfl fun S hA=>(aK rfl rfl (lb rfl) (svaB hA rfl rfl))) ?_
      refine .cons (lopg rfl rfl rfl rfl (by decide) (fun S hA=>grd1 hA rfl rfl) (fun S hA hb=>(aO rfl rfl (lb rfl) Tryz.underlying28 rfl ti4 (by decide) (svaR hA rfl rfl) (off':=7) rfl))) ?_
      refine .cons (lopg rfl rfl rfl rfl (by decide) (fun S hA=>grd1 hA rfl rfl) (fun S hA hb=>(aG (d:=.bool _) rfl rfl (lb rfl) Tryz.underlying4 ag4 ti4 (by decide) (svc (d:=.ref _ _) (agr hA rfl rfl) hb) (agi hA rfl rfl) (nle rfl) rfl))) ?_
      refine .cons (lopg rfl rfl rfl rfl (by decide) (fun S hA=>grd1 hA rfl rfl) (fun S hA hb=>(aK rfl rfl (lb rfl) (svc (d:=.bool _) (agr hA rfl rfl) hb)))) ?_
      refine .cons (lopg rfl rfl rfl rfl (by decide) (fun S hA=>grd2 hA rfl rfl) (fun S hA hb=>(aO rfl rfl (lb rfl) Tryz.underlying28 rfl ti4 (by decide) (svaR hA rfl rfl) (off':=8) rfl))) ?_
      refine .cons (lopg rfl rfl rfl rfl (by decide) (fun S hA=>grd2 hA rfl rfl) (fun S hA hb=>(aG (d:=.bool _) rfl rfl (lb rfl) Tryz.underlying4 ag4 ti4 (by decide) (svc (d:=.ref _ _) (agr hA rfl rfl) hb) (agi hA rfl rfl) (nle rfl) rfl))) ?_
      refine .cons (lopg rfl rfl rfl rfl (by decide) (fun S hA=>grd1 hA rfl rfl) (fun S hA hb=>(pE rfl rfl (lb rfl) hb (svc (d:=.bool _) (agr hA rfl rfl) hb) (agr hA rfl rfl) rfl hx40))) ?_
      refine .cons (lop rfl rfl fun S hA=>(dM rfl rfl (lb rfl) (svaB hA rfl rfl) rfl (agr hA rfl rfl) hx41)) ?_
      exact .nil
     refine aT (b:=_) rfl (fun hc42=>?_) (fun hc42=>?_)
     ·
      replace h:=bT h hc42
      refine aC (aA rfl (aE rfl rfl (lb rfl) (sv (d:=.bool false) rfl)) <|aB ?_)
      refine aS ?_
      refine aZ ?_
      obtain rfl:=Option.some.inj h
      refine ⟨.inr rfl,(.cons (sv rfl) .nil)⟩
     ·
      replace h:=bU h hc42
      refine aU ?_
      refine aN ?_
      obtain ⟨x43,hx43,h⟩:=aR h
      refine aC (aA rfl (faR 7 rfl rfl rfl Tryz.underlying28 rfl ti4 (lb rfl) rfl rfl) <|aA rfl (aG (d:=.bool _) rfl rfl (lb rfl) Tryz.underlying4 ag4 ti4 (by decide) (svR rfl) rfl (nle rfl) rfl) <|aA rfl (dD rfl rfl (lb rfl) (svB rfl)) <|aA rfl (mvB rfl rfl rfl rfl) <|aF rfl rfl (.one rfl) rfl (by decide) (fun hb=>(faR 8 rfl rfl rfl Tryz.underlying28 rfl ti4 (lb rfl) rfl rfl)) <|aF rfl rfl (.one rfl) rfl (by decide) (fun hb=>(aG (d:=.bool _) rfl rfl (lb rfl) Tryz.underlying4 ag4 ti4 (by decide) (svcR rfl hb) rfl (nle rfl) rfl)) <|aF rfl rfl (.one rfl) rfl (by decide) (fun hb=>(dD rfl rfl (lb rfl) (svcB rfl hb))) <|aA rfl (bO rfl rfl (lb rfl) (svB rfl) rfl rfl hx43) <|aA rfl (asB rfl rfl rfl rfl) <|aB ?_)
      obtain ⟨x44,hx44,h⟩:=aR h
      obtain ⟨x45,hx45,h⟩:=aR h
      obtain ⟨x46,hx46,h⟩:=aR h
      obtain ⟨x47,hx47,h⟩:=aR h
      obtain ⟨x48,hx48,h⟩:=aR h
      refine aC (aA rfl (mvB rfl rfl rfl rfl) <|aA rfl (mvB rfl rfl rfl rfl) <|aF rfl rfl (.one rfl) rfl (by decide) (fun hb=>(mvI rfl rfl rfl rfl)) <|aF rfl rfl (.one rfl) rfl (by decide) (fun hb=>(aP rfl rfl (lb rfl) (svcI rfl hb) (sv (d:=.int _ 1) rfl) rfl hx44)) <|aA rfl (bO rfl rfl (lb rfl) (svB rfl) rfl rfl hx45) <|aA rfl (mvB rfl rfl rfl rfl) <|aF rfl rfl (.one rfl) rfl (by decide) (fun hb=>(mvB rfl rfl rfl rfl)) <|aF rfl rfl (.one rfl) rfl (by decide) (fun hb=>(dD rfl rfl (lb rfl) (svcB rfl hb))) <|aF rfl rfl (.one rfl) rfl (by decide) (fun hb=>(aK rfl rfl (lb rfl) (svcB rfl hb))) <|aF rfl rfl (.two rfl) rfl (by decide) (fun hb=>(mvI rfl rfl rfl rfl)) <|aF rfl rfl (.two rfl) rfl (by decide) (fun hb=>(aP rfl rfl (lb rfl) (svcI rfl hb) (sv (d:=.int _ 0) rfl) rfl hx46)) <|aF rfl rfl (.one rfl) rfl (by decide) (fun hb=>(pE rfl rfl (lb rfl) hb (svcB rfl hb) rfl rfl hx47)) <|aA rfl (dM rfl rfl (lb rfl) (svB rfl) rfl rfl hx48) <|aA rfl (asB rfl rfl rfl rfl) <|aB ?_)
      refine aS ?_
      obtain rfl:=Option.some.inj h
      refine ⟨.inr rfl,(.cons (sv rfl) .nil)⟩

theorem lH (a0 : bB) (r : Int) (h : jW a0 = some r) : cD Tryz.prog 39 [.agg (v2 a0)] (.int .i64 r) := by
 refine bA (rs:=[.int .i64 r]) Tryz.func39 rfl Tryz.ntmps39 (nle rfl) rfl fun O hO=>?_
 show IWP _ _ _ _ ⟨[(0,.agg (v2 a0))],[]⟩ _
 unfold jW at h
 refine aC (aA rfl (bR (cs:=q12) 0 rfl rfl (lb rfl) rfl (svA q12 rfl) rfl rfl) <|aA rfl (aE rfl rfl (lb rfl) (sv (d:=.int _ 0) rfl)) <|aB ?_)
 refine aV ?_
 refine bG ?_
 refine gK (α:=Bool) (fun z=>⟨[(1,.ref 0 0),(6,.bool z)],[(0,.blk 28 (v2 a0))]⟩) (fun z=>jK a0 z = some r) ?_ ?_
 ·
  obtain ⟨x37,hx37,h⟩:=aR h
  refine aC (aA rfl (faR 0 rfl rfl rfl Tryz.underlying28 rfl ti3 (lb rfl) rfl rfl) <|aA rfl (aG (d:=.int _ _) rfl rfl (lb rfl) Tryz.underlying3 ag3 ti3 (by decide) (svR rfl) rfl (nle rfl) rfl) <|aA rfl (aP rfl rfl (lb rfl) (svI rfl) (sv (d:=.int _ 0) rfl) rfl hx37) <|aA rfl (asB rfl rfl rfl rfl) <|aB ?_)
  refine aT (b:=_) rfl (fun hc38=>?_) (fun hc38=>?_)
  ·
   replace h:=bT h hc38
   refine aU ?_
   refine aN ⟨x37,(fun i=>i),⟨(.sames rfl rfl),(.cons (.blk rfl rfl rfl) .nil),bX [0] rfl (by decide),fun _ _=>rfl⟩,?_⟩
   exact h
  ·
   replace h:=bU h hc38
   obtain ⟨x39,hx39,h⟩:=aR h
   refine aC (aA rfl (faR 0 rfl rfl rfl Tryz.underlying28 rfl ti3 (lb rfl) rfl rfl) <|aA rfl (aG (d:=.int _ _) rfl rfl (lb rfl) Tryz.underlying3 ag3 ti3 (by decide) (svR rfl) rfl (nle rfl) rfl) <|aA rfl (aP rfl rfl (lb rfl) (svI rfl) (sv (d:=.int _ 1099511623680) rfl) rfl hx39) <|aA rfl (asB rfl rfl rfl rfl) <|aB ?_)
   refine aT (b:=_) rfl (fun hc40=>?_) (fun hc40=>?_)
   ·
    replace h:=bT h hc40
    refine aU ?_
    refine aN ⟨x39,(fun i=>i),⟨(.sames rfl rfl),(.cons (.blk rfl rfl rfl) .nil),bX [0] rfl (by decide),fun _ _=>rfl⟩,?_⟩
    exact h
   ·
    replace h:=bU h hc40
    obtain ⟨x41,hx41,h⟩:=aR h
    refine aC (aA rfl (faR 2 rfl rfl rfl Tryz.underlying28 rfl ti3 (lb rfl) rfl rfl) <|aA rfl (aG (d:=.int _ _) rfl rfl (lb rfl) Tryz.underlying3 ag3 ti3 (by decide) (svR rfl) rfl (nle rfl) rfl) <|aA rfl (faR 0 rfl rfl rfl Tryz.underlying28 rfl ti3 (lb rfl) rfl rfl) <|aA rfl (aG (d:=.int _ _) rfl rfl (lb rfl) Tryz.underlying3 ag3 ti3 (by decide) (svR rfl) rfl (nle rfl) rfl) <|aA rfl (aP rfl rfl (lb rfl) (svI rfl) (svI rfl) rfl hx41) <|aA rfl (asB rfl rfl rfl rfl) <|aB ?_)
    refine aT (b:=_) rfl (fun hc42=>?_) (fun hc42=>?_)
    ·
     replace h:=bT h hc42
     refine aU ?_
     refine aN ⟨x41,(fun i=>i),⟨(.sames rfl rfl),(.cons (.blk rfl rfl rfl) .nil),bX [0] rfl (by decide),fun _ _=>rfl⟩,?_⟩
     exact h
    ·
     replace h:=bU h hc42
     obtain ⟨x43,hx43,h⟩:=aR h
     obtain ⟨x44,hx44,h⟩:=aR h
     refine bD (aA rfl (faR 2 rfl rfl rfl Tryz.underlying28 rfl ti3 (lb rfl) rfl rfl) <|aA rfl (aG (d:=.int _ _) rfl rfl (lb rfl) Tryz.underlying3 ag3 ti3 (by decide) (svR rfl) rfl (nle rfl) rfl) <|aA rfl (faR 0 rfl rfl rfl Tryz.underlying28 rfl ti3 (lb rfl) rfl rfl) <|aA rfl (aG (d:=.int _ _) rfl rfl (lb rfl) Tryz.underlying3 ag3 ti3 (by decide) (svR rfl) rfl (nle rfl) rfl) <|aA rfl (bL rfl rfl (lb rfl) (svI rfl) (svI rfl) rfl hx43) <|aA rfl (faR 1 rfl rfl rfl Tryz.underlying28 rfl ti9 (lb rfl) rfl rfl) <|aA rfl (aG (d:=.str _) rfl rfl (lb rfl) Tryz.underlying9 ag9 ti9 (by decide) (svR rfl) rfl (nle rfl) rfl) <|aA rfl (dB rfl rfl (lb rfl) Tryz.underlying9 (sv (d:=.str _) rfl) rfl) <|aA rfl (aP rfl rfl (lb rfl) (svI rfl) (svI rfl) rfl hx44) <|aA rfl (asB rfl rfl rfl rfl) <|bW ?_)
     refine aN ⟨x44,(fun i=>i),⟨(.sames rfl rfl),(.cons (.blk rfl rfl rfl) .nil),bX [0] rfl (by decide),fun _ _=>rfl⟩,?_⟩
     exact h
 ·
  rintro v9 h
  unfold jK at h
  refine aT (b:=_) rfl (fun hc10=>?_) (fun hc10=>?_)
  ·
   replace h:=bT h hc10
   refine aC (aA rfl (aE rfl rfl (lb rfl) (sv (d:=.int _ 8) rfl)) <|aB ?_)
   refine aS ?_
   refine bP ?_
   refine aZ ?_
   obtain rfl:=Option.some.inj h
   refine ⟨.inr rfl,(.cons (sv rfl) .nil)⟩
  ·
   replace h:=bU h hc10
   obtain ⟨x11,hx11,h⟩:=aR h
   refine aC (aA rfl (faR 1 rfl rfl rfl Tryz.underlying28 rfl ti9 (lb rfl) rfl rfl) <|aA rfl (aG (d:=.str _) rfl rfl (lb rfl) Tryz.underlying9 ag9 ti9 (by decide) (svR rfl) rfl (nle rfl) rfl) <|aA rfl (dB rfl rfl (lb rfl) Tryz.underlying9 (sv (d:=.str _) rfl) rfl) <|aA rfl (aP rfl rfl (lb rfl) (svI rfl) (sv (d:=.int _ 4096) rfl) rfl hx11) <|aA rfl (asB rfl rfl rfl rfl) <|aB ?_)
   refine aT (b:=_) rfl (fun hc12=>?_) (fun hc12=>?_)
   ·
    replace h:=bT h hc12
    refine aC (aA rfl (aE rfl rfl (lb rfl) (sv (d:=.int _ 5) rfl)) <|aB ?_)
    refine aS ?_
    refine bP ?_
    refine aZ ?_
    obtain rfl:=Option.some.inj h
    refine ⟨.inr rfl,(.cons (sv rfl) .nil)⟩
   ·
    replace h:=bU h hc12
    obtain ⟨x13,hx13,h⟩:=aY h
    refine aC (aA rfl (lra q12 la28 rfl rfl rfl rfl rfl (nle rfl) rfl) <|aA rfl (aW (r:=.bool _) rfl rfl (lb rfl) cl69 (.cons (svA q12 rfl) .nil) rfl (uI _ _ hx13)) <|aA rfl (dD rfl rfl (lb rfl) (svB rfl)) <|aA rfl (asB rfl rfl rfl rfl) <|aB ?_)
    refine aT (b:=_) rfl (fun hc14=>?_) (fun hc14=>?_)
    ·
     replace h:=bT h hc14
     refine aC (aA rfl (aE rfl rfl (lb rfl) (sv (d:=.int _ 4) rfl)) <|aB ?_)
     refine aS ?_
     refine bP ?_
     refine aZ ?_
     obtain rfl:=Option.some.inj h
     refine ⟨.inr rfl,(.cons (sv rfl) .nil)⟩
    ·
     replace h:=bU h hc14
     refine aU ?_
     refine bZ ?_
     refine aN ?_
     refine aC (aA rfl (faR 0 rfl rfl rfl Tryz.underlying28 rfl ti3 (lb rfl) rfl rfl) <|aA rfl (aG (d:=.int _ _) rfl rfl (lb rfl) Tryz.underlying3 ag3 ti3 (by decide) (svR rfl) rfl (nle rfl) rfl) <|aA rfl (asI rfl rfl rfl rfl) <|aB ?_)
     refine aV ?_
     refine aC (aA rfl (faR 3 rfl rfl rfl Tryz.underlying28 rfl ti24 (lb rfl) rfl rfl) <|aA rfl (lrL la24 rfl rfl rfl rfl rfl (nle rfl) rfl) <|aA rfl (cJ aD (l:=a0.Pieces) rfl rfl (lb rfl) Tryz.underlying24 (svL rfl)) <|aA rfl (aK rfl rfl (lb rfl) (sv (d:=.int _ 0) rfl)) <|aB ?_)
     refine bG ?_
     refine cW (α:=Nat × Int × Int) (fun z=>⟨[(1,.ref 0 0),(3,.int .i64 z.2.1),(39,.slice false (a0.Pieces.map aD.d)),(40,.int .i64 (a0.Pieces.length : Int)),(41,.int .i64 z.2.2)],[(0,.blk 28 (v2 a0))]⟩) (fun z=>iF a0 z.1 z.2.1 z.2.2 = some r) (fun z=>z.1) (fuel,a0.Base,0) (fun i=>i) ⟨(.sames rfl rfl),(.cons (.blk rfl rfl rfl) .nil),bX [0] rfl (by decide),fun _ _=>rfl⟩ ?_ ?_
     ·exact h
     ·
      rintro ⟨n1,v21,v22⟩ h
      cases n1 with
      | zero=>exact absurd h (by unfold iF; exact nofun)
      | succ n1 =>
       unfold iF at h
       obtain ⟨x29,hx29,h⟩:=aR h
       refine aC (aA rfl (aP rfl rfl (lb rfl) (svI rfl) (svI rfl) rfl hx29) <|aB ?_)
       refine aV ?_
       refine aT (b:=_) rfl (fun hc30=>?_) (fun hc30=>?_)
       ·
        replace h:=bT h hc30
        refine aU ?_
        refine aN ?_
        refine aV ?_
        refine bG ?_
        obtain ⟨x31,hx31,h⟩:=aY h
        refine aC (aA rfl (cY aD (cs:=q17) rfl rfl (lb rfl) Tryz.underlying24 ti52 (svL rfl) (svI rfl) hx31 rfl rfl) <|aA rfl (cQ (cs:=q17) rfl rfl (lb rfl) Tryz.underlying52 ag52 ti52 (by decide) (sv (d:=.fptr q17) rfl) (nle rfl) rfl) <|aA rfl (bJ (cs:=q17) (cs':=(w42 0 0 0 false)) 1 rfl rfl (lb rfl) rfl ti52 rfl rfl (.all _)) <|aA rfl (stA q17 q17 ti52 rfl rfl rfl rfl rfl rfl rfl rfl (nle rfl) rfl) <|aB ?_)
        refine aV ?_
        obtain ⟨x32,hx32,h⟩:=aY h
        refine aC (aA rfl (lra q12 la28 rfl rfl rfl rfl rfl (nle rfl) rfl) <|aA rfl (lra q17 la52 rfl rfl rfl rfl rfl (nle rfl) rfl) <|aA rfl (mvI rfl rfl rfl rfl) <|aA rfl (aW (r:=.bool _) rfl rfl (lb rfl) cl70 (.cons (svA q12 rfl) (.cons (svA q17 rfl) (.cons (svI rfl) .nil))) rfl (uJ _ _ _ _ hx32)) <|aA rfl (dD rfl rfl (lb rfl) (svB rfl)) <|aB ?_)
        refine aT (b:=_) rfl (fun hc33=>?_) (fun hc33=>?_)
        ·
         replace h:=bT h hc33
         refine aC (aA rfl (aE rfl rfl (lb rfl) (sv (d:=.int _ 10) rfl)) <|aB ?_)
         refine aS ?_
         refine aZ ?_
         refine bP ?_
         refine aZ ?_
         refine aZ ?_
         refine bP ?_
         refine aZ ?_
         obtain rfl:=Option.some.inj h
         refine ⟨.inr rfl,(.cons (sv rfl) .nil)⟩
        ·
         replace h:=bU h hc33
         refine aU ?_
         refine aN ?_
         refine bD (aA rfl (faR 1 rfl rfl rfl Tryz.underlying52 rfl ti3 (lb rfl) rfl rfl) <|aA rfl (aG (d:=.int _ _) rfl rfl (lb rfl) Tryz.underlying3 ag3 ti3 (by decide) (svR rfl) rfl (nle rfl) rfl) <|aA rfl (asI rfl rfl rfl rfl) <|bW ?_)
         refine bZ ?_
         refine aN ?_
         obtain ⟨x34,hx34,h⟩:=aR h
         refine bD (aA rfl (bL rfl rfl (lb rfl) (svI rfl) (sv (d:=.int _ 1) rfl) rfl hx34) <|aA rfl (mvI rfl rfl rfl rfl) <|bW ?_)
         refine aN ⟨(n1,x31.To,x34),(fun i=>i),⟨(.sames rfl rfl),(.cons (.blk rfl rfl rfl) .nil),bX [0] rfl (by decide),fun _ _=>rfl⟩,?_,?_⟩
         exact h
         exact Nat.lt_succ_self _
       ·
        replace h:=bU h hc30
        refine cN ?_
        refine bI ?_
        refine bI ?_
        refine cO ?_
        refine aN ?_
        refine aV ?_
        obtain ⟨x35,hx35,h⟩:=aY h
        refine aC (aA rfl (lra q12 la28 rfl rfl rfl rfl rfl (nle rfl) rfl) <|aA rfl (aW (r:=.bool _) rfl rfl (lb rfl) cl71 (.cons (svA q12 rfl) .nil) rfl (uK _ _ hx35)) <|aA rfl (dD rfl rfl (lb rfl) (svB rfl)) <|aB ?_)
        refine aT (b:=_) rfl (fun hc36=>?_) (fun hc36=>?_)
        ·
         replace h:=bT h hc36
         refine aC (aA rfl (aE rfl rfl (lb rfl) (sv (d:=.int _ 9) rfl)) <|aB ?_)
         refine aS ?_
         refine aZ ?_
         obtain rfl:=Option.some.inj h
         refine ⟨.inr rfl,(.cons (sv rfl) .nil)⟩
        ·
         replace h:=bU h hc36
         refine aU ?_
         refine aN ?_
         refine aC (aA rfl (aE rfl rfl (lb rfl) (sv (d:=.int _ 0) rfl)) <|aB ?_)
         refine aS ?_
         obtain rfl:=Option.some.inj h
         refine ⟨.inr rfl,(.cons (sv rfl) .nil)⟩

theorem tF (a0 : bS) (r : Int) (h : mF a0 = some r) : cD Tryz.prog 99 [.agg (v5 a0)] (.int .i64 r):=by
 refine bA (rs:=[.int .i64 r]) Tryz.func99 rfl Tryz.ntmps99 (nle rfl) rfl fun O hO=>?_
 show IWP _ _ _ _ ⟨[(0,.agg (v5 a0))],[]⟩ _
 unfold mF at h
 refine aC (aA rfl (bR (cs:=q19) 0 rfl rfl (lb rfl) rfl (svA q19 rfl) rfl rfl) <|aA rfl (aE rfl rfl (lb rfl) (sv (d:=.int _ 0) rfl)) <|aB ?_)
 obtain ⟨x1,hx1,h⟩:=aR h
 obtain ⟨x2,hx2,h⟩:=aR h
 obtain ⟨x3,hx3,h⟩:=aR h
 refine aC (aA rfl (faR 0 rfl rfl rfl Tryz.underlying31 rfl ti3 (lb rfl) rfl rfl) <|aA rfl (aG (d:=.int _ _) rfl rfl (lb rfl) Tryz.underlying3 ag3 ti3 (by decide) (svR rfl) rfl (nle rfl) rfl) <|aA rfl (faR 1 rfl rfl rfl Tryz.underlying31 rfl ti9 (lb rfl) rfl rfl) <|aA rfl (aG (d:=.str _) rfl rfl (lb rfl) Tryz.underlying9 ag9 ti9 (by decide) (svR rfl) rfl (nle rfl) rfl) <|aA rfl (dB rfl rfl (lb rfl) Tryz.underlying9 (sv (d:=.str _) rfl) rfl) <|aA rfl (bL rfl rfl (lb rfl) (svI rfl) (svI rfl) rfl hx1) <|aA rfl (bL rfl rfl (lb rfl) (svI rfl) (sv (d:=.int _ 4096) rfl) rfl hx2) <|aA rfl (mM rfl rfl (lb rfl) (svI rfl) (sv (d:=.int _ 1099511627776) rfl) hx3) <|aA rfl (asI rfl rfl rfl rfl) <|aB ?_)
 refine aS ?_
 obtain rfl:=Option.some.inj h
 refine ⟨.inr rfl,(.cons (sv rfl) .nil)⟩

theorem iD (a0 : aX) (r : Int) (h : eW a0 = some r) : cD Tryz.prog 102 [.agg [.int .i64 a0.At,.str a0.Data]] (.int .i64 r):=by
 refine bA (rs:=[.int .i64 r]) Tryz.func102 rfl Tryz.ntmps102 (nle rfl) rfl fun O hO=>?_
 show IWP _ _ _ _ ⟨[(0,.agg [.int .i64 a0.At,.str a0.Data])],[]⟩ _
 unfold eW at h
 refine aC (aA rfl (bR (cs:=q26) 0 rfl rfl (lb rfl) rfl (svA q26 rfl) rfl rfl) <|aA rfl (aE rfl rfl (lb rfl) (sv (d:=.int _ 0) rfl)) <|aB ?_)
 obtain ⟨x1,hx1,h⟩:=aR h
 refine aC (aA rfl (faR 0 rfl rfl rfl Tryz.underlying165 rfl ti3 (lb rfl) rfl rfl) <|aA rfl (aG (d:=.int _ _) rfl rfl (lb rfl) Tryz.underlying3 ag3 ti3 (by decide) (svR rfl) rfl (nle rfl) rfl) <|aA rfl (faR 1 rfl rfl rfl Tryz.underlying165 rfl ti9 (lb rfl) rfl rfl) <|aA rfl (aG (d:=.str _) rfl rfl (lb rfl) Tryz.underlying9 ag9 ti9 (by decide) (svR rfl) rfl (nle rfl) rfl) <|aA rfl (dB rfl rfl (lb rfl) Tryz.underlying9 (sv (d:=.str _) rfl) rfl) <|aA rfl (bL rfl rfl (lb rfl) (svI rfl) (svI rfl) rfl hx1) <|aA rfl (asI rfl rfl rfl rfl) <|aB ?_)
 refine aS ?_
 obtain rfl:=Option.some.inj h
 refine ⟨.inr rfl,(.cons (sv rfl) .nil)⟩

theorem pV (a0 : bS) (r : Int) (h : lB a0 = some r) : cD Tryz.prog 72 [.agg (v5 a0)] (.int .i64 r):=by
 refine bA (rs:=[.int .i64 r]) Tryz.func72 rfl Tryz.ntmps72 (nle rfl) rfl fun O hO=>?_
 show IWP _ _ _ _ ⟨[(0,.agg (v5 a0))],[]⟩ _
 unfold lB at h
 refine aC (aA rfl (bR (cs:=q19) 0 rfl rfl (lb rfl) rfl (svA q19 rfl) rfl rfl) <|aA rfl (aE rfl rfl (lb rfl) (sv (d:=.int _ 0) rfl)) <|aB ?_)
 refine aV ?_
 obtain ⟨x1,hx1,h⟩:=aR h
 obtain ⟨x2,hx2,h⟩:=aR h
 obtain ⟨x3,hx3,h⟩:=aR h
 obtain ⟨x4,hx4,h⟩:=aR h
 obtain ⟨x5,hx5,h⟩:=aR h
 obtain ⟨x6,hx6,h⟩:=aR h
 refine aC (aA rfl (faR 0 rfl rfl rfl Tryz.underlying31 rfl ti3 (lb rfl) rfl rfl) <|aA rfl (aG (d:=.int _ _) rfl rfl (lb rfl) Tryz.underlying3 ag3 ti3 (by decide) (svR rfl) rfl (nle rfl) rfl) <|aA rfl (aP rfl rfl (lb rfl) (svI rfl) (sv (d:=.int _ 0) rfl) rfl hx1) <|aA rfl (mvB rfl rfl rfl rfl) <|aF rfl rfl (.one rfl) rfl (by decide) (fun hb=>(faR 0 rfl rfl rfl Tryz.underlying31 rfl ti3 (lb rfl) rfl rfl)) <|aF rfl rfl (.one rfl) rfl (by decide) (fun hb=>(aG (d:=.int _ _) rfl rfl (lb rfl) Tryz.underlying3 ag3 ti3 (by decide) (svcR rfl hb) rfl (nle rfl) rfl)) <|aF rfl rfl (.one rfl) rfl (by decide) (fun hb=>(aP rfl rfl (lb rfl) (svcI rfl hb) (sv (d:=.int _ 1099511627776) rfl) rfl hx2)) <|aA rfl (dM rfl rfl (lb rfl) (svB rfl) rfl rfl hx3) <|aA rfl (mvB rfl rfl rfl rfl) <|aF rfl rfl (.one rfl) rfl (by decide) (fun hb=>(faR 1 rfl rfl rfl Tryz.underlying31 rfl ti9 (lb rfl) rfl rfl)) <|aF rfl rfl (.one rfl) rfl (by decide) (fun hb=>(aG (d:=.str _) rfl rfl (lb rfl) Tryz.underlying9 ag9 ti9 (by decide) (svcR rfl hb) rfl (nle rfl) rfl)) <|aF rfl rfl (.one rfl) rfl (by decide) (fun hb=>(dB rfl rfl (lb rfl) Tryz.underlying9 (svc (d:=.str _) rfl hb) rfl)) <|aF rfl rfl (.one rfl) rfl (by decide) (fun hb=>(faR 0 rfl rfl rfl Tryz.underlying31 rfl ti3 (lb rfl) rfl rfl)) <|aF rfl rfl (.one rfl) rfl (by decide) (fun hb=>(aG (d:=.int _ _) rfl rfl (lb rfl) Tryz.underlying3 ag3 ti3 (by decide) (svcR rfl hb) rfl (nle rfl) rfl)) <|aF rfl rfl (.one rfl) rfl (by decide) (fun hb=>(mM rfl rfl (lb rfl) (svcI rfl hb) (sv (d:=.int _ 4096) rfl) hx4)) <|aF rfl rfl (.one rfl) rfl (by decide) (fun hb=>(aP rfl rfl (lb rfl) (svcI rfl hb) (svcI rfl hb) rfl hx5)) <|aA rfl (dM rfl rfl (lb rfl) (svB rfl) rfl rfl hx6) <|aB ?_)
 refine aT (b:=_) rfl (fun hc7=>?_) (fun hc7=>?_)
 ·
  replace h:=bT h hc7
  refine aC (aA rfl (aE rfl rfl (lb rfl) (sv (d:=.int _ 8) rfl)) <|aB ?_)
  refine aS ?_
  refine aZ ?_
  obtain rfl:=Option.some.inj h
  refine ⟨.inr rfl,(.cons (sv rfl) .nil)⟩
 ·
  replace h:=bU h hc7
  refine aU ?_
  refine aN ?_
  obtain ⟨x8,hx8,h⟩:=aY h
  refine dG rfl [⟨[1],[],[(24,.ref 0 0)],[]⟩,
   ⟨[24],[0],[(25,.int .i64 a0.Base)],[]⟩,
   ⟨[1],[0],[(26,.agg (v5 a0))],[]⟩,
   ⟨[26],[],[(27,.int .i64 x8)],[]⟩,
   ⟨[25],[],[(3,.int .i64 a0.Base)],[]⟩,
   ⟨[27],[],[(4,.int .i64 x8)],[]⟩] rfl ?_ (by kernel_rfl) ?_
  ·refine .cons (lop rfl rfl fun S hA=>(aO rfl rfl (lb rfl) Tryz.underlying31 rfl ti3 (by decide) (svaR hA rfl rfl) (off':=0) rfl)) ?_
   refine .cons (lop rfl rfl fun S hA=>(aG (d:=.int _ _) rfl rfl (lb rfl) Tryz.underlying3 ag3 ti3 (by decide) (svaR hA rfl rfl) (agi hA rfl rfl) (nle rfl) rfl)) ?_
   refine .cons (lop rfl rfl fun S hA=>(cA (cs:=q19) rfl rfl (lb rfl) Tryz.underlying31 ag31 ti31 (by decide) (svaR hA rfl rfl) (agi hA rfl rfl) (nle rfl) rfl)) ?_
   refine .cons (lop rfl rfl fun S hA=>(aW (r:=.int _ _) rfl rfl (lb rfl) cl99 (.cons (svaA q19 hA rfl rfl) .nil) rfl (tF _ _ hx8))) ?_
   refine .cons (lop rfl rfl fun S hA=>(aE rfl rfl (lb rfl) (svaI hA rfl rfl))) ?_
   refine .cons (lop rfl rfl fun S hA=>(aE rfl rfl (lb rfl) (svaI hA rfl rfl))) ?_
   exact .nil
  refine aV ?_
  refine aC (aA rfl (faR 2 rfl rfl rfl Tryz.underlying31 rfl ti29 (lb rfl) rfl rfl) <|aA rfl (lrL la29 rfl rfl rfl rfl rfl (nle rfl) rfl) <|aA rfl (cJ aL (l:=a0.Parts) rfl rfl (lb rfl) Tryz.underlying29 (svL rfl)) <|aA rfl (aK rfl rfl (lb rfl) (sv (d:=.int _ 0) rfl)) <|aB ?_)
  refine bG ?_
  refine cW (α:=Nat × Int × Int) (fun z=>⟨[(3,.int .i64 z.2.1),(4,.int .i64 x8),(29,.slice false (a0.Parts.map aL.d)),(30,.int .i64 (a0.Parts.length : Int)),(31,.int .i64 z.2.2)],[]⟩) (fun z=>gM a0 x8 z.1 z.2.1 z.2.2 = some r) (fun z=>z.1) (fuel,a0.Base,0) (fun i=>i) ⟨(.sames rfl rfl),.nil,bX [] rfl (by decide),fun _ _=>rfl⟩ ?_ ?_
  ·exact h
  ·
   rintro ⟨n0,v23,v24⟩ h
   cases n0 with
   | zero=>exact absurd h (by unfold gM; exact nofun)
   | succ n0 =>
    unfold gM at h
    obtain ⟨x39,hx39,h⟩:=aR h
    refine aC (aA rfl (aP rfl rfl (lb rfl) (svI rfl) (svI rfl) rfl hx39) <|aB ?_)
    refine aV ?_
    refine aT (b:=_) rfl (fun hc40=>?_) (fun hc40=>?_)
    ·
     replace h:=bT h hc40
     refine aU ?_
     refine aN ?_
     refine aV ?_
     refine bG ?_
     obtain ⟨x41,hx41,h⟩:=aY h
     refine aC (aA rfl (cY aL (cs:=q26) rfl rfl (lb rfl) Tryz.underlying29 gG (svL rfl) (svI rfl) hx41 rfl rfl) <|aA rfl (cQ (cs:=q26) rfl rfl (lb rfl) Tryz.underlying165 uB gG (by decide) (sv (d:=.fptr q26) rfl) (nle rfl) rfl) <|aA rfl (bJ (cs:=q26) (cs':=[.int .i64 0,.str []]) 0 rfl rfl (lb rfl) rfl gG rfl rfl (.all _)) <|aA rfl (stA q26 q26 gG rfl rfl rfl rfl rfl rfl rfl rfl (nle rfl) rfl) <|aB ?_)
     refine aV ?_
     obtain ⟨x42,hx42,h⟩:=aR h
     obtain ⟨x43,hx43,h⟩:=aR h
     obtain ⟨x44,hx44,h⟩:=aR h
     obtain ⟨x45,hx45,h⟩:=aR h
     obtain ⟨x46,hx46,h⟩:=aR h
     obtain ⟨x47,hx47,h⟩:=aR h
     obtain ⟨x48,hx48,h⟩:=aR h
     obtain ⟨x49,hx49,h⟩:=aR h
     refine aC (aA rfl (faR 0 rfl rfl rfl Tryz.underlying165 rfl ti3 (lb rfl) rfl rfl) <|aA rfl (aG (d:=.int _ _) rfl rfl (lb rfl) Tryz.underlying3 ag3 ti3 (by decide) (svR rfl) rfl (nle rfl) rfl) <|aA rfl (mvI rfl rfl rfl rfl) <|aA rfl (aP rfl rfl (lb rfl) (svI rfl) (svI rfl) rfl hx42) <|aA rfl (mvB rfl rfl rfl rfl) <|aF rfl rfl (.one rfl) rfl (by decide) (fun hb=>(faR 1 rfl rfl rfl Tryz.underlying165 rfl ti9 (lb rfl) rfl rfl)) <|aF rfl rfl (.one rfl) rfl (by decide) (fun hb=>(aG (d:=.str _) rfl rfl (lb rfl) Tryz.underlying9 ag9 ti9 (by decide) (svcR rfl hb) rfl (nle rfl) rfl)) <|aF rfl rfl (.one rfl) rfl (by decide) (fun hb=>(jM rfl rfl (lb rfl) (svc (d:=.str _) rfl hb) (sv (d:=.str []) rfl) rfl hx43)) <|aA rfl (dM rfl rfl (lb rfl) (svB rfl) rfl rfl hx44) <|aA rfl (mvB rfl rfl rfl rfl) <|aF rfl rfl (.one rfl) rfl (by decide) (fun hb=>(faR 0 rfl rfl rfl Tryz.underlying165 rfl ti3 (lb rfl) rfl rfl)) <|aF rfl rfl (.one rfl) rfl (by decide) (fun hb=>(aG (d:=.int _ _) rfl rfl (lb rfl) Tryz.underlying3 ag3 ti3 (by decide) (svcR rfl hb) rfl (nle rfl) rfl)) <|aF rfl rfl (.one rfl) rfl (by decide) (fun hb=>(mvI rfl rfl rfl rfl)) <|aF rfl rfl (.one rfl) rfl (by decide) (fun hb=>(aP rfl rfl (lb rfl) (svcI rfl hb) (svcI rfl hb) rfl hx45)) <|aA rfl (dM rfl rfl (lb rfl) (svB rfl) rfl rfl hx46) <|aA rfl (mvB rfl rfl rfl rfl) <|aF rfl rfl (.one rfl) rfl (by decide) (fun hb=>(faR 1 rfl rfl rfl Tryz.underlying165 rfl ti9 (lb rfl) rfl rfl)) <|aF rfl rfl (.one rfl) rfl (by decide) (fun hb=>(aG (d:=.str _) rfl rfl (lb rfl) Tryz.underlying9 ag9 ti9 (by decide) (svcR rfl hb) rfl (nle rfl) rfl)) <|aF rfl rfl (.one rfl) rfl (by decide) (fun hb=>(dB rfl rfl (lb rfl) Tryz.underlying9 (svc (d:=.str _) rfl hb) rfl)) <|aF rfl rfl (.one rfl) rfl (by decide) (fun hb=>(mvI rfl rfl rfl rfl)) <|aF rfl rfl (.one rfl) rfl (by decide) (fun hb=>(faR 0 rfl rfl rfl Tryz.underlying165 rfl ti3 (lb rfl) rfl rfl)) <|aF rfl rfl (.one rfl) rfl (by decide) (fun hb=>(aG (d:=.int _ _) rfl rfl (lb rfl) Tryz.underlying3 ag3 ti3 (by decide) (svcR rfl hb) rfl (nle rfl) rfl)) <|aF rfl rfl (.one rfl) rfl (by decide) (fun hb=>(bL rfl rfl (lb rfl) (svcI rfl hb) (svcI rfl hb) rfl hx47)) <|aF rfl rfl (.one rfl) rfl (by decide) (fun hb=>(aP rfl rfl (lb rfl) (svcI rfl hb) (svcI rfl hb) rfl hx48)) <|aA rfl (dM rfl rfl (lb rfl) (svB rfl) rfl rfl hx49) <|aB ?_)
     refine aT (b:=_) rfl (fun hc50=>?_) (fun hc50=>?_)
     ·
      replace h:=bT h hc50
      refine aC (aA rfl (aE rfl rfl (lb rfl) (sv (d:=.int _ 10) rfl)) <|aB ?_)
      refine aS ?_
      refine aZ ?_
      refine bP ?_
      refine aZ ?_
      refine aZ ?_
      refine bP ?_
      refine aZ ?_
      obtain rfl:=Option.some.inj h
      refine ⟨.inr rfl,(.cons (sv rfl) .nil)⟩
     ·
      replace h:=bU h hc50
      refine aU ?_
      refine aN ?_
      obtain ⟨x51,hx51,h⟩:=aY h
      refine bD (aA rfl (lra q26 la165 rfl rfl rfl rfl rfl (nle rfl) rfl) <|aA rfl (aW (r:=.int _ _) rfl rfl (lb rfl) aCe (.cons (svA q26 rfl) .nil) rfl (iD _ _ hx51)) <|aA rfl (asI rfl rfl rfl rfl) <|bW ?_)
      refine bZ ?_
      refine aN ?_
      obtain ⟨x52,hx52,h⟩:=aR h
      refine bD (aA rfl (bL rfl rfl (lb rfl) (svI rfl) (sv (d:=.int _ 1) rfl) rfl hx52) <|aA rfl (mvI rfl rfl rfl rfl) <|bW ?_)
      refine aN ⟨(n0,x51,x52),(fun i=>i),⟨(.sames rfl rfl),.nil,bX [] rfl (by decide),fun _ _=>rfl⟩,?_,?_⟩
      exact h
      exact Nat.lt_succ_self _
    ·
     replace h:=bU h hc40
     refine cN ?_
     refine bI ?_
     refine bI ?_
     refine cO ?_
     refine aN ?_
     refine aC (aA rfl (aE rfl rfl (lb rfl) (sv (d:=.int _ 0) rfl)) <|aB ?_)
     refine aS ?_
     obtain rfl:=Option.some.inj h
     refine ⟨.inr rfl,(.cons (sv rfl) .nil)⟩

theorem sO (a0 : cI) (r : fU) (h : mQ a0 = some r) : cD Tryz.prog 59 [.agg (v4 a0)] (.agg (v3 r)):=by
 refine bA (rs:=[.agg (v3 r)]) Tryz.func59 rfl Tryz.ntmps59 (nle rfl) rfl fun O hO=>?_
 show IWP _ _ _ _ ⟨[(0,.agg (v4 a0))],[]⟩ _
 unfold mQ at h
 refine aC (aA rfl (bR (cs:=q16) 0 rfl rfl (lb rfl) rfl (svA q16 rfl) rfl rfl) <|aA rfl (bJ (cs:=q18) (cs':=(w40 0 [] ([] : List aX) 0)) 1 rfl rfl (lb rfl) rfl aCD rfl rfl (.k (.k (.cons (.nils _) (.all _))))) <|aB ?_)
 refine aC (aA rfl (faR 0 rfl rfl rfl Tryz.underlying33 rfl ti31 (lb rfl) rfl rfl) <|aA rfl (lra q19 la31 rfl rfl rfl rfl rfl (nle rfl) rfl) <|aA rfl (faR 3 rfl rfl rfl Tryz.underlying33 rfl ti3 (lb rfl) rfl rfl) <|aA rfl (aG (d:=.int _ _) rfl rfl (lb rfl) Tryz.underlying3 ag3 ti3 (by decide) (svR rfl) rfl (nle rfl) rfl) <|aA rfl (cC (cs:=q16) rfl rfl (lb rfl) Tryz.underlying121 aCD pl121 rfl (.cons (svA q19 rfl) (.cons (svI rfl) .nil)) rfl) <|aA rfl (stA q16 q16 aCD rfl rfl rfl rfl rfl rfl rfl rfl (nle rfl) rfl) <|aB ?_)
 refine aS ?_
 obtain rfl:=Option.some.inj h
 refine ⟨.inr rfl,(.cons (rva aEI rfl rfl (nle rfl) rfl) .nil)⟩

theorem oE (a0 : fU) (r : Int) (h : gC a0 = some r) : cD Tryz.prog 97 [.agg (v3 a0)] (.int .i64 r):=by
 refine bA (rs:=[.int .i64 r]) Tryz.func97 rfl Tryz.ntmps97 (nle rfl) rfl fun O hO=>?_
 show IWP _ _ _ _ ⟨[(0,.agg (v3 a0))],[]⟩ _
 unfold gC at h
 refine aC (aA rfl (bR (cs:=q16) 0 rfl rfl (lb rfl) rfl (svA q16 rfl) rfl rfl) <|aA rfl (aE rfl rfl (lb rfl) (sv (d:=.int _ 0) rfl)) <|aB ?_)
 refine aV ?_
 refine aC (aA rfl (faR 0 rfl rfl rfl Tryz.underlying121 rfl ti31 (lb rfl) rfl rfl) <|aA rfl (faR 2 rfl rfl rfl Tryz.underlying31 rfl ti29 (lb rfl) rfl rfl) <|aA rfl (lrL la29 rfl rfl rfl rfl rfl (nle rfl) rfl) <|aA rfl (cJ aL (l:=a0.State.Parts) rfl rfl (lb rfl) Tryz.underlying29 (svL rfl)) <|aA rfl (asI rfl rfl rfl rfl) <|aB ?_)
 obtain ⟨x1,hx1,h⟩:=aR h
 refine aC (aA rfl (mvI rfl rfl rfl rfl) <|aA rfl (aP rfl rfl (lb rfl) (svI rfl) (sv (d:=.int _ 0) rfl) rfl hx1) <|aB ?_)
 refine aT (b:=_) rfl (fun hc2=>?_) (fun hc2=>?_)
 ·
  replace h:=bT h hc2
  obtain ⟨x3,hx3,h⟩:=aR h
  obtain ⟨x4,hx4,h⟩:=aY h
  obtain ⟨x5,hx5,h⟩:=aR h
  obtain ⟨x6,hx6,h⟩:=aY h
  obtain ⟨x7,hx7,h⟩:=aR h
  refine dG rfl [⟨[1],[],[(10,.ref 0 0)],[]⟩,
   ⟨[10],[],[(11,.ref 0 2)],[]⟩,
   ⟨[11],[0],[(12,.slice false (a0.State.Parts.map aL.d))],[]⟩,
   ⟨[3],[],[(13,.int .i64 (a0.State.Parts.length : Int))],[]⟩,
   ⟨[13],[],[(14,.int .i64 x3)],[]⟩,
   ⟨[12,14],[],[(15,.fptr [.int .i64 x4.At,.str x4.Data])],[]⟩,
   ⟨[15],[],[(16,.fptr [.int .i64 x4.At])],[]⟩,
   ⟨[16],[],[(17,.int .i64 x4.At)],[]⟩,
   ⟨[1],[],[(18,.ref 0 0)],[]⟩,
   ⟨[18],[],[(19,.ref 0 2)],[]⟩,
   ⟨[19],[0],[(20,.slice false (a0.State.Parts.map aL.d))],[]⟩,
   ⟨[3],[],[(21,.int .i64 (a0.State.Parts.length : Int))],[]⟩,
   ⟨[21],[],[(22,.int .i64 x5)],[]⟩,
   ⟨[20,22],[],[(23,.fptr [.int .i64 x6.At,.str x6.Data])],[]⟩,
   ⟨[23],[],[(24,.fptr [.str x6.Data])],[]⟩,
   ⟨[24],[],[(25,.str x6.Data)],[]⟩,
   ⟨[25],[],[(26,.int .i64 (x6.Data.length : Int))],[]⟩,
   ⟨[17,26],[],[(27,.int .i64 x7)],[]⟩,
   ⟨[27],[],[(2,.int .i64 x7)],[]⟩] rfl ?_ (by kernel_rfl) ?_
  ·refine .cons (lop rfl rfl fun S hA=>(aO rfl rfl (lb rfl) Tryz.underlying121 rfl ti31 (by decide) (svaR hA rfl rfl) (off':=0) rfl)) ?_
   refine .cons (lop rfl rfl fun S hA=>(aO rfl rfl (lb rfl) Tryz.underlying31 rfl ti29 (by decide) (svaR hA rfl rfl) (off':=2) rfl)) ?_
   refine .cons (lop rfl rfl fun S hA=>(aG (d:=.slice _ _) rfl rfl (lb rfl) Tryz.underlying29 ag29 ti29 (by decide) (svaR hA rfl rfl) (agi hA rfl rfl) (nle rfl) rfl)) ?_
   refine .cons (lop rfl rfl fun S hA=>(aK rfl rfl (lb rfl) (svaI hA rfl rfl))) ?_
   refine .cons (lop rfl rfl fun S hA=>(bL rfl rfl (lb rfl) (svaI hA rfl rfl) (sv (d:=.int _ 1) rfl) rfl hx3)) ?_
   refine .cons (lop rfl rfl fun S hA=>(cY aL (cs:=q26) rfl rfl (lb rfl) Tryz.underlying29 gG (svaL hA rfl rfl) (svaI hA rfl rfl) hx4 rfl rfl)) ?_
   refine .cons (lop rfl rfl fun S hA=>(dS (cs':=[.int _ _]) rfl rfl (lb rfl) Tryz.underlying165 rfl ti3 (by decide) (sv (d:=.fptr q26) (agr hA rfl rfl)) rfl)) ?_
   refine .cons (lop rfl rfl fun S hA=>(eT rfl rfl (lb rfl) Tryz.underlying3 ag3 ti3 (by decide) (sv (d:=.fptr [.int _ _]) (agr hA rfl rfl)) (nle rfl))) ?_
   refine .cons (lop rfl rfl fun S hA=>(aO rfl rfl (lb rfl) Tryz.underlying121 rfl ti31 (by decide) (svaR hA rfl rfl) (off':=0) rfl)) ?_
   refine .cons (lop rfl rfl fun S hA=>(aO rfl rfl (lb rfl) Tryz.underlying31 rfl ti29 (by decide) (svaR hA rfl rfl) (off':=2) rfl)) ?_
   refine .cons (lop rfl rfl fun S hA=>(aG (d:=.slice _ _) rfl rfl (lb rfl) Tryz.underlying29 ag29 ti29 (by decide) (svaR hA rfl rfl) (agi hA rfl rfl) (nle rfl) rfl)) ?_
   refine .cons (lop rfl rfl fun S hA=>(aK rfl rfl (lb rfl) (svaI hA rfl rfl))) ?_
   refine .cons (lop rfl rfl fun S hA=>(bL rfl rfl (lb rfl) (svaI hA rfl rfl) (sv (d:=.int _ 1) rfl) rfl hx5)) ?_
   refine .cons (lop rfl rfl fun S hA=>(cY aL (cs:=q26) rfl rfl (lb rfl) Tryz.underlying29 gG (svaL hA rfl rfl) (svaI hA rfl rfl) hx6 rfl rfl)) ?_
   refine .cons (lop rfl rfl fun S hA=>(dS (cs':=[.str _]) rfl rfl (lb rfl) Tryz.underlying165 rfl ti9 (by decide) (sv (d:=.fptr q26) (agr hA rfl rfl)) rfl)) ?_
   refine .cons (lop rfl rfl fun S hA=>(eT rfl rfl (lb rfl) Tryz.underlying9 ag9 ti9 (by decide) (sv (d:=.fptr [.str _]) (agr hA rfl rfl)) (nle rfl))) ?_
   refine .cons (lop rfl rfl fun S hA=>(dB rfl rfl (lb rfl) Tryz.underlying9 (sv (d:=.str _) (agr hA rfl rfl)) rfl)) ?_
   refine .cons (lop rfl rfl fun S hA=>(bL rfl rfl (lb rfl) (svaI hA rfl rfl) (svaI hA rfl rfl) rfl hx7)) ?_
   refine .cons (lop rfl rfl fun S hA=>(aE rfl rfl (lb rfl) (svaI hA rfl rfl))) ?_
   exact .nil
  refine aS ?_
  refine aZ ?_
  obtain rfl:=Option.some.inj h
  refine ⟨.inr rfl,(.cons (sv rfl) .nil)⟩
 ·
  replace h:=bU h hc2
  refine aU ?_
  refine aN ?_
  refine aC (aA rfl (faR 0 rfl rfl rfl Tryz.underlying121 rfl ti31 (lb rfl) rfl rfl) <|aA rfl (faR 0 rfl rfl rfl Tryz.underlying31 rfl ti3 (lb rfl) rfl rfl) <|aA rfl (aG (d:=.int _ _) rfl rfl (lb rfl) Tryz.underlying3 ag3 ti3 (by decide) (svR rfl) rfl (nle rfl) rfl) <|aA rfl (asI rfl rfl rfl rfl) <|aB ?_)
  refine aS ?_
  obtain rfl:=Option.some.inj h
  refine ⟨.inr rfl,(.cons (sv rfl) .nil)⟩

theorem aBV (a0 : cI) (r : Int) (h : tA a0 = some r) : cD Tryz.prog 73 [.agg (v4 a0)] (.int .i64 r):=by
 refine bA (rs:=[.int .i64 r]) Tryz.func73 rfl Tryz.ntmps73 (nle rfl) rfl fun O hO=>?_
 show IWP _ _ _ _ ⟨[(0,.agg (v4 a0))],[]⟩ _
 unfold tA at h
 refine aC (aA rfl (bR (cs:=q16) 0 rfl rfl (lb rfl) rfl (svA q16 rfl) rfl rfl) <|aA rfl (aE rfl rfl (lb rfl) (sv (d:=.int _ 0) rfl)) <|aB ?_)
 obtain ⟨x1,hx1,h⟩:=aY h
 obtain ⟨x2,hx2,h⟩:=aY h
 refine aC (aA rfl (lra q16 la33 rfl rfl rfl rfl rfl (nle rfl) rfl) <|aA rfl (aW (r:=.agg q16) rfl rfl (lb rfl) cl59 (.cons (svA q16 rfl) .nil) rfl (sO _ _ hx1)) <|aA rfl (aW (r:=.int _ _) rfl rfl (lb rfl) cl97 (.cons (svA q16 rfl) .nil) rfl (oE _ _ hx2)) <|aA rfl (asI rfl rfl rfl rfl) <|aB ?_)
 refine aS ?_
 obtain rfl:=Option.some.inj h
 refine ⟨.inr rfl,(.cons (sv rfl) .nil)⟩

theorem qX (a0 : cI) (r : Int) (h : lG a0 = some r) : cD Tryz.prog 40 [.agg (v4 a0)] (.int .i64 r):=by
 refine bA (rs:=[.int .i64 r]) Tryz.func40 rfl Tryz.ntmps40 (nle rfl) rfl fun O hO=>?_
 show IWP _ _ _ _ ⟨[(0,.agg (v4 a0))],[]⟩ _
 unfold lG at h
 refine aC (aA rfl (bR (cs:=q16) 0 rfl rfl (lb rfl) rfl (svA q16 rfl) rfl rfl) <|aA rfl (aE rfl rfl (lb rfl) (sv (d:=.int _ 0) rfl)) <|aB ?_)
 refine aV ?_
 obtain ⟨x1,hx1,h⟩:=aY h
 refine aC (aA rfl (faR 0 rfl rfl rfl Tryz.underlying33 rfl ti31 (lb rfl) rfl rfl) <|aA rfl (lra q19 la31 rfl rfl rfl rfl rfl (nle rfl) rfl) <|aA rfl (aW (r:=.int _ _) rfl rfl (lb rfl) cl72 (.cons (svA q19 rfl) .nil) rfl (pV _ _ hx1)) <|aA rfl (asI rfl rfl rfl rfl) <|aB ?_)
 obtain ⟨x2,hx2,h⟩:=aR h
 refine aC (aA rfl (mvI rfl rfl rfl rfl) <|aA rfl (aP rfl rfl (lb rfl) (svI rfl) (sv (d:=.int _ 0) rfl) rfl hx2) <|aB ?_)
 refine aT (b:=_) rfl (fun hc3=>?_) (fun hc3=>?_)
 ·
  replace h:=bT h hc3
  refine aC (aA rfl (mvI rfl rfl rfl rfl) <|aA rfl (asI rfl rfl rfl rfl) <|aB ?_)
  refine aS ?_
  refine aZ ?_
  obtain rfl:=Option.some.inj h
  refine ⟨.inr rfl,(.cons (sv rfl) .nil)⟩
 ·
  replace h:=bU h hc3
  refine aU ?_
  refine aN ?_
  refine aV ?_
  obtain ⟨x4,hx4,h⟩:=aR h
  obtain ⟨x5,hx5,h⟩:=aY h
  obtain ⟨x6,hx6,h⟩:=aR h
  obtain ⟨x7,hx7,h⟩:=aR h
  obtain ⟨x8,hx8,h⟩:=aR h
  obtain ⟨x9,hx9,h⟩:=aR h
  refine dG rfl [⟨[1],[],[(10,.ref 0 3)],[]⟩,
   ⟨[10],[0],[(11,.int .i64 a0.End)],[]⟩,
   ⟨[11],[],[(12,.bool x4)],[]⟩,
   ⟨[12],[],[(13,.bool x4)],[]⟩,
   ⟨[1,13],[],[(14,.cnd (x4 == true) (.ref 0 3))],[]⟩,
   ⟨[13,14],[0],[(15,.cnd (x4 == true) (.int .i64 a0.End))],[]⟩,
   ⟨[1,13],[0],[(16,.cnd (x4 == true) (.agg (v4 a0)))],[]⟩,
   ⟨[13,16],[],[(17,.cnd (x4 == true) (.int .i64 x5))],[]⟩,
   ⟨[13,15,17],[],[(18,.cnd (x4 == true) (.bool x6))],[]⟩,
   ⟨[13,18],[],[(19,.cnd (x4 == true) (.bool x6))],[]⟩,
   ⟨[1,19],[],[(20,.cnd (((x4 == true) && (x6 == false))) (.ref 0 3))],[]⟩,
   ⟨[19,20],[0],[(21,.cnd (((x4 == true) && (x6 == false))) (.int .i64 a0.End))],[]⟩,
   ⟨[19,21],[],[(22,.cnd (((x4 == true) && (x6 == false))) (.bool x7))],[]⟩,
   ⟨[13,19,22],[],[(23,.cnd (x4 == true) (.bool x8))],[]⟩,
   ⟨[13,23],[],[(24,.bool x9)],[]⟩] rfl ?_ (by kernel_rfl) ?_
  ·refine .cons (lop rfl rfl fun S hA=>(aO rfl rfl (lb rfl) Tryz.underlying33 rfl ti3 (by decide) (svaR hA rfl rfl) (off':=3) rfl)) ?_
   refine .cons (lop rfl rfl fun S hA=>(aG (d:=.int _ _) rfl rfl (lb rfl) Tryz.underlying3 ag3 ti3 (by decide) (svaR hA rfl rfl) (agi hA rfl rfl) (nle rfl) rfl)) ?_
   refine .cons (lop rfl rfl fun S hA=>(aP rfl rfl (lb rfl) (svaI hA rfl rfl) (sv (d:=.int _ (-1)) rfl) rfl hx4)) ?_
   refine .cons (lop rfl rfl fun S hA=>(aK rfl rfl (lb rfl) (svaB hA rfl rfl))) ?_
   refine .cons (lopg rfl rfl rfl rfl (by decide) (fun S hA=>grd1 hA rfl rfl) (fun S hA hb=>(aO rfl rfl (lb rfl) Tryz.underlying33 rfl ti3 (by decide) (svaR hA rfl rfl) (off':=3) rfl))) ?_
   refine .cons (lopg rfl rfl rfl rfl (by decide) (fun S hA=>grd1 hA rfl rfl) (fun S hA hb=>(aG (d:=.int _ _) rfl rfl (lb rfl) Tryz.underlying3 ag3 ti3 (by decide) (svc (d:=.ref _ _) (agr hA rfl rfl) hb) (agi hA rfl rfl) (nle rfl) rfl))) ?_
   refine .cons (lopg rfl rfl rfl rfl (by decide) (fun S hA=>grd1 hA rfl rfl) (fun S hA hb=>(cA (cs:=q16) rfl rfl (lb rfl) Tryz.underlying33 ag33 ti33 (by decide) (svaR hA rfl rfl) (agi hA rfl rfl) (nle rfl) rfl))) ?_
   refine .cons (lopg rfl rfl rfl rfl (by decide) (fun S hA=>grd1 hA rfl rfl) (fun S hA hb=>(aW (r:=.int _ _) rfl rfl (lb rfl) cl73 (.cons (svc (d:=.agg (v4 a0)) (agr hA rfl rfl) hb) .nil) rfl (aBV _ _ (gd_t hx5 hb))))) ?_
   refine .cons (lopg rfl rfl rfl rfl (by decide) (fun S hA=>grd1 hA rfl rfl) (fun S hA hb=>(aP rfl rfl (lb rfl) (svc (d:=.int _ _) (agr hA rfl rfl) hb) (svc (d:=.int _ _) (agr hA rfl rfl) hb) rfl hx6))) ?_
   refine .cons (lopg rfl rfl rfl rfl (by decide) (fun S hA=>grd1 hA rfl rfl) (fun S hA hb=>(aK rfl rfl (lb rfl) (svc (d:=.bool _) (agr hA rfl rfl) hb)))) ?_
   refine .cons (lopg rfl rfl rfl rfl (by decide) (fun S hA=>grd2 hA rfl rfl) (fun S hA hb=>(aO rfl rfl (lb rfl) Tryz.underlying33 rfl ti3 (by decide) (svaR hA rfl rfl) (off':=3) rfl))) ?_
   refine .cons (lopg rfl rfl rfl rfl (by decide) (fun S hA=>grd2 hA rfl rfl) (fun S hA hb=>(aG (d:=.int _ _) rfl rfl (lb rfl) Tryz.underlying3 ag3 ti3 (by decide) (svc (d:=.ref _ _) (agr hA rfl rfl) hb) (agi hA rfl rfl) (nle rfl) rfl))) ?_
   refine .cons (lopg rfl rfl rfl rfl (by decide) (fun S hA=>grd2 hA rfl rfl) (fun S hA hb=>(aP rfl rfl (lb rfl) (svc (d:=.int _ _) (agr hA rfl rfl) hb) (sv (d:=.int _ 1099511627776) rfl) rfl hx7))) ?_
   refine .cons (lopg rfl rfl rfl rfl (by decide) (fun S hA=>grd1 hA rfl rfl) (fun S hA hb=>(aBv rfl rfl (lb rfl) hb (svc (d:=.bool _) (agr hA rfl rfl) hb) rfl (agr hA rfl rfl) hx8))) ?_
   refine .cons (lop rfl rfl fun S hA=>(bO rfl rfl (lb rfl) (svaB hA rfl rfl) (agr hA rfl rfl) rfl hx9)) ?_
   exact .nil
  refine aT (b:=_) rfl (fun hc10=>?_) (fun hc10=>?_)
  ·
   replace h:=bT h hc10
   refine aC (aA rfl (aE rfl rfl (lb rfl) (sv (d:=.int _ 8) rfl)) <|aB ?_)
   refine aS ?_
   refine aZ ?_
   obtain rfl:=Option.some.inj h
   refine ⟨.inr rfl,(.cons (sv rfl) .nil)⟩
  ·
   replace h:=bU h hc10
   refine aU ?_
   refine aN ?_
   refine aC (aA rfl (aE rfl rfl (lb rfl) (sv (d:=.int _ 0) rfl)) <|aB ?_)
   refine aS ?_
   obtain rfl:=Option.some.inj h
   refine ⟨.inr rfl,(.cons (sv rfl) .nil)⟩

theorem tG (a0 : Int) (r : Bool) (h : nW a0 = some r) : cD Tryz.prog 78 [.int .u8 a0] (.bool r):=by
 refine bA (rs:=[.bool r]) Tryz.func78 rfl Tryz.ntmps78 (nle rfl) rfl fun O hO=>?_
 show IWP _ _ _ _ ⟨[(0,.int .u8 a0)],[]⟩ _
 unfold nW at h
 refine aC (aA rfl (aE rfl rfl (lb rfl) (sv (d:=.bool false) rfl)) <|aB ?_)
 obtain ⟨x1,hx1,h⟩:=aR h
 obtain ⟨x2,hx2,h⟩:=aR h
 obtain ⟨x3,hx3,h⟩:=aR h
 refine aC (aA rfl (mvI rfl rfl rfl rfl) <|aA rfl (aP rfl rfl (lb rfl) (svI rfl) (sv (d:=.int _ 10) rfl) rfl hx1) <|aA rfl (mvB rfl rfl rfl rfl) <|aF rfl rfl (.one rfl) rfl (by decide) (fun hb=>(mvI rfl rfl rfl rfl)) <|aF rfl rfl (.one rfl) rfl (by decide) (fun hb=>(aP rfl rfl (lb rfl) (svcI rfl hb) (sv (d:=.int _ 5) rfl) rfl hx2)) <|aA rfl (bO rfl rfl (lb rfl) (svB rfl) rfl rfl hx3) <|aA rfl (asB rfl rfl rfl rfl) <|aB ?_)
 refine aS ?_
 obtain rfl:=Option.some.inj h
 refine ⟨.inr rfl,(.cons (sv rfl) .nil)⟩

theorem uL (a0 : Int) (r : Int) (h : kH a0 = some r) : cD Tryz.prog 128 [.int .u64 a0] (.int .i64 r):=by
 refine bA (rs:=[.int .i64 r]) Tryz.func128 rfl Tryz.ntmps128 (nle rfl) rfl fun O hO=>?_
 show IWP _ _ _ _ ⟨[(0,.int .u64 a0)],[]⟩ _
 unfold kH at h
 refine aC (aA rfl (aE rfl rfl (lb rfl) (sv (d:=.int _ 0) rfl)) <|aB ?_)
 refine gK (α:=Int × Int) (fun z=>⟨[(0,.int .u64 z.1),(2,.int .i64 z.2)],[]⟩) (fun z=>gB z.1 z.2 = some r) ?_ ?_
 ·
  obtain ⟨x30,hx30,h⟩:=aR h
  refine aC (aA rfl (mvI rfl rfl rfl rfl) <|aA rfl (aP rfl rfl (lb rfl) (svI rfl) (sv (d:=.int _ 4294967296) rfl) rfl hx30) <|aB ?_)
  refine aT (b:=_) rfl (fun hc31=>?_) (fun hc31=>?_)
  ·
   replace h:=bT h hc31
   obtain ⟨x32,hx32,h⟩:=aY h
   refine aC (aA rfl (mvI rfl rfl rfl rfl) <|aA rfl (pY rfl rfl (lb rfl) (svI rfl) (sv (d:=.int _ 32) rfl) hx32) <|aA rfl (asI rfl rfl rfl rfl) <|aB ?_)
   refine bD (aA rfl (aE rfl rfl (lb rfl) (sv (d:=.int _ 32) rfl)) <|bW ?_)
   refine aN ⟨(x32,32),(fun i=>i),⟨(.sames rfl rfl),.nil,bX [] rfl (by decide),fun _ _=>rfl⟩,?_⟩
   exact h
  ·
   replace h:=bU h hc31
   refine aU ?_
   refine aN ⟨(a0,0),(fun i=>i),⟨(.sames rfl rfl),.nil,bX [] rfl (by decide),fun _ _=>rfl⟩,?_⟩
   exact h
 ·
  rintro ⟨v4,v5⟩ h
  unfold gB at h
  refine gK (α:=Int × Int) (fun z=>⟨[(0,.int .u64 z.1),(2,.int .i64 z.2)],[]⟩) (fun z=>gA z.1 z.2 = some r) ?_ ?_
  ·
   obtain ⟨x26,hx26,h⟩:=aR h
   refine aC (aA rfl (mvI rfl rfl rfl rfl) <|aA rfl (aP rfl rfl (lb rfl) (svI rfl) (sv (d:=.int _ 65536) rfl) rfl hx26) <|aB ?_)
   refine aT (b:=_) rfl (fun hc27=>?_) (fun hc27=>?_)
   ·
    replace h:=bT h hc27
    obtain ⟨x28,hx28,h⟩:=aY h
    refine aC (aA rfl (mvI rfl rfl rfl rfl) <|aA rfl (pY rfl rfl (lb rfl) (svI rfl) (sv (d:=.int _ 16) rfl) hx28) <|aA rfl (asI rfl rfl rfl rfl) <|aB ?_)
    obtain ⟨x29,hx29,h⟩:=aR h
    refine bD (aA rfl (mvI rfl rfl rfl rfl) <|aA rfl (bL rfl rfl (lb rfl) (svI rfl) (sv (d:=.int _ 16) rfl) rfl hx29) <|aA rfl (asI rfl rfl rfl rfl) <|bW ?_)
    refine aN ⟨(x28,x29),(fun i=>i),⟨(.sames rfl rfl),.nil,bX [] rfl (by decide),fun _ _=>rfl⟩,?_⟩
    exact h
   ·
    replace h:=bU h hc27
    refine aU ?_
    refine aN ⟨(v4,v5),(fun i=>i),⟨(.sames rfl rfl),.nil,bX [] rfl (by decide),fun _ _=>rfl⟩,?_⟩
    exact h
  ·
   rintro ⟨v10,v11⟩ h
   unfold gA at h
   refine gK (α:=Int × Int) (fun z=>⟨[(0,.int .u64 z.1),(2,.int .i64 z.2)],[]⟩) (fun z=>fZ z.1 z.2 = some r) ?_ ?_
   ·
    obtain ⟨x22,hx22,h⟩:=aR h
    refine aC (aA rfl (mvI rfl rfl rfl rfl) <|aA rfl (aP rfl rfl (lb rfl) (svI rfl) (sv (d:=.int _ 256) rfl) rfl hx22) <|aB ?_)
    refine aT (b:=_) rfl (fun hc23=>?_) (fun hc23=>?_)
    ·
     replace h:=bT h hc23
     obtain ⟨x24,hx24,h⟩:=aY h
     refine aC (aA rfl (mvI rfl rfl rfl rfl) <|aA rfl (pY rfl rfl (lb rfl) (svI rfl) (sv (d:=.int _ 8) rfl) hx24) <|aA rfl (asI rfl rfl rfl rfl) <|aB ?_)
     obtain ⟨x25,hx25,h⟩:=aR h
     refine bD (aA rfl (mvI rfl rfl rfl rfl) <|aA rfl (bL rfl rfl (lb rfl) (svI rfl) (sv (d:=.int _ 8) rfl) rfl hx25) <|aA rfl (asI rfl rfl rfl rfl) <|bW ?_)
     refine aN ⟨(x24,x25),(fun i=>i),⟨(.sames rfl rfl),.nil,bX [] rfl (by decide),fun _ _=>rfl⟩,?_⟩
     exact h
    ·
     replace h:=bU h hc23
     refine aU ?_
     refine aN ⟨(v10,v11),(fun i=>i),⟨(.sames rfl rfl),.nil,bX [] rfl (by decide),fun _ _=>rfl⟩,?_⟩
     exact h
   ·
    rintro ⟨v16,v17⟩ h
    unfold fZ at h
    obtain ⟨x18,hx18,h⟩:=aR h
    obtain ⟨x19,hx19,h⟩:=aY h
    obtain ⟨x20,hx20,h⟩:=aR h
    obtain ⟨x21,hx21,h⟩:=aR h
    refine aC (aA rfl (mvI rfl rfl rfl rfl) <|aA rfl (mvI rfl rfl rfl rfl) <|aA rfl (fX rfl rfl (lb rfl) ⟨_,Tryz.underlying192⟩ Tryz.underlying5 (svI rfl) hx18) <|aA rfl (mI rfl rfl (lb rfl) Tryz.underlying9 (sv (d:=.str [0,1,2,2,3,3,3,3,4,4,4,4,4,4,4,4,5,5,5,5,5,5,5,5,5,5,5,5,5,5,5,5,6,6,6,6,6,6,6,6,6,6,6,6,6,6,6,6,6,6,6,6,6,6,6,6,6,6,6,6,6,6,6,6,7,7,7,7,7,7,7,7,7,7,7,7,7,7,7,7,7,7,7,7,7,7,7,7,7,7,7,7,7,7,7,7,7,7,7,7,7,7,7,7,7,7,7,7,7,7,7,7,7,7,7,7,7,7,7,7,7,7,7,7,7,7,7,7,8,8,8,8,8,8,8,8,8,8,8,8,8,8,8,8,8,8,8,8,8,8,8,8,8,8,8,8,8,8,8,8,8,8,8,8,8,8,8,8,8,8,8,8,8,8,8,8,8,8,8,8,8,8,8,8,8,8,8,8,8,8,8,8,8,8,8,8,8,8,8,8,8,8,8,8,8,8,8,8,8,8,8,8,8,8,8,8,8,8,8,8,8,8,8,8,8,8,8,8,8,8,8,8,8,8,8,8,8,8,8,8,8,8,8,8,8,8,8,8,8,8,8,8,8,8,8,8]) rfl) (svI rfl) hx19) <|aA rfl (fX rfl rfl (lb rfl) ⟨_,Tryz.underlying5⟩ Tryz.underlying3 (svI rfl) hx20) <|aA rfl (bL rfl rfl (lb rfl) (svI rfl) (svI rfl) rfl hx21) <|aA rfl (asI rfl rfl rfl rfl) <|aB ?_)
    refine aS ?_
    obtain rfl:=Option.some.inj h
    refine ⟨.inr rfl,(.cons (sv rfl) .nil)⟩

theorem wL (a0 : Int) (r : Int) (h : lS a0 = some r) : cD Tryz.prog 118 [.int .u64 a0] (.int .i64 r):=by
 refine bA (rs:=[.int .i64 r]) Tryz.func118 rfl Tryz.ntmps118 (nle rfl) rfl fun O hO=>?_
 show IWP _ _ _ _ ⟨[(0,.int .u64 a0)],[]⟩ _
 unfold lS at h
 refine aC (aA rfl (aE rfl rfl (lb rfl) (sv (d:=.int _ 0) rfl)) <|aB ?_)
 refine aV ?_
 refine aCT rfl rfl ?_
 refine aU ?_
 refine aN ?_
 obtain ⟨x1,hx1,h⟩:=aY h
 refine aC (aA rfl (mvI rfl rfl rfl rfl) <|aA rfl (aW (r:=.int _ _) rfl rfl (lb rfl) cl128 (.cons (svI rfl) .nil) rfl (uL _ _ hx1)) <|aA rfl (asI rfl rfl rfl rfl) <|aB ?_)
 refine aS ?_
 obtain rfl:=Option.some.inj h
 refine ⟨.inr rfl,(.cons (sv rfl) .nil)⟩

theorem tB (a0 : Int) (r : Int) (h : mB a0 = some r) : cD Tryz.prog 84 [.int .i64 a0] (.int .i64 r):=by
 refine bA (rs:=[.int .i64 r]) Tryz.func84 rfl Tryz.ntmps84 (nle rfl) rfl fun O hO=>?_
 show IWP _ _ _ _ ⟨[(0,.int .i64 a0)],[]⟩ _
 unfold mB at h
 refine aC (aA rfl (aE rfl rfl (lb rfl) (sv (d:=.int _ 0) rfl)) <|aB ?_)
 refine aV ?_
 obtain ⟨x1,hx1,h⟩:=aR h
 obtain ⟨x2,hx2,h⟩:=aR h
 obtain ⟨x3,hx3,h⟩:=aR h
 refine aC (aA rfl (mvI rfl rfl rfl rfl) <|aA rfl (aP rfl rfl (lb rfl) (svI rfl) (sv (d:=.int _ 0) rfl) rfl hx1) <|aA rfl (mvB rfl rfl rfl rfl) <|aF rfl rfl (.one rfl) rfl (by decide) (fun hb=>(mvI rfl rfl rfl rfl)) <|aF rfl rfl (.one rfl) rfl (by decide) (fun hb=>(aP rfl rfl (lb rfl) (svcI rfl hb) (sv (d:=.int _ 4611686018427387903) rfl) rfl hx2)) <|aA rfl (dM rfl rfl (lb rfl) (svB rfl) rfl rfl hx3) <|aB ?_)
 refine aT (b:=_) rfl (fun hc4=>?_) (fun hc4=>?_)
 ·
  replace h:=bT h hc4
  refine aC (aA rfl (aE rfl rfl (lb rfl) (sv (d:=.int _ (-1)) rfl)) <|aB ?_)
  refine aS ?_
  refine aZ ?_
  obtain rfl:=Option.some.inj h
  refine ⟨.inr rfl,(.cons (sv rfl) .nil)⟩
 ·
  replace h:=bU h hc4
  refine aU ?_
  refine aN ?_
  refine aV ?_
  refine aC (aA rfl (aK rfl rfl (lb rfl) (sv (d:=.int _ 0) rfl)) <|aB ?_)
  refine bG ?_
  refine cW (α:=Nat × Int) (fun z=>⟨[(0,.int .i64 a0),(10,.int .i64 z.2)],[]⟩) (fun z=>iT a0 z.1 z.2 = some r) (fun z=>z.1) (fuel,0) (fun i=>i) ⟨(.sames rfl rfl),.nil,bX [] rfl (by decide),fun _ _=>rfl⟩ ?_ ?_
  ·exact h
  ·
   rintro ⟨n0,v14⟩ h
   cases n0 with
   | zero=>exact absurd h (by unfold iT; exact nofun)
   | succ n0 =>
    unfold iT at h
    obtain ⟨x24,hx24,h⟩:=aR h
    refine aC (aA rfl (aP rfl rfl (lb rfl) (svI rfl) (sv (d:=.int _ 4) rfl) rfl hx24) <|aB ?_)
    refine aV ?_
    refine aT (b:=_) rfl (fun hc25=>?_) (fun hc25=>?_)
    ·
     replace h:=bT h hc25
     refine aU ?_
     refine aN ?_
     refine aV ?_
     refine bG ?_
     refine aC (aA rfl (mvI rfl rfl rfl rfl) <|aA rfl (asI rfl rfl rfl rfl) <|aB ?_)
     obtain ⟨x26,hx26,h⟩:=aR h
     obtain ⟨x27,hx27,h⟩:=aY h
     obtain ⟨x28,hx28,h⟩:=aY h
     obtain ⟨x29,hx29,h⟩:=aR h
     obtain ⟨x30,hx30,h⟩:=aR h
     refine dG rfl [⟨[0],[],[(13,.int .i64 a0)],[]⟩,
      ⟨[13],[],[(14,.int .u64 x26)],[]⟩,
      ⟨[14],[],[(15,.int .i64 x27)],[]⟩,
      ⟨[3],[],[(16,.int .i64 v14)],[]⟩,
      ⟨[16],[],[(17,.int .i64 x28)],[]⟩,
      ⟨[17],[],[(18,.int .i64 x29)],[]⟩,
      ⟨[15,18],[],[(19,.bool x30)],[]⟩] rfl ?_ (by kernel_rfl) ?_
     ·refine .cons (lop rfl rfl fun S hA=>(aK rfl rfl (lb rfl) (svaI hA rfl rfl))) ?_
      refine .cons (lop rfl rfl fun S hA=>(fX rfl rfl (lb rfl) ⟨_,Tryz.underlying3⟩ Tryz.underlying153 (svaI hA rfl rfl) hx26)) ?_
      refine .cons (lop rfl rfl fun S hA=>(aW (r:=.int _ _) rfl rfl (lb rfl) cl118 (.cons (svaI hA rfl rfl) .nil) rfl (wL _ _ hx27))) ?_
      refine .cons (lop rfl rfl fun S hA=>(aK rfl rfl (lb rfl) (svaI hA rfl rfl))) ?_
      refine .cons (lop rfl rfl fun S hA=>(tR rfl rfl (lb rfl) (sv (d:=.int _ 8) rfl) (svaI hA rfl rfl) hx28)) ?_
      refine .cons (lop rfl rfl fun S hA=>(bL rfl rfl (lb rfl) (svaI hA rfl rfl) (sv (d:=.int _ 2) rfl) rfl hx29)) ?_
      refine .cons (lop rfl rfl fun S hA=>(aP rfl rfl (lb rfl) (svaI hA rfl rfl) (svaI hA rfl rfl) rfl hx30)) ?_
      exact .nil
     refine aT (b:=_) rfl (fun hc31=>?_) (fun hc31=>?_)
     ·
      replace h:=bT h hc31
      refine aC (aA rfl (mvI rfl rfl rfl rfl) <|aA rfl (asI rfl rfl rfl rfl) <|aB ?_)
      refine aS ?_
      refine bP ?_
      refine aZ ?_
      refine aZ ?_
      refine bP ?_
      refine aZ ?_
      obtain rfl:=Option.some.inj h
      refine ⟨.inr rfl,(.cons (sv rfl) .nil)⟩
     ·
      replace h:=bU h hc31
      refine aU ?_
      refine bZ ?_
      refine aN ?_
      obtain ⟨x32,hx32,h⟩:=aR h
      refine bD (aA rfl (bL rfl rfl (lb rfl) (svI rfl) (sv (d:=.int _ 1) rfl) rfl hx32) <|aA rfl (mvI rfl rfl rfl rfl) <|bW ?_)
      refine aN ⟨(n0,x32),(fun i=>i),⟨(.sames rfl rfl),.nil,bX [] rfl (by decide),fun _ _=>rfl⟩,?_,?_⟩
      exact h
      exact Nat.lt_succ_self _
    ·
     replace h:=bU h hc25
     refine cN ?_
     refine bI ?_
     refine bI ?_
     refine cO ?_
     refine aN ?_
     refine aC (aA rfl (aE rfl rfl (lb rfl) (sv (d:=.int _ (-1)) rfl)) <|aB ?_)
     refine aS ?_
     obtain rfl:=Option.some.inj h
     refine ⟨.inr rfl,(.cons (sv rfl) .nil)⟩

theorem qV (a0 : (List UInt8)) (r : (Int × Int × Int)) (h : mD a0 = some r) : cD Tryz.prog 124 [.str a0] (retD [.int .i64 r.1,.int .i64 r.2.1,.int .i64 r.2.2]):=by
 refine bA (rs:=[.int .i64 r.1,.int .i64 r.2.1,.int .i64 r.2.2]) Tryz.func124 rfl Tryz.ntmps124 (nle rfl) rfl fun O hO=>?_
 show IWP _ _ _ _ ⟨[(0,.str a0)],[]⟩ _
 unfold mD at h
 refine aC (aA rfl (aE rfl rfl (lb rfl) (sv (d:=.int _ 0) rfl)) <|aA rfl (aE rfl rfl (lb rfl) (sv (d:=.int _ 0) rfl)) <|aA rfl (aE rfl rfl (lb rfl) (sv (d:=.int _ 0) rfl)) <|aB ?_)
 refine aV ?_
 obtain ⟨x1,hx1,h⟩:=aR h
 refine aC (aA rfl (aK rfl rfl (lb rfl) (sv (d:=.str _) rfl)) <|aA rfl (jM rfl rfl (lb rfl) (sv (d:=.str _) rfl) (sv (d:=.str []) rfl) rfl hx1) <|aB ?_)
 refine aT (b:=_) rfl (fun hc2=>?_) (fun hc2=>?_)
 ·
  replace h:=bT h hc2
  refine aC (aA rfl (aE rfl rfl (lb rfl) (sv (d:=.int _ 0) rfl)) <|aA rfl (aE rfl rfl (lb rfl) (sv (d:=.int _ 0) rfl)) <|aA rfl (aE rfl rfl (lb rfl) (sv (d:=.int _ 3) rfl)) <|aB ?_)
  refine aS ?_
  refine aZ ?_
  obtain rfl:=Option.some.inj h
  refine ⟨.inr rfl,(.cons (sv rfl) (.cons (sv rfl) (.cons (sv rfl) .nil)))⟩
 ·
  replace h:=bU h hc2
  refine aU ?_
  refine aN ?_
  obtain ⟨x3,hx3,h⟩:=aY h
  obtain ⟨x4,hx4,h⟩:=aY h
  obtain ⟨x5,hx5,h⟩:=aR h
  refine aC (aA rfl (aK rfl rfl (lb rfl) (sv (d:=.str _) rfl)) <|aA rfl (mI rfl rfl (lb rfl) Tryz.underlying9 (sv (d:=.str _) rfl) (sv (d:=.int _ 0) rfl) hx3) <|aA rfl (pY rfl rfl (lb rfl) (svI rfl) (sv (d:=.int _ 6) rfl) hx4) <|aA rfl (fX rfl rfl (lb rfl) ⟨_,Tryz.underlying5⟩ Tryz.underlying3 (svI rfl) hx5) <|aA rfl (asI rfl rfl rfl rfl) <|aB ?_)
  obtain ⟨x6,hx6,h⟩:=aY h
  refine aC (aA rfl (mvI rfl rfl rfl rfl) <|aA rfl (tR rfl rfl (lb rfl) (sv (d:=.int _ 1) rfl) (svI rfl) hx6) <|aA rfl (asI rfl rfl rfl rfl) <|aB ?_)
  refine aV ?_
  obtain ⟨x7,hx7,h⟩:=aR h
  refine aC (aA rfl (aK rfl rfl (lb rfl) (sv (d:=.str _) rfl)) <|aA rfl (dB rfl rfl (lb rfl) Tryz.underlying9 (sv (d:=.str _) rfl) rfl) <|aA rfl (mvI rfl rfl rfl rfl) <|aA rfl (aP rfl rfl (lb rfl) (svI rfl) (svI rfl) rfl hx7) <|aB ?_)
  refine aT (b:=_) rfl (fun hc8=>?_) (fun hc8=>?_)
  ·
   replace h:=bT h hc8
   refine aC (aA rfl (aE rfl rfl (lb rfl) (sv (d:=.int _ 0) rfl)) <|aA rfl (aE rfl rfl (lb rfl) (sv (d:=.int _ 0) rfl)) <|aA rfl (aE rfl rfl (lb rfl) (sv (d:=.int _ 3) rfl)) <|aB ?_)
   refine aS ?_
   refine aZ ?_
   obtain rfl:=Option.some.inj h
   refine ⟨.inr rfl,(.cons (sv rfl) (.cons (sv rfl) (.cons (sv rfl) .nil)))⟩
  ·
   replace h:=bU h hc8
   refine aU ?_
   refine aN ?_
   obtain ⟨x9,hx9,h⟩:=aY h
   obtain ⟨x10,hx10,h⟩:=aR h
   obtain ⟨x11,hx11,h⟩:=aR h
   refine aC (aA rfl (aK rfl rfl (lb rfl) (sv (d:=.str _) rfl)) <|aA rfl (mI rfl rfl (lb rfl) Tryz.underlying9 (sv (d:=.str _) rfl) (sv (d:=.int _ 0) rfl) hx9) <|aA rfl (bL rfl rfl (lb rfl) (svI rfl) (sv (d:=.int _ 63) rfl) rfl hx10) <|aA rfl (fX rfl rfl (lb rfl) ⟨_,Tryz.underlying5⟩ Tryz.underlying3 (svI rfl) hx11) <|aA rfl (asI rfl rfl rfl rfl) <|aB ?_)
   refine aV ?_
   obtain ⟨x12,hx12,h⟩:=aY h
   refine aC (aA rfl (aK rfl rfl (lb rfl) (sv (d:=.str _) rfl)) <|aA rfl (mvI rfl rfl rfl rfl) <|aA rfl (hT rfl rfl (lb rfl) Tryz.underlying9 (sv (d:=.str _) rfl) ⟨_,(sv (d:=.int _ 1) rfl)⟩ ⟨_,(svI rfl)⟩ hx12) <|aA rfl (zK rfl rfl (lb rfl) Tryz.underlying9 Tryz.underlying106 Tryz.underlying5 (sv (d:=.str _) rfl)) <|aA rfl (cJ iC (l:=x12) rfl rfl (lb rfl) Tryz.underlying106 (svL rfl)) <|aA rfl (aK rfl rfl (lb rfl) (sv (d:=.int _ 0) rfl)) <|aB ?_)
   refine bG ?_
   refine cW (α:=Nat × Int × Int) (fun z=>⟨[(5,.int .i64 x5),(6,.int .i64 x6),(7,.int .i64 z.2.1),(29,.slice false (x12.map iC.d)),(30,.int .i64 (x12.length : Int)),(31,.int .i64 z.2.2)],[]⟩) (fun z=>jI x5 x6 x12 z.1 z.2.1 z.2.2 = some r) (fun z=>z.1) (fuel,x11,0) (fun i=>i) ⟨(.sames rfl rfl),.nil,bX [] rfl (by decide),fun _ _=>rfl⟩ ?_ ?_
   ·exact h
   ·
    rintro ⟨n0,v20,v21⟩ h
    cases n0 with
    | zero=>exact absurd h (by unfold jI; exact nofun)
    | succ n0 =>
     unfold jI at h
     obtain ⟨x29,hx29,h⟩:=aR h
     refine aC (aA rfl (aP rfl rfl (lb rfl) (svI rfl) (svI rfl) rfl hx29) <|aB ?_)
     refine aV ?_
     refine aT (b:=_) rfl (fun hc30=>?_) (fun hc30=>?_)
     ·
      replace h:=bT h hc30
      refine aU ?_
      refine aN ?_
      refine aV ?_
      refine bG ?_
      obtain ⟨x31,hx31,h⟩:=aY h
      refine aC (aA rfl (cY iC (cs:=[.int _ _]) rfl rfl (lb rfl) Tryz.underlying106 ti5 (svL rfl) (svI rfl) hx31 rfl rfl) <|aA rfl (eT rfl rfl (lb rfl) Tryz.underlying5 ag5 ti5 (by decide) (sv (d:=.fptr [.int _ _]) rfl) (nle rfl)) <|aA rfl (asI rfl rfl rfl rfl) <|aB ?_)
      obtain ⟨x32,hx32,h⟩:=aY h
      obtain ⟨x33,hx33,h⟩:=aR h
      obtain ⟨x34,hx34,h⟩:=aR h
      refine bD (aA rfl (mvI rfl rfl rfl rfl) <|aA rfl (tR rfl rfl (lb rfl) (svI rfl) (sv (d:=.int _ 8) rfl) hx32) <|aA rfl (mvI rfl rfl rfl rfl) <|aA rfl (fX rfl rfl (lb rfl) ⟨_,Tryz.underlying5⟩ Tryz.underlying3 (svI rfl) hx33) <|aA rfl (bL rfl rfl (lb rfl) (svI rfl) (svI rfl) rfl hx34) <|aA rfl (asI rfl rfl rfl rfl) <|bW ?_)
      refine bZ ?_
      refine aN ?_
      obtain ⟨x35,hx35,h⟩:=aR h
      refine bD (aA rfl (bL rfl rfl (lb rfl) (svI rfl) (sv (d:=.int _ 1) rfl) rfl hx35) <|aA rfl (mvI rfl rfl rfl rfl) <|bW ?_)
      refine aN ⟨(n0,x34,x35),(fun i=>i),⟨(.sames rfl rfl),.nil,bX [] rfl (by decide),fun _ _=>rfl⟩,?_,?_⟩
      exact h
      exact Nat.lt_succ_self _
     ·
      replace h:=bU h hc30
      refine cN ?_
      refine bI ?_
      refine bI ?_
      refine cO ?_
      refine aN ?_
      refine aV ?_
      obtain ⟨x36,hx36,h⟩:=aY h
      obtain ⟨x37,hx37,h⟩:=aR h
      refine aC (aA rfl (mvI rfl rfl rfl rfl) <|aA rfl (aW (r:=.int _ _) rfl rfl (lb rfl) cl84 (.cons (svI rfl) .nil) rfl (tB _ _ hx36)) <|aA rfl (mvI rfl rfl rfl rfl) <|aA rfl (aP rfl rfl (lb rfl) (svI rfl) (svI rfl) rfl hx37) <|aB ?_)
      refine aT (b:=_) rfl (fun hc38=>?_) (fun hc38=>?_)
      ·
       replace h:=bT h hc38
       refine aC (aA rfl (aE rfl rfl (lb rfl) (sv (d:=.int _ 0) rfl)) <|aA rfl (aE rfl rfl (lb rfl) (sv (d:=.int _ 0) rfl)) <|aA rfl (aE rfl rfl (lb rfl) (sv (d:=.int _ 4) rfl)) <|aB ?_)
       refine aS ?_
       refine aZ ?_
       obtain rfl:=Option.some.inj h
       refine ⟨.inr rfl,(.cons (sv rfl) (.cons (sv rfl) (.cons (sv rfl) .nil)))⟩
      ·
       replace h:=bU h hc38
       refine aU ?_
       refine aN ?_
       refine aC (aA rfl (mvI rfl rfl rfl rfl) <|aA rfl (mvI rfl rfl rfl rfl) <|aA rfl (asI rfl rfl rfl rfl) <|aA rfl (asI rfl rfl rfl rfl) <|aA rfl (aE rfl rfl (lb rfl) (sv (d:=.int _ 0) rfl)) <|aB ?_)
       refine aS ?_
       obtain rfl:=Option.some.inj h
       refine ⟨.inr rfl,(.cons (sv rfl) (.cons (sv rfl) (.cons (sv rfl) .nil)))⟩

theorem aAh (a0 : (List UInt8)) (r : (aH × Int × Int × Int)) (h : rQ a0 = some r) : cD Tryz.prog 108 [.str a0] (retD [.agg (v1 r.1), .int .i64 r.2.1, .int .i64 r.2.2.1, .int .i64 r.2.2.2]) := by
 refine bA (rs:=[.agg (v1 r.1),.int .i64 r.2.1,.int .i64 r.2.2.1,.int .i64 r.2.2.2]) Tryz.func108 rfl Tryz.ntmps108 (nle rfl) rfl fun O hO=>?_
 show IWP _ _ _ _ ⟨[(0,.str a0)],[]⟩ _
 unfold rQ at h
 refine aC (aA rfl (bJ (cs:=q11) (cs':=(w37 0 false 0 0 0 0 0 0 ([] : List bK) [])) 0 rfl rfl (lb rfl) rfl ti50 rfl rfl (.k4 (.k4 (.cons (.nils _) (.all _))))) <|aA rfl (aE rfl rfl (lb rfl) (sv (d:=.int _ 0) rfl)) <|aA rfl (aE rfl rfl (lb rfl) (sv (d:=.int _ 0) rfl)) <|aA rfl (aE rfl rfl (lb rfl) (sv (d:=.int _ 0) rfl)) <|aB ?_)
 refine aC (aA rfl (bJ (cs:=q11) (cs':=(w37 0 false 0 0 0 0 0 0 ([] : List bK) [])) 1 rfl rfl (lb rfl) rfl ti50 rfl rfl (.k4 (.k4 (.cons (.nils _) (.all _))))) <|aB ?_)
 refine aV ?_
 obtain ⟨x1,hx1,h⟩:=aR h
 refine aC (aA rfl (aK rfl rfl (lb rfl) (sv (d:=.str _) rfl)) <|aA rfl (jM rfl rfl (lb rfl) (sv (d:=.str _) rfl) (sv (d:=.str []) rfl) rfl hx1) <|aB ?_)
 refine aT (b:=_) rfl (fun hc2=>?_) (fun hc2=>?_)
 ·
  replace h:=bT h hc2
  refine aC (aA rfl (lra q10 la50 rfl rfl rfl rfl rfl (nle rfl) rfl) <|aA rfl (bQ (ds':=[.int _ _,.bool _,.int _ _,.int _ _,.int _ _,.int _ _,.int _ _,.int _ _,.slice false (([] : List bK).map bN.d),.str _]) rfl rfl ti50 (svR rfl) rfl (svA q10 rfl) rfl rfl rfl (nle rfl) rfl) <|aA rfl (aE rfl rfl (lb rfl) (sv (d:=.int _ 0) rfl)) <|aA rfl (aE rfl rfl (lb rfl) (sv (d:=.int _ 0) rfl)) <|aA rfl (aE rfl rfl (lb rfl) (sv (d:=.int _ 3) rfl)) <|aB ?_)
  refine aS ?_
  refine aZ ?_
  obtain rfl:=Option.some.inj h
  refine ⟨.inr rfl,(.cons (rva la50 rfl rfl (nle rfl) rfl) (.cons (sv rfl) (.cons (sv rfl) (.cons (sv rfl) .nil))))⟩
 ·
  replace h:=bU h hc2
  refine aU ?_
  refine aN ?_
  refine aV ?_
  obtain ⟨x3,hx3,h⟩:=aY h
  obtain ⟨x4,hx4,h⟩:=aY h
  refine aC (aA rfl (aK rfl rfl (lb rfl) (sv (d:=.str _) rfl)) <|aA rfl (mI rfl rfl (lb rfl) Tryz.underlying9 (sv (d:=.str _) rfl) (sv (d:=.int _ 0) rfl) hx3) <|aA rfl (aW (r:=.bool _) rfl rfl (lb rfl) cl78 (.cons (svI rfl) .nil) rfl (tG _ _ hx4)) <|aA rfl (dD rfl rfl (lb rfl) (svB rfl)) <|aB ?_)
  refine aT (b:=_) rfl (fun hc5=>?_) (fun hc5=>?_)
  ·
   replace h:=bT h hc5
   refine aC (aA rfl (lra q10 la50 rfl rfl rfl rfl rfl (nle rfl) rfl) <|aA rfl (bQ (ds':=[.int _ _,.bool _,.int _ _,.int _ _,.int _ _,.int _ _,.int _ _,.int _ _,.slice false (([] : List bK).map bN.d),.str _]) rfl rfl ti50 (svR rfl) rfl (svA q10 rfl) rfl rfl rfl (nle rfl) rfl) <|aA rfl (aE rfl rfl (lb rfl) (sv (d:=.int _ 0) rfl)) <|aA rfl (aE rfl rfl (lb rfl) (sv (d:=.int _ 0) rfl)) <|aA rfl (aE rfl rfl (lb rfl) (sv (d:=.int _ 12) rfl)) <|aB ?_)
   refine aS ?_
   refine aZ ?_
   obtain rfl:=Option.some.inj h
   refine ⟨.inr rfl,(.cons (rva la50 rfl rfl (nle rfl) rfl) (.cons (sv rfl) (.cons (sv rfl) (.cons (sv rfl) .nil))))⟩
  ·
   replace h:=bU h hc5
   refine aU ?_
   refine aN ?_
   refine aV ?_
   obtain ⟨x6,hx6,h⟩:=aR h
   refine aC (aA rfl (aK rfl rfl (lb rfl) (sv (d:=.str _) rfl)) <|aA rfl (dB rfl rfl (lb rfl) Tryz.underlying9 (sv (d:=.str _) rfl) rfl) <|aA rfl (aP rfl rfl (lb rfl) (svI rfl) (sv (d:=.int _ 2) rfl) rfl hx6) <|aB ?_)
   refine aT (b:=_) rfl (fun hc7=>?_) (fun hc7=>?_)
   ·
    replace h:=bT h hc7
    refine aC (aA rfl (lra q10 la50 rfl rfl rfl rfl rfl (nle rfl) rfl) <|aA rfl (bQ (ds':=[.int _ _,.bool _,.int _ _,.int _ _,.int _ _,.int _ _,.int _ _,.int _ _,.slice false (([] : List bK).map bN.d),.str _]) rfl rfl ti50 (svR rfl) rfl (svA q10 rfl) rfl rfl rfl (nle rfl) rfl) <|aA rfl (aE rfl rfl (lb rfl) (sv (d:=.int _ 0) rfl)) <|aA rfl (aE rfl rfl (lb rfl) (sv (d:=.int _ 0) rfl)) <|aA rfl (aE rfl rfl (lb rfl) (sv (d:=.int _ 3) rfl)) <|aB ?_)
    refine aS ?_
    refine aZ ?_
    obtain rfl:=Option.some.inj h
    refine ⟨.inr rfl,(.cons (rva la50 rfl rfl (nle rfl) rfl) (.cons (sv rfl) (.cons (sv rfl) (.cons (sv rfl) .nil))))⟩
   ·
    replace h:=bU h hc7
    refine aU ?_
    refine aN ?_
    refine aV ?_
    obtain ⟨x8,hx8,h⟩:=aY h
    obtain ⟨x9,hx9,h⟩:=aR h
    refine aC (aA rfl (aK rfl rfl (lb rfl) (sv (d:=.str _) rfl)) <|aA rfl (mI rfl rfl (lb rfl) Tryz.underlying9 (sv (d:=.str _) rfl) (sv (d:=.int _ 1) rfl) hx8) <|aA rfl (aP rfl rfl (lb rfl) (svI rfl) (sv (d:=.int _ 1) rfl) rfl hx9) <|aB ?_)
    refine aT (b:=_) rfl (fun hc10=>?_) (fun hc10=>?_)
    ·
     replace h:=bT h hc10
     refine aC (aA rfl (lra q10 la50 rfl rfl rfl rfl rfl (nle rfl) rfl) <|aA rfl (bQ (ds':=[.int _ _,.bool _,.int _ _,.int _ _,.int _ _,.int _ _,.int _ _,.int _ _,.slice false (([] : List bK).map bN.d),.str _]) rfl rfl ti50 (svR rfl) rfl (svA q10 rfl) rfl rfl rfl (nle rfl) rfl) <|aA rfl (aE rfl rfl (lb rfl) (sv (d:=.int _ 0) rfl)) <|aA rfl (aE rfl rfl (lb rfl) (sv (d:=.int _ 0) rfl)) <|aA rfl (aE rfl rfl (lb rfl) (sv (d:=.int _ 4) rfl)) <|aB ?_)
     refine aS ?_
     refine aZ ?_
     obtain rfl:=Option.some.inj h
     refine ⟨.inr rfl,(.cons (rva la50 rfl rfl (nle rfl) rfl) (.cons (sv rfl) (.cons (sv rfl) (.cons (sv rfl) .nil))))⟩
    ·
     replace h:=bU h hc10
     refine aU ?_
     refine aN ?_
     obtain ⟨x11,hx11,h⟩:=aY h
     obtain ⟨x12,hx12,h⟩:=aY h
     refine aC (aA rfl (aK rfl rfl (lb rfl) (sv (d:=.str _) rfl)) <|aA rfl (hT rfl rfl (lb rfl) Tryz.underlying9 (sv (d:=.str _) rfl) ⟨_,(sv (d:=.int _ 2) rfl)⟩ rfl hx11) <|aA rfl (aW (r:=.tuple q20) rfl rfl (lb rfl) cl124 (.cons (sv (d:=.str _) rfl) .nil) rfl (qV _ _ hx12)) <|aA rfl (aK rfl rfl (lb rfl) (sv (d:=.tuple q20) rfl)) <|aA rfl (bE (d:=.int _ _) rfl rfl (lb rfl) (sv (d:=.tuple q20) rfl) rfl) <|aA rfl (bE (d:=.int _ _) rfl rfl (lb rfl) (sv (d:=.tuple q20) rfl) rfl) <|aA rfl (bE (d:=.int _ _) rfl rfl (lb rfl) (sv (d:=.tuple q20) rfl) rfl) <|aA rfl (asI rfl rfl rfl rfl) <|aA rfl (asI rfl rfl rfl rfl) <|aA rfl (asI rfl rfl rfl rfl) <|aB ?_)
     refine aV ?_
     refine bG ?_
     obtain ⟨x13,hx13,h⟩:=aR h
     refine aC (aA rfl (mvI rfl rfl rfl rfl) <|aA rfl (aP rfl rfl (lb rfl) (svI rfl) (sv (d:=.int _ 0) rfl) rfl hx13) <|aA rfl (asB rfl rfl rfl rfl) <|aB ?_)
     refine aT (b:=_) rfl (fun hc14=>?_) (fun hc14=>?_)
     ·
      replace h:=bT h hc14
      refine aC (aA rfl (lra q10 la50 rfl rfl rfl rfl rfl (nle rfl) rfl) <|aA rfl (mvI rfl rfl rfl rfl) <|aA rfl (bQ (ds':=[.int _ _,.bool _,.int _ _,.int _ _,.int _ _,.int _ _,.int _ _,.int _ _,.slice false (([] : List bK).map bN.d),.str _]) rfl rfl ti50 (svR rfl) rfl (svA q10 rfl) rfl rfl rfl (nle rfl) rfl) <|aA rfl (aE rfl rfl (lb rfl) (sv (d:=.int _ 0) rfl)) <|aA rfl (aE rfl rfl (lb rfl) (sv (d:=.int _ 0) rfl)) <|aA rfl (asI rfl rfl rfl rfl) <|aB ?_)
      refine aS ?_
      refine bP ?_
      refine aZ ?_
      obtain rfl:=Option.some.inj h
      refine ⟨.inr rfl,(.cons (rva la50 rfl rfl (nle rfl) rfl) (.cons (sv rfl) (.cons (sv rfl) (.cons (sv rfl) .nil))))⟩
     ·
      replace h:=bU h hc14
      obtain ⟨x15,hx15,h⟩:=aR h
      refine aC (aA rfl (mvI rfl rfl rfl rfl) <|aA rfl (aP rfl rfl (lb rfl) (svI rfl) (sv (d:=.int _ 64) rfl) rfl hx15) <|aA rfl (asB rfl rfl rfl rfl) <|aB ?_)
      refine aT (b:=_) rfl (fun hc16=>?_) (fun hc16=>?_)
      ·
       replace h:=bT h hc16
       refine aC (aA rfl (lra q10 la50 rfl rfl rfl rfl rfl (nle rfl) rfl) <|aA rfl (bQ (ds':=[.int _ _,.bool _,.int _ _,.int _ _,.int _ _,.int _ _,.int _ _,.int _ _,.slice false (([] : List bK).map bN.d),.str _]) rfl rfl ti50 (svR rfl) rfl (svA q10 rfl) rfl rfl rfl (nle rfl) rfl) <|aA rfl (aE rfl rfl (lb rfl) (sv (d:=.int _ 0) rfl)) <|aA rfl (aE rfl rfl (lb rfl) (sv (d:=.int _ 0) rfl)) <|aA rfl (aE rfl rfl (lb rfl) (sv (d:=.int _ 5) rfl)) <|aB ?_)
       refine aS ?_
       refine bP ?_
       refine aZ ?_
       obtain rfl:=Option.some.inj h
       refine ⟨.inr rfl,(.cons (rva la50 rfl rfl (nle rfl) rfl) (.cons (sv rfl) (.cons (sv rfl) (.cons (sv rfl) .nil))))⟩
      ·
       replace h:=bU h hc16
       obtain ⟨x17,hx17,h⟩:=aR h
       obtain ⟨x18,hx18,h⟩:=aR h
       obtain ⟨x19,hx19,h⟩:=aR h
       refine aC (aA rfl (mvI rfl rfl rfl rfl) <|aA rfl (aK rfl rfl (lb rfl) (sv (d:=.str _) rfl)) <|aA rfl (dB rfl rfl (lb rfl) Tryz.underlying9 (sv (d:=.str _) rfl) rfl) <|aA rfl (bL rfl rfl (lb rfl) (svI rfl) (sv (d:=.int _ 2) rfl) rfl hx17) <|aA rfl (mvI rfl rfl rfl rfl) <|aA rfl (bL rfl rfl (lb rfl) (svI rfl) (svI rfl) rfl hx18) <|aA rfl (aP rfl rfl (lb rfl) (svI rfl) (svI rfl) rfl hx19) <|aA rfl (asB rfl rfl rfl rfl) <|aB ?_)
       refine aT (b:=_) rfl (fun hc20=>?_) (fun hc20=>?_)
       ·
        replace h:=bT h hc20
        refine aC (aA rfl (lra q10 la50 rfl rfl rfl rfl rfl (nle rfl) rfl) <|aA rfl (bQ (ds':=[.int _ _,.bool _,.int _ _,.int _ _,.int _ _,.int _ _,.int _ _,.int _ _,.slice false (([] : List bK).map bN.d),.str _]) rfl rfl ti50 (svR rfl) rfl (svA q10 rfl) rfl rfl rfl (nle rfl) rfl) <|aA rfl (aE rfl rfl (lb rfl) (sv (d:=.int _ 0) rfl)) <|aA rfl (aE rfl rfl (lb rfl) (sv (d:=.int _ 0) rfl)) <|aA rfl (aE rfl rfl (lb rfl) (sv (d:=.int _ 3) rfl)) <|aB ?_)
        refine aS ?_
        refine bP ?_
        refine aZ ?_
        obtain rfl:=Option.some.inj h
        refine ⟨.inr rfl,(.cons (rva la50 rfl rfl (nle rfl) rfl) (.cons (sv rfl) (.cons (sv rfl) (.cons (sv rfl) .nil))))⟩
       ·
        replace h:=bU h hc20
        refine aU ?_
        refine bZ ?_
        refine aN ?_
        obtain ⟨x21,hx21,h⟩:=aY h
        obtain ⟨x22,hx22,h⟩:=aY h
        obtain ⟨x23,hx23,h⟩:=aR h
        refine dG rfl [⟨[0],[],[(51,.str a0)],[]⟩,
         ⟨[51],[],[(52,.int .u8 (x21.toNat : Int))],[]⟩,
         ⟨[0],[],[(53,.str a0)],[]⟩,
         ⟨[53],[],[(54,.int .u8 (x22.toNat : Int))],[]⟩,
         ⟨[54],[],[(55,.bool x23)],[]⟩,
         ⟨[6],[],[(56,.ref 1 0)],[]⟩,
         ⟨[52,56],[1],[],[(1,.blk 50 (w37 (x21.toNat : Int) false 0 0 0 0 0 0 ([] : List bK) []))]⟩,
         ⟨[6],[],[(57,.ref 1 1)],[]⟩,
         ⟨[55,57],[1],[],[(1,.blk 50 (w37 (x21.toNat : Int) x23 0 0 0 0 0 0 ([] : List bK) []))]⟩] rfl ?_ (by kernel_rfl) ?_
        ·refine .cons (lop rfl rfl fun S hA=>(aK rfl rfl (lb rfl) (sv (d:=.str _) (agr hA rfl rfl)))) ?_
         refine .cons (lop rfl rfl fun S hA=>(mI rfl rfl (lb rfl) Tryz.underlying9 (sv (d:=.str _) (agr hA rfl rfl)) (sv (d:=.int _ 0) rfl) hx21)) ?_
         refine .cons (lop rfl rfl fun S hA=>(aK rfl rfl (lb rfl) (sv (d:=.str _) (agr hA rfl rfl)))) ?_
         refine .cons (lop rfl rfl fun S hA=>(mI rfl rfl (lb rfl) Tryz.underlying9 (sv (d:=.str _) (agr hA rfl rfl)) (sv (d:=.int _ 1) rfl) hx22)) ?_
         refine .cons (lop rfl rfl fun S hA=>(aP rfl rfl (lb rfl) (svaI hA rfl rfl) (sv (d:=.int _ 1) rfl) rfl hx23)) ?_
         refine .cons (lop rfl rfl fun S hA=>(aO rfl rfl (lb rfl) Tryz.underlying50 rfl ti5 (by decide) (svaR hA rfl rfl) (off':=0) rfl)) ?_
         refine .cons (lop rfl rfl fun S hA=>(bQ (ds':=[.int _ _,.bool _,.int _ _,.int _ _,.int _ _,.int _ _,.int _ _,.int _ _,.slice false (([] : List bK).map bN.d),.str _]) rfl rfl ti5 (svaR hA rfl rfl) (agi hA rfl rfl) (svaI hA rfl rfl) rfl rfl rfl (nle rfl) rfl)) ?_
         refine .cons (lop rfl rfl fun S hA=>(aO rfl rfl (lb rfl) Tryz.underlying50 rfl ti4 (by decide) (svaR hA rfl rfl) (off':=1) rfl)) ?_
         refine .cons (lop rfl rfl fun S hA=>(bQ (ds':=[.int _ _,.bool _,.int _ _,.int _ _,.int _ _,.int _ _,.int _ _,.int _ _,.slice false (([] : List bK).map bN.d),.str _]) rfl rfl ti4 (svaR hA rfl rfl) (agi hA rfl rfl) (svaB hA rfl rfl) rfl rfl rfl (nle rfl) rfl)) ?_
         exact .nil
        obtain ⟨x24,hx24,h⟩:=aR h
        obtain ⟨x25,hx25,h⟩:=aR h
        obtain ⟨x26,hx26,h⟩:=aR h
        refine aC (aA rfl (lra q10 la50 rfl rfl rfl rfl rfl (nle rfl) rfl) <|aA rfl (mvI rfl rfl rfl rfl) <|aA rfl (bL rfl rfl (lb rfl) (sv (d:=.int _ 2) rfl) (svI rfl) rfl hx24) <|aA rfl (mvI rfl rfl rfl rfl) <|aA rfl (bL rfl rfl (lb rfl) (sv (d:=.int _ 2) rfl) (svI rfl) rfl hx25) <|aA rfl (mvI rfl rfl rfl rfl) <|aA rfl (bL rfl rfl (lb rfl) (svI rfl) (svI rfl) rfl hx26) <|aA rfl (bQ (ds':=[.int _ _,.bool _,.int _ _,.int _ _,.int _ _,.int _ _,.int _ _,.int _ _,.slice false (([] : List bK).map bN.d),.str _]) rfl rfl ti50 (svR rfl) rfl (svA q10 rfl) rfl rfl rfl (nle rfl) rfl) <|aA rfl (asI rfl rfl rfl rfl) <|aA rfl (asI rfl rfl rfl rfl) <|aA rfl (aE rfl rfl (lb rfl) (sv (d:=.int _ 0) rfl)) <|aB ?_)
        refine aS ?_
        obtain rfl:=Option.some.inj h
        refine ⟨.inr rfl,(.cons (rva la50 rfl rfl (nle rfl) rfl) (.cons (sv rfl) (.cons (sv rfl) (.cons (sv rfl) .nil))))⟩

theorem jL (a0 : aH) (r : (List Nat)) (h : eP a0 = some r) : FnH Tryz.prog 82 [.ref 1000 0] [(1000, .blk 50 (v1 a0))] (.osl 0 (eRef 1000).sz r.length) [(1000, .blk 50 (v1 a0)), (0, .blk 150 (D.flat (r.map (eRef 1000).d)))] := by
 refine eU (rs:=[.osl 0 (eRef 1000).sz r.length]) Tryz.func82 rfl Tryz.ntmps82 (nle rfl) fun O hO=>?_
 show IWP _ _ _ _ ⟨[(0,.ref 1000 0)],[(1000,.blk 50 (v1 a0))]⟩ _
 unfold eP at h
 refine aC (aA rfl (aE rfl rfl (lb rfl) (sv (d:=.nils) rfl)) <|aB ?_)
 refine aC (aA rfl (aE rfl rfl (lb rfl) (sv (d:=.nils) rfl)) <|aB ?_)
 refine aV ?_
 refine aC (aA rfl (mvR rfl rfl rfl rfl) <|aA rfl (bM rfl rfl (lb rfl) (svR rfl)) <|aA rfl (faR 0 rfl rfl rfl Tryz.underlying50 rfl ti5 (lb rfl) rfl rfl) <|aA rfl (aG (d:=.int _ _) rfl rfl (lb rfl) Tryz.underlying5 ag5 ti5 (by decide) (svR rfl) rfl (nle rfl) rfl) <|aB ?_)
 refine bG ?_
 refine aV ?_
 refine bG ?_
 refine gK (α:=(List Nat)) (fun z=>⟨[(0,.ref 1000 0),(3,.osl 1 (eRef 1000).sz z.length)],[(1000,.blk 50 (v1 a0)),(1,.blk 150 (D.flat (z.map (eRef 1000).d)))]⟩) (fun z=>fE z = some r) ?_ ?_
 ·
  refine bG ?_
  refine aV ?_
  refine bG ?_
  refine aV ?_
  refine bG ?_
  refine aV ?_
  refine bG ?_
  refine aV ?_
  refine bG ?_
  refine aV ?_
  refine bG ?_
  refine aV ?_
  refine aV ?_
  refine aV ?_
  obtain ⟨x28,hx28,h⟩:=aR h
  refine aC (aA rfl (aP rfl rfl (lb rfl) (svI rfl) (sv (d:=.int _ 0) rfl) rfl hx28) <|aA rfl (asB rfl rfl rfl rfl) <|aB ?_)
  refine aT (b:=_) rfl (fun hc29=>?_) (fun hc29=>?_)
  ·
   replace h:=bT h hc29
   refine aU ?_
   refine aN ?_
   refine fK rfl hc29 ?_
   refine cN ?_
   refine bI ?_
   refine bI ?_
   refine cO ?_
   refine aN ?_
   obtain ⟨x30,hx30,h⟩:=aY h
   refine dG rfl [⟨[3],[],[(24,.nils)],[]⟩,
    ⟨[0],[],[(25,.ref 1000 0)],[]⟩,
    ⟨[25],[],[(26,.ref 1000 0)],[]⟩,
    ⟨[26],[],[(27,.ref 1000 2)],[]⟩,
    ⟨[0],[],[(28,.ref 1000 0)],[]⟩,
    ⟨[28],[],[(29,.ref 1000 0)],[]⟩,
    ⟨[29],[],[(30,.ref 1000 3)],[]⟩,
    ⟨[27,30],[0],[(31,.osl 0 (eRef 1000).sz (([2,3] : (List Nat)).length))],[(0,.blk 150 (D.flat (([2,3] : (List Nat)).map (eRef 1000).d)))]⟩,
    ⟨[24,31],[0,1],[(32,.osl 1 (eRef 1000).sz x30.length)],[(1,.blk 150 (D.flat (x30.map (eRef 1000).d)))]⟩,
    ⟨[32],[],[(3,.osl 1 (eRef 1000).sz x30.length)],[]⟩] rfl ?_ (by kernel_rfl) ?_
   ·refine .cons (lop rfl rfl fun S hA=>(aK rfl rfl (lb rfl) (sv (d:=.nils) (agr hA rfl rfl)))) ?_
    refine .cons (lop rfl rfl fun S hA=>(aK rfl rfl (lb rfl) (svaR hA rfl rfl))) ?_
    refine .cons (lop rfl rfl fun S hA=>(bM rfl rfl (lb rfl) (svaR hA rfl rfl))) ?_
    refine .cons (lop rfl rfl fun S hA=>(aO rfl rfl (lb rfl) Tryz.underlying50 rfl ti3 (by decide) (svaR hA rfl rfl) (off':=2) rfl)) ?_
    refine .cons (lop rfl rfl fun S hA=>(aK rfl rfl (lb rfl) (svaR hA rfl rfl))) ?_
    refine .cons (lop rfl rfl fun S hA=>(bM rfl rfl (lb rfl) (svaR hA rfl rfl))) ?_
    refine .cons (lop rfl rfl fun S hA=>(aO rfl rfl (lb rfl) Tryz.underlying50 rfl ti3 (by decide) (svaR hA rfl rfl) (off':=3) rfl)) ?_
    refine .cons (lop rfl rfl fun S hA=>(jP (eRef 1000) ([2,3] : (List Nat)) 0 rfl rfl (lb rfl) Tryz.underlying148 nF (agi hA rfl rfl) (.cons (svaR hA rfl rfl) (.cons (svaR hA rfl rfl) .nil)) rfl rfl (by decide))) ?_
    refine .cons (lop rfl rfl fun S hA=>(lU (eRef 1000) 1 rfl rfl (lb rfl) Tryz.underlying148 nF rfl (agr hA rfl rfl) (agi hA rfl rfl) (qK (eRef 1000) (agr hA rfl rfl) rfl (agi hA rfl rfl)) hx30)) ?_
    refine .cons (lop rfl rfl fun S hA=>(aE rfl rfl (lb rfl) (sv (d:=.osl _ _ _) (agr hA rfl rfl)))) ?_
    exact .nil
   refine cN ?_
   refine cK rfl ?_
   refine bI ?_
   refine cK rfl ?_
   refine bI ?_
   refine cK rfl ?_
   refine bI ?_
   refine cK rfl ?_
   refine bI ?_
   refine cK rfl ?_
   refine bI ?_
   refine cK rfl ?_
   refine bI ?_
   refine cO ?_
   refine aN ?_
   refine aC (aA rfl (aK rfl rfl (lb rfl) (sv (d:=.osl _ _ _) rfl)) <|aA rfl (aE rfl rfl (lb rfl) (sv (d:=.osl _ _ _) rfl)) <|aB ?_)
   refine aS ?_
   obtain rfl:=Option.some.inj h
   refine ⟨.inr rfl,(fun i=>if i = 0 then 1 else i),⟨.nil,(.cons (.blk rfl rfl rfl) (.cons (EntW.lstR rfl rfl) .nil)),bX [1000,1] rfl (by decide),(fun i hi=>by first | rfl | (show (if _ then _ else _) = _; (repeat' split) <;> omega))⟩,(.cons (sv rfl) .nil),rfl⟩
  ·
   replace h:=bU h hc29
   obtain ⟨x31,hx31,h⟩:=aR h
   refine bD (aA rfl (aP rfl rfl (lb rfl) (svI rfl) (sv (d:=.int _ 9) rfl) rfl hx31) <|aA rfl (asB rfl rfl rfl rfl) <|bW ?_)
   refine aN ?_
   refine aT (b:=_) rfl (fun hc32=>?_) (fun hc32=>?_)
   ·
    replace h:=bT h hc32
    refine cN ?_
    refine bI ?_
    refine bI ?_
    refine cO ?_
    refine aN ?_
    obtain ⟨x33,hx33,h⟩:=aY h
    refine dG rfl [⟨[3],[],[(24,.nils)],[]⟩,
     ⟨[0],[],[(25,.ref 1000 0)],[]⟩,
     ⟨[25],[],[(26,.ref 1000 0)],[]⟩,
     ⟨[26],[],[(27,.ref 1000 2)],[]⟩,
     ⟨[0],[],[(28,.ref 1000 0)],[]⟩,
     ⟨[28],[],[(29,.ref 1000 0)],[]⟩,
     ⟨[29],[],[(30,.ref 1000 3)],[]⟩,
     ⟨[27,30],[0],[(31,.osl 0 (eRef 1000).sz (([2,3] : (List Nat)).length))],[(0,.blk 150 (D.flat (([2,3] : (List Nat)).map (eRef 1000).d)))]⟩,
     ⟨[24,31],[0,1],[(32,.osl 1 (eRef 1000).sz x33.length)],[(1,.blk 150 (D.flat (x33.map (eRef 1000).d)))]⟩,
     ⟨[32],[],[(3,.osl 1 (eRef 1000).sz x33.length)],[]⟩] rfl ?_ (by kernel_rfl) ?_
    ·refine .cons (lop rfl rfl fun S hA=>(aK rfl rfl (lb rfl) (sv (d:=.nils) (agr hA rfl rfl)))) ?_
     refine .cons (lop rfl rfl fun S hA=>(aK rfl rfl (lb rfl) (svaR hA rfl rfl))) ?_
     refine .cons (lop rfl rfl fun S hA=>(bM rfl rfl (lb rfl) (svaR hA rfl rfl))) ?_
     refine .cons (lop rfl rfl fun S hA=>(aO rfl rfl (lb rfl) Tryz.underlying50 rfl ti3 (by decide) (svaR hA rfl rfl) (off':=2) rfl)) ?_
     refine .cons (lop rfl rfl fun S hA=>(aK rfl rfl (lb rfl) (svaR hA rfl rfl))) ?_
     refine .cons (lop rfl rfl fun S hA=>(bM rfl rfl (lb rfl) (svaR hA rfl rfl))) ?_
     refine .cons (lop rfl rfl fun S hA=>(aO rfl rfl (lb rfl) Tryz.underlying50 rfl ti3 (by decide) (svaR hA rfl rfl) (off':=3) rfl)) ?_
     refine .cons (lop rfl rfl fun S hA=>(jP (eRef 1000) ([2,3] : (List Nat)) 0 rfl rfl (lb rfl) Tryz.underlying148 nF (agi hA rfl rfl) (.cons (svaR hA rfl rfl) (.cons (svaR hA rfl rfl) .nil)) rfl rfl (by decide))) ?_
     refine .cons (lop rfl rfl fun S hA=>(lU (eRef 1000) 1 rfl rfl (lb rfl) Tryz.underlying148 nF rfl (agr hA rfl rfl) (agi hA rfl rfl) (qK (eRef 1000) (agr hA rfl rfl) rfl (agi hA rfl rfl)) hx33)) ?_
     refine .cons (lop rfl rfl fun S hA=>(aE rfl rfl (lb rfl) (sv (d:=.osl _ _ _) (agr hA rfl rfl)))) ?_
     exact .nil
    refine cN ?_
    refine cK rfl ?_
    refine bI ?_
    refine cK rfl ?_
    refine bI ?_
    refine cK rfl ?_
    refine bI ?_
    refine cK rfl ?_
    refine bI ?_
    refine cK rfl ?_
    refine bI ?_
    refine cK rfl ?_
    refine bI ?_
    refine cO ?_
    refine aN ?_
    refine aC (aA rfl (aK rfl rfl (lb rfl) (sv (d:=.osl _ _ _) rfl)) <|aA rfl (aE rfl rfl (lb rfl) (sv (d:=.osl _ _ _) rfl)) <|aB ?_)
    refine aS ?_
    obtain rfl:=Option.some.inj h
    refine ⟨.inr rfl,(fun i=>if i = 0 then 1 else i),⟨.nil,(.cons (.blk rfl rfl rfl) (.cons (EntW.lstR rfl rfl) .nil)),bX [1000,1] rfl (by decide),(fun i hi=>by first | rfl | (show (if _ then _ else _) = _; (repeat' split) <;> omega))⟩,(.cons (sv rfl) .nil),rfl⟩
   ·
    replace h:=bU h hc32
    refine aU ?_
    refine aN ?_
    refine aV ?_
    refine aV ?_
    obtain ⟨x34,hx34,h⟩:=aR h
    refine aC (aA rfl (aP rfl rfl (lb rfl) (svI rfl) (sv (d:=.int _ 1) rfl) rfl hx34) <|aA rfl (asB rfl rfl rfl rfl) <|aB ?_)
    refine aT (b:=_) rfl (fun hc35=>?_) (fun hc35=>?_)
    ·
     replace h:=bT h hc35
     refine aU ?_
     refine aN ?_
     refine fK rfl hc35 ?_
     refine cN ?_
     refine bI ?_
     refine bI ?_
     refine cK rfl ?_
     refine bI ?_
     refine cO ?_
     refine aN ?_
     obtain ⟨x36,hx36,h⟩:=aY h
     refine dG rfl [⟨[3],[],[(33,.nils)],[]⟩,
      ⟨[0],[],[(34,.ref 1000 0)],[]⟩,
      ⟨[34],[],[(35,.ref 1000 0)],[]⟩,
      ⟨[35],[],[(36,.ref 1000 2)],[]⟩,
      ⟨[0],[],[(37,.ref 1000 0)],[]⟩,
      ⟨[37],[],[(38,.ref 1000 0)],[]⟩,
      ⟨[38],[],[(39,.ref 1000 4)],[]⟩,
      ⟨[0],[],[(40,.ref 1000 0)],[]⟩,
      ⟨[40],[],[(41,.ref 1000 0)],[]⟩,
      ⟨[41],[],[(42,.ref 1000 5)],[]⟩,
      ⟨[36,39,42],[0],[(43,.osl 0 (eRef 1000).sz (([2,4,5] : (List Nat)).length))],[(0,.blk 150 (D.flat (([2,4,5] : (List Nat)).map (eRef 1000).d)))]⟩,
      ⟨[33,43],[0,1],[(44,.osl 1 (eRef 1000).sz x36.length)],[(1,.blk 150 (D.flat (x36.map (eRef 1000).d)))]⟩,
      ⟨[44],[],[(3,.osl 1 (eRef 1000).sz x36.length)],[]⟩] rfl ?_ (by kernel_rfl) ?_
     ·refine .cons (lop rfl rfl fun S hA=>(aK rfl rfl (lb rfl) (sv (d:=.nils) (agr hA rfl rfl)))) ?_
      refine .cons (lop rfl rfl fun S hA=>(aK rfl rfl (lb rfl) (svaR hA rfl rfl))) ?_
      refine .cons (lop rfl rfl fun S hA=>(bM rfl rfl (lb rfl) (svaR hA rfl rfl))) ?_
      refine .cons (lop rfl rfl fun S hA=>(aO rfl rfl (lb rfl) Tryz.underlying50 rfl ti3 (by decide) (svaR hA rfl rfl) (off':=2) rfl)) ?_
      refine .cons (lop rfl rfl fun S hA=>(aK rfl rfl (lb rfl) (svaR hA rfl rfl))) ?_
      refine .cons (lop rfl rfl fun S hA=>(bM rfl rfl (lb rfl) (svaR hA rfl rfl))) ?_
      refine .cons (lop rfl rfl fun S hA=>(aO rfl rfl (lb rfl) Tryz.underlying50 rfl ti3 (by decide) (svaR hA rfl rfl) (off':=4) rfl)) ?_
      refine .cons (lop rfl rfl fun S hA=>(aK rfl rfl (lb rfl) (svaR hA rfl rfl))) ?_
      refine .cons (lop rfl rfl fun S hA=>(bM rfl rfl (lb rfl) (svaR hA rfl rfl))) ?_
      refine .cons (lop rfl rfl fun S hA=>(aO rfl rfl (lb rfl) Tryz.underlying50 rfl ti3 (by decide) (svaR hA rfl rfl) (off':=5) rfl)) ?_
      refine .cons (lop rfl rfl fun S hA=>(jP (eRef 1000) ([2,4,5] : (List Nat)) 0 rfl rfl (lb rfl) Tryz.underlying148 nF (agi hA rfl rfl) (.cons (svaR hA rfl rfl) (.cons (svaR hA rfl rfl) (.cons (svaR hA rfl rfl) .nil))) rfl rfl (by decide))) ?_
      refine .cons (lop rfl rfl fun S hA=>(lU (eRef 1000) 1 rfl rfl (lb rfl) Tryz.underlying148 nF rfl (agr hA rfl rfl) (agi hA rfl rfl) (qK (eRef 1000) (agr hA rfl rfl) rfl (agi hA rfl rfl)) hx36)) ?_
      refine .cons (lop rfl rfl fun S hA=>(aE rfl rfl (lb rfl) (sv (d:=.osl _ _ _) (agr hA rfl rfl)))) ?_
      exact .nil
     refine cN ?_
     refine cK rfl ?_
     refine bI ?_
     refine cK rfl ?_
     refine bI ?_
     refine cK rfl ?_
     refine bI ?_
     refine cK rfl ?_
     refine bI ?_
     refine cK rfl ?_
     refine bI ?_
     refine cO ?_
     refine aN ?_
     refine aC (aA rfl (aK rfl rfl (lb rfl) (sv (d:=.osl _ _ _) rfl)) <|aA rfl (aE rfl rfl (lb rfl) (sv (d:=.osl _ _ _) rfl)) <|aB ?_)
     refine aS ?_
     obtain rfl:=Option.some.inj h
     refine ⟨.inr rfl,(fun i=>if i = 0 then 1 else i),⟨.nil,(.cons (.blk rfl rfl rfl) (.cons (EntW.lstR rfl rfl) .nil)),bX [1000,1] rfl (by decide),(fun i hi=>by first | rfl | (show (if _ then _ else _) = _; (repeat' split) <;> omega))⟩,(.cons (sv rfl) .nil),rfl⟩
    ·
     replace h:=bU h hc35
     obtain ⟨x37,hx37,h⟩:=aR h
     refine bD (aA rfl (aP rfl rfl (lb rfl) (svI rfl) (sv (d:=.int _ 2) rfl) rfl hx37) <|aA rfl (asB rfl rfl rfl rfl) <|bW ?_)
     refine aN ?_
     refine aT (b:=_) rfl (fun hc38=>?_) (fun hc38=>?_)
     ·
      replace h:=bT h hc38
      refine cN ?_
      refine bI ?_
      refine bI ?_
      refine cK rfl ?_
      refine bI ?_
      refine cO ?_
      refine aN ?_
      obtain ⟨x39,hx39,h⟩:=aY h
      refine dG rfl [⟨[3],[],[(33,.nils)],[]⟩,
       ⟨[0],[],[(34,.ref 1000 0)],[]⟩,
       ⟨[34],[],[(35,.ref 1000 0)],[]⟩,
       ⟨[35],[],[(36,.ref 1000 2)],[]⟩,
       ⟨[0],[],[(37,.ref 1000 0)],[]⟩,
       ⟨[37],[],[(38,.ref 1000 0)],[]⟩,
       ⟨[38],[],[(39,.ref 1000 4)],[]⟩,
       ⟨[0],[],[(40,.ref 1000 0)],[]⟩,
       ⟨[40],[],[(41,.ref 1000 0)],[]⟩,
       ⟨[41],[],[(42,.ref 1000 5)],[]⟩,
       ⟨[36,39,42],[0],[(43,.osl 0 (eRef 1000).sz (([2,4,5] : (List Nat)).length))],[(0,.blk 150 (D.flat (([2,4,5] : (List Nat)).map (eRef 1000).d)))]⟩,
       ⟨[33,43],[0,1],[(44,.osl 1 (eRef 1000).sz x39.length)],[(1,.blk 150 (D.flat (x39.map (eRef 1000).d)))]⟩,
       ⟨[44],[],[(3,.osl 1 (eRef 1000).sz x39.length)],[]⟩] rfl ?_ (by kernel_rfl) ?_
      ·refine .cons (lop rfl rfl fun S hA=>(aK rfl rfl (lb rfl) (sv (d:=.nils) (agr hA rfl rfl)))) ?_
       refine .cons (lop rfl rfl fun S hA=>(aK rfl rfl (lb rfl) (svaR hA rfl rfl))) ?_
       refine .cons (lop rfl rfl fun S hA=>(bM rfl rfl (lb rfl) (svaR hA rfl rfl))) ?_
       refine .cons (lop rfl rfl fun S hA=>(aO rfl rfl (lb rfl) Tryz.underlying50 rfl ti3 (by decide) (svaR hA rfl rfl) (off':=2) rfl)) ?_
       refine .cons (lop rfl rfl fun S hA=>(aK rfl rfl (lb rfl) (svaR hA rfl rfl))) ?_
       refine .cons (lop rfl rfl fun S hA=>(bM rfl rfl (lb rfl) (svaR hA rfl rfl))) ?_
       refine .cons (lop rfl rfl fun S hA=>(aO rfl rfl (lb rfl) Tryz.underlying50 rfl ti3 (by decide) (svaR hA rfl rfl) (off':=4) rfl)) ?_
       refine .cons (lop rfl rfl fun S hA=>(aK rfl rfl (lb rfl) (svaR hA rfl rfl))) ?_
       refine .cons (lop rfl rfl fun S hA=>(bM rfl rfl (lb rfl) (svaR hA rfl rfl))) ?_
       refine .cons (lop rfl rfl fun S hA=>(aO rfl rfl (lb rfl) Tryz.underlying50 rfl ti3 (by decide) (svaR hA rfl rfl) (off':=5) rfl)) ?_
       refine .cons (lop rfl rfl fun S hA=>(jP (eRef 1000) ([2,4,5] : (List Nat)) 0 rfl rfl (lb rfl) Tryz.underlying148 nF (agi hA rfl rfl) (.cons (svaR hA rfl rfl) (.cons (svaR hA rfl rfl) (.cons (svaR hA rfl rfl) .nil))) rfl rfl (by decide))) ?_
       refine .cons (lop rfl rfl fun S hA=>(lU (eRef 1000) 1 rfl rfl (lb rfl) Tryz.underlying148 nF rfl (agr hA rfl rfl) (agi hA rfl rfl) (qK (eRef 1000) (agr hA rfl rfl) rfl (agi hA rfl rfl)) hx39)) ?_
       refine .cons (lop rfl rfl fun S hA=>(aE rfl rfl (lb rfl) (sv (d:=.osl _ _ _) (agr hA rfl rfl)))) ?_
       exact .nil
      refine cN ?_
      refine cK rfl ?_
      refine bI ?_
      refine cK rfl ?_
      refine bI ?_
      refine cK rfl ?_
      refine bI ?_
      refine cK rfl ?_
      refine bI ?_
      refine cK rfl ?_
      refine bI ?_
      refine cO ?_
      refine aN ?_
      refine aC (aA rfl (aK rfl rfl (lb rfl) (sv (d:=.osl _ _ _) rfl)) <|aA rfl (aE rfl rfl (lb rfl) (sv (d:=.osl _ _ _) rfl)) <|aB ?_)
      refine aS ?_
      obtain rfl:=Option.some.inj h
      refine ⟨.inr rfl,(fun i=>if i = 0 then 1 else i),⟨.nil,(.cons (.blk rfl rfl rfl) (.cons (EntW.lstR rfl rfl) .nil)),bX [1000,1] rfl (by decide),(fun i hi=>by first | rfl | (show (if _ then _ else _) = _; (repeat' split) <;> omega))⟩,(.cons (sv rfl) .nil),rfl⟩
     ·
      replace h:=bU h hc38
      refine aU ?_
      refine aN ?_
      refine aV ?_
      obtain ⟨x40,hx40,h⟩:=aR h
      refine aC (aA rfl (aP rfl rfl (lb rfl) (svI rfl) (sv (d:=.int _ 3) rfl) rfl hx40) <|aA rfl (asB rfl rfl rfl rfl) <|aB ?_)
      refine aT (b:=_) rfl (fun hc41=>?_) (fun hc41=>?_)
      ·
       replace h:=bT h hc41
       refine cN ?_
       refine bI ?_
       refine bI ?_
       refine cK rfl ?_
       refine bI ?_
       refine cK rfl ?_
       refine bI ?_
       refine cO ?_
       refine aN ?_
       obtain ⟨x42,hx42,h⟩:=aY h
       refine dG rfl [⟨[3],[],[(45,.nils)],[]⟩,
        ⟨[0],[],[(46,.ref 1000 0)],[]⟩,
        ⟨[46],[],[(47,.ref 1000 0)],[]⟩,
        ⟨[47],[],[(48,.ref 1000 2)],[]⟩,
        ⟨[0],[],[(49,.ref 1000 0)],[]⟩,
        ⟨[49],[],[(50,.ref 1000 0)],[]⟩,
        ⟨[50],[],[(51,.ref 1000 6)],[]⟩,
        ⟨[0],[],[(52,.ref 1000 0)],[]⟩,
        ⟨[52],[],[(53,.ref 1000 0)],[]⟩,
        ⟨[53],[],[(54,.ref 1000 7)],[]⟩,
        ⟨[48,51,54],[0],[(55,.osl 0 (eRef 1000).sz (([2,6,7] : (List Nat)).length))],[(0,.blk 150 (D.flat (([2,6,7] : (List Nat)).map (eRef 1000).d)))]⟩,
        ⟨[45,55],[0,1],[(56,.osl 1 (eRef 1000).sz x42.length)],[(1,.blk 150 (D.flat (x42.map (eRef 1000).d)))]⟩,
        ⟨[56],[],[(3,.osl 1 (eRef 1000).sz x42.length)],[]⟩] rfl ?_ (by kernel_rfl) ?_
       ·refine .cons (lop rfl rfl fun S hA=>(aK rfl rfl (lb rfl) (sv (d:=.nils) (agr hA rfl rfl)))) ?_
        refine .cons (lop rfl rfl fun S hA=>(aK rfl rfl (lb rfl) (svaR hA rfl rfl))) ?_
        refine .cons (lop rfl rfl fun S hA=>(bM rfl rfl (lb rfl) (svaR hA rfl rfl))) ?_
        refine .cons (lop rfl rfl fun S hA=>(aO rfl rfl (lb rfl) Tryz.underlying50 rfl ti3 (by decide) (svaR hA rfl rfl) (off':=2) rfl)) ?_
        refine .cons (lop rfl rfl fun S hA=>(aK rfl rfl (lb rfl) (svaR hA rfl rfl))) ?_
        refine .cons (lop rfl rfl fun S hA=>(bM rfl rfl (lb rfl) (svaR hA rfl rfl))) ?_
        refine .cons (lop rfl rfl fun S hA=>(aO rfl rfl (lb rfl) Tryz.underlying50 rfl ti3 (by decide) (svaR hA rfl rfl) (off':=6) rfl)) ?_
        refine .cons (lop rfl rfl fun S hA=>(aK rfl rfl (lb rfl) (svaR hA rfl rfl))) ?_
        refine .cons (lop rfl rfl fun S hA=>(bM rfl rfl (lb rfl) (svaR hA rfl rfl))) ?_
        refine .cons (lop rfl rfl fun S hA=>(aO rfl rfl (lb rfl) Tryz.underlying50 rfl ti3 (by decide) (svaR hA rfl rfl) (off':=7) rfl)) ?_
        refine .cons (lop rfl rfl fun S hA=>(jP (eRef 1000) ([2,6,7] : (List Nat)) 0 rfl rfl (lb rfl) Tryz.underlying148 nF (agi hA rfl rfl) (.cons (svaR hA rfl rfl) (.cons (svaR hA rfl rfl) (.cons (svaR hA rfl rfl) .nil))) rfl rfl (by decide))) ?_
        refine .cons (lop rfl rfl fun S hA=>(lU (eRef 1000) 1 rfl rfl (lb rfl) Tryz.underlying148 nF rfl (agr hA rfl rfl) (agi hA rfl rfl) (qK (eRef 1000) (agr hA rfl rfl) rfl (agi hA rfl rfl)) hx42)) ?_
        refine .cons (lop rfl rfl fun S hA=>(aE rfl rfl (lb rfl) (sv (d:=.osl _ _ _) (agr hA rfl rfl)))) ?_
        exact .nil
       refine cN ?_
       refine cK rfl ?_
       refine bI ?_
       refine cK rfl ?_
       refine bI ?_
       refine cK rfl ?_
       refine bI ?_
       refine cK rfl ?_
       refine bI ?_
       refine cO ?_
       refine aN ?_
       refine aC (aA rfl (aK rfl rfl (lb rfl) (sv (d:=.osl _ _ _) rfl)) <|aA rfl (aE rfl rfl (lb rfl) (sv (d:=.osl _ _ _) rfl)) <|aB ?_)
       refine aS ?_
       obtain rfl:=Option.some.inj h
       refine ⟨.inr rfl,(fun i=>if i = 0 then 1 else i),⟨.nil,(.cons (.blk rfl rfl rfl) (.cons (EntW.lstR rfl rfl) .nil)),bX [1000,1] rfl (by decide),(fun i hi=>by first | rfl | (show (if _ then _ else _) = _; (repeat' split) <;> omega))⟩,(.cons (sv rfl) .nil),rfl⟩
      ·
       replace h:=bU h hc41
       refine aU ?_
       refine aN ?_
       refine aV ?_
       obtain ⟨x43,hx43,h⟩:=aR h
       refine aC (aA rfl (aP rfl rfl (lb rfl) (svI rfl) (sv (d:=.int _ 7) rfl) rfl hx43) <|aA rfl (asB rfl rfl rfl rfl) <|aB ?_)
       refine aT (b:=_) rfl (fun hc44=>?_) (fun hc44=>?_)
       ·
        replace h:=bT h hc44
        refine cN ?_
        refine bI ?_
        refine bI ?_
        refine cK rfl ?_
        refine bI ?_
        refine cK rfl ?_
        refine bI ?_
        refine cK rfl ?_
        refine bI ?_
        refine cO ?_
        refine aN ?_
        obtain ⟨x45,hx45,h⟩:=aY h
        refine dG rfl [⟨[3],[],[(57,.nils)],[]⟩,
         ⟨[0],[],[(58,.ref 1000 0)],[]⟩,
         ⟨[58],[],[(59,.ref 1000 0)],[]⟩,
         ⟨[59],[],[(60,.ref 1000 2)],[]⟩,
         ⟨[0],[],[(61,.ref 1000 0)],[]⟩,
         ⟨[61],[],[(62,.ref 1000 0)],[]⟩,
         ⟨[62],[],[(63,.ref 1000 7)],[]⟩,
         ⟨[60,63],[0],[(64,.osl 0 (eRef 1000).sz (([2,7] : (List Nat)).length))],[(0,.blk 150 (D.flat (([2,7] : (List Nat)).map (eRef 1000).d)))]⟩,
         ⟨[57,64],[0,1],[(65,.osl 1 (eRef 1000).sz x45.length)],[(1,.blk 150 (D.flat (x45.map (eRef 1000).d)))]⟩,
         ⟨[65],[],[(3,.osl 1 (eRef 1000).sz x45.length)],[]⟩] rfl ?_ (by kernel_rfl) ?_
        ·refine .cons (lop rfl rfl fun S hA=>(aK rfl rfl (lb rfl) (sv (d:=.nils) (agr hA rfl rfl)))) ?_
         refine .cons (lop rfl rfl fun S hA=>(aK rfl rfl (lb rfl) (svaR hA rfl rfl))) ?_
         refine .cons (lop rfl rfl fun S hA=>(bM rfl rfl (lb rfl) (svaR hA rfl rfl))) ?_
         refine .cons (lop rfl rfl fun S hA=>(aO rfl rfl (lb rfl) Tryz.underlying50 rfl ti3 (by decide) (svaR hA rfl rfl) (off':=2) rfl)) ?_
         refine .cons (lop rfl rfl fun S hA=>(aK rfl rfl (lb rfl) (svaR hA rfl rfl))) ?_
         refine .cons (lop rfl rfl fun S hA=>(bM rfl rfl (lb rfl) (svaR hA rfl rfl))) ?_
         refine .cons (lop rfl rfl fun S hA=>(aO rfl rfl (lb rfl) Tryz.underlying50 rfl ti3 (by decide) (svaR hA rfl rfl) (off':=7) rfl)) ?_
         refine .cons (lop rfl rfl fun S hA=>(jP (eRef 1000) ([2,7] : (List Nat)) 0 rfl rfl (lb rfl) Tryz.underlying148 nF (agi hA rfl rfl) (.cons (svaR hA rfl rfl) (.cons (svaR hA rfl rfl) .nil)) rfl rfl (by decide))) ?_
         refine .cons (lop rfl rfl fun S hA=>(lU (eRef 1000) 1 rfl rfl (lb rfl) Tryz.underlying148 nF rfl (agr hA rfl rfl) (agi hA rfl rfl) (qK (eRef 1000) (agr hA rfl rfl) rfl (agi hA rfl rfl)) hx45)) ?_
         refine .cons (lop rfl rfl fun S hA=>(aE rfl rfl (lb rfl) (sv (d:=.osl _ _ _) (agr hA rfl rfl)))) ?_
         exact .nil
        refine cN ?_
        refine cK rfl ?_
        refine bI ?_
        refine cK rfl ?_
        refine bI ?_
        refine cK rfl ?_
        refine bI ?_
        refine cO ?_
        refine aN ?_
        refine aC (aA rfl (aK rfl rfl (lb rfl) (sv (d:=.osl _ _ _) rfl)) <|aA rfl (aE rfl rfl (lb rfl) (sv (d:=.osl _ _ _) rfl)) <|aB ?_)
        refine aS ?_
        obtain rfl:=Option.some.inj h
        refine ⟨.inr rfl,(fun i=>if i = 0 then 1 else i),⟨.nil,(.cons (.blk rfl rfl rfl) (.cons (EntW.lstR rfl rfl) .nil)),bX [1000,1] rfl (by decide),(fun i hi=>by first | rfl | (show (if _ then _ else _) = _; (repeat' split) <;> omega))⟩,(.cons (sv rfl) .nil),rfl⟩
       ·
        replace h:=bU h hc44
        refine aU ?_
        refine aN ?_
        refine aV ?_
        obtain ⟨x46,hx46,h⟩:=aR h
        refine aC (aA rfl (aP rfl rfl (lb rfl) (svI rfl) (sv (d:=.int _ 8) rfl) rfl hx46) <|aA rfl (asB rfl rfl rfl rfl) <|aB ?_)
        refine aT (b:=_) rfl (fun hc47=>?_) (fun hc47=>?_)
        ·
         replace h:=bT h hc47
         refine cN ?_
         refine bI ?_
         refine bI ?_
         refine cK rfl ?_
         refine bI ?_
         refine cK rfl ?_
         refine bI ?_
         refine cK rfl ?_
         refine bI ?_
         refine cK rfl ?_
         refine bI ?_
         refine cO ?_
         refine aN ?_
         obtain ⟨x48,hx48,h⟩:=aY h
         refine bD (aA rfl (aK rfl rfl (lb rfl) (sv (d:=.nils) rfl)) <|aA rfl (mvR rfl rfl rfl rfl) <|aA rfl (bM rfl rfl (lb rfl) (svR rfl)) <|aA rfl (faR 2 rfl rfl rfl Tryz.underlying50 rfl ti3 (lb rfl) rfl rfl) <|aA rfl (jP (eRef 1000) ([2] : (List Nat)) 0 rfl rfl (lb rfl) Tryz.underlying148 nF rfl (.cons (svR rfl) .nil) rfl rfl (by decide)) <|aA rfl (lU (eRef 1000) 1 rfl rfl (lb rfl) Tryz.underlying148 nF rfl rfl rfl (qK (eRef 1000) rfl rfl rfl) hx48) <|aA rfl (aE rfl rfl (lb rfl) (sv (d:=.osl _ _ _) rfl)) <|bW ?_)
         refine bZ ?_
         refine aN ⟨x48,(fun i=>i),⟨(.sames rfl rfl),(.cons (.blk rfl rfl rfl) (.cons (EntW.lstR rfl rfl) .nil)),bX [1000,1] rfl (by decide),fun _ _=>rfl⟩,?_⟩
         exact h
        ·
         replace h:=bU h hc47
         refine aU ?_
         refine aN ?_
         refine aV ?_
         obtain ⟨x49,hx49,h⟩:=aR h
         refine aC (aA rfl (aP rfl rfl (lb rfl) (svI rfl) (sv (d:=.int _ 6) rfl) rfl hx49) <|aA rfl (asB rfl rfl rfl rfl) <|aB ?_)
         refine aT (b:=_) rfl (fun hc50=>?_) (fun hc50=>?_)
         ·
          replace h:=bT h hc50
          refine cN ?_
          refine bI ?_
          refine bI ?_
          refine cK rfl ?_
          refine bI ?_
          refine cK rfl ?_
          refine bI ?_
          refine cK rfl ?_
          refine bI ?_
          refine cK rfl ?_
          refine bI ?_
          refine cK rfl ?_
          refine bI ?_
          refine cO ?_
          refine aN ⟨([] : (List Nat)),(fun i=>if i = 1 then 51 else i),⟨(.s rfl rfl (.cons (.nilo rfl) .nil)),(.cons (.blk rfl rfl rfl) (.cons (.nilb rfl) .nil)),bX [1000,51] rfl (by decide),(fun i hi=>by first | rfl | (show (if _ then _ else _) = _; (repeat' split) <;> omega))⟩,?_⟩
          exact h
         ·
          replace h:=bU h hc50
          refine aU ?_
          refine aN ?_
          obtain ⟨x51,hx51,h⟩:=aR h
          refine aC (aA rfl (aP rfl rfl (lb rfl) (svI rfl) (sv (d:=.int _ 10) rfl) rfl hx51) <|aA rfl (asB rfl rfl rfl rfl) <|aB ?_)
          refine aT (b:=_) rfl (fun hc52=>?_) (fun hc52=>?_)
          ·
           replace h:=bT h hc52
           refine cN ?_
           refine bI ?_
           refine cK rfl ?_
           refine bI ?_
           refine cK rfl ?_
           refine bI ?_
           refine cK rfl ?_
           refine bI ?_
           refine cK rfl ?_
           refine bI ?_
           refine cK rfl ?_
           refine bI ?_
           refine cK rfl ?_
           refine bI ?_
           refine cO ?_
           refine aN ?_
           obtain ⟨x53,hx53,h⟩:=aY h
           refine dG rfl [⟨[3],[],[(78,.nils)],[]⟩,
            ⟨[0],[],[(79,.ref 1000 0)],[]⟩,
            ⟨[79],[],[(80,.ref 1000 0)],[]⟩,
            ⟨[80],[],[(81,.ref 1000 6)],[]⟩,
            ⟨[0],[],[(82,.ref 1000 0)],[]⟩,
            ⟨[82],[],[(83,.ref 1000 0)],[]⟩,
            ⟨[83],[],[(84,.ref 1000 7)],[]⟩,
            ⟨[81,84],[0],[(85,.osl 0 (eRef 1000).sz (([6,7] : (List Nat)).length))],[(0,.blk 150 (D.flat (([6,7] : (List Nat)).map (eRef 1000).d)))]⟩,
            ⟨[78,85],[0,1],[(86,.osl 1 (eRef 1000).sz x53.length)],[(1,.blk 150 (D.flat (x53.map (eRef 1000).d)))]⟩,
            ⟨[86],[],[(3,.osl 1 (eRef 1000).sz x53.length)],[]⟩] rfl ?_ (by kernel_rfl) ?_
           ·refine .cons (lop rfl rfl fun S hA=>(aK rfl rfl (lb rfl) (sv (d:=.nils) (agr hA rfl rfl)))) ?_
            refine .cons (lop rfl rfl fun S hA=>(aK rfl rfl (lb rfl) (svaR hA rfl rfl))) ?_
            refine .cons (lop rfl rfl fun S hA=>(bM rfl rfl (lb rfl) (svaR hA rfl rfl))) ?_
            refine .cons (lop rfl rfl fun S hA=>(aO rfl rfl (lb rfl) Tryz.underlying50 rfl ti3 (by decide) (svaR hA rfl rfl) (off':=6) rfl)) ?_
            refine .cons (lop rfl rfl fun S hA=>(aK rfl rfl (lb rfl) (svaR hA rfl rfl))) ?_
            refine .cons (lop rfl rfl fun S hA=>(bM rfl rfl (lb rfl) (svaR hA rfl rfl))) ?_
            refine .cons (lop rfl rfl fun S hA=>(aO rfl rfl (lb rfl) Tryz.underlying50 rfl ti3 (by decide) (svaR hA rfl rfl) (off':=7) rfl)) ?_
            refine .cons (lop rfl rfl fun S hA=>(jP (eRef 1000) ([6,7] : (List Nat)) 0 rfl rfl (lb rfl) Tryz.underlying148 nF (agi hA rfl rfl) (.cons (svaR hA rfl rfl) (.cons (svaR hA rfl rfl) .nil)) rfl rfl (by decide))) ?_
            refine .cons (lop rfl rfl fun S hA=>(lU (eRef 1000) 1 rfl rfl (lb rfl) Tryz.underlying148 nF rfl (agr hA rfl rfl) (agi hA rfl rfl) (qK (eRef 1000) (agr hA rfl rfl) rfl (agi hA rfl rfl)) hx53)) ?_
            refine .cons (lop rfl rfl fun S hA=>(aE rfl rfl (lb rfl) (sv (d:=.osl _ _ _) (agr hA rfl rfl)))) ?_
            exact .nil
           refine cN ?_
           refine cO ?_
           refine aN ?_
           refine aC (aA rfl (aK rfl rfl (lb rfl) (sv (d:=.osl _ _ _) rfl)) <|aA rfl (aE rfl rfl (lb rfl) (sv (d:=.osl _ _ _) rfl)) <|aB ?_)
           refine aS ?_
           obtain rfl:=Option.some.inj h
           refine ⟨.inr rfl,(fun i=>if i = 0 then 1 else i),⟨.nil,(.cons (.blk rfl rfl rfl) (.cons (EntW.lstR rfl rfl) .nil)),bX [1000,1] rfl (by decide),(fun i hi=>by first | rfl | (show (if _ then _ else _) = _; (repeat' split) <;> omega))⟩,(.cons (sv rfl) .nil),rfl⟩
          ·
           replace h:=bU h hc52
           refine aU ?_
           refine aN ?_
           refine cN ?_
           refine cK rfl ?_
           refine bI ?_
           refine cK rfl ?_
           refine bI ?_
           refine cK rfl ?_
           refine bI ?_
           refine cK rfl ?_
           refine bI ?_
           refine cK rfl ?_
           refine bI ?_
           refine cK rfl ?_
           refine bI ?_
           refine cK rfl ?_
           refine bI ?_
           refine cO ?_
           refine aN ?_
           refine aC (aA rfl (aK rfl rfl (lb rfl) (sv (d:=.nils) rfl)) <|aA rfl (aE rfl rfl (lb rfl) (sv (d:=.nils) rfl)) <|aB ?_)
           refine aS ?_
           obtain rfl:=Option.some.inj h
           refine ⟨.inr rfl,(fun i=>if i = 0 then 50 else i),⟨.nil,(.cons (.blk rfl rfl rfl) (.cons (.nilb rfl) .nil)),bX [1000,50] rfl (by decide),(fun i hi=>by first | rfl | (show (if _ then _ else _) = _; (repeat' split) <;> omega))⟩,(.cons (svno rfl) .nil),rfl⟩
 ·
  rintro v26 h
  unfold fE at h
  obtain ⟨x27,hx27,h⟩:=aY h
  refine aC (aA rfl (aK rfl rfl (lb rfl) (sv (d:=.osl _ _ _) rfl)) <|aA rfl (mvR rfl rfl rfl rfl) <|aA rfl (bM rfl rfl (lb rfl) (svR rfl)) <|aA rfl (faR 6 rfl rfl rfl Tryz.underlying50 rfl ti3 (lb rfl) rfl rfl) <|aA rfl (jP (eRef 1000) ([6] : (List Nat)) 2 rfl rfl (lb rfl) Tryz.underlying148 nF rfl (.cons (svR rfl) .nil) rfl rfl (by decide)) <|aA rfl (kS (eRef 1000) 3 rfl rfl (lb rfl) Tryz.underlying148 nF rfl rfl rfl rfl rfl (qK (eRef 1000) rfl rfl rfl) hx27) <|aA rfl (aE rfl rfl (lb rfl) (sv (d:=.osl _ _ _) rfl)) <|aB ?_)
  refine cN ?_
  refine cK rfl ?_
  refine bI ?_
  refine cO ?_
  refine aN ?_
  refine aC (aA rfl (aK rfl rfl (lb rfl) (sv (d:=.osl _ _ _) rfl)) <|aA rfl (aE rfl rfl (lb rfl) (sv (d:=.osl _ _ _) rfl)) <|aB ?_)
  refine aS ?_
  obtain rfl:=Option.some.inj h
  refine ⟨.inr rfl,(fun i=>if i = 0 then 3 else i),⟨.nil,(.cons (.blk rfl rfl rfl) (.cons (EntW.lstR rfl rfl) .nil)),bX [1000,3] rfl (by decide),(fun i hi=>by first | rfl | (show (if _ then _ else _) = _; (repeat' split) <;> omega))⟩,(.cons (sv rfl) .nil),rfl⟩

theorem aAa (a0 : (List UInt8)) (r : ((List Int) × Int)) (h : oU a0 = some r) : cD Tryz.prog 131 [.str a0] (retD [.slice false (r.1.map (eInt .i64).d),.int .i64 r.2]):=by
 refine bA (rs:=[.slice false (r.1.map (eInt .i64).d),.int .i64 r.2]) Tryz.func131 rfl Tryz.ntmps131 (nle rfl) rfl fun O hO=>?_
 show IWP _ _ _ _ ⟨[(0,.str a0)],[]⟩ _
 unfold oU at h
 refine aC (aA rfl (aE rfl rfl (lb rfl) (sv (d:=.nils) rfl)) <|aA rfl (aE rfl rfl (lb rfl) (sv (d:=.int _ 0) rfl)) <|aB ?_)
 refine aC (aA rfl (aE rfl rfl (lb rfl) (sv (d:=.nils) rfl)) <|aB ?_)
 refine aV ?_
 refine bG ?_
 refine cW (α:=Nat × (List UInt8) × (List Int)) (fun z=>⟨[(0,.str z.2.1),(4,.gsl 21 (eInt .i64).sz (z.2.2.map (eInt .i64).d))],[(21,.tail 3 (eInt .i64).sz z.2.2.length)]⟩) (fun z=>jJ z.1 z.2.1 z.2.2 = some r) (fun z=>z.1) (fuel,a0,([] : (List Int))) (fun i=>if i = 21 then 71 else i) ⟨(.s rfl rfl (.cons (.nils rfl) .nil)),(.cons (.nils rfl) .nil),bX [71] rfl (by decide),(fun i hi=>by first | rfl | (show (if _ then _ else _) = _; (repeat' split) <;> omega))⟩ ?_ ?_
 ·exact h
 ·
  rintro ⟨n0,v8,v9⟩ h
  cases n0 with
  | zero=>exact absurd h (by unfold jJ; exact nofun)
  | succ n0 =>
   unfold jJ at h
   refine aV ?_
   obtain ⟨x17,hx17,h⟩:=aR h
   refine aC (aA rfl (aK rfl rfl (lb rfl) (sv (d:=.str _) rfl)) <|aA rfl (jM rfl rfl (lb rfl) (sv (d:=.str _) rfl) (sv (d:=.str []) rfl) rfl hx17) <|aB ?_)
   refine aT (b:=_) rfl (fun hc18=>?_) (fun hc18=>?_)
   ·
    replace h:=bT h hc18
    refine aU ?_
    refine aN ?_
    refine bG ?_
    obtain ⟨x19,hx19,h⟩:=aY h
    refine aC (aA rfl (aK rfl rfl (lb rfl) (sv (d:=.str _) rfl)) <|aA rfl (aW (r:=.tuple q20) rfl rfl (lb rfl) cl124 (.cons (sv (d:=.str _) rfl) .nil) rfl (qV _ _ hx19)) <|aA rfl (aK rfl rfl (lb rfl) (sv (d:=.tuple q20) rfl)) <|aA rfl (bE (d:=.int _ _) rfl rfl (lb rfl) (sv (d:=.tuple q20) rfl) rfl) <|aA rfl (bE (d:=.int _ _) rfl rfl (lb rfl) (sv (d:=.tuple q20) rfl) rfl) <|aA rfl (bE (d:=.int _ _) rfl rfl (lb rfl) (sv (d:=.tuple q20) rfl) rfl) <|aA rfl (asI rfl rfl rfl rfl) <|aA rfl (asI rfl rfl rfl rfl) <|aA rfl (asI rfl rfl rfl rfl) <|aB ?_)
    refine aV ?_
    obtain ⟨x20,hx20,h⟩:=aR h
    refine aC (aA rfl (mvI rfl rfl rfl rfl) <|aA rfl (aP rfl rfl (lb rfl) (svI rfl) (sv (d:=.int _ 0) rfl) rfl hx20) <|aB ?_)
    refine aT (b:=_) rfl (fun hc21=>?_) (fun hc21=>?_)
    ·
     replace h:=bT h hc21
     refine aC (aA rfl (mvI rfl rfl rfl rfl) <|aA rfl (aE rfl rfl (lb rfl) (sv (d:=.nils) rfl)) <|aA rfl (asI rfl rfl rfl rfl) <|aB ?_)
     refine aS ?_
     refine aZ ?_
     refine bP ?_
     refine aZ ?_
     refine bP ?_
     refine aZ ?_
     obtain rfl:=Option.some.inj h
     refine ⟨.inr rfl,(.cons (sW rfl rfl) (.cons (sv rfl) .nil))⟩
    ·
     replace h:=bU h hc21
     refine aU ?_
     refine aN ?_
     obtain ⟨x22,hx22,h⟩:=aY h
     refine aC (aA rfl (aK rfl rfl (lb rfl) (sv (d:=.gsl _ _ _) rfl)) <|aA rfl (mvI rfl rfl rfl rfl) <|aA rfl (oQ (eInt .i64) ([x19.1] : (List Int)) 22 rfl rfl (lb rfl) Tryz.underlying147 ti3 rfl (.cons (svI rfl) .nil) rfl rfl (by decide)) <|aA rfl (oJ (eInt .i64) 23 rfl rfl (lb rfl) Tryz.underlying147 ti3 rfl rfl rfl rfl (svg rfl) hx22) <|aA rfl (aE rfl rfl (lb rfl) (sv (d:=.gsl _ _ _) rfl)) <|aB ?_)
     obtain ⟨x23,hx23,h⟩:=aY h
     refine bD (aA rfl (aK rfl rfl (lb rfl) (sv (d:=.str _) rfl)) <|aA rfl (mvI rfl rfl rfl rfl) <|aA rfl (hT rfl rfl (lb rfl) Tryz.underlying9 (sv (d:=.str _) rfl) ⟨_,(svI rfl)⟩ rfl hx23) <|aA rfl (aE rfl rfl (lb rfl) (sv (d:=.str _) rfl)) <|bW ?_)
     refine bZ ?_
     refine aN ⟨(n0,x23,x22),(fun i=>if i = 21 then 23 else i),⟨(.sames rfl rfl),(.cons (.tail rfl) .nil),bX [23] rfl (by decide),(fun i hi=>by first | rfl | (show (if _ then _ else _) = _; (repeat' split) <;> omega))⟩,?_,?_⟩
     exact h
     exact Nat.lt_succ_self _
   ·
    replace h:=bU h hc18
    refine cN ?_
    refine bI ?_
    refine bI ?_
    refine cO ?_
    refine aN ?_
    refine aC (aA rfl (aK rfl rfl (lb rfl) (sv (d:=.gsl _ _ _) rfl)) <|aA rfl (aE rfl rfl (lb rfl) (sv (d:=.gsl _ _ _) rfl)) <|aA rfl (aE rfl rfl (lb rfl) (sv (d:=.int _ 0) rfl)) <|aB ?_)
    refine aS ?_
    obtain rfl:=Option.some.inj h
    refine ⟨.inr rfl,(.cons (xV rfl rfl) (.cons (sv rfl) .nil))⟩

theorem vI (a0 : (List UInt8)) (r : ((List bK) × Bool)) (h : jX a0 = some r) : cD Tryz.prog 125 [.str a0] (retD [.slice false (r.1.map bN.d),.bool r.2]):=by
 refine bA (rs:=[.slice false (r.1.map bN.d),.bool r.2]) Tryz.func125 rfl Tryz.ntmps125 (nle rfl) rfl fun O hO=>?_
 show IWP _ _ _ _ ⟨[(0,.str a0)],[]⟩ _
 unfold jX at h
 refine aC (aA rfl (aE rfl rfl (lb rfl) (sv (d:=.nils) rfl)) <|aA rfl (aE rfl rfl (lb rfl) (sv (d:=.bool false) rfl)) <|aB ?_)
 obtain ⟨x1,hx1,h⟩:=aY h
 refine aC (aA rfl (aK rfl rfl (lb rfl) (sv (d:=.str _) rfl)) <|aA rfl (aW (r:=.tuple q24) rfl rfl (lb rfl) cl131 (.cons (sv (d:=.str _) rfl) .nil) rfl (aAa _ _ hx1)) <|aA rfl (aK rfl rfl (lb rfl) (sv (d:=.tuple q24) rfl)) <|aA rfl (bE (d:=.slice _ _) rfl rfl (lb rfl) (sv (d:=.tuple q24) rfl) rfl) <|aA rfl (bE (d:=.int _ _) rfl rfl (lb rfl) (sv (d:=.tuple q24) rfl) rfl) <|aA rfl (aE rfl rfl (lb rfl) (svL rfl)) <|aA rfl (asI rfl rfl rfl rfl) <|aB ?_)
 refine aV ?_
 obtain ⟨x2,hx2,h⟩:=aR h
 obtain ⟨x3,hx3,h⟩:=aY h
 obtain ⟨x4,hx4,h⟩:=aR h
 obtain ⟨x5,hx5,h⟩:=aR h
 refine aC (aA rfl (mvI rfl rfl rfl rfl) <|aA rfl (aP rfl rfl (lb rfl) (svI rfl) (sv (d:=.int _ 0) rfl) rfl hx2) <|aA rfl (mvB rfl rfl rfl rfl) <|aF rfl rfl (.one rfl) rfl (by decide) (fun hb=>(mvL rfl rfl rfl rfl)) <|aF rfl rfl (.one rfl) rfl (by decide) (fun hb=>(cJ (eInt .i64) (l:=x1.1) rfl rfl (lb rfl) Tryz.underlying147 (svcL rfl hb))) <|aF rfl rfl (.one rfl) rfl (by decide) (fun hb=>(aBu rfl rfl (lb rfl) (svcI rfl hb) (sv (d:=.int _ 2) rfl) (gd_t hx3 hb))) <|aF rfl rfl (.one rfl) rfl (by decide) (fun hb=>(aP rfl rfl (lb rfl) (svcI rfl hb) (sv (d:=.int _ 1) rfl) rfl hx4)) <|aA rfl (dM rfl rfl (lb rfl) (svB rfl) rfl rfl hx5) <|aB ?_)
 refine aT (b:=_) rfl (fun hc6=>?_) (fun hc6=>?_)
 ·
  replace h:=bT h hc6
  refine aC (aA rfl (aE rfl rfl (lb rfl) (sv (d:=.nils) rfl)) <|aA rfl (aE rfl rfl (lb rfl) (sv (d:=.bool false) rfl)) <|aB ?_)
  refine aS ?_
  refine aZ ?_
  obtain rfl:=Option.some.inj h
  refine ⟨.inr rfl,(.cons (sW rfl rfl) (.cons (sv rfl) .nil))⟩
 ·
  replace h:=bU h hc6
  refine aU ?_
  refine aN ?_
  refine aC (aA rfl (aE rfl rfl (lb rfl) (sv (d:=.nils) rfl)) <|aB ?_)
  refine aV ?_
  refine bG ?_
  refine cW (α:=Nat × (List Int) × (List bK)) (fun z=>⟨[(4,.slice false (z.2.1.map (eInt .i64).d)),(6,.gsl 21 bN.sz (z.2.2.map bN.d))],[(21,.tail 136 bN.sz z.2.2.length)]⟩) (fun z=>fR z.1 z.2.1 z.2.2 = some r) (fun z=>z.1) (fuel,x1.1,([] : (List bK))) (fun i=>if i = 21 then 71 else i) ⟨(.s rfl rfl (.cons (.nils rfl) .nil)),(.cons (.nils rfl) .nil),bX [71] rfl (by decide),(fun i hi=>by first | rfl | (show (if _ then _ else _) = _; (repeat' split) <;> omega))⟩ ?_ ?_
  ·exact h
  ·
   rintro ⟨n0,v13,v14⟩ h
   cases n0 with
   | zero=>exact absurd h (by unfold fR; exact nofun)
   | succ n0 =>
    unfold fR at h
    refine aV ?_
    obtain ⟨x21,hx21,h⟩:=aR h
    refine aC (aA rfl (mvL rfl rfl rfl rfl) <|aA rfl (cJ (eInt .i64) (l:=v13) rfl rfl (lb rfl) Tryz.underlying147 (svL rfl)) <|aA rfl (aP rfl rfl (lb rfl) (svI rfl) (sv (d:=.int _ 0) rfl) rfl hx21) <|aB ?_)
    refine aT (b:=_) rfl (fun hc22=>?_) (fun hc22=>?_)
    ·
     replace h:=bT h hc22
     refine aU ?_
     refine aN ?_
     refine aV ?_
     refine bG ?_
     obtain ⟨x23,hx23,h⟩:=aY h
     obtain ⟨x24,hx24,h⟩:=aY h
     obtain ⟨x25,hx25,h⟩:=aY h
     refine tO rfl [⟨[6],[],[(25,.gsl 21 bN.sz (v14.map bN.d))],[]⟩,
      ⟨[4],[],[(26,.slice false (v13.map (eInt .i64).d))],[]⟩,
      ⟨[26],[],[(27,.fptr [.int .i64 x23])],[]⟩,
      ⟨[27],[],[(28,.int .i64 x23)],[]⟩,
      ⟨[4],[],[(29,.slice false (v13.map (eInt .i64).d))],[]⟩,
      ⟨[29],[],[(30,.fptr [.int .i64 x24])],[]⟩,
      ⟨[30],[],[(31,.int .i64 x24)],[]⟩,
      ⟨[28,31],[],[(32,.agg [.int .i64 x23,.int .i64 x24])],[]⟩,
      ⟨[32],[22],[(33,.gsl 22 bN.sz ((([(⟨x23,x24⟩ : bK)] : (List bK))).map bN.d))],[(22,.tail 136 bN.sz (([(⟨x23,x24⟩ : bK)] : (List bK))).length)]⟩,
      ⟨[25,33],[21,23],[(34,.gsl 23 bN.sz (x25.map bN.d))],[(23,.tail 136 bN.sz x25.length),(21,.none)]⟩,
      ⟨[34],[],[(6,.gsl 23 bN.sz (x25.map bN.d))],[]⟩] rfl ?_ (by kernel_rfl) ?_
     ·refine .cons (lop rfl rfl fun S hA=>(aK rfl rfl (lb rfl) (sv (d:=.gsl _ _ _) (agr hA rfl rfl)))) ?_
      refine .cons (lop rfl rfl fun S hA=>(aK rfl rfl (lb rfl) (svaL hA rfl rfl))) ?_
      refine .cons (lop rfl rfl fun S hA=>(cY (eInt .i64) (cs:=[.int _ _]) rfl rfl (lb rfl) Tryz.underlying147 ti3 (svaL hA rfl rfl) (sv (d:=.int _ 0) rfl) hx23 rfl rfl)) ?_
      refine .cons (lop rfl rfl fun S hA=>(eT rfl rfl (lb rfl) Tryz.underlying3 ag3 ti3 (by decide) (sv (d:=.fptr [.int _ _]) (agr hA rfl rfl)) (nle rfl))) ?_
      refine .cons (lop rfl rfl fun S hA=>(aK rfl rfl (lb rfl) (svaL hA rfl rfl))) ?_
      refine .cons (lop rfl rfl fun S hA=>(cY (eInt .i64) (cs:=[.int _ _]) rfl rfl (lb rfl) Tryz.underlying147 ti3 (svaL hA rfl rfl) (sv (d:=.int _ 1) rfl) hx24 rfl rfl)) ?_
      refine .cons (lop rfl rfl fun S hA=>(eT rfl rfl (lb rfl) Tryz.underlying3 ag3 ti3 (by decide) (sv (d:=.fptr [.int _ _]) (agr hA rfl rfl)) (nle rfl))) ?_
      refine .cons (lop rfl rfl fun S hA=>(cC (cs:=q25) rfl rfl (lb rfl) Tryz.underlying136 qN pl136 rfl (.cons (svaI hA rfl rfl) (.cons (svaI hA rfl rfl) .nil)) rfl)) ?_
      refine .cons (lop rfl rfl fun S hA=>(oQ bN ([(⟨x23,x24⟩ : bK)] : (List bK)) 22 rfl rfl (lb rfl) Tryz.underlying42 qN (agi hA rfl rfl) (.cons (svaA q25 hA rfl rfl) .nil) rfl rfl (by decide))) ?_
      refine .cons (lop rfl rfl fun S hA=>(oJ bN 23 rfl rfl (lb rfl) Tryz.underlying42 qN rfl (agr hA rfl rfl) (agi hA rfl rfl) (agi hA rfl rfl) (svg (agr hA rfl rfl)) hx25)) ?_
      refine .cons (lop rfl rfl fun S hA=>(aE rfl rfl (lb rfl) (sv (d:=.gsl _ _ _) (agr hA rfl rfl)))) ?_
      exact .nil
     refine bZ ?_
     refine aN ?_
     obtain ⟨x26,hx26,h⟩:=aY h
     refine bD (aA rfl (mvL rfl rfl rfl rfl) <|aA rfl (vO (eInt .i64) rfl rfl (lb rfl) Tryz.underlying147 ti3 (svL rfl) ⟨_,(sv (d:=.int _ 2) rfl)⟩ rfl hx26) <|aA rfl (aE rfl rfl (lb rfl) (svL rfl)) <|bW ?_)
     refine aN ⟨(n0,x26,x25),(fun i=>if i = 21 then 23 else i),⟨(.sames rfl rfl),(.cons (.tail rfl) .nil),bX [23] rfl (by decide),(fun i hi=>by first | rfl | (show (if _ then _ else _) = _; (repeat' split) <;> omega))⟩,?_,?_⟩
     exact h
     exact Nat.lt_succ_self _
    ·
     replace h:=bU h hc22
     refine cN ?_
     refine bI ?_
     refine bI ?_
     refine cO ?_
     refine aN ?_
     refine aC (aA rfl (aK rfl rfl (lb rfl) (sv (d:=.gsl _ _ _) rfl)) <|aA rfl (aE rfl rfl (lb rfl) (sv (d:=.gsl _ _ _) rfl)) <|aA rfl (aE rfl rfl (lb rfl) (sv (d:=.bool true) rfl)) <|aB ?_)
     refine aS ?_
     obtain rfl:=Option.some.inj h
     refine ⟨.inr rfl,(.cons (xV rfl rfl) (.cons (sv rfl) .nil))⟩

theorem rX (a0 : (List UInt8)) (a1 : aH) (r : (Bool × aH)) (h : iR a0 a1 = some r) : FnH Tryz.prog 109 [.ref 1000 0,.str a0] [(1000,.blk 50 (v1 a1))] (.bool r.1) [(1000,.blk 50 (v1 r.2))]:=by
 refine eU (rs:=[.bool r.1]) Tryz.func109 rfl Tryz.ntmps109 (nle rfl) fun O hO=>?_
 show IWP _ _ _ _ ⟨[(0,.ref 1000 0),(1,.str a0)],[(1000,.blk 50 (v1 a1))]⟩ _
 unfold iR at h
 refine aC (aA rfl (aE rfl rfl (lb rfl) (sv (d:=.bool false) rfl)) <|aB ?_)
 refine aV ?_
 obtain ⟨x1,hx1,h⟩:=aY h
 refine aC (aA rfl (mvR rfl rfl rfl rfl) <|aA rfl (dU (r':=.osl 0 (eRef 1000).sz x1.length) (H1':=[(1000,.blk 50 (v1 a1)),(0,.blk 150 (D.flat (x1.map (eRef 1000).d)))]) 0 [1000] rfl rfl (lb rfl) cl82 (.cons (svR rfl) .nil) rfl rfl ⟨rfl,rfl,by decide,rfl,List.forall_mem_cons.2 ⟨⟨rfl,rfl,rfl,rfl⟩,List.forall_mem_nil _⟩⟩ (jL _ _ hx1) rfl rfl (List.forall_mem_cons.2 ⟨⟨rfl,rfl⟩,List.forall_mem_cons.2 ⟨⟨rfl,(aDZ rfl)⟩,List.forall_mem_nil _⟩⟩) (by simp only [List.map_cons,List.map_nil,Ent.ren,eS,fH]; rfl)) <|aA rfl (oH rfl rfl (lb rfl) Tryz.underlying148 (sv (d:=.osl _ _ _) rfl)) <|aA rfl (aK rfl rfl (lb rfl) (sv (d:=.int _ 0) rfl)) <|aB ?_)
 refine bG ?_
 refine cW (α:=Nat × (List UInt8) × Int × Int × Int × Int × Int × Int × Int) (fun z=>⟨[(0,.ref 1000 0),(1,.str z.2.1),(13,.osl 0 (eRef 1000).sz x1.length),(14,.int .i64 (x1.length : Int)),(15,.int .i64 z.2.2.1)],[(1000,.blk 50 (w37 a1.Kind a1.Flag z.2.2.2.1 z.2.2.2.2.1 z.2.2.2.2.2.1 z.2.2.2.2.2.2.1 z.2.2.2.2.2.2.2.1 z.2.2.2.2.2.2.2.2 a1.Pairs a1.Data)),(0,.blk 150 (D.flat (x1.map (eRef 1000).d)))]⟩) (fun z=>eO a1 x1 z.1 z.2.1 z.2.2.1 z.2.2.2.1 z.2.2.2.2.1 z.2.2.2.2.2.1 z.2.2.2.2.2.2.1 z.2.2.2.2.2.2.2.1 z.2.2.2.2.2.2.2.2 = some r) (fun z=>z.1) (fuel,a0,0,a1.Stream,a1.Offset,a1.Dep,a1.Weight,a1.N,a1.Code) (fun i=>i) ⟨(.sames rfl rfl),(.cons (.blk rfl rfl rfl) (.cons (EntW.lstR rfl rfl) .nil)),bX [1000,0] rfl (by decide),fun _ _=>rfl⟩ ?_ ?_
 ·exact h
 ·
  rintro ⟨n0,v12,v13,v14,v15,v16,v17,v18,v19⟩ h
  cases n0 with
  | zero=>exact absurd h (by unfold eO; exact nofun)
  | succ n0 =>
   unfold eO at h
   obtain ⟨x30,hx30,h⟩:=aR h
   refine aC (aA rfl (aP rfl rfl (lb rfl) (svI rfl) (svI rfl) rfl hx30) <|aB ?_)
   refine aV ?_
   refine aT (b:=_) rfl (fun hc31=>?_) (fun hc31=>?_)
   ·
    replace h:=bT h hc31
    refine aU ?_
    refine aN ?_
    refine aV ?_
    refine bG ?_
    obtain ⟨x32,hx32,h⟩:=aY h
    obtain ⟨x33,hx33,h⟩:=aY h
    refine aC (aA rfl (jN (eRef 1000) rfl rfl (lb rfl) Tryz.underlying148 nF (sv (d:=.osl _ _ _) rfl) rfl (svI rfl) hx32) <|aA rfl (kR (eRef 1000) (d:=.ref _ _) rfl rfl (lb rfl) Tryz.underlying150 ag150 nF (by decide) (svR rfl) rfl hx33 (nle rfl) rfl) <|aA rfl (aE rfl rfl (lb rfl) (svR rfl)) <|aB ?_)
    obtain ⟨x34,hx34,h⟩:=aY h
    refine aC (aA rfl (aK rfl rfl (lb rfl) (sv (d:=.str _) rfl)) <|aA rfl (aW (r:=.tuple q20) rfl rfl (lb rfl) cl124 (.cons (sv (d:=.str _) rfl) .nil) rfl (qV _ _ hx34)) <|aA rfl (aK rfl rfl (lb rfl) (sv (d:=.tuple q20) rfl)) <|aA rfl (bE (d:=.int _ _) rfl rfl (lb rfl) (sv (d:=.tuple q20) rfl) rfl) <|aA rfl (bE (d:=.int _ _) rfl rfl (lb rfl) (sv (d:=.tuple q20) rfl) rfl) <|aA rfl (bE (d:=.int _ _) rfl rfl (lb rfl) (sv (d:=.tuple q20) rfl) rfl) <|aA rfl (asI rfl rfl rfl rfl) <|aA rfl (asI rfl rfl rfl rfl) <|aA rfl (asI rfl rfl rfl rfl) <|aB ?_)
    refine aV ?_
    obtain ⟨x35,hx35,h⟩:=aR h
    refine aC (aA rfl (mvI rfl rfl rfl rfl) <|aA rfl (aP rfl rfl (lb rfl) (svI rfl) (sv (d:=.int _ 0) rfl) rfl hx35) <|aB ?_)
    refine aT (b:=_) rfl (fun hc36=>?_) (fun hc36=>?_)
    ·
     replace h:=bT h hc36
     refine aC (aA rfl (aE rfl rfl (lb rfl) (sv (d:=.bool false) rfl)) <|aB ?_)
     refine aS ?_
     refine aZ ?_
     refine bP ?_
     refine aZ ?_
     refine aZ ?_
     refine bP ?_
     refine aZ ?_
     obtain rfl:=Option.some.inj h
     refine ⟨.inr rfl,(fun i=>i),⟨.nil,(.cons (.blk rfl rfl rfl) .nil),bX [1000] rfl (by decide),fun _ _=>rfl⟩,(.cons (sv rfl) .nil),rfl⟩
    ·
     replace h:=bU h hc36
     refine aU ?_
     refine aN ?_
     obtain ⟨x37,hx37,h⟩:=aY h
     refine aC (aA rfl (mvR rfl rfl rfl rfl) <|aA rfl (mvI rfl rfl rfl rfl) <|aA rfl (bM rfl rfl (lb rfl) (svR rfl)) <|aA rfl (tP (cs':=(w37 a1.Kind a1.Flag (bif Nat.beq x33 2 then x34.1 else v14) (bif Nat.beq x33 3 then x34.1 else v15) (bif Nat.beq x33 4 then x34.1 else v16) (bif Nat.beq x33 5 then x34.1 else v17) (bif Nat.beq x33 6 then x34.1 else v18) (bif Nat.beq x33 7 then x34.1 else v19) a1.Pairs a1.Data)) rfl rfl ti3 (svR rfl) rfl (svI rfl) hx37 rfl) <|aB ?_)
     obtain ⟨x38,hx38,h⟩:=aY h
     refine bD (aA rfl (aK rfl rfl (lb rfl) (sv (d:=.str _) rfl)) <|aA rfl (mvI rfl rfl rfl rfl) <|aA rfl (hT rfl rfl (lb rfl) Tryz.underlying9 (sv (d:=.str _) rfl) ⟨_,(svI rfl)⟩ rfl hx38) <|aA rfl (aE rfl rfl (lb rfl) (sv (d:=.str _) rfl)) <|bW ?_)
     refine bZ ?_
     refine aN ?_
     obtain ⟨x39,hx39,h⟩:=aR h
     refine bD (aA rfl (bL rfl rfl (lb rfl) (svI rfl) (sv (d:=.int _ 1) rfl) rfl hx39) <|aA rfl (mvI rfl rfl rfl rfl) <|bW ?_)
     refine aN ⟨(n0,x38,x39,(bif Nat.beq x33 2 then x34.1 else v14),(bif Nat.beq x33 3 then x34.1 else v15),(bif Nat.beq x33 4 then x34.1 else v16),(bif Nat.beq x33 5 then x34.1 else v17),(bif Nat.beq x33 6 then x34.1 else v18),(bif Nat.beq x33 7 then x34.1 else v19)),(fun i=>i),⟨(.sames rfl rfl),(.cons (.blk rfl rfl rfl) (.cons (EntW.lstR rfl rfl) .nil)),bX [1000,0] rfl (by decide),fun _ _=>rfl⟩,?_,?_⟩
     exact h
     exact Nat.lt_succ_self _
   ·
    replace h:=bU h hc31
    refine cN ?_
    refine bI ?_
    refine bI ?_
    refine cO ?_
    refine aN ?_
    refine aV ?_
    refine aC (aA rfl (mvR rfl rfl rfl rfl) <|aA rfl (bM rfl rfl (lb rfl) (svR rfl)) <|aA rfl (faR 0 rfl rfl rfl Tryz.underlying50 rfl ti5 (lb rfl) rfl rfl) <|aA rfl (aG (d:=.int _ _) rfl rfl (lb rfl) Tryz.underlying5 ag5 ti5 (by decide) (svR rfl) rfl (nle rfl) rfl) <|aB ?_)
    refine bG ?_
    obtain ⟨x40,hx40,h⟩:=aR h
    refine aC (aA rfl (aP rfl rfl (lb rfl) (svI rfl) (sv (d:=.int _ 0) rfl) rfl hx40) <|aA rfl (asB rfl rfl rfl rfl) <|aB ?_)
    refine aT (b:=_) rfl (fun hc41=>?_) (fun hc41=>?_)
    ·
     replace h:=bT h hc41
     refine aC (aA rfl (mvR rfl rfl rfl rfl) <|aA rfl (aK rfl rfl (lb rfl) (sv (d:=.str _) rfl)) <|aA rfl (bM rfl rfl (lb rfl) (svR rfl)) <|aA rfl (faR 9 rfl rfl rfl Tryz.underlying50 rfl ti9 (lb rfl) rfl rfl) <|aA rfl (bQ (ds':=q10) rfl rfl ti9 (svR rfl) rfl (sv (d:=.str _) rfl) rfl rfl rfl (nle rfl) rfl) <|aB ?_)
     refine aC (aA rfl (aE rfl rfl (lb rfl) (sv (d:=.bool true) rfl)) <|aB ?_)
     refine aS ?_
     refine bP ?_
     refine aZ ?_
     obtain rfl:=Option.some.inj h
     refine ⟨.inr rfl,(fun i=>i),⟨.nil,(.cons (.blk rfl rfl rfl) .nil),bX [1000] rfl (by decide),fun _ _=>rfl⟩,(.cons (sv rfl) .nil),rfl⟩
    ·
     replace h:=bU h hc41
     obtain ⟨x42,hx42,h⟩:=aR h
     refine aC (aA rfl (aP rfl rfl (lb rfl) (svI rfl) (sv (d:=.int _ 4) rfl) rfl hx42) <|aA rfl (asB rfl rfl rfl rfl) <|aB ?_)
     refine aT (b:=_) rfl (fun hc43=>?_) (fun hc43=>?_)
     ·
      replace h:=bT h hc43
      obtain ⟨x44,hx44,h⟩:=aY h
      refine aC (aA rfl (aK rfl rfl (lb rfl) (sv (d:=.str _) rfl)) <|aA rfl (aW (r:=.tuple [.slice _ _,.bool _]) rfl rfl (lb rfl) cl125 (.cons (sv (d:=.str _) rfl) .nil) rfl (vI _ _ hx44)) <|aA rfl (aK rfl rfl (lb rfl) (sv (d:=.tuple [.slice _ _,.bool _]) rfl)) <|aA rfl (bE (d:=.slice _ _) rfl rfl (lb rfl) (sv (d:=.tuple [.slice _ _,.bool _]) rfl) rfl) <|aA rfl (bE (d:=.bool _) rfl rfl (lb rfl) (sv (d:=.tuple [.slice _ _,.bool _]) rfl) rfl) <|aA rfl (aE rfl rfl (lb rfl) (svL rfl)) <|aA rfl (asB rfl rfl rfl rfl) <|aB ?_)
      refine aC (aA rfl (mvR rfl rfl rfl rfl) <|aA rfl (mvL rfl rfl rfl rfl) <|aA rfl (bM rfl rfl (lb rfl) (svR rfl)) <|aA rfl (faR 8 rfl rfl rfl Tryz.underlying50 rfl ti42 (lb rfl) rfl rfl) <|aA rfl (bQ (ds':=q10) rfl rfl ti42 (svR rfl) rfl (svL rfl) rfl rfl rfl (nle rfl) rfl) <|aB ?_)
      refine aC (aA rfl (mvB rfl rfl rfl rfl) <|aA rfl (asB rfl rfl rfl rfl) <|aB ?_)
      refine aS ?_
      refine bP ?_
      refine aZ ?_
      obtain rfl:=Option.some.inj h
      refine ⟨.inr rfl,(fun i=>i),⟨.nil,(.cons (.blk rfl rfl rfl) .nil),bX [1000] rfl (by decide),fun _ _=>rfl⟩,(.cons (sv rfl) .nil),rfl⟩
     ·
      replace h:=bU h hc43
      refine aU ?_
      refine bZ ?_
      refine aN ?_
      obtain ⟨x45,hx45,h⟩:=aR h
      refine aC (aA rfl (aK rfl rfl (lb rfl) (sv (d:=.str _) rfl)) <|aA rfl (jM rfl rfl (lb rfl) (sv (d:=.str _) rfl) (sv (d:=.str []) rfl) rfl hx45) <|aA rfl (asB rfl rfl rfl rfl) <|aB ?_)
      refine aS ?_
      obtain rfl:=Option.some.inj h
      refine ⟨.inr rfl,(fun i=>i),⟨.nil,(.cons (.blk rfl rfl rfl) .nil),bX [1000] rfl (by decide),fun _ _=>rfl⟩,(.cons (sv rfl) .nil),rfl⟩

theorem lI (a0 : Int) (a1 : Int) (a2 : Int) (r : Bool) (h : lW a0 a1 a2 = some r) : cD Tryz.prog 112 [.int .i64 a0,.int .i64 a1,.int .i64 a2] (.bool r):=by
 refine bA (rs:=[.bool r]) Tryz.func112 rfl Tryz.ntmps112 (nle rfl) rfl fun O hO=>?_
 show IWP _ _ _ _ ⟨[(0,.int .i64 a0),(1,.int .i64 a1),(2,.int .i64 a2)],[]⟩ _
 unfold lW at h
 refine aC (aA rfl (aE rfl rfl (lb rfl) (sv (d:=.bool false) rfl)) <|aB ?_)
 obtain ⟨x1,hx1,h⟩:=aR h
 obtain ⟨x2,hx2,h⟩:=aR h
 obtain ⟨x3,hx3,h⟩:=aR h
 refine aC (aA rfl (mvI rfl rfl rfl rfl) <|aA rfl (mvI rfl rfl rfl rfl) <|aA rfl (aP rfl rfl (lb rfl) (svI rfl) (svI rfl) rfl hx1) <|aA rfl (mvB rfl rfl rfl rfl) <|aF rfl rfl (.one rfl) rfl (by decide) (fun hb=>(mvI rfl rfl rfl rfl)) <|aF rfl rfl (.one rfl) rfl (by decide) (fun hb=>(mvI rfl rfl rfl rfl)) <|aF rfl rfl (.one rfl) rfl (by decide) (fun hb=>(aP rfl rfl (lb rfl) (svcI rfl hb) (svcI rfl hb) rfl hx2)) <|aA rfl (bO rfl rfl (lb rfl) (svB rfl) rfl rfl hx3) <|aA rfl (asB rfl rfl rfl rfl) <|aB ?_)
 refine aS ?_
 obtain rfl:=Option.some.inj h
 refine ⟨.inr rfl,(.cons (sv rfl) .nil)⟩

theorem qL (a0 : bK) (r : Bool) (h : gJ a0 = some r) : cD Tryz.prog 113 [.agg [.int .i64 a0.ID,.int .i64 a0.Value]] (.bool r):=by
 refine bA (rs:=[.bool r]) Tryz.func113 rfl Tryz.ntmps113 (nle rfl) rfl fun O hO=>?_
 show IWP _ _ _ _ ⟨[(0,.agg [.int .i64 a0.ID,.int .i64 a0.Value])],[]⟩ _
 unfold gJ at h
 refine aC (aA rfl (bR (cs:=q25) 0 rfl rfl (lb rfl) rfl (svA q25 rfl) rfl rfl) <|aA rfl (aE rfl rfl (lb rfl) (sv (d:=.bool false) rfl)) <|aB ?_)
 obtain ⟨x1,hx1,h⟩:=aY h
 obtain ⟨x2,hx2,h⟩:=aY h
 obtain ⟨x3,hx3,h⟩:=aR h
 refine aC (aA rfl (faR 0 rfl rfl rfl Tryz.underlying136 rfl ti3 (lb rfl) rfl rfl) <|aA rfl (aG (d:=.int _ _) rfl rfl (lb rfl) Tryz.underlying3 ag3 ti3 (by decide) (svR rfl) rfl (nle rfl) rfl) <|aA rfl (aW (r:=.bool _) rfl rfl (lb rfl) aBB (.cons (svI rfl) (.cons (sv (d:=.int _ 0) rfl) (.cons (sv (d:=.int _ 1099511627776) rfl) .nil))) rfl (lI _ _ _ _ hx1)) <|aA rfl (dD rfl rfl (lb rfl) (svB rfl)) <|aA rfl (mvB rfl rfl rfl rfl) <|aF rfl rfl (.one rfl) rfl (by decide) (fun hb=>(faR 1 rfl rfl rfl Tryz.underlying136 rfl ti3 (lb rfl) rfl rfl)) <|aF rfl rfl (.one rfl) rfl (by decide) (fun hb=>(aG (d:=.int _ _) rfl rfl (lb rfl) Tryz.underlying3 ag3 ti3 (by decide) (svcR rfl hb) rfl (nle rfl) rfl)) <|aF rfl rfl (.one rfl) rfl (by decide) (fun hb=>(aW (r:=.bool _) rfl rfl (lb rfl) aBB (.cons (svcI rfl hb) (.cons (sv (d:=.int _ 0) rfl) (.cons (sv (d:=.int _ 1099511627776) rfl) .nil))) rfl (lI _ _ _ _ (gd_t hx2 hb)))) <|aF rfl rfl (.one rfl) rfl (by decide) (fun hb=>(dD rfl rfl (lb rfl) (svcB rfl hb))) <|aA rfl (dM rfl rfl (lb rfl) (svB rfl) rfl rfl hx3) <|aA rfl (asB rfl rfl rfl rfl) <|aB ?_)
 refine aS ?_
 obtain rfl:=Option.some.inj h
 refine ⟨.inr rfl,(.cons (sv rfl) .nil)⟩

theorem jD (a0 : (List bK)) (r : Int) (h : dL a0 = some r) : cD Tryz.prog 126 [.slice false (a0.map bN.d),.fn 113 []] (.int .i64 r):=by
 refine bA (rs:=[.int .i64 r]) Tryz.func126 rfl Tryz.ntmps126 (nle rfl) rfl fun O hO=>?_
 show IWP _ _ _ _ ⟨[(0,.slice false (a0.map bN.d)),(1,.fn 113 [])],[]⟩ _
 unfold dL at h
 refine aC (aA rfl (aE rfl rfl (lb rfl) (sv (d:=.int _ 0) rfl)) <|aB ?_)
 refine aV ?_
 refine aC (aA rfl (mvL rfl rfl rfl rfl) <|aA rfl (cJ bN (l:=a0) rfl rfl (lb rfl) Tryz.underlying42 (svL rfl)) <|aA rfl (aK rfl rfl (lb rfl) (sv (d:=.int _ 0) rfl)) <|aB ?_)
 refine bG ?_
 refine cW (α:=Nat × Int) (fun z=>⟨[(0,.slice false (a0.map bN.d)),(1,.fn 113 []),(7,.int .i64 (a0.length : Int)),(8,.int .i64 z.2)],[]⟩) (fun z=>cE a0 z.1 z.2 = some r) (fun z=>z.1) (fuel,0) (fun i=>i) ⟨(.sames rfl rfl),.nil,bX [] rfl (by decide),fun _ _=>rfl⟩ ?_ ?_
 ·exact h
 ·
  rintro ⟨n0,v7⟩ h
  cases n0 with
  | zero=>exact absurd h (by unfold cE; exact nofun)
  | succ n0 =>
   unfold cE at h
   obtain ⟨x14,hx14,h⟩:=aR h
   refine aC (aA rfl (aP rfl rfl (lb rfl) (svI rfl) (svI rfl) rfl hx14) <|aB ?_)
   refine aV ?_
   refine aT (b:=_) rfl (fun hc15=>?_) (fun hc15=>?_)
   ·
    replace h:=bT h hc15
    refine aU ?_
    refine aN ?_
    refine aV ?_
    refine bG ?_
    refine aC (aA rfl (mvI rfl rfl rfl rfl) <|aA rfl (asI rfl rfl rfl rfl) <|aB ?_)
    obtain ⟨x16,hx16,h⟩:=aY h
    obtain ⟨x17,hx17,h⟩:=aY h
    refine aC (aA rfl (aK rfl rfl (lb rfl) (sv (d:=.fn 113 []) rfl)) <|aA rfl (mvL rfl rfl rfl rfl) <|aA rfl (mvI rfl rfl rfl rfl) <|aA rfl (cY bN (cs:=q25) rfl rfl (lb rfl) Tryz.underlying42 qN (svL rfl) (svI rfl) hx16 rfl rfl) <|aA rfl (cQ (cs:=q25) rfl rfl (lb rfl) Tryz.underlying136 aCh qN (by decide) (sv (d:=.fptr q25) rfl) (nle rfl) rfl) <|aA rfl (mT (r:=.bool _) rfl rfl (lb rfl) cl113 (sv (d:=.fn 113 []) rfl) (.cons (svA q25 rfl) .nil) rfl (qL _ _ hx17)) <|aB ?_)
    refine aT (b:=_) rfl (fun hc18=>?_) (fun hc18=>?_)
    ·
     replace h:=bT h hc18
     refine aC (aA rfl (mvI rfl rfl rfl rfl) <|aA rfl (asI rfl rfl rfl rfl) <|aB ?_)
     refine aS ?_
     refine bP ?_
     refine aZ ?_
     refine aZ ?_
     refine bP ?_
     refine aZ ?_
     obtain rfl:=Option.some.inj h
     refine ⟨.inr rfl,(.cons (sv rfl) .nil)⟩
    ·
     replace h:=bU h hc18
     refine aU ?_
     refine bZ ?_
     refine aN ?_
     obtain ⟨x19,hx19,h⟩:=aR h
     refine bD (aA rfl (bL rfl rfl (lb rfl) (svI rfl) (sv (d:=.int _ 1) rfl) rfl hx19) <|aA rfl (mvI rfl rfl rfl rfl) <|bW ?_)
     refine aN ⟨(n0,x19),(fun i=>i),⟨(.sames rfl rfl),.nil,bX [] rfl (by decide),fun _ _=>rfl⟩,?_,?_⟩
     exact h
     exact Nat.lt_succ_self _
   ·
    replace h:=bU h hc15
    refine cN ?_
    refine bI ?_
    refine bI ?_
    refine cO ?_
    refine aN ?_
    refine aC (aA rfl (aE rfl rfl (lb rfl) (sv (d:=.int _ (-1)) rfl)) <|aB ?_)
    refine aS ?_
    obtain rfl:=Option.some.inj h
    refine ⟨.inr rfl,(.cons (sv rfl) .nil)⟩

theorem iO (a0 : (List bK)) (r : Bool) (h : cV a0 = some r) : cD Tryz.prog 114 [.slice false (a0.map bN.d),.fn 113 []] (.bool r):=by
 refine bA (rs:=[.bool r]) Tryz.func114 rfl Tryz.ntmps114 (nle rfl) rfl fun O hO=>?_
 show IWP _ _ _ _ ⟨[(0,.slice false (a0.map bN.d)),(1,.fn 113 [])],[]⟩ _
 unfold cV at h
 refine aC (aA rfl (aE rfl rfl (lb rfl) (sv (d:=.bool false) rfl)) <|aB ?_)
 obtain ⟨x1,hx1,h⟩:=aY h
 obtain ⟨x2,hx2,h⟩:=aR h
 refine aC (aA rfl (mvL rfl rfl rfl rfl) <|aA rfl (aK rfl rfl (lb rfl) (sv (d:=.fn 113 []) rfl)) <|aA rfl (aW (r:=.int _ _) rfl rfl (lb rfl) cl126 (.cons (svL rfl) (.cons (sv (d:=.fn 113 []) rfl) .nil)) rfl (jD _ _ hx1)) <|aA rfl (aP rfl rfl (lb rfl) (svI rfl) (sv (d:=.int _ 0) rfl) rfl hx2) <|aA rfl (asB rfl rfl rfl rfl) <|aB ?_)
 refine aS ?_
 obtain rfl:=Option.some.inj h
 refine ⟨.inr rfl,(.cons (sv rfl) .nil)⟩

theorem rY (a0 : aH) (r : Bool) (h : iS a0 = some r) : cD Tryz.prog 79 [.agg (v1 a0)] (.bool r):=by
 refine bA (rs:=[.bool r]) Tryz.func79 rfl Tryz.ntmps79 (nle rfl) rfl fun O hO=>?_
 show IWP _ _ _ _ ⟨[(0,.agg (v1 a0))],[]⟩ _
 unfold iS at h
 refine aC (aA rfl (bR (cs:=q10) 0 rfl rfl (lb rfl) rfl (svA q10 rfl) rfl rfl) <|aA rfl (aE rfl rfl (lb rfl) (sv (d:=.bool false) rfl)) <|aB ?_)
 refine aC (aA rfl (aE rfl rfl (lb rfl) (sv (d:=.int _ 0) rfl)) <|aA rfl (aE rfl rfl (lb rfl) (sv (d:=.int _ 1099511627776) rfl)) <|aA rfl (aE rfl rfl (lb rfl) (sv (d:=.int _ 255) rfl)) <|aB ?_)
 refine gK (α:=Int × Int × Int) (fun z=>⟨[(1,.ref 0 0),(3,.int .i64 z.1),(4,.int .i64 z.2.1),(5,.int .i64 z.2.2)],[(0,.blk 50 (v1 a0))]⟩) (fun z=>eB a0 z.1 z.2.1 z.2.2 = some r) ?_ ?_
 ·
  refine aC (aA rfl (faR 0 rfl rfl rfl Tryz.underlying50 rfl ti5 (lb rfl) rfl rfl) <|aA rfl (aG (d:=.int _ _) rfl rfl (lb rfl) Tryz.underlying5 ag5 ti5 (by decide) (svR rfl) rfl (nle rfl) rfl) <|aB ?_)
  refine bG ?_
  obtain ⟨x29,hx29,h⟩:=aR h
  refine aC (aA rfl (aP rfl rfl (lb rfl) (svI rfl) (sv (d:=.int _ 8) rfl) rfl hx29) <|aA rfl (asB rfl rfl rfl rfl) <|aB ?_)
  refine aT (b:=_) rfl (fun hc30=>?_) (fun hc30=>?_)
  ·
   replace h:=bT h hc30
   refine bD (aA rfl (aE rfl rfl (lb rfl) (sv (d:=.int _ 1) rfl)) <|bW ?_)
   refine bZ ?_
   refine aN ⟨(1,1099511627776,255),(fun i=>i),⟨(.sames rfl rfl),(.cons (.blk rfl rfl rfl) .nil),bX [0] rfl (by decide),fun _ _=>rfl⟩,?_⟩
   exact h
  ·
   replace h:=bU h hc30
   obtain ⟨x31,hx31,h⟩:=aR h
   refine aC (aA rfl (aP rfl rfl (lb rfl) (svI rfl) (sv (d:=.int _ 10) rfl) rfl hx31) <|aA rfl (asB rfl rfl rfl rfl) <|aB ?_)
   refine aT (b:=_) rfl (fun hc32=>?_) (fun hc32=>?_)
   ·
    replace h:=bT h hc32
    refine bD (aA rfl (aE rfl rfl (lb rfl) (sv (d:=.int _ 3) rfl)) <|aA rfl (aE rfl rfl (lb rfl) (sv (d:=.int _ 1) rfl)) <|bW ?_)
    refine bZ ?_
    refine aN ⟨(0,3,1),(fun i=>i),⟨(.sames rfl rfl),(.cons (.blk rfl rfl rfl) .nil),bX [0] rfl (by decide),fun _ _=>rfl⟩,?_⟩
    exact h
   ·
    replace h:=bU h hc32
    refine gK (α:=Bool) (fun z=>⟨[(1,.ref 0 0),(3,.int .i64 0),(4,.int .i64 1099511627776),(5,.int .i64 255),(13,.bool z)],[(0,.blk 50 (v1 a0))]⟩) (fun z=>fY a0 z = some r) ?_ ?_
    ·
     obtain ⟨x40,hx40,h⟩:=aR h
     refine aC (aA rfl (aP rfl rfl (lb rfl) (svI rfl) (sv (d:=.int _ 1) rfl) rfl hx40) <|aA rfl (asB rfl rfl rfl rfl) <|aB ?_)
     refine aT (b:=_) rfl (fun hc41=>?_) (fun hc41=>?_)
     ·
      replace h:=bT h hc41
      refine aU ?_
      refine aN ⟨x40,(fun i=>i),⟨(.sames rfl rfl),(.cons (.blk rfl rfl rfl) .nil),bX [0] rfl (by decide),fun _ _=>rfl⟩,?_⟩
      exact h
     ·
      replace h:=bU h hc41
      obtain ⟨x42,hx42,h⟩:=aR h
      refine bD (aA rfl (aP rfl rfl (lb rfl) (svI rfl) (sv (d:=.int _ 2) rfl) rfl hx42) <|aA rfl (asB rfl rfl rfl rfl) <|bW ?_)
      refine aN ⟨x42,(fun i=>i),⟨(.sames rfl rfl),(.cons (.blk rfl rfl rfl) .nil),bX [0] rfl (by decide),fun _ _=>rfl⟩,?_⟩
      exact h
    ·
     rintro v36 h
     unfold fY at h
     refine aT (b:=_) rfl (fun hc37=>?_) (fun hc37=>?_)
     ·
      replace h:=bT h hc37
      obtain ⟨x38,hx38,h⟩:=aY h
      refine aC (aA rfl (faR 5 rfl rfl rfl Tryz.underlying50 rfl ti3 (lb rfl) rfl rfl) <|aA rfl (aG (d:=.int _ _) rfl rfl (lb rfl) Tryz.underlying3 ag3 ti3 (by decide) (svR rfl) rfl (nle rfl) rfl) <|aA rfl (aW (r:=.bool _) rfl rfl (lb rfl) aBB (.cons (svI rfl) (.cons (sv (d:=.int _ 1) rfl) (.cons (sv (d:=.int _ 256) rfl) .nil))) rfl (lI _ _ _ _ hx38)) <|aA rfl (dD rfl rfl (lb rfl) (svB rfl)) <|aB ?_)
      refine aT (b:=_) rfl (fun hc39=>?_) (fun hc39=>?_)
      ·
       replace h:=bT h hc39
       refine aC (aA rfl (aE rfl rfl (lb rfl) (sv (d:=.bool false) rfl)) <|aB ?_)
       refine aS ?_
       refine bP ?_
       refine aZ ?_
       obtain rfl:=Option.some.inj h
       refine ⟨.inr rfl,(.cons (sv rfl) .nil)⟩
      ·
       replace h:=bU h hc39
       refine aU ?_
       refine bZ ?_
       refine aN ⟨(0,1099511627776,255),(fun i=>i),⟨(.sames rfl rfl),(.cons (.blk rfl rfl rfl) .nil),bX [0] rfl (by decide),fun _ _=>rfl⟩,?_⟩
       exact h
     ·
      replace h:=bU h hc37
      refine aU ?_
      refine bZ ?_
      refine aN ⟨(0,1099511627776,255),(fun i=>i),⟨(.sames rfl rfl),(.cons (.blk rfl rfl rfl) .nil),bX [0] rfl (by decide),fun _ _=>rfl⟩,?_⟩
      exact h
 ·
  rintro ⟨v15,v16,v17⟩ h
  unfold eB at h
  refine aC (aA rfl (aE rfl rfl (lb rfl) (sv (d:=.fn 113 []) rfl)) <|aB ?_)
  refine aV ?_
  obtain ⟨x18,hx18,h⟩:=aY h
  obtain ⟨x19,hx19,h⟩:=aY h
  obtain ⟨x20,hx20,h⟩:=aR h
  obtain ⟨x21,hx21,h⟩:=aY h
  obtain ⟨x22,hx22,h⟩:=aR h
  refine aC (aA rfl (faR 8 rfl rfl rfl Tryz.underlying50 rfl ti42 (lb rfl) rfl rfl) <|aA rfl (lrL la42 rfl rfl rfl rfl rfl (nle rfl) rfl) <|aA rfl (aK rfl rfl (lb rfl) (sv (d:=.fn 113 []) rfl)) <|aA rfl (aW (r:=.bool _) rfl rfl (lb rfl) cl114 (.cons (svL rfl) (.cons (sv (d:=.fn 113 []) rfl) .nil)) rfl (iO _ _ hx18)) <|aA rfl (mvB rfl rfl rfl rfl) <|aF rfl rfl (.one rfl) rfl (by decide) (fun hb=>(faR 6 rfl rfl rfl Tryz.underlying50 rfl ti3 (lb rfl) rfl rfl)) <|aF rfl rfl (.one rfl) rfl (by decide) (fun hb=>(aG (d:=.int _ _) rfl rfl (lb rfl) Tryz.underlying3 ag3 ti3 (by decide) (svcR rfl hb) rfl (nle rfl) rfl)) <|aF rfl rfl (.one rfl) rfl (by decide) (fun hb=>(mvI rfl rfl rfl rfl)) <|aF rfl rfl (.one rfl) rfl (by decide) (fun hb=>(mvI rfl rfl rfl rfl)) <|aF rfl rfl (.one rfl) rfl (by decide) (fun hb=>(aW (r:=.bool _) rfl rfl (lb rfl) aBB (.cons (svcI rfl hb) (.cons (svcI rfl hb) (.cons (svcI rfl hb) .nil))) rfl (lI _ _ _ _ (gd_t hx19 hb)))) <|aF rfl rfl (.one rfl) rfl (by decide) (fun hb=>(dD rfl rfl (lb rfl) (svcB rfl hb))) <|aA rfl (dM rfl rfl (lb rfl) (svB rfl) rfl rfl hx20) <|aA rfl (mvB rfl rfl rfl rfl) <|aF rfl rfl (.one rfl) rfl (by decide) (fun hb=>(faR 7 rfl rfl rfl Tryz.underlying50 rfl ti3 (lb rfl) rfl rfl)) <|aF rfl rfl (.one rfl) rfl (by decide) (fun hb=>(aG (d:=.int _ _) rfl rfl (lb rfl) Tryz.underlying3 ag3 ti3 (by decide) (svcR rfl hb) rfl (nle rfl) rfl)) <|aF rfl rfl (.one rfl) rfl (by decide) (fun hb=>(mvI rfl rfl rfl rfl)) <|aF rfl rfl (.one rfl) rfl (by decide) (fun hb=>(aW (r:=.bool _) rfl rfl (lb rfl) aBB (.cons (svcI rfl hb) (.cons (sv (d:=.int _ 0) rfl) (.cons (svcI rfl hb) .nil))) rfl (lI _ _ _ _ (gd_t hx21 hb)))) <|aF rfl rfl (.one rfl) rfl (by decide) (fun hb=>(dD rfl rfl (lb rfl) (svcB rfl hb))) <|aA rfl (dM rfl rfl (lb rfl) (svB rfl) rfl rfl hx22) <|aB ?_)
  refine aT (b:=_) rfl (fun hc23=>?_) (fun hc23=>?_)
  ·
   replace h:=bT h hc23
   refine aC (aA rfl (aE rfl rfl (lb rfl) (sv (d:=.bool false) rfl)) <|aB ?_)
   refine aS ?_
   refine aZ ?_
   obtain rfl:=Option.some.inj h
   refine ⟨.inr rfl,(.cons (sv rfl) .nil)⟩
  ·
   replace h:=bU h hc23
   refine aU ?_
   refine aN ?_
   obtain ⟨x24,hx24,h⟩:=aY h
   obtain ⟨x25,hx25,h⟩:=aY h
   obtain ⟨x26,hx26,h⟩:=aR h
   obtain ⟨x27,hx27,h⟩:=aY h
   obtain ⟨x28,hx28,h⟩:=aR h
   refine aC (aA rfl (faR 2 rfl rfl rfl Tryz.underlying50 rfl ti3 (lb rfl) rfl rfl) <|aA rfl (aG (d:=.int _ _) rfl rfl (lb rfl) Tryz.underlying3 ag3 ti3 (by decide) (svR rfl) rfl (nle rfl) rfl) <|aA rfl (aW (r:=.bool _) rfl rfl (lb rfl) aBB (.cons (svI rfl) (.cons (sv (d:=.int _ 0) rfl) (.cons (sv (d:=.int _ 1048576) rfl) .nil))) rfl (lI _ _ _ _ hx24)) <|aA rfl (mvB rfl rfl rfl rfl) <|aF rfl rfl (.one rfl) rfl (by decide) (fun hb=>(faR 4 rfl rfl rfl Tryz.underlying50 rfl ti3 (lb rfl) rfl rfl)) <|aF rfl rfl (.one rfl) rfl (by decide) (fun hb=>(aG (d:=.int _ _) rfl rfl (lb rfl) Tryz.underlying3 ag3 ti3 (by decide) (svcR rfl hb) rfl (nle rfl) rfl)) <|aF rfl rfl (.one rfl) rfl (by decide) (fun hb=>(aW (r:=.bool _) rfl rfl (lb rfl) aBB (.cons (svcI rfl hb) (.cons (sv (d:=.int _ 0) rfl) (.cons (sv (d:=.int _ 1048576) rfl) .nil))) rfl (lI _ _ _ _ (gd_t hx25 hb)))) <|aA rfl (bO rfl rfl (lb rfl) (svB rfl) rfl rfl hx26) <|aA rfl (mvB rfl rfl rfl rfl) <|aF rfl rfl (.one rfl) rfl (by decide) (fun hb=>(faR 3 rfl rfl rfl Tryz.underlying50 rfl ti3 (lb rfl) rfl rfl)) <|aF rfl rfl (.one rfl) rfl (by decide) (fun hb=>(aG (d:=.int _ _) rfl rfl (lb rfl) Tryz.underlying3 ag3 ti3 (by decide) (svcR rfl hb) rfl (nle rfl) rfl)) <|aF rfl rfl (.one rfl) rfl (by decide) (fun hb=>(aW (r:=.bool _) rfl rfl (lb rfl) aBB (.cons (svcI rfl hb) (.cons (sv (d:=.int _ 0) rfl) (.cons (sv (d:=.int _ 1099511627776) rfl) .nil))) rfl (lI _ _ _ _ (gd_t hx27 hb)))) <|aA rfl (bO rfl rfl (lb rfl) (svB rfl) rfl rfl hx28) <|aA rfl (asB rfl rfl rfl rfl) <|aB ?_)
   refine aS ?_
   obtain rfl:=Option.some.inj h
   refine ⟨.inr rfl,(.cons (sv rfl) .nil)⟩
end Go.Proofs.YtfaflcdfgaoehaaGreat
