/-
  A part of the proof: rules and plain facts. No condition.
-/
import Derived.Test.YtnokcmkfkfeaiaaGreatProg
import Derived.KernelRfl
import Derived.Test.YtnokcmkfkfeaiaaGreatIlEq
import Derived.Test.YtnokcmkfkfeaiaaGreatIlA25pD
set_option linter.all false
set_option maxRecDepth 8000
set_option maxHeartbeats 2000000
open Go Go.IL Go.Fn Go.Proofs
open Go.Proofs.Tryz
namespace Go.Proofs.YtnokcmkfkfeaiaaGreat
theorem ti3:TI prog 3 (some (.int .i64 0)) 1 8:=by unfold TI; kernel_rfl
theorem ti4:TI prog 4 (some (.bool false)) 1 1:=by unfold TI; kernel_rfl
theorem ti9:TI prog 9 (some (.string ⟨#[]⟩)) 1 16:=by unfold TI; kernel_rfl
theorem ti33:TI prog 33 (some (.slice none 0 0)) 1 24:=by unfold TI; kernel_rfl
theorem ti35:TI prog 35 (some (.slice none 0 0)) 1 24:=by unfold TI; kernel_rfl
theorem ti37:TI prog 37 (some (.agg #[.int .i64 0,.string ⟨#[]⟩,.int .i64 0,.slice none 0 0,.slice none 0 0,.bool false,.bool false,.bool false,.bool false])) 9 88:=by unfold TI; kernel_rfl
theorem ti38:TI prog 38 (some (.slice none 0 0)) 1 24:=by unfold TI; kernel_rfl
theorem ti40:TI prog 40 (some (.agg #[.int .i64 0,.string ⟨#[]⟩,.slice none 0 0])) 3 48:=by unfold TI; kernel_rfl
theorem ti42:TI prog 42 (some (.agg #[.int .i64 0,.string ⟨#[]⟩,.slice none 0 0,.int .i64 0])) 4 56:=by unfold TI; kernel_rfl
theorem ti44:TI prog 44 (some (.agg #[.int .i64 0,.int .i64 0,.int .i64 0,.int .i64 0])) 4 32:=by unfold TI; kernel_rfl
theorem ti46:TI prog 46 (some (.agg #[.int .i64 0,.int .i64 0,.string ⟨#[]⟩,.int .i64 0,.slice none 0 0,.slice none 0 0,.bool false,.bool false,.bool false,.bool false,.int .i64 0,.string ⟨#[]⟩,.slice none 0 0,.int .i64 0,.int .i64 0,.int .i64 0,.int .i64 0,.int .i64 0,.int .i64 0,.int .i64 0,.int .i64 0,.int .i64 0,.int .i64 0,.int .i64 0])) 24 232:=by unfold TI; kernel_rfl
theorem ti85:TI prog 85 (some (.agg #[.int .u8 0,.string ⟨#[]⟩,.int .i64 0,.int .i64 0,.bool false])) 5 48:=by unfold TI; kernel_rfl
theorem dH:TI prog 105 (some (.agg #[.int .i64 0,.int .i64 0,.int .i64 0,.bool false])) 4 32:=by unfold TI; kernel_rfl
theorem aD3:TI prog 173 (some (.agg #[.int .i64 0,.string ⟨#[]⟩,.slice none 0 0,.int .i64 0])) 4 56:=by unfold TI; kernel_rfl
theorem gS:TI prog 219 (some (.agg #[.int .i64 0,.int .i64 0])) 2 16:=by unfold TI; kernel_rfl
theorem iJ:TI prog 228 (some (.agg #[.int .i64 0,.string ⟨#[]⟩])) 2 24:=by unfold TI; kernel_rfl
theorem ti257:TI prog 257 (some (.agg #[.int .i64 0,.int .i64 0,.int .i64 0,.int .i64 0])) 4 32:=by unfold TI; kernel_rfl
theorem ag3:gH prog 3=false:=by kernel_rfl
theorem ag4:gH prog 4=false:=by kernel_rfl
theorem ag9:gH prog 9=false:=by kernel_rfl
theorem ag33:gH prog 33=false:=by kernel_rfl
theorem ag35:gH prog 35=false:=by kernel_rfl
theorem ag37:gH prog 37=true:=by kernel_rfl
theorem ag38:gH prog 38=false:=by kernel_rfl
theorem ag40:gH prog 40=true:=by kernel_rfl
theorem ag42:gH prog 42=true:=by kernel_rfl
theorem ag44:gH prog 44=true:=by kernel_rfl
theorem ag46:gH prog 46=true:=by kernel_rfl
theorem sG:gH prog 105=true:=by kernel_rfl
theorem ag173:gH prog 173=true:=by kernel_rfl
theorem aA1:gH prog 219=true:=by kernel_rfl
theorem xD:gH prog 228=true:=by kernel_rfl
theorem ex174:aB5 prog 174 (Extern.SlicesOverlaps.overlaps #[33,33] #[4]):=⟨f174,func174,by kernel_rfl,by kernel_rfl,by kernel_rfl,by kernel_rfl⟩
theorem aCz:∀ w,(Array.mapM (m:=Sem) (fun (f:Field)=>Functor.map (Prod.mk f.offset) (sizeOf f.type)) (fieldsOf prog 105)).run prog w = .ok #[(0,1),(1,1),(2,1),(3,1)] w:=fun w=>by kernel_rfl
theorem pl173:∀ w,(Array.mapM (m:=Sem) (fun (f:Field)=>Functor.map (Prod.mk f.offset) (sizeOf f.type)) (fieldsOf prog 173)).run prog w = .ok #[(0,3),(3,1)] w:=fun w=>by kernel_rfl
theorem aFv:∀ w,(Array.mapM (m:=Sem) (fun (f:Field)=>Functor.map (Prod.mk f.offset) (sizeOf f.type)) (fieldsOf prog 219)).run prog w = .ok #[(0,1),(1,1)] w:=fun w=>by kernel_rfl
theorem pl228:∀ w,(Array.mapM (m:=Sem) (fun (f:Field)=>Functor.map (Prod.mk f.offset) (sizeOf f.type)) (fieldsOf prog 228)).run prog w = .ok #[(0,1),(1,1)] w:=fun w=>by kernel_rfl
theorem pl37:∀ w,(Array.mapM (m:=Sem) (fun (f:Field)=>Functor.map (Prod.mk f.offset) (sizeOf f.type)) (fieldsOf prog 37)).run prog w = .ok #[(0,1),(1,1),(2,1),(3,1),(4,1),(5,1),(6,1),(7,1),(8,1)] w:=fun w=>by kernel_rfl
theorem pl40:∀ w,(Array.mapM (m:=Sem) (fun (f:Field)=>Functor.map (Prod.mk f.offset) (sizeOf f.type)) (fieldsOf prog 40)).run prog w = .ok #[(0,1),(1,1),(2,1)] w:=fun w=>by kernel_rfl
theorem pl42:∀ w,(Array.mapM (m:=Sem) (fun (f:Field)=>Functor.map (Prod.mk f.offset) (sizeOf f.type)) (fieldsOf prog 42)).run prog w = .ok #[(0,3),(3,1)] w:=fun w=>by kernel_rfl
theorem pl44:∀ w,(Array.mapM (m:=Sem) (fun (f:Field)=>Functor.map (Prod.mk f.offset) (sizeOf f.type)) (fieldsOf prog 44)).run prog w = .ok #[(0,1),(1,1),(2,1),(3,1)] w:=fun w=>by kernel_rfl
theorem pl46:∀ w,(Array.mapM (m:=Sem) (fun (f:Field)=>Functor.map (Prod.mk f.offset) (sizeOf f.type)) (fieldsOf prog 46)).run prog w = .ok #[(0,1),(1,9),(10,4),(14,4),(18,4),(22,1),(23,1)] w:=fun w=>by kernel_rfl
theorem st219:prog.stoodInHeld 219=false∧prog.eqGuardType prog.depth 219=false:=⟨by kernel_rfl,by kernel_rfl⟩
theorem cl20:aU prog 20:=⟨f20,func20,rfl,rfl⟩
theorem cl39:aU prog 39:=⟨f39,func39,rfl,rfl⟩
theorem cl40:aU prog 40:=⟨f40,func40,rfl,rfl⟩
theorem cl43:aU prog 43:=⟨f43,func43,rfl,rfl⟩
theorem cl44:aU prog 44:=⟨f44,func44,rfl,rfl⟩
theorem cl45:aU prog 45:=⟨f45,func45,rfl,rfl⟩
theorem cl63:aU prog 63:=⟨f63,func63,rfl,rfl⟩
theorem cl64:aU prog 64:=⟨f64,func64,rfl,rfl⟩
theorem cl69:aU prog 69:=⟨f69,func69,rfl,rfl⟩
theorem cl76:aU prog 76:=⟨f76,func76,rfl,rfl⟩
theorem cl82:aU prog 82:=⟨f82,func82,rfl,rfl⟩
theorem cl83:aU prog 83:=⟨f83,func83,rfl,rfl⟩
theorem cl88:aU prog 88:=⟨f88,func88,rfl,rfl⟩
theorem cl95:aU prog 95:=⟨f95,func95,rfl,rfl⟩
theorem cl96:aU prog 96:=⟨f96,func96,rfl,rfl⟩
theorem cl97:aU prog 97:=⟨f97,func97,rfl,rfl⟩
theorem cl100:aU prog 100:=⟨f100,func100,rfl,rfl⟩
theorem aDP:aU prog 117:=⟨f117,func117,rfl,rfl⟩
theorem cl118:aU prog 118:=⟨f118,func118,rfl,rfl⟩
theorem cl125:aU prog 125:=⟨f125,func125,rfl,rfl⟩
theorem cl127:aU prog 127:=⟨f127,func127,rfl,rfl⟩
theorem aFa:aU prog 129:=⟨f129,func129,rfl,rfl⟩
theorem cl130:aU prog 130:=⟨f130,func130,rfl,rfl⟩
theorem aCp:aU prog 131:=⟨f131,func131,rfl,rfl⟩
theorem cl133:aU prog 133:=⟨f133,func133,rfl,rfl⟩
theorem cl134:aU prog 134:=⟨f134,func134,rfl,rfl⟩
theorem aGL:aU prog 135:=⟨f135,func135,rfl,rfl⟩
theorem cl136:aU prog 136:=⟨f136,func136,rfl,rfl⟩
theorem cl137:aU prog 137:=⟨f137,func137,rfl,rfl⟩
theorem cl138:aU prog 138:=⟨f138,func138,rfl,rfl⟩
theorem cl143:aU prog 143:=⟨f143,func143,rfl,rfl⟩
theorem cl144:aU prog 144:=⟨f144,func144,rfl,rfl⟩
theorem cl145:aU prog 145:=⟨f145,func145,rfl,rfl⟩
theorem cl146:aU prog 146:=⟨f146,func146,rfl,rfl⟩
theorem cl147:aU prog 147:=⟨f147,func147,rfl,rfl⟩
theorem cl148:aU prog 148:=⟨f148,func148,rfl,rfl⟩
theorem cl149:aU prog 149:=⟨f149,func149,rfl,rfl⟩
theorem aER:aU prog 150:=⟨f150,func150,rfl,rfl⟩
theorem cl151:aU prog 151:=⟨f151,func151,rfl,rfl⟩
theorem cl160:aU prog 160:=⟨f160,func160,rfl,rfl⟩
theorem cl161:aU prog 161:=⟨f161,func161,rfl,rfl⟩
theorem cl162:aU prog 162:=⟨f162,func162,rfl,rfl⟩
theorem cl167:aU prog 167:=⟨f167,func167,rfl,rfl⟩
theorem cl169:aU prog 169:=⟨f169,func169,rfl,rfl⟩
theorem aGK:aU prog 170:=⟨f170,func170,rfl,rfl⟩
theorem aEQ:aU prog 171:=⟨f171,func171,rfl,rfl⟩
theorem aGJ:aU prog 172:=⟨f172,func172,rfl,rfl⟩
theorem cl173:aU prog 173:=⟨f173,func173,rfl,rfl⟩
theorem cl176:aU prog 176:=⟨f176,func176,rfl,rfl⟩
theorem cl177:aU prog 177:=⟨f177,func177,rfl,rfl⟩
theorem cl183:aU prog 183:=⟨f183,func183,rfl,rfl⟩
theorem cl185:aU prog 185:=⟨f185,func185,rfl,rfl⟩
theorem cl186:aU prog 186:=⟨f186,func186,rfl,rfl⟩
theorem cl187:aU prog 187:=⟨f187,func187,rfl,rfl⟩
theorem cl188:aU prog 188:=⟨f188,func188,rfl,rfl⟩
theorem cl195:aU prog 195:=⟨f195,func195,rfl,rfl⟩
def la33:=LA.mk underlying33 ag33 ti33 (by decide)
def la35:=LA.mk underlying35 ag35 ti35 (by decide)
def la37:=LA.mk underlying37 ag37 ti37 (by decide)
def la38:=LA.mk underlying38 ag38 ti38 (by decide)
def la40:=LA.mk underlying40 ag40 ti40 (by decide)
def la42:=LA.mk underlying42 ag42 ti42 (by decide)
def la44:=LA.mk underlying44 ag44 ti44 (by decide)
def la46:=LA.mk underlying46 ag46 ti46 (by decide)
def yO:=LA.mk underlying105 sG dH (by decide)
def aF4:=LA.mk underlying173 ag173 aD3 (by decide)
def tQ:=LA.mk underlying219 aA1 gS (by decide)
def la228:=LA.mk underlying228 xD iJ (by decide)
abbrev tv0 (x:aH):List D:=[.int .i64 x.ID,.int .i64 x.Send.Base,.str x.Send.Data,.int .i64 x.Send.Next,.slice false (x.Send.Pieces.map aD.d),.slice false (x.Send.Lost.map aE.d),.bool x.Send.Closed,.bool x.Send.Sent,.bool x.Send.Again,.bool x.Send.Done,.int .i64 x.Recv.Recv.Base,.str x.Recv.Recv.Ready,.slice false (x.Recv.Recv.Parts.map aF.d),.int .i64 x.Recv.End,.int .i64 x.Out.Window,.int .i64 x.Out.Limit,.int .i64 x.Out.Used,.int .i64 x.Out.Read,.int .i64 x.In.Window,.int .i64 x.In.Limit,.int .i64 x.In.Used,.int .i64 x.In.Read,.int .i64 x.Mine,.int .i64 x.Hers]
abbrev tv1 (x:aN):List D:=[.int .i64 x.Base,.str x.Data,.int .i64 x.Next,.slice false (x.Pieces.map aD.d),.slice false (x.Lost.map aE.d),.bool x.Closed,.bool x.Sent,.bool x.Again,.bool x.Done]
abbrev tv2 (x:bL):List D:=[.int .i64 x.N,.int .i64 x.Code,.str x.Text,.bool x.End,.int .i64 x.P.From,.int .i64 x.P.To,.int .i64 x.P.Path,.bool x.P.Fin]
abbrev tv3 (x:iC):List D:=[.int .i64 x.State.Base,.str x.State.Ready,.slice false (x.State.Parts.map aF.d),.int .i64 x.end_]
abbrev tv4 (x:bE):List D:=[.int .i64 x.Recv.Base,.str x.Recv.Ready,.slice false (x.Recv.Parts.map aF.d),.int .i64 x.End]
abbrev tv5 (x:aW):List D:=[.int .i64 x.Base,.str x.Ready,.slice false (x.Parts.map aF.d)]
abbrev tv6 (x:aY):List D:=[.int .i64 x.Window,.int .i64 x.Limit,.int .i64 x.Used,.int .i64 x.Read]
abbrev tv7 (x:dC):List D:=[.int .u8 x.Kind,.str x.Text,.int .i64 x.N,.int .i64 x.M,.bool x.Flag]
abbrev tv8 (x:aI):List D:=[.int .i64 x.From,.int .i64 x.To,.int .i64 x.Path,.bool x.Fin]
abbrev tv9 (x:tW):List D:=[.int .i64 x.c0,.int .i64 x.c1,.int .i64 x.c2]
abbrev q10 {a1:IntKind} {a2:Int} {a3:IntKind} {a4:Int} {a5:List UInt8} {a6:IntKind} {a7:Int} {a8:Bool} {a9:List D} {a10:Bool} {a11:List D} {a12:Bool} {a13:Bool} {a14:Bool} {a15:Bool} {a16:IntKind} {a17:Int} {a18:List UInt8} {a19:Bool} {a20:List D} {a21:IntKind} {a22:Int} {a23:IntKind} {a24:Int} {a25:IntKind} {a26:Int} {a27:IntKind} {a28:Int} {a29:IntKind} {a30:Int} {a31:IntKind} {a32:Int} {a33:IntKind} {a34:Int} {a35:IntKind} {a36:Int} {a37:IntKind} {a38:Int} {a39:IntKind} {a40:Int} {a41:IntKind} {a42:Int}:List D:=[.int a1 a2,.int a3 a4,.str a5,.int a6 a7,.slice a8 a9,.slice a10 a11,.bool a12,.bool a13,.bool a14,.bool a15,.int a16 a17,.str a18,.slice a19 a20,.int a21 a22,.int a23 a24,.int a25 a26,.int a27 a28,.int a29 a30,.int a31 a32,.int a33 a34,.int a35 a36,.int a37 a38,.int a39 a40,.int a41 a42]
abbrev q11 {a1:IntKind} {a2:Int} {a3:IntKind} {a4:Int} {a5:List UInt8} {a6:IntKind} {a7:Int} {a8:Bool} {a9:Bool} {a10:Bool} {a11:Bool} {a12:IntKind} {a13:Int} {a14:List UInt8} {a15:IntKind} {a16:Int} {a17:IntKind} {a18:Int} {a19:IntKind} {a20:Int} {a21:IntKind} {a22:Int} {a23:IntKind} {a24:Int} {a25:IntKind} {a26:Int} {a27:IntKind} {a28:Int} {a29:IntKind} {a30:Int} {a31:IntKind} {a32:Int} {a33:IntKind} {a34:Int} {a35:IntKind} {a36:Int}:List D:=[.int a1 a2,.int a3 a4,.str a5,.int a6 a7,.nils,.nils,.bool a8,.bool a9,.bool a10,.bool a11,.int a12 a13,.str a14,.nils,.int a15 a16,.int a17 a18,.int a19 a20,.int a21 a22,.int a23 a24,.int a25 a26,.int a27 a28,.int a29 a30,.int a31 a32,.int a33 a34,.int a35 a36]
abbrev q12 {a1:IntKind} {a2:Int} {a3:List UInt8} {a4:IntKind} {a5:Int} {a6:Bool} {a7:List D} {a8:Bool} {a9:List D} {a10:Bool} {a11:Bool} {a12:Bool} {a13:Bool}:List D:=[.int a1 a2,.str a3,.int a4 a5,.slice a6 a7,.slice a8 a9,.bool a10,.bool a11,.bool a12,.bool a13]
abbrev q13 {a1:IntKind} {a2:Int} {a3:List UInt8} {a4:IntKind} {a5:Int} {a6:Nat} {a7:Nat} {a8:Nat} {a9:Bool} {a10:List D} {a11:Bool} {a12:Bool} {a13:Bool} {a14:Bool}:List D:=[.int a1 a2,.str a3,.int a4 a5,.osl a6 a7 a8,.slice a9 a10,.bool a11,.bool a12,.bool a13,.bool a14]
abbrev q14 {a1:IntKind} {a2:Int} {a3:List UInt8} {a4:IntKind} {a5:Int} {a6:Bool} {a7:List D} {a8:Bool} {a9:Bool} {a10:Bool} {a11:Bool}:List D:=[.int a1 a2,.str a3,.int a4 a5,.nils,.slice a6 a7,.bool a8,.bool a9,.bool a10,.bool a11]
abbrev q15 {a1:IntKind} {a2:Int} {a3:List UInt8} {a4:IntKind} {a5:Int} {a6:Bool} {a7:Bool} {a8:Bool} {a9:Bool}:List D:=[.int a1 a2,.str a3,.int a4 a5,.nils,.nils,.bool a6,.bool a7,.bool a8,.bool a9]
abbrev q16 {a1:IntKind} {a2:Int} {a3:IntKind} {a4:Int} {a5:List UInt8} {a6:Bool} {a7:IntKind} {a8:Int} {a9:IntKind} {a10:Int} {a11:IntKind} {a12:Int} {a13:Bool}:List D:=[.int a1 a2,.int a3 a4,.str a5,.bool a6,.int a7 a8,.int a9 a10,.int a11 a12,.bool a13]
abbrev q17 {a1:IntKind} {a2:Int} {a3:List UInt8} {a4:IntKind} {a5:Int} {a6:IntKind} {a7:Int} {a8:Bool}:List D:=[.int a1 a2,.str a3,.int a4 a5,.int a6 a7,.bool a8]
abbrev q18 {a1:IntKind} {a2:Int} {a3:IntKind} {a4:Int} {a5:IntKind} {a6:Int} {a7:IntKind} {a8:Int}:List D:=[.int a1 a2,.int a3 a4,.int a5 a6,.int a7 a8]
abbrev q19 {a1:IntKind} {a2:Int} {a3:List UInt8} {a4:Bool} {a5:List D} {a6:IntKind} {a7:Int}:List D:=[.int a1 a2,.str a3,.slice a4 a5,.int a6 a7]
abbrev q20 {a1:IntKind} {a2:Int} {a3:IntKind} {a4:Int} {a5:IntKind} {a6:Int} {a7:Bool}:List D:=[.int a1 a2,.int a3 a4,.int a5 a6,.bool a7]
abbrev q21 {a1:IntKind} {a2:Int} {a3:List UInt8} {a4:IntKind} {a5:Int}:List D:=[.int a1 a2,.str a3,.nils,.int a4 a5]
abbrev q22 {a1:IntKind} {a2:Int} {a3:List UInt8} {a4:Bool} {a5:List D}:List D:=[.int a1 a2,.str a3,.slice a4 a5]
abbrev q23 {a1:IntKind} {a2:Int} {a3:List UInt8} {a4:Nat} {a5:Nat} {a6:Nat}:List D:=[.int a1 a2,.str a3,.osl a4 a5 a6]
abbrev q24 {a1:IntKind} {a2:Int} {a3:List UInt8}:List D:=[.int a1 a2,.str a3,.nils]
abbrev q25 {a1:IntKind} {a2:Int} {a3:IntKind} {a4:Int}:List D:=[.int a1 a2,.int a3 a4]
abbrev q26 {a1:Nat} {a2:Nat} {a3:Nat} {a4:Nat}:List D:=[.ref a1 a2,.ref a3 a4]
abbrev q27 {a1:IntKind} {a2:Int} {a3:List UInt8}:List D:=[.int a1 a2,.str a3]
abbrev q28 {a1:IntKind} {a2:Int} {a3:List UInt8} {a4:IntKind} {a5:Int} {a6:Bool} {a7:List D} {a8:Bool} {a9:List D} {a10:Bool} {a11:Bool} {a12:Bool} {a13:Bool} {a14:IntKind} {a15:Int} {a16:IntKind} {a17:Int} {a18:IntKind} {a19:Int} {a20:Bool} {a21:List UInt8} {a22:Bool}:List D:=[.agg [.int a1 a2,.str a3,.int a4 a5,.slice a6 a7,.slice a8 a9,.bool a10,.bool a11,.bool a12,.bool a13],.agg [.int a14 a15,.int a16 a17,.int a18 a19,.bool a20],.str a21,.bool a22]
abbrev q29 {a1:IntKind} {a2:Int} {a3:IntKind} {a4:Int} {a5:List UInt8} {a6:IntKind} {a7:Int} {a8:Bool} {a9:List D} {a10:Bool} {a11:List D} {a12:Bool} {a13:Bool} {a14:Bool} {a15:Bool} {a16:IntKind} {a17:Int} {a18:List UInt8} {a19:Bool} {a20:List D} {a21:IntKind} {a22:Int} {a23:IntKind} {a24:Int} {a25:IntKind} {a26:Int} {a27:IntKind} {a28:Int} {a29:IntKind} {a30:Int} {a31:IntKind} {a32:Int} {a33:IntKind} {a34:Int} {a35:IntKind} {a36:Int} {a37:IntKind} {a38:Int} {a39:IntKind} {a40:Int} {a41:IntKind} {a42:Int} {a43:IntKind} {a44:Int} {a45:IntKind} {a46:Int} {a47:IntKind} {a48:Int} {a49:Bool} {a50:List UInt8} {a51:Bool}:List D:=[.agg [.int a1 a2,.int a3 a4,.str a5,.int a6 a7,.slice a8 a9,.slice a10 a11,.bool a12,.bool a13,.bool a14,.bool a15,.int a16 a17,.str a18,.slice a19 a20,.int a21 a22,.int a23 a24,.int a25 a26,.int a27 a28,.int a29 a30,.int a31 a32,.int a33 a34,.int a35 a36,.int a37 a38,.int a39 a40,.int a41 a42],.agg [.int a43 a44,.int a45 a46,.int a47 a48,.bool a49],.str a50,.bool a51]
abbrev q30 {a1:IntKind} {a2:Int} {a3:IntKind} {a4:Int} {a5:List UInt8} {a6:IntKind} {a7:Int} {a8:Bool} {a9:List D} {a10:Bool} {a11:List D} {a12:Bool} {a13:Bool} {a14:Bool} {a15:Bool} {a16:IntKind} {a17:Int} {a18:List UInt8} {a19:Bool} {a20:List D} {a21:IntKind} {a22:Int} {a23:IntKind} {a24:Int} {a25:IntKind} {a26:Int} {a27:IntKind} {a28:Int} {a29:IntKind} {a30:Int} {a31:IntKind} {a32:Int} {a33:IntKind} {a34:Int} {a35:IntKind} {a36:Int} {a37:IntKind} {a38:Int} {a39:IntKind} {a40:Int} {a41:IntKind} {a42:Int} {a43:List UInt8} {a44:Bool} {a45:IntKind} {a46:Int}:List D:=[.agg [.int a1 a2,.int a3 a4,.str a5,.int a6 a7,.slice a8 a9,.slice a10 a11,.bool a12,.bool a13,.bool a14,.bool a15,.int a16 a17,.str a18,.slice a19 a20,.int a21 a22,.int a23 a24,.int a25 a26,.int a27 a28,.int a29 a30,.int a31 a32,.int a33 a34,.int a35 a36,.int a37 a38,.int a39 a40,.int a41 a42],.str a43,.bool a44,.int a45 a46]
abbrev q31 {a1:IntKind} {a2:Int} {a3:List UInt8} {a4:Bool} {a5:List D} {a6:IntKind} {a7:Int} {a8:IntKind} {a9:Int} {a10:IntKind} {a11:Int}:List D:=[.agg [.int a1 a2,.str a3,.slice a4 a5,.int a6 a7],.int a8 a9,.int a10 a11]
abbrev q32 {a1:IntKind} {a2:Int} {a3:IntKind} {a4:Int} {a5:List UInt8} {a6:IntKind} {a7:Int} {a8:Bool} {a9:List D} {a10:Bool} {a11:List D} {a12:Bool} {a13:Bool} {a14:Bool} {a15:Bool} {a16:IntKind} {a17:Int} {a18:List UInt8} {a19:Bool} {a20:List D} {a21:IntKind} {a22:Int} {a23:IntKind} {a24:Int} {a25:IntKind} {a26:Int} {a27:IntKind} {a28:Int} {a29:IntKind} {a30:Int} {a31:IntKind} {a32:Int} {a33:IntKind} {a34:Int} {a35:IntKind} {a36:Int} {a37:IntKind} {a38:Int} {a39:IntKind} {a40:Int} {a41:IntKind} {a42:Int} {a43:IntKind} {a44:Int} {a45:IntKind} {a46:Int}:List D:=[.agg [.int a1 a2,.int a3 a4,.str a5,.int a6 a7,.slice a8 a9,.slice a10 a11,.bool a12,.bool a13,.bool a14,.bool a15,.int a16 a17,.str a18,.slice a19 a20,.int a21 a22,.int a23 a24,.int a25 a26,.int a27 a28,.int a29 a30,.int a31 a32,.int a33 a34,.int a35 a36,.int a37 a38,.int a39 a40,.int a41 a42],.int a43 a44,.int a45 a46]
abbrev q33 {a1:IntKind} {a2:Int} {a3:IntKind} {a4:Int} {a5:IntKind} {a6:Int} {a7:IntKind} {a8:Int} {a9:IntKind} {a10:Int} {a11:Bool}:List D:=[.agg [.int a1 a2,.int a3 a4,.int a5 a6,.int a7 a8],.int a9 a10,.bool a11]
abbrev q34 {a1:IntKind} {a2:Int} {a3:List UInt8} {a4:Bool} {a5:List D} {a6:IntKind} {a7:Int} {a8:List UInt8} {a9:Bool}:List D:=[.agg [.int a1 a2,.str a3,.slice a4 a5,.int a6 a7],.str a8,.bool a9]
abbrev q35 {a1:IntKind} {a2:Int} {a3:IntKind} {a4:Int} {a5:IntKind} {a6:Int} {a7:IntKind} {a8:Int} {a9:IntKind} {a10:Int}:List D:=[.agg [.int a1 a2,.int a3 a4,.int a5 a6,.int a7 a8],.int a9 a10]
abbrev q36 {a1:IntKind} {a2:Int} {a3:List UInt8} {a4:IntKind} {a5:Int} {a6:Bool} {a7:List D} {a8:Bool} {a9:List D} {a10:Bool} {a11:Bool} {a12:Bool} {a13:Bool} {a14:IntKind} {a15:Int}:List D:=[.agg [.int a1 a2,.str a3,.int a4 a5,.slice a6 a7,.slice a8 a9,.bool a10,.bool a11,.bool a12,.bool a13],.int a14 a15]
abbrev q37 {a1:IntKind} {a2:Int} {a3:List UInt8} {a4:Bool} {a5:List D} {a6:IntKind} {a7:Int}:List D:=[.agg [.int a1 a2,.str a3,.slice a4 a5],.int a6 a7]
abbrev q38 {a1:IntKind} {a2:Int} {a3:IntKind} {a4:Int} {a5:List UInt8} {a6:IntKind} {a7:Int} {a8:Bool} {a9:List D} {a10:Bool} {a11:List D} {a12:Bool} {a13:Bool} {a14:Bool} {a15:Bool} {a16:IntKind} {a17:Int} {a18:List UInt8} {a19:Bool} {a20:List D} {a21:IntKind} {a22:Int} {a23:IntKind} {a24:Int} {a25:IntKind} {a26:Int} {a27:IntKind} {a28:Int} {a29:IntKind} {a30:Int} {a31:IntKind} {a32:Int} {a33:IntKind} {a34:Int} {a35:IntKind} {a36:Int} {a37:IntKind} {a38:Int} {a39:IntKind} {a40:Int} {a41:IntKind} {a42:Int} {a43:IntKind} {a44:Int}:List D:=[.agg [.int a1 a2,.int a3 a4,.str a5,.int a6 a7,.slice a8 a9,.slice a10 a11,.bool a12,.bool a13,.bool a14,.bool a15,.int a16 a17,.str a18,.slice a19 a20,.int a21 a22,.int a23 a24,.int a25 a26,.int a27 a28,.int a29 a30,.int a31 a32,.int a33 a34,.int a35 a36,.int a37 a38,.int a39 a40,.int a41 a42],.int a43 a44]
abbrev q39 {a1:IntKind} {a2:Int} {a3:IntKind} {a4:Int} {a5:List UInt8} {a6:IntKind} {a7:Int} {a8:Bool} {a9:List D} {a10:Bool} {a11:List D} {a12:Bool} {a13:Bool} {a14:Bool} {a15:Bool} {a16:IntKind} {a17:Int} {a18:List UInt8} {a19:Bool} {a20:List D} {a21:IntKind} {a22:Int} {a23:IntKind} {a24:Int} {a25:IntKind} {a26:Int} {a27:IntKind} {a28:Int} {a29:IntKind} {a30:Int} {a31:IntKind} {a32:Int} {a33:IntKind} {a34:Int} {a35:IntKind} {a36:Int} {a37:IntKind} {a38:Int} {a39:IntKind} {a40:Int} {a41:IntKind} {a42:Int} {a43:IntKind} {a44:Int} {a45:IntKind} {a46:Int} {a47:List UInt8} {a48:Bool} {a49:IntKind} {a50:Int} {a51:IntKind} {a52:Int} {a53:IntKind} {a54:Int} {a55:Bool}:List D:=[.agg [.int a1 a2,.int a3 a4,.str a5,.int a6 a7,.slice a8 a9,.slice a10 a11,.bool a12,.bool a13,.bool a14,.bool a15,.int a16 a17,.str a18,.slice a19 a20,.int a21 a22,.int a23 a24,.int a25 a26,.int a27 a28,.int a29 a30,.int a31 a32,.int a33 a34,.int a35 a36,.int a37 a38,.int a39 a40,.int a41 a42],.agg [.int a43 a44,.int a45 a46,.str a47,.bool a48,.int a49 a50,.int a51 a52,.int a53 a54,.bool a55]]
abbrev q40 {a1:IntKind} {a2:Int} {a3:IntKind} {a4:Int} {a5:IntKind} {a6:Int} {a7:Bool} {a8:Bool}:List D:=[.agg [.int a1 a2,.int a3 a4,.int a5 a6,.bool a7],.bool a8]
abbrev q41 {a1:IntKind} {a2:Int} {a3:IntKind} {a4:Int} {a5:IntKind} {a6:Int} {a7:IntKind} {a8:Int} {a9:Bool}:List D:=[.agg [.int a1 a2,.int a3 a4,.int a5 a6,.int a7 a8],.bool a9]
abbrev q42 {a1:IntKind} {a2:Int} {a3:List UInt8} {a4:Bool} {a5:List D} {a6:List UInt8}:List D:=[.agg [.int a1 a2,.str a3,.slice a4 a5],.str a6]
abbrev w43 (a0:Int) (a1:Int) (a2:List UInt8) (a3:Int) (a4:List aI) (a5:List aG) (a6:Bool) (a7:Bool) (a8:Bool) (a9:Bool) (a10:Int) (a11:List UInt8) (a12:List aS) (a13:Int) (a14:Int) (a15:Int) (a16:Int) (a17:Int) (a18:Int) (a19:Int) (a20:Int) (a21:Int) (a22:Int) (a23:Int):List D:=[.int .i64 a0,.int .i64 a1,.str a2,.int .i64 a3,.slice false (a4.map aD.d),.slice false (a5.map aE.d),.bool a6,.bool a7,.bool a8,.bool a9,.int .i64 a10,.str a11,.slice false (a12.map aF.d),.int .i64 a13,.int .i64 a14,.int .i64 a15,.int .i64 a16,.int .i64 a17,.int .i64 a18,.int .i64 a19,.int .i64 a20,.int .i64 a21,.int .i64 a22,.int .i64 a23]
abbrev w44 (a0:Int) (a1:List UInt8) (a2:Int) (a3:List aI) (a4:List aG) (a5:Bool) (a6:Bool) (a7:Bool) (a8:Bool):List D:=[.int .i64 a0,.str a1,.int .i64 a2,.slice false (a3.map aD.d),.slice false (a4.map aE.d),.bool a5,.bool a6,.bool a7,.bool a8]
abbrev w45 (a0:Int) (a1:List UInt8) (a2:Int) (a3:D) (a4:List aG) (a5:Bool) (a6:Bool) (a7:Bool) (a8:Bool):List D:=[.int .i64 a0,.str a1,.int .i64 a2,a3,.slice false (a4.map aE.d),.bool a5,.bool a6,.bool a7,.bool a8]
abbrev w46 (a0:Int) (a1:Int) (a2:List UInt8) (a3:Bool) (a4:Int) (a5:Int) (a6:Int) (a7:Bool):List D:=[.int .i64 a0,.int .i64 a1,.str a2,.bool a3,.int .i64 a4,.int .i64 a5,.int .i64 a6,.bool a7]
abbrev w47 (a0:Int) (a1:List UInt8) (a2:List aS) (a3:Int):List D:=[.int .i64 a0,.str a1,.slice false (a2.map aF.d),.int .i64 a3]
abbrev w48 (a0:Int) (a1:Int) (a2:Int) (a3:Int):List D:=[.int .i64 a0,.int .i64 a1,.int .i64 a2,.int .i64 a3]
abbrev w49 (a0:Int) (a1:Int) (a2:Int) (a3:Bool):List D:=[.int .i64 a0,.int .i64 a1,.int .i64 a2,.bool a3]
abbrev zs0:List D:=w44 0 [] 0 ([]:List aI) ([]:List aG) false false false false
abbrev zs1:List D:=w47 0 [] ([]:List aS) 0
abbrev zs2:List D:=w43 0 0 [] 0 ([]:List aI) ([]:List aG) false false false false 0 [] ([]:List aS) 0 0 0 0 0 0 0 0 0 0 0
abbrev zs3:List D:=w46 0 0 [] false 0 0 0 false
def un3:=@underlying3
def un4:=@underlying4
def un9:=@underlying9
def un33:=@underlying33
def un35:=@underlying35
def un37:=@underlying37
def un38:=@underlying38
def un40:=@underlying40
def un42:=@underlying42
def un44:=@underlying44
def un46:=@underlying46
def un56:=@underlying56
def un57:=@underlying57
def un62:=@underlying62
def un63:=@underlying63
def un65:=@underlying65
def un66:=@underlying66
def un68:=@underlying68
def un70:=@underlying70
def un71:=@underlying71
def un73:=@underlying73
def un79:=@underlying79
def un81:=@underlying81
def un85:=@underlying85
def fL:=@underlying105
def pO:=@underlying144
def aA2:=@underlying173
def nO:=@underlying204
def pB:=@underlying208
def lT:=@underlying219
def jK:=@underlying228


theorem zN (a0:(List dC)) (a1:Int) (r:Int) (h:nD a0 a1=some r):bJ prog 13 [.slice false (a0.map cQ.d),.int .i64 a1] (.int .i64 r):=by
 refine aQ (rs:=[.int .i64 r]) func13 M ntmps13 (nle M) M fun O hO=>?_
 show IWP _ _ _ _ ⟨[(0,.slice false (a0.map cQ.d)),(1,.int .i64 a1)],[]⟩ _
 unfold nD at h;refine aC (cAs (.int _ 0) M<|aB ?_);refine aP ?_;obtain ⟨x1,hx1,h⟩:=bF h;refine aC (aA M (mvL M M M M)<|aA M (bY cQ (l:=a0) M M (lb M) un57 (svL M))<|cI M<|cCm M hx1<|aB ?_);refine aK h M (fun h=>?_) (fun h=>?_)
 ·
  refine aC (cAs (.int _ 1) M<|aB ?_);refine aM<|aT ?_;obtain rfl:=sj_ h;refine ⟨.inr M,(.cons (sv M) .nil)⟩
 ·
  refine aO<|aJ<|aP<|aC (cAs (.int _ 0) M<|aB ?_);refine bD<|cK (α:=Nat×Int) (fun z=>⟨[(0,.slice false (a0.map cQ.d)),(5,.int .i64 z.2)],[]⟩) (fun z=>fQ a0 z.1 z.2=some r) (fun z=>z.1) (fuel,0) (fun i=>i) ⟨(.sames M M),.nil,bX [] M (by decide),fun _ _=>M⟩ ?_ ?_
  ·exact h
  ·
   rintro ⟨n0,v9⟩ h
   cases n0 with
   | zero=>exact absurd h (by unfold fQ; exact nofun)
   | succ n0 =>
    unfold fQ at h;refine aP ?_;obtain ⟨x16,hx16,h⟩:=bF h;refine aC (cI M<|aA M (mvL M M M M)<|aA M (bY cQ (l:=a0) M M (lb M) un57 (svL M))<|cCm M hx16<|aB ?_);refine aK h M (fun h=>?_) (fun h=>?_)
    ·
     refine aO<|aJ<|aP<|bD ?_;obtain ⟨x18,hx18,x19,hx19,h⟩:=eod h;refine aC (aA M (mvL M M M M)<|cI M<|aA M (bQ cQ (cs:=q17) M M (lb M) un57 ti85 (svL M) (svI M) hx18 M M)<|aA M (bG (cs':=[.str _]) M M (lb M) un85 M ti9 (by decide) (sv (d:=.fptr q17) M) M)<|aA M (bU M M (lb M) un9 ag9 ti9 (by decide) (sv (d:=.fptr [.str _]) M) (nle M))<|aA M (cF M M (lb M) un9 (sv (d:=.str _) M) M)<|cCm (b:=200) M hx19<|aB ?_);refine aK h M (fun h=>?_) (fun h=>?_)
     ·
      refine aC (cAs (.int _ 1) M<|aB ?_);refine aM<|bM<|aT<|aT<|bM<|aT ?_;obtain rfl:=sj_ h;refine ⟨.inr M,(.cons (sv M) .nil)⟩
     ·
      refine aO<|bW<|aJ ?_;obtain ⟨x21,hx21,h⟩:=bF h;refine aZ (cI M<|aA M (aX M M (lb M) (svI M) (sv (d:=.int _ 1) M) M hx21)<|cAI M<|bN ?_);refine aJ ⟨(n0,x21),(fun i=>i),⟨(.sames M M),.nil,bX [] M (by decide),fun _ _=>M⟩,?_,?_⟩;exact h;exact Nat.lt_succ_self _
    ·
     refine cR<|bP<|bP<|cS<|aJ<|aC (cAs (.int _ 0) M<|aB ?_);refine aM ?_;obtain rfl:=sj_ h;refine ⟨.inr M,(.cons (sv M) .nil)⟩

theorem kP (a0:aY) (r:Int) (h:gF a0=some r):bJ prog 95 [.agg (tv6 a0)] (.int .i64 r):=by
 refine aQ (rs:=[.int .i64 r]) func95 M ntmps95 (nle M) M fun O hO=>?_
 show IWP _ _ _ _ ⟨[(0,.agg (tv6 a0))],[]⟩ _
 unfold gF at h;refine aC (cBx (cs:=q18) q18 0 M<|cAs (.int _ 0) M<|aB ?_);obtain ⟨x1,hx1,x2,hx2,x3,hx3,h⟩:=eddd h;obtain ⟨x4,hx4,x5,hx5,x6,hx6,h⟩:=eddd h;obtain ⟨x7,hx7,h⟩:=bF h;refine aC (cFa 3 un44 M ti3 M<|cLd (d:=.int _ _) un3 ag3 ti3 M<|aA M (cU M M (lb M) (sv (d:=.int _ 0) M) (svI M) M hx1)<|cB M<|gG M (fun hb=>(tFa 3 un44 M ti3 M))<|gG M (fun hb=>(tLc (d:=.int _ _) un3 ag3 ti3 M hb))<|gG M (fun hb=>(tFa 2 un44 M ti3 M))<|gG M (fun hb=>(tLc (d:=.int _ _) un3 ag3 ti3 M hb))<|gG M (fun hb=>(tCh M hb hx2))<|cAn M hx3<|cB M<|gG M (fun hb=>(tFa 2 un44 M ti3 M))<|gG M (fun hb=>(tLc (d:=.int _ _) un3 ag3 ti3 M hb))<|gG M (fun hb=>(tFa 1 un44 M ti3 M))<|gG M (fun hb=>(tLc (d:=.int _ _) un3 ag3 ti3 M hb))<|gG M (fun hb=>(tCh M hb hx4))<|cAn M hx5<|cB M<|gG M (fun hb=>(tFa 1 un44 M ti3 M))<|gG M (fun hb=>(tLc (d:=.int _ _) un3 ag3 ti3 M hb))<|gG M (fun hb=>(tCg (b:=1099511627776) M hb hx6))<|cAn M hx7<|cAB M<|aB ?_);refine aP ?_;obtain ⟨x8,hx8,x9,hx9,x10,hx10,h⟩:=eddd h;obtain ⟨x11,hx11,h⟩:=bF h;refine aC (cB M<|aA M (cV M M (lb M) (svB M))<|cB M<|gG M (fun hb=>(tFa 0 un44 M ti3 M))<|gG M (fun hb=>(tLc (d:=.int _ _) un3 ag3 ti3 M hb))<|gG M (fun hb=>(tCg (b:=1) M hb hx8))<|cOr M hx9<|cB M<|gG M (fun hb=>(tFa 0 un44 M ti3 M))<|gG M (fun hb=>(tLc (d:=.int _ _) un3 ag3 ti3 M hb))<|gG M (fun hb=>(tCg (b:=1048576) M hb hx10))<|cOr M hx11<|aB ?_);refine aK h M (fun h=>?_) (fun h=>?_)
 ·
  refine aC (cAs (.int _ 8) M<|aB ?_);refine aM<|aT ?_;obtain rfl:=sj_ h;refine ⟨.inr M,(.cons (sv M) .nil)⟩
 ·
  refine aO<|aJ<|aC (cAs (.int _ 0) M<|aB ?_);refine aM ?_;obtain rfl:=sj_ h;refine ⟨.inr M,(.cons (sv M) .nil)⟩

theorem aAF (a0:Int) (r:(aY×Int)) (h:qY a0=some r):bJ prog 43 [.int .i64 a0] (retD [.agg (tv6 r.1),.int .i64 r.2]):=by
 refine aQ (rs:=[.agg (tv6 r.1),.int .i64 r.2]) func43 M ntmps43 (nle M) M fun O hO=>?_
 show IWP _ _ _ _ ⟨[(0,.int .i64 a0)],[]⟩ _
 unfold qY at h;refine aC (aA M (aR (cs:=q18) (cs':=(w48 0 0 0 0)) 0 M M (lb M) M ti44 M M (.all _))<|cAs (.int _ 0) M<|aB ?_);refine aC (cI M<|cI M<|aA M (bA (cs:=q18) M M (lb M) un44 ti44 pl44 M (.cons (svI M) (.cons (svI M) .nil)) M)<|aA M (aR (cs:=q18) (cs':=(w48 0 0 0 0)) 1 M M (lb M) M ti44 M M (.all _))<|cSt q18 q18 ti44 M<|aB ?_);refine aP ?_;obtain ⟨x1,hx1,h⟩:=bR h;refine aC (cLr q18 la44 M<|aA M (aL (r:=.int _ _) M M (lb M) cl95 (.cons (svA q18 M) .nil) M (kP _ _ hx1))<|cAI M<|aB ?_);obtain ⟨x2,hx2,h⟩:=bF h;refine aC (cI M<|cCm (b:=0) M hx2<|aB ?_);refine aK h M (fun h=>?_) (fun h=>?_)
 ·
  refine aC (aA M (bA (cs:=q18) M M (lb M) un44 ti44 pl44 M .nil M)<|cI M<|cSt q18 q18 ti44 M<|cAI M<|aB ?_);refine aM<|aT ?_;obtain rfl:=sj_ h;refine ⟨.inr M,(.cons (rva la44 M M (nle M) M) (.cons (sv M) .nil))⟩
 ·
  refine aO<|aJ<|aC (cLr q18 la44 M<|cSt q18 q18 ti44 M<|cAs (.int _ 0) M<|aB ?_);refine aM ?_;obtain rfl:=sj_ h;refine ⟨.inr M,(.cons (rva la44 M M (nle M) M) (.cons (sv M) .nil))⟩

theorem aEC  (r:aN) (h:aBc=some r):bJ prog 44 [] (.agg (tv1 r)):=by
 refine aQ (rs:=[.agg (tv1 r)]) func44 M ntmps44 (nle M) M fun O hO=>?_
 show IWP _ _ _ _ ⟨[],[]⟩ _
 unfold aBc at h;refine aC (aA M (aR (cs:=q15) (cs':=zs0) 0 M M (lb M) M ti37 M M (.k (.k (.k (.cons (.nils _) (.cons (.nils _) (.all _)))))))<|aB ?_);refine aC (aA M (zT (d':=.agg zs0) (bA (cs:=q15) M M (lb M) un37 ti37 pl37 M .nil M) (.agg (.k (.k (.k (.cons (.nils _) (.cons (.nils _) (.all _))))))))<|aA M (bK (ds':=[.int _ _,.str _,.int _ _,.slice false (([]:List aI).map aD.d),.slice false (([]:List aG).map aE.d),.bool _,.bool _,.bool _,.bool _]) M M ti37 (svR M) M (svA q12 M) M M M (nle M) M)<|aB ?_);refine aM ?_;obtain rfl:=sj_ h;refine ⟨.inr M,(.cons (rva la37 M M (nle M) M) .nil)⟩

theorem aC9  (r:aW) (h:aAe=some r):bJ prog 100 [] (.agg (tv5 r)):=by
 refine aQ (rs:=[.agg (tv5 r)]) func100 M ntmps100 (nle M) M fun O hO=>?_
 show IWP _ _ _ _ ⟨[],[]⟩ _
 unfold aAe at h;refine aC (aA M (aR (cs:=q24) (cs':=[.int .i64 0,.str [],.slice false (([]:List aS).map aF.d)]) 0 M M (lb M) M ti40 M M (.k (.k (.cons (.nils _) .nil))))<|aB ?_);refine aC (aA M (zT (d':=.agg [.int .i64 0,.str [],.slice false (([]:List aS).map aF.d)]) (bA (cs:=q24) M M (lb M) un40 ti40 pl40 M .nil M) (.agg (.k (.k (.cons (.nils _) .nil)))))<|aA M (bK (ds':=[.int _ _,.str _,.slice false (([]:List aS).map aF.d)]) M M ti40 (svR M) M (svA q22 M) M M M (nle M) M)<|aB ?_);refine aM ?_;obtain rfl:=sj_ h;refine ⟨.inr M,(.cons (rva la40 M M (nle M) M) .nil)⟩

theorem aEE  (r:bE) (h:aBf=some r):bJ prog 45 [] (.agg (tv4 r)):=by
 refine aQ (rs:=[.agg (tv4 r)]) func45 M ntmps45 (nle M) M fun O hO=>?_
 show IWP _ _ _ _ ⟨[],[]⟩ _
 unfold aBf at h;refine aC (aA M (aR (cs:=q21) (cs':=zs1) 0 M M (lb M) M ti42 M M (.k (.k (.cons (.nils _) (.all _)))))<|aB ?_);obtain ⟨x1,hx1,h⟩:=bR h;refine aC (aA M (aL (r:=.agg q22) M M (lb M) cl100 .nil M (aC9  _ hx1))<|aA M (bA (cs:=q19) M M (lb M) un42 ti42 pl42 M (.cons (svA q22 M) (.cons (sv (d:=.int _ (-1)) M) .nil)) M)<|cSt q19 q19 ti42 M<|aB ?_);refine aM ?_;obtain rfl:=sj_ h;refine ⟨.inr M,(.cons (rva la42 M M (nle M) M) .nil)⟩

theorem vH (a0:Int) (a1:Int) (a2:Int) (r:(aH×Int)) (h:rQ a0 a1 a2=some r):bJ prog 14 [.int .i64 a0,.int .i64 a1,.int .i64 a2] (retD [.agg (tv0 r.1),.int .i64 r.2]):=by
 refine aQ (rs:=[.agg (tv0 r.1),.int .i64 r.2]) func14 M ntmps14 (nle M) M fun O hO=>?_
 show IWP _ _ _ _ ⟨[(0,.int .i64 a0),(1,.int .i64 a1),(2,.int .i64 a2)],[]⟩ _
 unfold rQ at h;refine aC (aA M (aR (cs:=q11) (cs':=zs2) 0 M M (lb M) M ti46 M M (.k4 (.cons (.nils _) (.cons (.nils _) (.k4 (.k (.k (.cons (.nils _) (.all _)))))))))<|cAs (.int _ 0) M<|aB ?_);obtain ⟨x1,hx1,h⟩:=bR h;refine aC (cI M<|aA M (aL (r:=.tuple q35) M M (lb M) cl43 (.cons (svI M) .nil) M (aAF _ _ hx1))<|cMv (.tuple q35) M<|cEx (d:=.agg q18) (cs:=q35) M<|cEx (d:=.int _ _) (cs:=q35) M<|aA M (aR (cs:=q18) (cs':=(w48 0 0 0 0)) 1 M M (lb M) M ti44 M M (.all _))<|cSt q18 q18 ti44 M<|cAI M<|aB ?_);obtain ⟨x2,hx2,h⟩:=bR h;refine aC (cI M<|aA M (aL (r:=.tuple q35) M M (lb M) cl43 (.cons (svI M) .nil) M (aAF _ _ hx2))<|cMv (.tuple q35) M<|cEx (d:=.agg q18) (cs:=q35) M<|cEx (d:=.int _ _) (cs:=q35) M<|aA M (aR (cs:=q18) (cs':=(w48 0 0 0 0)) 2 M M (lb M) M ti44 M M (.all _))<|cSt q18 q18 ti44 M<|cAI M<|aB ?_);refine aP ?_;obtain ⟨x3,hx3,x4,hx4,x5,hx5,h⟩:=eddd h;obtain ⟨x6,hx6,x7,hx7,x8,hx8,h⟩:=eddd h;obtain ⟨x9,hx9,x10,hx10,x11,hx11,h⟩:=eddd h;refine aC (cI M<|cCm (b:=0) M hx3<|cB M<|gG M (fun hb=>(tI M))<|gG M (fun hb=>(tCg (b:=0) M hb hx4))<|cOr M hx5<|cB M<|gG M (fun hb=>(tI M))<|gG M (fun hb=>(tCg (b:=4096) M hb hx6))<|cOr M hx7<|cB M<|gG M (fun hb=>(tI M))<|gG M (fun hb=>(tCg (b:=0) M hb hx8))<|cOr M hx9<|cB M<|gG M (fun hb=>(tI M))<|gG M (fun hb=>(tCg (b:=1048576) M hb hx10))<|cOr M hx11<|aB ?_);refine aK h M (fun h=>?_) (fun h=>?_)
 ·
  refine aC (aA M (zT (d':=.agg zs2) (bA (cs:=q11) M M (lb M) un46 ti46 pl46 M .nil M) (.agg (.k4 (.cons (.nils _) (.cons (.nils _) (.k4 (.k (.k (.cons (.nils _) (.all _))))))))))<|aA M (bK (ds':=[.int _ _,.int _ _,.str _,.int _ _,.slice false (([]:List aI).map aD.d),.slice false (([]:List aG).map aE.d),.bool _,.bool _,.bool _,.bool _,.int _ _,.str _,.slice false (([]:List aS).map aF.d),.int _ _,.int _ _,.int _ _,.int _ _,.int _ _,.int _ _,.int _ _,.int _ _,.int _ _,.int _ _,.int _ _]) M M ti46 (svR M) M (svA q10 M) M M M (nle M) M)<|cAs (.int _ 8) M<|aB ?_);refine aM<|aT ?_;obtain rfl:=sj_ h;refine ⟨.inr M,(.cons (rva la46 M M (nle M) M) (.cons (sv M) .nil))⟩
 ·
  refine aO<|aJ ?_;obtain ⟨x13,hx13,x14,hx14,h⟩:=eoo h;refine cC M [nd1 [0] 41 (.int .i64 a0),nd1 [] 42 (.agg (tv1 x13)),nd1 [] 43 (.agg (tv4 x14)),nd2 [8] [1] 44 (.agg (tv6 x1.1)),nd2 [10] [2] 45 (.agg (tv6 x2.1)),nd1 [41,42,43,44,45] 46 (.agg (w43 a0 x13.Base x13.Data x13.Next x13.Pieces x13.Lost x13.Closed x13.Sent x13.Again x13.Done x14.Recv.Base x14.Recv.Ready x14.Recv.Parts x14.End x1.1.Window x1.1.Limit x1.1.Used x1.1.Read x2.1.Window x2.1.Limit x2.1.Used x2.1.Read (-1) (-1))),⟨[6,46],[0],[],[(0,.blk 46 (w43 a0 x13.Base x13.Data x13.Next x13.Pieces x13.Lost x13.Closed x13.Sent x13.Again x13.Done x14.Recv.Base x14.Recv.Ready x14.Recv.Parts x14.End x1.1.Window x1.1.Limit x1.1.Used x1.1.Read x2.1.Window x2.1.Limit x2.1.Used x2.1.Read (-1) (-1)))]⟩,nd1 [] 7 (.int .i64 0)] M ?_ (by kernel_rfl) ?_
  ·refine .cons (dMv M)<|.cons (lop M M fun S hA=>(aL (r:=.agg q12) M M (lb M) cl44 .nil M (aEC  _ hx13)))<|.cons (lop M M fun S hA=>(aL (r:=.agg q19) M M (lb M) cl45 .nil M (aEE  _ hx14)))<|.cons (dLa un44 ag44 ti44 M)<|.cons (dLa un44 ag44 ti44 M)<|.cons (lop M M fun S hA=>(bA (cs:=q10) M M (lb M) un46 ti46 pl46 M (.cons (svaI hA M M) (.cons (svaA q12 hA M M) (.cons (svaA q19 hA M M) (.cons (svaA q18 hA M M) (.cons (svaA q18 hA M M) (.cons (sv (d:=.int _ (-1)) M) (.cons (sv (d:=.int _ (-1)) M) .nil))))))) M))<|.cons (dSt q10 ti46 M)<|.cons (lop M M fun S hA=>(tAs (.int _ 0) M)) ?_
   exact .nil
  refine aM ?_;obtain rfl:=sj_ h;refine ⟨.inr M,(.cons (rva la46 M M (nle M) M) (.cons (sv M) .nil))⟩

theorem uQ (a0:Int) (a1:Int) (a2:Int) (r:Bool) (h:qZ a0 a1 a2=some r):bJ prog 40 [.int .i64 a0,.int .i64 a1,.int .i64 a2] (.bool r):=by
 refine aQ (rs:=[.bool r]) func40 M ntmps40 (nle M) M fun O hO=>?_
 show IWP _ _ _ _ ⟨[(0,.int .i64 a0),(1,.int .i64 a1),(2,.int .i64 a2)],[]⟩ _
 unfold qZ at h;refine aC (cAs (.bool false) M<|aB ?_);obtain ⟨x1,hx1,x2,hx2,x3,hx3,h⟩:=eddd h;refine aC (cI M<|cI M<|cCm M hx1<|cB M<|gG M (fun hb=>(tI M))<|gG M (fun hb=>(tI M))<|gG M (fun hb=>(tCh M hb hx2))<|cAn M hx3<|cAB M<|aB ?_);refine aM ?_;obtain rfl:=sj_ h;refine ⟨.inr M,(.cons (sv M) .nil)⟩

theorem aAm (a0:Int) (r:Bool) (h:uY a0=some r):bJ prog 185 [.int .i64 a0] (.bool r):=by
 refine aQ (rs:=[.bool r]) func185 M ntmps185 (nle M) M fun O hO=>?_
 show IWP _ _ _ _ ⟨[(0,.int .i64 a0)],[]⟩ _
 unfold uY at h;refine aC (cAs (.bool false) M<|aB ?_);obtain ⟨x1,hx1,x2,hx2,x3,hx3,h⟩:=eddd h;refine aC (cI M<|cCm (b:=0) M hx1<|cB M<|gG M (fun hb=>(tI M))<|gG M (fun hb=>(tCg (b:=4611686018427387903) M hb hx2))<|cAn M hx3<|cAB M<|aB ?_);refine aM ?_;obtain rfl:=sj_ h;refine ⟨.inr M,(.cons (sv M) .nil)⟩

theorem oJ (a0:aG) (r:Bool) (h:iW a0=some r):bJ prog 170 [.agg [.int .i64 a0.From,.int .i64 a0.To]] (.bool r):=by
 refine aQ (rs:=[.bool r]) func170 M ntmps170 (nle M) M fun O hO=>?_
 show IWP _ _ _ _ ⟨[(0,.agg [.int .i64 a0.From,.int .i64 a0.To])],[]⟩ _
 unfold iW at h;refine aC (cBx (cs:=q25) q25 0 M<|cAs (.bool false) M<|aB ?_);obtain ⟨x1,hx1,x2,hx2,x3,hx3,h⟩:=eood h;refine aC (cFa 0 lT M ti3 M<|cLd (d:=.int _ _) un3 ag3 ti3 M<|aA M (aL (r:=.bool _) M M (lb M) cl185 (.cons (svI M) .nil) M (aAm _ _ hx1))<|cB M<|gG M (fun hb=>(tFa 1 lT M ti3 M))<|gG M (fun hb=>(tLc (d:=.int _ _) un3 ag3 ti3 M hb))<|gG M (fun hb=>(aL (r:=.bool _) M M (lb M) cl185 (.cons (svcI M hb) .nil) M (aAm _ _ (gd_t hx2 hb))))<|cAn M hx3<|cAB M<|aB ?_);refine aM ?_;obtain rfl:=sj_ h;refine ⟨.inr M,(.cons (sv M) .nil)⟩

theorem aAn (a0:aG) (r:Bool) (h:pL a0=some r):bJ prog 187 [.agg [.int .i64 a0.From,.int .i64 a0.To]] (.bool r):=by
 refine aQ (rs:=[.bool r]) func187 M ntmps187 (nle M) M fun O hO=>?_
 show IWP _ _ _ _ ⟨[(0,.agg [.int .i64 a0.From,.int .i64 a0.To])],[]⟩ _
 unfold pL at h;refine aC (cBx (cs:=q25) q25 0 M<|cAs (.bool false) M<|aB ?_);obtain ⟨x1,hx1,h⟩:=bR h;refine aC (cLr q25 tQ M<|aA M (aL (r:=.bool _) M M (lb M) aGK (.cons (svA q25 M) .nil) M (oJ _ _ hx1))<|aA M (cV M M (lb M) (svB M))<|cAB M<|aB ?_);refine aM ?_;obtain rfl:=sj_ h;refine ⟨.inr M,(.cons (sv M) .nil)⟩

theorem kN (a0:(List aG)) (r:Int) (h:dY a0=some r):bJ prog 195 [.slice false (a0.map aE.d),.fn 187 []] (.int .i64 r):=by
 refine aQ (rs:=[.int .i64 r]) func195 M ntmps195 (nle M) M fun O hO=>?_
 show IWP _ _ _ _ ⟨[(0,.slice false (a0.map aE.d)),(1,.fn 187 [])],[]⟩ _
 unfold dY at h;refine aC (cAs (.int _ 0) M<|aB ?_);refine aP<|aC (aA M (mvL M M M M)<|aA M (bY aE (l:=a0) M M (lb M) un35 (svL M))<|cMv (.int _ 0) M<|aB ?_);refine bD<|cK (α:=Nat×Int) (fun z=>⟨[(0,.slice false (a0.map aE.d)),(1,.fn 187 []),(7,.int .i64 (a0.length:Int)),(8,.int .i64 z.2)],[]⟩) (fun z=>bT a0 z.1 z.2=some r) (fun z=>z.1) (fuel,0) (fun i=>i) ⟨(.sames M M),.nil,bX [] M (by decide),fun _ _=>M⟩ ?_ ?_
 ·exact h
 ·
  rintro ⟨n0,v7⟩ h
  cases n0 with
  | zero=>exact absurd h (by unfold bT; exact nofun)
  | succ n0 =>
   unfold bT at h;obtain ⟨x14,hx14,h⟩:=bF h;refine aC (cCm M hx14<|aB ?_);refine aP<|aK h M (fun h=>?_) (fun h=>?_)
   ·
    refine aO<|aJ<|aP<|bD<|aC (cI M<|cAI M<|aB ?_);obtain ⟨x16,hx16,x17,hx17,h⟩:=eoo h;refine aC (cMv (.fn 187 []) M<|aA M (mvL M M M M)<|cI M<|aA M (bQ aE (cs:=q25) M M (lb M) un35 gS (svL M) (svI M) hx16 M M)<|aA M (cJ (cs:=q25) M M (lb M) lT aA1 gS (by decide) (sv (d:=.fptr q25) M) (nle M) M)<|aA M (tC (r:=.bool _) M M (lb M) cl187 (sv (d:=.fn 187 []) M) (.cons (svA q25 M) .nil) M (aAn _ _ hx17))<|aB ?_);refine aK h M (fun h=>?_) (fun h=>?_)
    ·
     refine aC (cI M<|cAI M<|aB ?_);refine aM<|bM<|aT<|aT<|bM<|aT ?_;obtain rfl:=sj_ h;refine ⟨.inr M,(.cons (sv M) .nil)⟩
    ·
     refine aO<|bW<|aJ ?_;obtain ⟨x19,hx19,h⟩:=bF h;refine aZ (aA M (aX M M (lb M) (svI M) (sv (d:=.int _ 1) M) M hx19)<|cI M<|bN ?_);refine aJ ⟨(n0,x19),(fun i=>i),⟨(.sames M M),.nil,bX [] M (by decide),fun _ _=>M⟩,?_,?_⟩;exact h;exact Nat.lt_succ_self _
   ·
    refine cR<|bP<|bP<|cS<|aJ<|aC (cAs (.int _ (-1)) M<|aB ?_);refine aM ?_;obtain rfl:=sj_ h;refine ⟨.inr M,(.cons (sv M) .nil)⟩

theorem jN (a0:(List aG)) (r:Bool) (h:dA a0=some r):bJ prog 186 [.slice false (a0.map aE.d),.fn 187 []] (.bool r):=by
 refine aQ (rs:=[.bool r]) func186 M ntmps186 (nle M) M fun O hO=>?_
 show IWP _ _ _ _ ⟨[(0,.slice false (a0.map aE.d)),(1,.fn 187 [])],[]⟩ _
 unfold dA at h;refine aC (cAs (.bool false) M<|aB ?_);obtain ⟨x1,hx1,x2,hx2,h⟩:=eod h;refine aC (aA M (mvL M M M M)<|cMv (.fn 187 []) M<|aA M (aL (r:=.int _ _) M M (lb M) cl195 (.cons (svL M) (.cons (sv (d:=.fn 187 []) M) .nil)) M (kN _ _ hx1))<|cCm (b:=0) M hx2<|cAB M<|aB ?_);refine aM ?_;obtain rfl:=sj_ h;refine ⟨.inr M,(.cons (sv M) .nil)⟩

theorem iZ (a0:aG) (r:Bool) (h:gN a0=some r):bJ prog 171 [.agg [.int .i64 a0.From,.int .i64 a0.To]] (.bool r):=by
 refine aQ (rs:=[.bool r]) func171 M ntmps171 (nle M) M fun O hO=>?_
 show IWP _ _ _ _ ⟨[(0,.agg [.int .i64 a0.From,.int .i64 a0.To])],[]⟩ _
 unfold gN at h;refine aC (cBx (cs:=q25) q25 0 M<|cAs (.bool false) M<|aB ?_);obtain ⟨x1,hx1,h⟩:=bF h;refine aC (cFa 1 lT M ti3 M<|cLd (d:=.int _ _) un3 ag3 ti3 M<|cFa 0 lT M ti3 M<|cLd (d:=.int _ _) un3 ag3 ti3 M<|cCm M hx1<|cAB M<|aB ?_);refine aM ?_;obtain rfl:=sj_ h;refine ⟨.inr M,(.cons (sv M) .nil)⟩

theorem lU (a0:(List aG)) (r:Int) (h:eH a0=some r):bJ prog 195 [.slice false (a0.map aE.d),.fn 171 []] (.int .i64 r):=by
 refine aQ (rs:=[.int .i64 r]) func195 M ntmps195 (nle M) M fun O hO=>?_
 show IWP _ _ _ _ ⟨[(0,.slice false (a0.map aE.d)),(1,.fn 171 [])],[]⟩ _
 unfold eH at h;refine aC (cAs (.int _ 0) M<|aB ?_);refine aP<|aC (aA M (mvL M M M M)<|aA M (bY aE (l:=a0) M M (lb M) un35 (svL M))<|cMv (.int _ 0) M<|aB ?_);refine bD<|cK (α:=Nat×Int) (fun z=>⟨[(0,.slice false (a0.map aE.d)),(1,.fn 171 []),(7,.int .i64 (a0.length:Int)),(8,.int .i64 z.2)],[]⟩) (fun z=>cE a0 z.1 z.2=some r) (fun z=>z.1) (fuel,0) (fun i=>i) ⟨(.sames M M),.nil,bX [] M (by decide),fun _ _=>M⟩ ?_ ?_
 ·exact h
 ·
  rintro ⟨n0,v7⟩ h
  cases n0 with
  | zero=>exact absurd h (by unfold cE; exact nofun)
  | succ n0 =>
   unfold cE at h;obtain ⟨x14,hx14,h⟩:=bF h;refine aC (cCm M hx14<|aB ?_);refine aP<|aK h M (fun h=>?_) (fun h=>?_)
   ·
    refine aO<|aJ<|aP<|bD<|aC (cI M<|cAI M<|aB ?_);obtain ⟨x16,hx16,x17,hx17,h⟩:=eoo h;refine aC (cMv (.fn 171 []) M<|aA M (mvL M M M M)<|cI M<|aA M (bQ aE (cs:=q25) M M (lb M) un35 gS (svL M) (svI M) hx16 M M)<|aA M (cJ (cs:=q25) M M (lb M) lT aA1 gS (by decide) (sv (d:=.fptr q25) M) (nle M) M)<|aA M (tC (r:=.bool _) M M (lb M) aEQ (sv (d:=.fn 171 []) M) (.cons (svA q25 M) .nil) M (iZ _ _ hx17))<|aB ?_);refine aK h M (fun h=>?_) (fun h=>?_)
    ·
     refine aC (cI M<|cAI M<|aB ?_);refine aM<|bM<|aT<|aT<|bM<|aT ?_;obtain rfl:=sj_ h;refine ⟨.inr M,(.cons (sv M) .nil)⟩
    ·
     refine aO<|bW<|aJ ?_;obtain ⟨x19,hx19,h⟩:=bF h;refine aZ (aA M (aX M M (lb M) (svI M) (sv (d:=.int _ 1) M) M hx19)<|cI M<|bN ?_);refine aJ ⟨(n0,x19),(fun i=>i),⟨(.sames M M),.nil,bX [] M (by decide),fun _ _=>M⟩,?_,?_⟩;exact h;exact Nat.lt_succ_self _
   ·
    refine cR<|bP<|bP<|cS<|aJ<|aC (cAs (.int _ (-1)) M<|aB ?_);refine aM ?_;obtain rfl:=sj_ h;refine ⟨.inr M,(.cons (sv M) .nil)⟩

theorem kO (a0:(List aG)) (r:Bool) (h:dI a0=some r):bJ prog 186 [.slice false (a0.map aE.d),.fn 171 []] (.bool r):=by
 refine aQ (rs:=[.bool r]) func186 M ntmps186 (nle M) M fun O hO=>?_
 show IWP _ _ _ _ ⟨[(0,.slice false (a0.map aE.d)),(1,.fn 171 [])],[]⟩ _
 unfold dI at h;refine aC (cAs (.bool false) M<|aB ?_);obtain ⟨x1,hx1,x2,hx2,h⟩:=eod h;refine aC (aA M (mvL M M M M)<|cMv (.fn 171 []) M<|aA M (aL (r:=.int _ _) M M (lb M) cl195 (.cons (svL M) (.cons (sv (d:=.fn 171 []) M) .nil)) M (lU _ _ hx1))<|cCm (b:=0) M hx2<|cAB M<|aB ?_);refine aM ?_;obtain rfl:=sj_ h;refine ⟨.inr M,(.cons (sv M) .nil)⟩

theorem qQ (a0:(List aG)) (r:Int) (h:nL a0=some r):bJ prog 172 [.slice false (a0.map aE.d)] (.int .i64 r):=by
 refine aQ (rs:=[.int .i64 r]) func172 M ntmps172 (nle M) M fun O hO=>?_
 show IWP _ _ _ _ ⟨[(0,.slice false (a0.map aE.d))],[]⟩ _
 unfold nL at h;refine aC (cAs (.int _ 0) M<|aB ?_);refine aP<|bD ?_;obtain ⟨x1,hx1,h⟩:=bR h;refine aC (aA M (mvL M M M M)<|aA M (aL (r:=.bool _) M M (lb M) cl186 (.cons (svL M) (.cons (sv (d:=.fn 187 []) M) .nil)) M (jN _ _ hx1))<|cAB M<|aB ?_);refine aK h M (fun h=>?_) (fun h=>?_)
 ·
  refine aC (cAs (.int _ 8) M<|aB ?_);refine aM<|bM<|aT ?_;obtain rfl:=sj_ h;refine ⟨.inr M,(.cons (sv M) .nil)⟩
 ·
  obtain ⟨x3,hx3,h⟩:=bR h;refine aC (aA M (mvL M M M M)<|aA M (aL (r:=.bool _) M M (lb M) cl186 (.cons (svL M) (.cons (sv (d:=.fn 171 []) M) .nil)) M (kO _ _ hx3))<|cAB M<|aB ?_);refine aK h M (fun h=>?_) (fun h=>?_)
  ·
   refine aC (cAs (.int _ 4) M<|aB ?_);refine aM<|bM<|aT ?_;obtain rfl:=sj_ h;refine ⟨.inr M,(.cons (sv M) .nil)⟩
  ·
   refine aO<|bW<|aJ<|aP<|aC (cAs (.int _ 1) M<|aB ?_);refine bD<|cK (α:=Nat×Int) (fun z=>⟨[(0,.slice false (a0.map aE.d)),(3,.int .i64 z.2)],[]⟩) (fun z=>iB a0 z.1 z.2=some r) (fun z=>z.1) (fuel,1) (fun i=>i) ⟨(.sames M M),.nil,bX [] M (by decide),fun _ _=>M⟩ ?_ ?_
   ·exact h
   ·
    rintro ⟨n0,v13⟩ h
    cases n0 with
    | zero=>exact absurd h (by unfold iB; exact nofun)
    | succ n0 =>
     unfold iB at h;refine aP ?_;obtain ⟨x22,hx22,h⟩:=bF h;refine aC (cI M<|aA M (mvL M M M M)<|aA M (bY aE (l:=a0) M M (lb M) un35 (svL M))<|cCm M hx22<|aB ?_);refine aK h M (fun h=>?_) (fun h=>?_)
     ·
      refine aO<|aJ<|aP<|bD ?_;obtain ⟨x24,hx24,x25,hx25,x26,hx26,h⟩:=eodo h;obtain ⟨x27,hx27,h⟩:=bF h;refine cC M [nd1 [0] 16 (.slice false (a0.map aE.d)),nd1 [3] 17 (.int .i64 v13),nd1 [16,17] 18 (.fptr [.int .i64 x24.From,.int .i64 x24.To]),nd1 [18] 19 (.fptr [.int .i64 x24.From]),nd1 [19] 20 (.int .i64 x24.From),nd1 [0] 21 (.slice false (a0.map aE.d)),nd1 [3] 22 (.int .i64 v13),nd1 [22] 23 (.int .i64 x25),nd1 [21,23] 24 (.fptr [.int .i64 x26.From,.int .i64 x26.To]),nd1 [24] 25 (.fptr [.int .i64 x26.To]),nd1 [25] 26 (.int .i64 x26.To),nd1 [20,26] 27 (.bool x27)] M ?_ (by kernel_rfl) ?_
      ·refine .cons (dMv M)<|.cons (dMv M)<|.cons (lop M M fun S hA=>(bQ aE (cs:=q25) M M (lb M) un35 gS (svaL hA M M) (svaI hA M M) hx24 M M))<|.cons (lop M M fun S hA=>(bG (cs':=[.int _ _]) M M (lb M) lT M ti3 (by decide) (sv (d:=.fptr q25) (agr hA M M)) M))<|.cons (lop M M fun S hA=>(bU M M (lb M) un3 ag3 ti3 (by decide) (sv (d:=.fptr [.int _ _]) (agr hA M M)) (nle M)))<|.cons (dMv M)<|.cons (dMv M)<|.cons (lop M M fun S hA=>(aX M M (lb M) (svaI hA M M) (sv (d:=.int _ 1) M) M hx25))<|.cons (lop M M fun S hA=>(bQ aE (cs:=q25) M M (lb M) un35 gS (svaL hA M M) (svaI hA M M) hx26 M M))<|.cons (lop M M fun S hA=>(bG (cs':=[.int _ _]) M M (lb M) lT M ti3 (by decide) (sv (d:=.fptr q25) (agr hA M M)) M))<|.cons (lop M M fun S hA=>(bU M M (lb M) un3 ag3 ti3 (by decide) (sv (d:=.fptr [.int _ _]) (agr hA M M)) (nle M)))<|.cons (lop M M fun S hA=>(cU M M (lb M) (svaI hA M M) (svaI hA M M) M hx27)) ?_
       exact .nil
      refine aK h M (fun h=>?_) (fun h=>?_)
      ·
       refine aC (cAs (.int _ 10) M<|aB ?_);refine aM<|bM<|aT<|aT<|bM<|aT ?_;obtain rfl:=sj_ h;refine ⟨.inr M,(.cons (sv M) .nil)⟩
      ·
       refine aO<|bW<|aJ ?_;obtain ⟨x29,hx29,h⟩:=bF h;refine aZ (cI M<|aA M (aX M M (lb M) (svI M) (sv (d:=.int _ 1) M) M hx29)<|cAI M<|bN ?_);refine aJ ⟨(n0,x29),(fun i=>i),⟨(.sames M M),.nil,bX [] M (by decide),fun _ _=>M⟩,?_,?_⟩;exact h;exact Nat.lt_succ_self _
     ·
      refine cR<|bP<|bP<|cS<|aJ<|aC (cAs (.int _ 0) M<|aB ?_);refine aM ?_;obtain rfl:=sj_ h;refine ⟨.inr M,(.cons (sv M) .nil)⟩

theorem zO (a0:aN) (r:Bool) (h:nF a0=some r):bJ prog 160 [.agg (tv1 a0)] (.bool r):=by
 refine aQ (rs:=[.bool r]) func160 M ntmps160 (nle M) M fun O hO=>?_
 show IWP _ _ _ _ ⟨[(0,.agg (tv1 a0))],[]⟩ _
 unfold nF at h;refine aC (cBx (cs:=q12) q12 0 M<|cAs (.bool false) M<|aB ?_);refine aP ?_;obtain ⟨x1,hx1,x2,hx2,h⟩:=eod h;refine aC (cFa 4 un37 M ti35 M<|aA M (lrL la35 M M M M M (nle M) M)<|aA M (aL (r:=.int _ _) M M (lb M) aGJ (.cons (svL M) .nil) M (qQ _ _ hx1))<|cCm (b:=0) M hx2<|aB ?_);refine aK h M (fun h=>?_) (fun h=>?_)
 ·
  refine aC (cAs (.bool false) M<|aB ?_);refine aM<|aT ?_;obtain rfl:=sj_ h;refine ⟨.inr M,(.cons (sv M) .nil)⟩
 ·
  refine aO<|aJ ?_;obtain ⟨x4,hx4,x5,hx5,x6,hx6,h⟩:=edod h;obtain ⟨x7,hx7,x8,hx8,x9,hx9,h⟩:=edod h;obtain ⟨x10,hx10,x11,hx11,h⟩:=edd h;refine cC M [nd1 [1] 7 (.ref 0 4),nd2 [7] [0] 8 (.slice false (a0.Lost.map aE.d)),nd1 [8] 9 (.int .i64 (a0.Lost.length:Int)),nd1 [9] 10 (.bool x4),nd1 [10] 11 (.bool x4),nd1 [1,11] 12 (.cnd (x4 == false) (.ref 0 4)),nd2 [11,12] [0] 13 (.cnd (x4 == false) (.slice false (a0.Lost.map aE.d))),nd1 [11,13] 14 (.cnd (x4 == false) (.fptr [.int .i64 x5.From,.int .i64 x5.To])),nd1 [11,14] 15 (.cnd (x4 == false) (.fptr [.int .i64 x5.From])),nd1 [11,15] 16 (.cnd (x4 == false) (.int .i64 x5.From)),nd1 [1,11] 17 (.cnd (x4 == false) (.ref 0 0)),nd2 [11,17] [0] 18 (.cnd (x4 == false) (.int .i64 a0.Base)),nd1 [11,16,18] 19 (.cnd (x4 == false) (.bool x6)),nd1 [11,19] 20 (.cnd (x4 == false) (.bool x6)),nd1 [1,20] 21 (.cnd (((x4 == false)&&(x6 == true))) (.ref 0 4)),nd2 [20,21] [0] 22 (.cnd (((x4 == false)&&(x6 == true))) (.slice false (a0.Lost.map aE.d))),nd1 [1,20] 23 (.cnd (((x4 == false)&&(x6 == true))) (.ref 0 4)),nd2 [20,23] [0] 24 (.cnd (((x4 == false)&&(x6 == true))) (.slice false (a0.Lost.map aE.d))),nd1 [20,24] 25 (.cnd (((x4 == false)&&(x6 == true))) (.int .i64 (a0.Lost.length:Int))),nd1 [20,25] 26 (.cnd (((x4 == false)&&(x6 == true))) (.int .i64 x7)),nd1 [20,22,26] 27 (.cnd (((x4 == false)&&(x6 == true))) (.fptr [.int .i64 x8.From,.int .i64 x8.To])),nd1 [20,27] 28 (.cnd (((x4 == false)&&(x6 == true))) (.fptr [.int .i64 x8.To])),nd1 [20,28] 29 (.cnd (((x4 == false)&&(x6 == true))) (.int .i64 x8.To)),nd1 [1,20] 30 (.cnd (((x4 == false)&&(x6 == true))) (.ref 0 2)),nd2 [20,30] [0] 31 (.cnd (((x4 == false)&&(x6 == true))) (.int .i64 a0.Next)),nd1 [20,29,31] 32 (.cnd (((x4 == false)&&(x6 == true))) (.bool x9)),nd1 [11,20,32] 33 (.cnd (x4 == false) (.bool x10)),nd1 [11,33] 34 (.bool x11),nd1 [34] 2 (.bool x11)] M ?_ (by kernel_rfl) ?_
  ·refine .cons (dFa 4 un37 M ti35 M)<|.cons (dLd un35 ag35 ti35 M)<|.cons (lop M M fun S hA=>(bY aE (l:=a0.Lost) M M (lb M) un35 (svaL hA M M)))<|.cons (lop M M fun S hA=>(cU M M (lb M) (svaI hA M M) (sv (d:=.int _ 0) M) M hx4))<|.cons (dMv M)<|.cons (gD M (fun S hA hb=>(aV M M (lb M) un37 M ti35 (by decide) (svaR hA M M) (off':=4) M)))<|.cons (gD M (fun S hA hb=>(cD (d:=.slice _ _) M M (lb M) un35 ag35 ti35 (by decide) (svc (d:=.ref _ _) (agr hA M M) hb) (agi hA M M) (nle M) M)))<|.cons (gD M (fun S hA hb=>(bQ aE (cs:=q25) M M (lb M) un35 gS (svc (d:=.slice _ _) (agr hA M M) hb) (sv (d:=.int _ 0) M) (gd_t hx5 hb) M M)))<|.cons (gD M (fun S hA hb=>(bG (cs':=[.int _ _]) M M (lb M) lT M ti3 (by decide) (svc (d:=.fptr q25) (agr hA M M) hb) M)))<|.cons (gD M (fun S hA hb=>(bU M M (lb M) un3 ag3 ti3 (by decide) (svc (d:=.fptr [.int _ _]) (agr hA M M) hb) (nle M))))<|.cons (gD M (fun S hA hb=>(aV M M (lb M) un37 M ti3 (by decide) (svaR hA M M) (off':=0) M)))<|.cons (gD M (fun S hA hb=>(cD (d:=.int _ _) M M (lb M) un3 ag3 ti3 (by decide) (svc (d:=.ref _ _) (agr hA M M) hb) (agi hA M M) (nle M) M)))<|.cons (gD M (fun S hA hb=>(cU M M (lb M) (svc (d:=.int _ _) (agr hA M M) hb) (svc (d:=.int _ _) (agr hA M M) hb) M hx6)))<|.cons (gD M (fun S hA hb=>(bI M M (lb M) (svc (d:=.bool _) (agr hA M M) hb))))<|.cons (lopg M M M M (by decide) (fun S hA=>grd2 hA M M) (fun S hA hb=>(aV M M (lb M) un37 M ti35 (by decide) (svaR hA M M) (off':=4) M)))<|.cons (lopg M M M M (by decide) (fun S hA=>grd2 hA M M) (fun S hA hb=>(cD (d:=.slice _ _) M M (lb M) un35 ag35 ti35 (by decide) (svc (d:=.ref _ _) (agr hA M M) hb) (agi hA M M) (nle M) M)))<|.cons (lopg M M M M (by decide) (fun S hA=>grd2 hA M M) (fun S hA hb=>(aV M M (lb M) un37 M ti35 (by decide) (svaR hA M M) (off':=4) M)))<|.cons (lopg M M M M (by decide) (fun S hA=>grd2 hA M M) (fun S hA hb=>(cD (d:=.slice _ _) M M (lb M) un35 ag35 ti35 (by decide) (svc (d:=.ref _ _) (agr hA M M) hb) (agi hA M M) (nle M) M)))<|.cons (lopg M M M M (by decide) (fun S hA=>grd2 hA M M) (fun S hA hb=>(bY aE (l:=a0.Lost) M M (lb M) un35 (svc (d:=.slice _ _) (agr hA M M) hb))))<|.cons (lopg M M M M (by decide) (fun S hA=>grd2 hA M M) (fun S hA hb=>(aX M M (lb M) (svc (d:=.int _ _) (agr hA M M) hb) (sv (d:=.int _ 1) M) M hx7)))<|.cons (lopg M M M M (by decide) (fun S hA=>grd2 hA M M) (fun S hA hb=>(bQ aE (cs:=q25) M M (lb M) un35 gS (svc (d:=.slice _ _) (agr hA M M) hb) (svc (d:=.int _ _) (agr hA M M) hb) (gd_t hx8 hb) M M)))<|.cons (lopg M M M M (by decide) (fun S hA=>grd2 hA M M) (fun S hA hb=>(bG (cs':=[.int _ _]) M M (lb M) lT M ti3 (by decide) (svc (d:=.fptr q25) (agr hA M M) hb) M)))<|.cons (lopg M M M M (by decide) (fun S hA=>grd2 hA M M) (fun S hA hb=>(bU M M (lb M) un3 ag3 ti3 (by decide) (svc (d:=.fptr [.int _ _]) (agr hA M M) hb) (nle M))))<|.cons (lopg M M M M (by decide) (fun S hA=>grd2 hA M M) (fun S hA hb=>(aV M M (lb M) un37 M ti3 (by decide) (svaR hA M M) (off':=2) M)))<|.cons (lopg M M M M (by decide) (fun S hA=>grd2 hA M M) (fun S hA hb=>(cD (d:=.int _ _) M M (lb M) un3 ag3 ti3 (by decide) (svc (d:=.ref _ _) (agr hA M M) hb) (agi hA M M) (nle M) M)))<|.cons (lopg M M M M (by decide) (fun S hA=>grd2 hA M M) (fun S hA hb=>(cU M M (lb M) (svc (d:=.int _ _) (agr hA M M) hb) (svc (d:=.int _ _) (agr hA M M) hb) M hx9)))<|.cons (gD M (fun S hA hb=>(fM M M (lb M) hb (svc (d:=.bool _) (agr hA M M) hb) (agr hA M M) M hx10)))<|.cons (lop M M fun S hA=>(mB M M (lb M) (svaB hA M M) M (agr hA M M) hx11))<|.cons (lop M M fun S hA=>(bV M M (lb M) (svaB hA M M))) ?_
   exact .nil
  refine aM ?_;obtain rfl:=sj_ h;refine ⟨.inr M,(.cons (sv M) .nil)⟩

theorem aAk (a0:Int) (r:Bool) (h:nE a0=some r):bJ prog 133 [.int .i64 a0] (.bool r):=by
 refine aQ (rs:=[.bool r]) func133 M ntmps133 (nle M) M fun O hO=>?_
 show IWP _ _ _ _ ⟨[(0,.int .i64 a0)],[]⟩ _
 unfold nE at h;refine aC (cAs (.bool false) M<|aB ?_);obtain ⟨x1,hx1,x2,hx2,x3,hx3,h⟩:=eddd h;refine aC (cI M<|cCm (b:=0) M hx1<|cB M<|gG M (fun hb=>(tI M))<|gG M (fun hb=>(tCg (b:=4) M hb hx2))<|cAn M hx3<|cAB M<|aB ?_);refine aM ?_;obtain rfl:=sj_ h;refine ⟨.inr M,(.cons (sv M) .nil)⟩

theorem nS (a0:aI) (r:aG) (h:gL a0=some r):bJ prog 135 [.agg (tv8 a0)] (.agg [.int .i64 r.From,.int .i64 r.To]):=by
 refine aQ (rs:=[.agg [.int .i64 r.From,.int .i64 r.To]]) func135 M ntmps135 (nle M) M fun O hO=>?_
 show IWP _ _ _ _ ⟨[(0,.agg (tv8 a0))],[]⟩ _
 unfold gL at h;refine aC (cBx (cs:=q20) q20 0 M<|aA M (aR (cs:=q25) (cs':=[.int .i64 0,.int .i64 0]) 1 M M (lb M) M gS M M (.all _))<|aB ?_);refine aC (cFa 0 fL M ti3 M<|cLd (d:=.int _ _) un3 ag3 ti3 M<|cFa 1 fL M ti3 M<|cLd (d:=.int _ _) un3 ag3 ti3 M<|aA M (bA (cs:=q25) M M (lb M) lT gS aFv M (.cons (svI M) (.cons (svI M) .nil)) M)<|cSt q25 q25 gS M<|aB ?_);refine aM ?_;obtain rfl:=sj_ h;refine ⟨.inr M,(.cons (rva tQ M M (nle M) M) .nil)⟩

theorem iS (a0:(List aG)) (r:(List aG)) (h:dB a0=some r):FnH prog 169 [.slice false (a0.map aE.d)] [] (.osl 0 aE.sz r.length) [(0,.blk 219 (D.flat (r.map aE.d)))]:=by
 refine gE (rs:=[.osl 0 aE.sz r.length]) func169 M ntmps169 (nle M) fun O hO=>?_
 show IWP _ _ _ _ ⟨[(0,.slice false (a0.map aE.d))],[]⟩ _
 unfold dB at h;refine aC (cAs (.nils) M<|aB ?_);refine aP<|aC (aA M (mvL M M M M)<|aAw M M M (by decide) un35 (svL M) M<|fun bn1 hbn1 =>
  aB ?_)
 refine pZ (b:=_) M (fun hc2=>?_) (fun hc2=>?_)
 ·
  replace h:=aDR h (mapE (hbn1 hc2));refine aC (cAs (.nils) M<|aB ?_);refine aM<|aT ?_;obtain rfl:=sj_ h;refine ⟨.inr M,(fun i=>if i=0 then 50 else i),⟨.nil,(.cons (.nilb M) .nil),bX [50] M (by decide),(fun i hi=>by first | rfl | (show (if _ then _ else _)=_; (repeat' split) <;> omega))⟩,(.cons (svno M) .nil),M⟩
 ·
  replace h:=aDS h;refine aO<|aJ ?_;obtain ⟨x3,hx3,h⟩:=bR h;refine aC (aA M (pM aE.toEnc0 ([]:(List aG)) 0 M M (lb M) un35 gS M .nil M M (by decide))<|aA M (mvL M M M M)<|aA M (kS aE.toEnc0 1 M M (lb M) un35 gS M M M M M (aBZ aE (ys:=a0) (svL M)) hx3)<|cAs (.osl _ _ _) M<|aB ?_);refine aM ?_;obtain rfl:=sj_ h;refine ⟨.inr M,(fun i=>if i=0 then 1 else i),⟨.nil,(.cons (EntW.lst M) .nil),bX [1] M (by decide),(fun i hi=>by first | rfl | (show (if _ then _ else _)=_; (repeat' split) <;> omega))⟩,(.cons (sv M) .nil),M⟩

theorem wZ (a0:(List aG)) (a1:aG) (r:(List aG)) (h:rN a0 a1=some r):bJ prog 134 [.slice false (a0.map aE.d),.agg [.int .i64 a1.From,.int .i64 a1.To]] (.slice false (r.map aE.d)):=by
 refine fC (rs:=[.slice false (r.map aE.d)]) func134 M ntmps134 (nle M) M fun O hO=>?_
 show IWP _ _ _ _ ⟨[(0,.slice false (a0.map aE.d)),(1,.agg [.int .i64 a1.From,.int .i64 a1.To])],[]⟩ _
 unfold rN at h;refine aC (cBx (cs:=q25) q25 0 M<|cAs (.nils) M<|aB ?_);refine aP ?_;obtain ⟨x1,hx1,x2,hx2,x3,hx3,h⟩:=eood h;obtain ⟨x4,hx4,x5,hx5,x6,hx6,h⟩:=eodd h;refine aC (cLr q25 tQ M<|aA M (aL (r:=.bool _) M M (lb M) aGK (.cons (svA q25 M) .nil) M (oJ _ _ hx1))<|aA M (cV M M (lb M) (svB M))<|cB M<|gG M (fun hb=>(tLr q25 tQ M))<|gG M (fun hb=>(aL (r:=.bool _) M M (lb M) aEQ (.cons (svc (d:=.agg [.int .i64 a1.From,.int .i64 a1.To]) M hb) .nil) M (iZ _ _ (gd_t hx2 hb))))<|cOr M hx3<|cB M<|gG M (fun hb=>(mvL M M M M))<|gG M (fun hb=>(aL (r:=.int _ _) M M (lb M) aGJ (.cons (svcL M hb) .nil) M (qQ _ _ (gd_t hx4 hb))))<|gG M (fun hb=>(tCg (b:=0) M hb hx5))<|cOr M hx6<|aB ?_);refine aK h M (fun h=>?_) (fun h=>?_)
 ·
  obtain ⟨x8,hx8,h⟩:=bR h;refine aC (aA M (mvL M M M M)<|aA M (fR (r':=.osl 1 aE.sz x8.length) (H1':=[(1,.blk 219 (D.flat (x8.map aE.d)))]) 1 [] M M (lb M) cl169 (.cons (svL M) .nil) M M ⟨M,M,by decide,M,List.forall_mem_nil _⟩ (iS _ _ hx8) M M (List.forall_mem_cons.2 ⟨⟨M,(mX aE)⟩,List.forall_mem_nil _⟩) (by simp only [List.map_cons,List.map_nil,Ent.ren,iF,kC]; rfl))<|cAs (.osl _ _ _) M<|aB ?_);refine aM<|aT ?_;obtain rfl:=sj_ h;refine ⟨.inr M,_,(.cons (sv M) .nil),(.cons (FDT aE M M) .nil)⟩
 ·
  refine aO<|aJ<|aC (aA M (aR (cs:=[.nils]) (cs':=[.nils]) 1 M M (lb M) M ti35 M M (.all _))<|aB ?_);refine aP<|aC (aA M (mvL M M M M)<|cLr q25 tQ M <|?_);refine aDn (S':=⟨[(5,.ref 1 0),(21,.slice false (a0.map aE.d)),(22,.agg [.int .i64 a1.From,.int .i64 a1.To])],[(1,.blk 35 [.nils])]⟩) (fun i=>i) ⟨(.sames M M),(.cons (.blk M M M) .nil),bX [1] M (by decide),fun _ _=>M⟩<|ils_inl 1 2 M M M (by decide) cl173 func173 M (.cons (svL M) (.cons (svA q25 M) .nil)) ntmps173 (nle M) M hO fun O1 hO1=>?_
  show IWP _ _ _ _ ⟨[(0,.slice false (a0.map aE.d)),(1,.agg [.int .i64 a1.From,.int .i64 a1.To])],[(2,.kept 1 (dd_ 5 (.ref 1 0::(dd_ 15 (.slice false (a0.map aE.d)::(.agg [.int .i64 a1.From,.int .i64 a1.To]::(dd_ 7 []))))))),(1,.blk 35 [.nils])]⟩ _
  refine aC (aA M (sA (cs:=[.slice _ _]) 3 M M (lb M) M (svL M) M M)<|cBx (cs:=q25) q25 4 M<|cAs (.nilf) M<|aB ?_);refine aC (aA M (nM M M (lb M) (.cons (svR M) (.cons (svR M) .nil)))<|cAs (.fn 188 q26) M<|aB ?_);refine aM ?_;refine ⟨.inr M,2,_,[.fn 188 [.ref 3 0,.ref 4 0]],(.cons (sv M) .nil),M,M,⟨[(5,.ref 1 0),(23,.fn 188 [.ref 3 0,.ref 4 0])],[(1,.blk 35 [.nils]),(3,.blk 35 [.slice false (a0.map aE.d)]),(4,.blk 219 [.int .i64 a1.From,.int .i64 a1.To])]⟩,(fun i=>i),⟨(.sames M M),(.cons (.blk M M M) (.cons (.blk M M M) (.cons (.blk M M M) .nil))),bX [1,3,4] M (by decide),fun _ _=>M⟩,?_⟩;refine aB<|bD<|aBm (S':=⟨[(5,.ref 1 0),(23,.fn 188 [.ref 3 0,.ref 4 0])],[(1,.blk 35 [.nils]),(3,.blk 35 [.slice false (a0.map aE.d)]),(4,.blk 219 [.int .i64 a1.From,.int .i64 a1.To])]⟩) (fun i=>i) ⟨(.sames M M),(.cons (.blk M M M) (.cons (.blk M M M) (.cons (.blk M M M) .nil))),bX [1,3,4] M (by decide),fun _ _=>M⟩<|aE2 1 5 6 (sv (d:=.fn 188 q26) M) cl188 func188 M M ntmps188 (nle M) M M hO fun O1 hO1 hlc1=>?_
  show IWP _ _ _ _ ⟨[(0,.yld 5),(1,.ref 3 0),(2,.ref 4 0)],[(6,.kept 1 (dd_ 5 (.ref 1 0::(dd_ 17 (.fn 188 [.ref 3 0,.ref 4 0]::(dd_ 6 [])))))),(5,.loop 1 [.dead,.dead,.dead,.dead,.dead,.ref 1 0,.dead,.dead,.dead,.dead,.dead,.dead,.dead,.dead,.dead,.dead,.dead,.dead,.dead,.dead,.dead,.dead,.dead,.fn 188 [.ref 3 0,.ref 4 0],.dead,.dead,.dead,.dead,.dead,.dead] .ready none),(1,.blk 35 [.nils]),(3,.blk 35 [.slice false (a0.map aE.d)]),(4,.blk 219 [.int .i64 a1.From,.int .i64 a1.To])]⟩ _
  refine aC (aA M (lrL la35 M M M M M (nle M) M)<|aA M (bY aE (l:=a0) M M (lb M) un35 (svL M))<|cMv (.int _ 0) M<|aB ?_);refine bD<|cK (α:=Nat×Int×(List aG)) (fun z=>⟨[(0,.yld 5),(2,.ref 4 0),(8,.slice false (a0.map aE.d)),(9,.int .i64 (a0.length:Int)),(10,.int .i64 z.2.1)],[(5,.loop 1 [.dead,.dead,.dead,.dead,.dead,.ref 1 0,.dead,.dead,.dead,.dead,.dead,.dead,.dead,.dead,.dead,.dead,.dead,.dead,.dead,.dead,.dead,.dead,.dead,.fn 188 [.ref 3 0,.ref 4 0],.dead,.dead,.dead,.dead,.dead,.dead] .ready none),(4,.blk 219 [.int .i64 a1.From,.int .i64 a1.To]),(6,.kept 1 (dd_ 5 (.ref 1 0::(dd_ 17 (.fn 188 [.ref 3 0,.ref 4 0]::(dd_ 6 [])))))),(1,.blk 35 [.osl 28 aE.sz z.2.2.length]),(3,.blk 35 [.slice false (a0.map aE.d)]),(28,.blk 219 (D.flat (z.2.2.map aE.d)))]⟩) (fun z=>kJ a0 a1 z.1 z.2.1 z.2.2=some r) (fun z=>z.1) (fuel,0,([]:(List aG))) (fun i=>if i=28 then 85 else i) ⟨(.sames M M),(.cons (.loop M M M) (.cons (.blk M M M) (.cons (.kept M M M) (.cons (.sub M (.nilo .nil) M) (.cons (.blk M M M) (.cons (.nilb M) .nil)))))),bX [5,4,6,1,3,85] M (by decide),(fun i hi=>by first | rfl | (show (if _ then _ else _)=_; (repeat' split) <;> omega))⟩ ?_ ?_
  ·exact h
  ·
   rintro ⟨n0,v52,v53⟩ h
   cases n0 with
   | zero=>exact absurd h (by unfold kJ; exact nofun)
   | succ n0 =>
    unfold kJ at h;obtain ⟨x97,hx97,h⟩:=bF h;refine aC (cCm M hx97<|aB ?_);refine aP<|aK h M (fun h=>?_) (fun h=>?_)
    ·
     refine aO<|aJ<|aP<|bD ?_;obtain ⟨x99,hx99,h⟩:=bR h;refine aC (aA M (bQ aE (cs:=q25) M M (lb M) un35 gS (svL M) (svI M) hx99 M M)<|aA M (cJ (cs:=q25) M M (lb M) lT aA1 gS (by decide) (sv (d:=.fptr q25) M) (nle M) M)<|aA M (aR (cs:=q25) (cs':=[.int .i64 0,.int .i64 0]) 29 M M (lb M) M gS M M (.all _))<|cSt q25 q25 gS M<|aB ?_);obtain ⟨x100,hx100,x101,hx101,h⟩:=edd h;refine aC (cFa 0 lT M ti3 M<|cLd (d:=.int _ _) un3 ag3 ti3 M<|cFa 1 lT M ti3 M<|cLd (d:=.int _ _) un3 ag3 ti3 M<|cFa 0 lT M ti3 M<|cLd (d:=.int _ _) un3 ag3 ti3 M<|aA M (iN M M (lb M) (svI M) (svI M) hx100)<|aA M (bA (cs:=q25) M M (lb M) lT gS aFv M (.cons (svI M) (.cons (svI M) .nil)) M)<|cFa 0 lT M ti3 M<|cLd (d:=.int _ _) un3 ag3 ti3 M<|cFa 1 lT M ti3 M<|cLd (d:=.int _ _) un3 ag3 ti3 M<|aA M (mC M M (lb M) (svI M) (svI M) hx101)<|cFa 1 lT M ti3 M<|cLd (d:=.int _ _) un3 ag3 ti3 M<|aA M (bA (cs:=q25) M M (lb M) lT gS aFv M (.cons (svI M) (.cons (svI M) .nil)) M)<|aA M (aAs (cs:=q18) M M (lb M) underlying257 ti257 gS M (.cons (svA q25 M) (.cons (svA q25 M) .nil)) M)<|cMv (.int _ 0) M<|aB ?_);refine bD<|cK (α:=Nat×Int×(List aG)) (fun z=>⟨[(0,.yld 5),(2,.ref 4 0),(8,.slice false (a0.map aE.d)),(9,.int .i64 (a0.length:Int)),(10,.int .i64 v52),(30,.agg (w48 x99.From x100 x101 x99.To)),(31,.int .i64 z.2.1)],[(5,.loop 1 [.dead,.dead,.dead,.dead,.dead,.ref 1 0,.dead,.dead,.dead,.dead,.dead,.dead,.dead,.dead,.dead,.dead,.dead,.dead,.dead,.dead,.dead,.dead,.dead,.fn 188 [.ref 3 0,.ref 4 0],.dead,.dead,.dead,.dead,.dead,.dead] .ready none),(4,.blk 219 [.int .i64 a1.From,.int .i64 a1.To]),(6,.kept 1 (dd_ 5 (.ref 1 0::(dd_ 17 (.fn 188 [.ref 3 0,.ref 4 0]::(dd_ 6 [])))))),(1,.blk 35 [.osl 28 aE.sz z.2.2.length]),(3,.blk 35 [.slice false (a0.map aE.d)]),(28,.blk 219 (D.flat (z.2.2.map aE.d)))]⟩) (fun z=>gQ v52 (kJ a0 a1 n0) x99 x100 x101 z.1 z.2.1 z.2.2=some r) (fun z=>z.1) (fuel,0,v53) (fun i=>i) ⟨(.sames M M),(.cons (.loop M M M) (.cons (.blk M M M) (.cons (.kept M M M) (.cons (.blk M M M) (.cons (.blk M M M) (.cons (EntW.lst M) .nil)))))),bX [5,4,6,1,3,28] M (by decide),fun _ _=>M⟩ ?_ ?_
     ·exact h
     ·
      rintro ⟨n1,v113,v114⟩ h
      cases n1 with
      | zero=>exact absurd h (by unfold gQ; exact nofun)
      | succ n1 =>
       unfold gQ at h;obtain ⟨x127,hx127,h⟩:=bF h;refine aC (cCm (b:=2) M hx127<|aB ?_);refine aP<|aK h M (fun h=>?_) (fun h=>?_)
       ·
        refine aO<|aJ<|aP<|bD ?_;obtain ⟨x129,hx129,h⟩:=bR h;refine aC (aA M (aCW aE (ds:=q25) M M (lb M) underlying257 lT aA1 gS (by decide) (svA q18 M) (svI M) hx129 M ⟨M,⟨M,trivial⟩⟩ M M)<|aA M (aR (cs:=q25) (cs':=[.int .i64 0,.int .i64 0]) 29 M M (lb M) M gS M M (.all _))<|cSt q25 q25 gS M<|aB ?_);obtain ⟨x130,hx130,h⟩:=bR h;refine aC (cLr q25 tQ M<|aA M (aL (r:=.bool _) M M (lb M) aEQ (.cons (svA q25 M) .nil) M (iZ _ _ hx130))<|aA M (cV M M (lb M) (svB M))<|cB M<|gG M (fun hb=>(tMv (.yld _) M))<|gG M (fun hb=>(tLr q25 tQ M)) <|?_);refine aEN M M (.one M) M (by decide) (fun hc131=>?_) (fun hc131=>?_)
        ·
         replace h:=bif_t h hc131;refine aCg 38 M hc131<|aCg 39 M hc131<|aDn (S':=⟨[(0,.yld 5),(2,.ref 4 0),(8,.slice false (a0.map aE.d)),(9,.int .i64 (a0.length:Int)),(10,.int .i64 v52),(30,.agg (w48 x99.From x100 x101 x99.To)),(31,.int .i64 v113),(37,.bool (!x130)),(38,.yld 5),(39,.agg [.int .i64 x129.From,.int .i64 x129.To])],[(1,.blk 35 [.osl 28 aE.sz v114.length]),(3,.blk 35 [.slice false (a0.map aE.d)]),(4,.blk 219 [.int .i64 a1.From,.int .i64 a1.To]),(5,.loop 1 [.dead,.dead,.dead,.dead,.dead,.ref 1 0,.dead,.dead,.dead,.dead,.dead,.dead,.dead,.dead,.dead,.dead,.dead,.dead,.dead,.dead,.dead,.dead,.dead,.fn 188 [.ref 3 0,.ref 4 0],.dead,.dead,.dead,.dead,.dead,.dead] .ready none),(6,.kept 1 (dd_ 5 (.ref 1 0::(dd_ 17 (.fn 188 [.ref 3 0,.ref 4 0]::(dd_ 6 [])))))),(28,.blk 219 (D.flat (v114.map aE.d)))]⟩) (fun i=>i) ⟨(.sames M M),(.cons (.blk M M M) (.cons (.blk M M M) (.cons (.blk M M M) (.cons (.loop M M M) (.cons (.kept M M M) (.cons (EntW.lst M) .nil)))))),bX [1,3,4,5,6,28] M (by decide),fun _ _=>M⟩<|aFF 2 5 30 M M M (by decide) M (.cons (svA q25 M) .nil) M M M M M M hO1 hlc1 ⟨[(24,.agg [.int .i64 x129.From,.int .i64 x129.To]),(5,.ref 1 0)],[(1,.blk 35 [.osl 28 aE.sz v114.length]),(3,.blk 35 [.slice false (a0.map aE.d)]),(4,.blk 219 [.int .i64 a1.From,.int .i64 a1.To]),(5,.loop 1 [.dead,.dead,.dead,.dead,.dead,.ref 1 0,.dead,.dead,.dead,.dead,.dead,.dead,.dead,.dead,.dead,.dead,.dead,.dead,.dead,.dead,.dead,.dead,.dead,.fn 188 [.ref 3 0,.ref 4 0],.dead,.dead,.dead,.dead,.dead,.dead] .ready none),(6,.kept 1 (dd_ 5 (.ref 1 0::(dd_ 17 (.fn 188 [.ref 3 0,.ref 4 0]::(dd_ 6 [])))))),(28,.blk 219 (D.flat (v114.map aE.d))),(30,.kept 2 (.yld 5::(.dead::(.ref 4 0::(dd_ 5 (.slice false (a0.map aE.d)::(.int .i64 (a0.length:Int)::(.int .i64 v52::(dd_ 19 (.agg (w48 x99.From x100 x101 x99.To)::(.int .i64 v113::(dd_ 5 (.bool (!x130)::(.yld 5::(.agg [.int .i64 x129.From,.int .i64 x129.To]::(dd_ 5 []))))))))))))))))]⟩ (fun i=>i) ⟨(.sames M M),(.cons (.blk M M M) (.cons (.blk M M M) (.cons (.blk M M M) (.cons (.loop M M M) (.cons (.kept M M M) (.cons (EntW.lst M) (.cons (.kept M M M) .nil))))))),bX [1,3,4,5,6,28,30] M (by decide),fun _ _=>M⟩ fun O2=>?_
         refine aZ (aA M (aR (cs:=q25) (cs':=[.int .i64 0,.int .i64 0]) 31 M M (lb M) M gS M M (.all _))<|cSt q25 q25 gS M<|bN ?_);refine ⟨M,5,_,M,⟨[(5,.ref 1 0),(6,.ref 31 0)],[(1,.blk 35 [.osl 28 aE.sz v114.length]),(3,.blk 35 [.slice false (a0.map aE.d)]),(4,.blk 219 [.int .i64 a1.From,.int .i64 a1.To]),(5,.loop 1 [.dead,.dead,.dead,.dead,.dead,.ref 1 0,.dead,.dead,.dead,.dead,.dead,.dead,.dead,.dead,.dead,.dead,.dead,.dead,.dead,.dead,.dead,.dead,.dead,.fn 188 [.ref 3 0,.ref 4 0],.dead,.dead,.dead,.dead,.dead,.dead] .busy none),(6,.kept 1 (dd_ 5 (.ref 1 0::(dd_ 17 (.fn 188 [.ref 3 0,.ref 4 0]::(dd_ 6 [])))))),(28,.blk 219 (D.flat (v114.map aE.d))),(30,.kept 2 (.yld 5::(.dead::(.ref 4 0::(dd_ 5 (.slice false (a0.map aE.d)::(.int .i64 (a0.length:Int)::(.int .i64 v52::(dd_ 19 (.agg (w48 x99.From x100 x101 x99.To)::(.int .i64 v113::(dd_ 5 (.bool (!x130)::(.yld 5::(.agg [.int .i64 x129.From,.int .i64 x129.To]::(dd_ 5 [])))))))))))))))),(31,.blk 219 [.int .i64 x129.From,.int .i64 x129.To])]⟩,(fun i=>i),⟨(.sames M M),(.cons (.blk M M M) (.cons (.blk M M M) (.cons (.blk M M M) (.cons (.loop M M M) (.cons (.kept M M M) (.cons (EntW.lst M) (.cons (.kept M M M) (.cons (.blk M M M) .nil)))))))),bX [1,3,4,5,6,28,30,31] M (by decide),fun _ _=>M⟩,?_⟩;refine bD ?_;obtain ⟨x132,hx132,h⟩:=bR h;refine aZ (cLd (d:=.osl _ _ _) un35 ag35 ti35 M<|cLr q25 tQ M<|aA M (pM aE.toEnc0 ([(⟨x129.From,x129.To⟩:aG)]:(List aG)) 32 M M (lb M) un35 gS M (.cons (svA q25 M) .nil) M M (by decide))<|aA M (kS aE.toEnc0 33 M M (lb M) un35 gS M M M M M (xG aE.toEnc0 M M M) hx132)<|aA M (bK (ds':=[.osl _ _ _]) M M ti35 (svR M) M (sv (d:=.osl _ _ _) M) M M M (nle M) M)<|bN ?_);refine bW ?_;refine ⟨5,30,_,_,none,M,M,M,M,(by decide),⟨[(0,.yld 5),(2,.ref 4 0),(8,.slice false (a0.map aE.d)),(9,.int .i64 (a0.length:Int)),(10,.int .i64 v52),(30,.agg (w48 x99.From x100 x101 x99.To)),(31,.int .i64 v113),(37,.bool (!x130)),(38,.yld 5),(39,.agg [.int .i64 x129.From,.int .i64 x129.To]),(40,.bool true)],[(1,.blk 35 [.osl 33 aE.sz x132.length]),(3,.blk 35 [.slice false (a0.map aE.d)]),(4,.blk 219 [.int .i64 a1.From,.int .i64 a1.To]),(5,.loop 1 [.dead,.dead,.dead,.dead,.dead,.ref 1 0,.dead,.dead,.dead,.dead,.dead,.dead,.dead,.dead,.dead,.dead,.dead,.dead,.dead,.dead,.dead,.dead,.dead,.fn 188 [.ref 3 0,.ref 4 0],.dead,.dead,.dead,.dead,.dead,.dead] .ready none),(6,.kept 1 (dd_ 5 (.ref 1 0::(dd_ 17 (.fn 188 [.ref 3 0,.ref 4 0]::(dd_ 6 [])))))),(33,.blk 219 (D.flat (x132.map aE.d)))]⟩,(fun i=>i),⟨(.sames M M),(.cons (.blk M M M) (.cons (.blk M M M) (.cons (.blk M M M) (.cons (.loop M M M) (.cons (.kept M M M) (.cons (EntW.lst M) .nil)))))),bX [1,3,4,5,6,33] M (by decide),fun _ _=>M⟩,?_⟩;obtain ⟨x133,hx133,h⟩:=bF h;refine gG M (fun hb=>(cV M M (lb M) (svB M)))<|cAn M hx133<|aB ?_;refine aK h M (fun h=>?_) (fun h=>?_)
         ·
          refine aM<|bM<|aT<|aT<|bM<|bM<|aT<|aT<|bM ?_;refine ⟨.inr M,5,6,_,_,_,_,M,(by simp),M,M,⟨[(5,.ref 1 0)],[(1,.blk 35 [.osl 33 aE.sz x132.length]),(33,.blk 219 (D.flat (x132.map aE.d)))]⟩,(fun i=>i),⟨(.sames M M),(.cons (.blk M M M) (.cons (EntW.lst M) .nil)),bX [1,33] M (by decide),fun _ _=>M⟩,?_⟩;refine bW<|aJ<|aC (cLd (d:=.osl _ _ _) un35 ag35 ti35 M<|cAs (.osl _ _ _) M<|aB ?_);refine aM ?_;obtain rfl:=sj_ h;refine ⟨.inr M,_,(.cons (sv M) .nil),(.cons (FDT aE M M) .nil)⟩
         ·
          refine aO<|bW<|aJ ?_;obtain ⟨x135,hx135,h⟩:=bF h;refine aZ (aA M (aX M M (lb M) (svI M) (sv (d:=.int _ 1) M) M hx135)<|cI M<|bN ?_);refine aJ ⟨(n1,x135,x132),(fun i=>if i=28 then 33 else i),⟨(.sames M M),(.cons (.loop M M M) (.cons (.blk M M M) (.cons (.kept M M M) (.cons (.blk M M M) (.cons (.blk M M M) (.cons (EntW.lst M) .nil)))))),bX [5,4,6,1,3,33] M (by decide),(fun i hi=>by first | rfl | (show (if _ then _ else _)=_; (repeat' split) <;> omega))⟩,?_,?_⟩;exact h;exact Nat.lt_succ_self _
        ·
         replace h:=bif_f h hc131;obtain ⟨x136,hx136,h⟩:=bF h;refine gG M (fun hb=>(cV M M (lb M) (svcB M hb)))<|cAn M hx136<|aB ?_;refine aK h M (fun h=>?_) (fun h=>?_)
         ·
          refine aM<|bM<|aT<|aT<|bM<|bM<|aT<|aT<|bM ?_;refine ⟨.inr M,5,6,_,_,_,_,M,(by simp),M,M,⟨[(5,.ref 1 0)],[(1,.blk 35 [.osl 28 aE.sz v114.length]),(28,.blk 219 (D.flat (v114.map aE.d)))]⟩,(fun i=>i),⟨(.sames M M),(.cons (.blk M M M) (.cons (EntW.lst M) .nil)),bX [1,28] M (by decide),fun _ _=>M⟩,?_⟩;refine bW<|aJ<|aC (cLd (d:=.osl _ _ _) un35 ag35 ti35 M<|cAs (.osl _ _ _) M<|aB ?_);refine aM ?_;obtain rfl:=sj_ h;refine ⟨.inr M,_,(.cons (sv M) .nil),(.cons (FDT aE M M) .nil)⟩
         ·
          refine aO<|bW<|aJ ?_;obtain ⟨x138,hx138,h⟩:=bF h;refine aZ (aA M (aX M M (lb M) (svI M) (sv (d:=.int _ 1) M) M hx138)<|cI M<|bN ?_);refine aJ ⟨(n1,x138,v114),(fun i=>i),⟨(.sames M M),(.cons (.loop M M M) (.cons (.blk M M M) (.cons (.kept M M M) (.cons (.blk M M M) (.cons (.blk M M M) (.cons (EntW.lst M) .nil)))))),bX [5,4,6,1,3,28] M (by decide),fun _ _=>M⟩,?_,?_⟩;exact h;exact Nat.lt_succ_self _
       ·
        refine cR<|bP<|bP<|cS<|bW<|aJ ?_;obtain ⟨x139,hx139,h⟩:=bF h;refine aZ (aA M (aX M M (lb M) (svI M) (sv (d:=.int _ 1) M) M hx139)<|cI M<|bN ?_);refine aJ ⟨(n0,x139,v114),(fun i=>i),⟨(.sames M M),(.cons (.loop M M M) (.cons (.blk M M M) (.cons (.kept M M M) (.cons (.blk M M M) (.cons (.blk M M M) (.cons (EntW.lst M) .nil)))))),bX [5,4,6,1,3,28] M (by decide),fun _ _=>M⟩,?_,?_⟩;exact h;exact Nat.lt_succ_self _
    ·
     refine cR<|bP<|bP<|cS ?_;refine ⟨.inl M,5,6,_,_,_,_,M,(by simp),M,M,⟨[(5,.ref 1 0)],[(1,.blk 35 [.osl 28 aE.sz v53.length]),(28,.blk 219 (D.flat (v53.map aE.d)))]⟩,(fun i=>i),⟨(.sames M M),(.cons (.blk M M M) (.cons (EntW.lst M) .nil)),bX [1,28] M (by decide),fun _ _=>M⟩,?_⟩;refine bW<|aJ<|aC (cLd (d:=.osl _ _ _) un35 ag35 ti35 M<|cAs (.osl _ _ _) M<|aB ?_);refine aM ?_;obtain rfl:=sj_ h;refine ⟨.inr M,_,(.cons (sv M) .nil),(.cons (FDT aE M M) .nil)⟩

theorem aCO (a0:(List aG)) (a1:aG) (r:(List aG)) (h:tA a0 a1=some r):bJ prog 183 [.slice false (a0.map aE.d),.agg [.int .i64 a1.From,.int .i64 a1.To]] (.slice false (r.map aE.d)):=by
 refine aQ (rs:=[.slice false (r.map aE.d)]) func183 M ntmps183 (nle M) M fun O hO=>?_
 show IWP _ _ _ _ ⟨[(0,.slice false (a0.map aE.d)),(1,.agg [.int .i64 a1.From,.int .i64 a1.To])],[]⟩ _
 unfold tA at h;refine aC (cBx (cs:=q25) q25 0 M<|cAs (.nils) M<|aB ?_);refine aP ?_;obtain ⟨x1,hx1,x2,hx2,x3,hx3,h⟩:=eood h;obtain ⟨x4,hx4,x5,hx5,x6,hx6,h⟩:=edod h;refine aC (cLr q25 tQ M<|aA M (aL (r:=.bool _) M M (lb M) aGK (.cons (svA q25 M) .nil) M (oJ _ _ hx1))<|aA M (cV M M (lb M) (svB M))<|cB M<|gG M (fun hb=>(mvL M M M M))<|gG M (fun hb=>(aL (r:=.int _ _) M M (lb M) aGJ (.cons (svcL M hb) .nil) M (qQ _ _ (gd_t hx2 hb))))<|gG M (fun hb=>(tCg (b:=0) M hb hx3))<|cOr M hx4<|cB M<|gG M (fun hb=>(tLr q25 tQ M))<|gG M (fun hb=>(aL (r:=.bool _) M M (lb M) aEQ (.cons (svc (d:=.agg [.int .i64 a1.From,.int .i64 a1.To]) M hb) .nil) M (iZ _ _ (gd_t hx5 hb))))<|cOr M hx6<|aB ?_);refine aK h M (fun h=>?_) (fun h=>?_)
 ·
  refine aC (cAs (.nils) M<|aB ?_);refine aM<|aT ?_;obtain rfl:=sj_ h;refine ⟨.inr M,(.cons (aCA M M) .nil)⟩
 ·
  refine aO<|aJ<|aC (cLr q25 tQ M<|aA M (qN aE ([(⟨a1.From,a1.To⟩:aG)]:(List aG)) 1 M M (lb M) un35 gS M (.cons (svA q25 M) .nil) M M (by decide))<|cAs (.gsl _ _ _) M<|aB ?_);refine aP<|aC (aA M (mvL M M M M)<|aA M (bY aE (l:=a0) M M (lb M) un35 (svL M))<|cMv (.int _ 0) M<|aB ?_);refine bD<|cK (α:=Nat×(List aG)×Int) (fun z=>⟨[(5,.slice false (z.2.1.map aE.d)),(22,.slice false (a0.map aE.d)),(23,.int .i64 (a0.length:Int)),(24,.int .i64 z.2.2)],[]⟩) (fun z=>kI a0 z.1 z.2.1 z.2.2=some r) (fun z=>z.1) (fuel,([(⟨a1.From,a1.To⟩:aG)]:(List aG)),0) (fun i=>i) ⟨(.cons (.coe (svg M) M) (.sames M M)),.nil,bX [] M (by decide),fun _ _=>M⟩ ?_ ?_
  ·exact h
  ·
   rintro ⟨n0,v13,v14⟩ h
   cases n0 with
   | zero=>exact absurd h (by unfold kI; exact nofun)
   | succ n0 =>
    unfold kI at h;obtain ⟨x20,hx20,h⟩:=bF h;refine aC (cCm M hx20<|aB ?_);refine aP<|aK h M (fun h=>?_) (fun h=>?_)
    ·
     refine aO<|aJ<|aP<|bD ?_;obtain ⟨x22,hx22,h⟩:=bR h;refine aC (aA M (bQ aE (cs:=q25) M M (lb M) un35 gS (svL M) (svI M) hx22 M M)<|aA M (cJ (cs:=q25) M M (lb M) lT aA1 gS (by decide) (sv (d:=.fptr q25) M) (nle M) M)<|aA M (aR (cs:=q25) (cs':=[.int .i64 0,.int .i64 0]) 0 M M (lb M) M gS M M (.all _))<|cSt q25 q25 gS M<|aB ?_);obtain ⟨x23,hx23,h⟩:=bR h;refine aZ (aA M (mvL M M M M)<|cLr q25 tQ M<|aA M (aL (r:=.slice _ _) M M (lb M) cl134 (.cons (svL M) (.cons (svA q25 M) .nil)) M (wZ _ _ _ hx23))<|aA M (bV M M (lb M) (svL M))<|bN ?_);refine bW<|aJ ?_;obtain ⟨x24,hx24,h⟩:=bF h;refine aZ (aA M (aX M M (lb M) (svI M) (sv (d:=.int _ 1) M) M hx24)<|cI M<|bN ?_);refine aJ ⟨(n0,x23,x24),(fun i=>i),⟨(.sames M M),.nil,bX [] M (by decide),fun _ _=>M⟩,?_,?_⟩;exact h;exact Nat.lt_succ_self _
    ·
     refine cR<|bP<|bP<|cS<|aJ<|aC (aA M (mvL M M M M)<|aA M (bV M M (lb M) (svL M))<|aB ?_);refine aM ?_;obtain rfl:=sj_ h;refine ⟨.inr M,(.cons (sv M) .nil)⟩

theorem oO (a0:(List aG)) (a1:(List aG)) (r:Bool) (h:eQ a0 a1=some r):bJ prog 167 [.slice false (a0.map aE.d),.slice false (a1.map aE.d)] (.bool r):=by
 refine aQ (rs:=[.bool r]) func167 M ntmps167 (nle M) M fun O hO=>?_
 show IWP _ _ _ _ ⟨[(0,.slice false (a0.map aE.d)),(1,.slice false (a1.map aE.d))],[]⟩ _
 unfold eQ at h;refine aC (cAs (.bool false) M<|aB ?_);refine aP ?_;obtain ⟨x1,hx1,h⟩:=bF h;refine aC (aA M (mvL M M M M)<|aA M (bY aE (l:=a0) M M (lb M) un35 (svL M))<|aA M (mvL M M M M)<|aA M (bY aE (l:=a1) M M (lb M) un35 (svL M))<|cCm M hx1<|aB ?_);refine aK h M (fun h=>?_) (fun h=>?_)
 ·
  refine aC (cAs (.bool false) M<|aB ?_);refine aM<|aT ?_;obtain rfl:=sj_ h;refine ⟨.inr M,(.cons (sv M) .nil)⟩
 ·
  refine aO<|aJ<|aP<|aC (aA M (mvL M M M M)<|aA M (bY aE (l:=a0) M M (lb M) un35 (svL M))<|cMv (.int _ 0) M<|aB ?_);refine bD<|cK (α:=Nat×Int) (fun z=>⟨[(0,.slice false (a0.map aE.d)),(1,.slice false (a1.map aE.d)),(12,.int .i64 (a0.length:Int)),(13,.int .i64 z.2)],[]⟩) (fun z=>cP a0 a1 z.1 z.2=some r) (fun z=>z.1) (fuel,0) (fun i=>i) ⟨(.sames M M),.nil,bX [] M (by decide),fun _ _=>M⟩ ?_ ?_
  ·exact h
  ·
   rintro ⟨n0,v10⟩ h
   cases n0 with
   | zero=>exact absurd h (by unfold cP; exact nofun)
   | succ n0 =>
    unfold cP at h;obtain ⟨x18,hx18,h⟩:=bF h;refine aC (cCm M hx18<|aB ?_);refine aP<|aK h M (fun h=>?_) (fun h=>?_)
    ·
     refine aO<|aJ<|aP<|bD<|aC (cI M<|cAI M<|aB ?_);obtain ⟨x20,hx20,x21,hx21,x22,hx22,h⟩:=eood h;refine cC M [nd1 [0] 16 (.slice false (a0.map aE.d)),nd1 [5] 17 (.int .i64 v10),nd1 [16,17] 18 (.fptr [.int .i64 x20.From,.int .i64 x20.To]),nd1 [18] 19 (.agg [.int .i64 x20.From,.int .i64 x20.To]),nd1 [1] 20 (.slice false (a1.map aE.d)),nd1 [5] 21 (.int .i64 v10),nd1 [20,21] 22 (.fptr [.int .i64 x21.From,.int .i64 x21.To]),nd1 [22] 23 (.agg [.int .i64 x21.From,.int .i64 x21.To]),nd1 [19,23] 24 (.bool (!x22))] M ?_ (by kernel_rfl) ?_
     ·refine .cons (dMv M)<|.cons (dMv M)<|.cons (lop M M fun S hA=>(bQ aE (cs:=q25) M M (lb M) un35 gS (svaL hA M M) (svaI hA M M) hx20 M M))<|.cons (lop M M fun S hA=>(cJ (cs:=q25) M M (lb M) lT aA1 gS (by decide) (sv (d:=.fptr q25) (agr hA M M)) (nle M) M))<|.cons (dMv M)<|.cons (dMv M)<|.cons (lop M M fun S hA=>(bQ aE (cs:=q25) M M (lb M) un35 gS (svaL hA M M) (svaI hA M M) hx21 M M))<|.cons (lop M M fun S hA=>(cJ (cs:=q25) M M (lb M) lT aA1 gS (by decide) (sv (d:=.fptr q25) (agr hA M M)) (nle M) M))<|.cons (lop M M fun S hA=>(zU M M (lb M) lT st219.1 st219.2 (svaA q25 hA M M) (svaA q25 hA M M) (congrArg some hx22))) ?_
      exact .nil
     refine aK h M (fun h=>?_) (fun h=>?_)
     ·
      refine aC (cAs (.bool false) M<|aB ?_);refine aM<|bM<|aT<|aT<|bM<|aT ?_;obtain rfl:=sj_ h;refine ⟨.inr M,(.cons (sv M) .nil)⟩
     ·
      refine aO<|bW<|aJ ?_;obtain ⟨x24,hx24,h⟩:=bF h;refine aZ (aA M (aX M M (lb M) (svI M) (sv (d:=.int _ 1) M) M hx24)<|cI M<|bN ?_);refine aJ ⟨(n0,x24),(fun i=>i),⟨(.sames M M),.nil,bX [] M (by decide),fun _ _=>M⟩,?_,?_⟩;exact h;exact Nat.lt_succ_self _
    ·
     refine cR<|bP<|bP<|cS<|aJ<|aC (cAs (.bool true) M<|aB ?_);refine aM ?_;obtain rfl:=sj_ h;refine ⟨.inr M,(.cons (sv M) .nil)⟩

theorem aAE (a0:(List aG)) (a1:(List aG)) (r:Bool) (h:qX a0 a1=some r):bJ prog 127 [.slice false (a0.map aE.d),.slice false (a1.map aE.d)] (.bool r):=by
 refine aQ (rs:=[.bool r]) func127 M ntmps127 (nle M) M fun O hO=>?_
 show IWP _ _ _ _ ⟨[(0,.slice false (a0.map aE.d)),(1,.slice false (a1.map aE.d))],[]⟩ _
 unfold qX at h;refine aC (cAs (.bool false) M<|aB ?_);obtain ⟨x1,hx1,h⟩:=bR h;refine aC (aA M (mvL M M M M)<|aA M (mvL M M M M)<|aA M (aL (r:=.bool _) M M (lb M) cl167 (.cons (svL M) (.cons (svL M) .nil)) M (oO _ _ _ hx1))<|cAB M<|aB ?_);refine aM ?_;obtain rfl:=sj_ h;refine ⟨.inr M,(.cons (sv M) .nil)⟩

theorem zP (a0:aN) (a1:aI) (a2:Int) (r:Bool) (h:nG a0 a1 a2=some r):bJ prog 161 [.agg (tv1 a0),.agg (tv8 a1),.int .i64 a2] (.bool r):=by
 refine aQ (rs:=[.bool r]) func161 M ntmps161 (nle M) M fun O hO=>?_
 show IWP _ _ _ _ ⟨[(0,.agg (tv1 a0)),(1,.agg (tv8 a1)),(2,.int .i64 a2)],[]⟩ _
 unfold nG at h;refine aC (cBx (cs:=q12) q12 0 M<|cBx (cs:=q20) q20 1 M<|cAs (.bool false) M<|aB ?_);refine aP ?_;obtain ⟨x1,hx1,x2,hx2,x3,hx3,h⟩:=eddd h;obtain ⟨x4,hx4,x5,hx5,x6,hx6,h⟩:=eddo h;obtain ⟨x7,hx7,h⟩:=bF h;refine aC (cFa 0 fL M ti3 M<|cLd (d:=.int _ _) un3 ag3 ti3 M<|cI M<|cCm M hx1<|cB M<|gG M (fun hb=>(tFa 1 fL M ti3 M))<|gG M (fun hb=>(tLc (d:=.int _ _) un3 ag3 ti3 M hb))<|gG M (fun hb=>(tFa 0 fL M ti3 M))<|gG M (fun hb=>(tLc (d:=.int _ _) un3 ag3 ti3 M hb))<|gG M (fun hb=>(tCh M hb hx2))<|cOr M hx3<|cB M<|gG M (fun hb=>(tFa 1 fL M ti3 M))<|gG M (fun hb=>(tLc (d:=.int _ _) un3 ag3 ti3 M hb))<|gG M (fun hb=>(tFa 2 un37 M ti3 M))<|gG M (fun hb=>(tLc (d:=.int _ _) un3 ag3 ti3 M hb))<|gG M (fun hb=>(tCh M hb hx4))<|cOr M hx5<|cB M<|gG M (fun hb=>(tFa 2 fL M ti3 M))<|gG M (fun hb=>(tLc (d:=.int _ _) un3 ag3 ti3 M hb))<|gG M (fun hb=>(aL (r:=.bool _) M M (lb M) cl133 (.cons (svcI M hb) .nil) M (aAk _ _ (gd_t hx6 hb))))<|gG M (fun hb=>(cV M M (lb M) (svcB M hb)))<|cOr M hx7<|aB ?_);refine aK h M (fun h=>?_) (fun h=>?_)
 ·
  refine aC (cAs (.bool false) M<|aB ?_);refine aM<|aT ?_;obtain rfl:=sj_ h;refine ⟨.inr M,(.cons (sv M) .nil)⟩
 ·
  refine aO<|aJ<|aP ?_;obtain ⟨x9,hx9,h⟩:=bF h;refine aC (cFa 0 fL M ti3 M<|cLd (d:=.int _ _) un3 ag3 ti3 M<|cFa 1 fL M ti3 M<|cLd (d:=.int _ _) un3 ag3 ti3 M<|cCm M hx9<|aB ?_);refine aK h M (fun h=>?_) (fun h=>?_)
  ·
   refine aC (cFa 3 fL M ti4 M<|cLd (d:=.bool _) un4 ag4 ti4 M<|cAB M<|aB ?_);refine aM<|aT ?_;obtain rfl:=sj_ h;refine ⟨.inr M,(.cons (sv M) .nil)⟩
  ·
   refine aO<|aJ ?_;obtain ⟨x11,hx11,x12,hx12,x13,hx13,h⟩:=eooo h;obtain ⟨x14,hx14,h⟩:=bR h;refine cC M [nd1 [3] 38 (.ref 0 4),nd2 [38] [0] 39 (.slice false (a0.Lost.map aE.d)),nd2 [4] [1] 40 (.agg (tv8 a1)),nd1 [40] 41 (.agg [.int .i64 x11.From,.int .i64 x11.To]),nd1 [39,41] 42 (.slice false (x12.map aE.d)),nd2 [4] [1] 43 (.agg (tv8 a1)),nd1 [43] 44 (.agg [.int .i64 x13.From,.int .i64 x13.To]),⟨[44],[2],[(45,.gsl 2 aE.sz ((([(⟨x13.From,x13.To⟩:aG)]:(List aG))).map aE.d))],[(2,.tail 219 aE.sz (([(⟨x13.From,x13.To⟩:aG)]:(List aG))).length)]⟩,nd1 [42,45] 46 (.bool x14),nd1 [46] 6 (.bool x14)] M ?_ (by kernel_rfl) ?_
   ·refine .cons (dFa 4 un37 M ti35 M)<|.cons (dLd un35 ag35 ti35 M)<|.cons (dLa fL sG dH M)<|.cons (lop M M fun S hA=>(aL (r:=.agg q25) M M (lb M) aGL (.cons (svaA q20 hA M M) .nil) M (nS _ _ hx11)))<|.cons (lop M M fun S hA=>(aL (r:=.slice _ _) M M (lb M) cl183 (.cons (svaL hA M M) (.cons (svaA q25 hA M M) .nil)) M (aCO _ _ _ hx12)))<|.cons (dLa fL sG dH M)<|.cons (lop M M fun S hA=>(aL (r:=.agg q25) M M (lb M) aGL (.cons (svaA q20 hA M M) .nil) M (nS _ _ hx13)))<|.cons (lop M M fun S hA=>(qN aE ([(⟨x13.From,x13.To⟩:aG)]:(List aG)) 2 M M (lb M) un35 gS (agi hA M M) (.cons (svaA q25 hA M M) .nil) M M (by decide)))<|.cons (lop M M fun S hA=>(aL (r:=.bool _) M M (lb M) cl127 (.cons (svaL hA M M) (.cons (svg (agr hA M M)) .nil)) M (aAE _ _ _ hx14)))<|.cons (lop M M fun S hA=>(bV M M (lb M) (svaB hA M M))) ?_
    exact .nil
   refine aM ?_;obtain rfl:=sj_ h;refine ⟨.inr M,(.cons (sv M) .nil)⟩

theorem gP (a0:aN) (r:Int) (h:fJ a0=some r):bJ prog 131 [.agg (tv1 a0)] (.int .i64 r):=by
 refine aQ (rs:=[.int .i64 r]) func131 M ntmps131 (nle M) M fun O hO=>?_
 show IWP _ _ _ _ ⟨[(0,.agg (tv1 a0))],[]⟩ _
 unfold fJ at h;refine aC (cBx (cs:=q12) q12 0 M<|cAs (.int _ 0) M<|aB ?_);obtain ⟨x1,hx1,h⟩:=bF h;refine aC (cFa 0 un37 M ti3 M<|cLd (d:=.int _ _) un3 ag3 ti3 M<|cFa 1 un37 M ti9 M<|cLd (d:=.str _) un9 ag9 ti9 M<|aA M (cF M M (lb M) un9 (sv (d:=.str _) M) M)<|aA M (aX M M (lb M) (svI M) (svI M) M hx1)<|cAI M<|aB ?_);refine aM ?_;obtain rfl:=sj_ h;refine ⟨.inr M,(.cons (sv M) .nil)⟩

theorem zQ (a0:aN) (r:Bool) (h:pE a0=some r):bJ prog 162 [.agg (tv1 a0)] (.bool r):=by
 refine aQ (rs:=[.bool r]) func162 M ntmps162 (nle M) M fun O hO=>?_
 show IWP _ _ _ _ ⟨[(0,.agg (tv1 a0))],[]⟩ _
 unfold pE at h;refine aC (cBx (cs:=q12) q12 0 M<|cAs (.bool false) M<|aB ?_);refine aC (cAs (.int _ 0) M<|aB ?_);refine aP<|aC (cFa 3 un37 M ti33 M<|aA M (lrL la33 M M M M M (nle M) M)<|aA M (bY aD (l:=a0.Pieces) M M (lb M) un33 (svL M))<|cMv (.int _ 0) M<|aB ?_);refine bD<|cK (α:=Nat×Int×Int) (fun z=>⟨[(1,.ref 0 0),(3,.int .i64 z.2.1),(8,.slice false (a0.Pieces.map aD.d)),(9,.int .i64 (a0.Pieces.length:Int)),(10,.int .i64 z.2.2)],[(0,.blk 37 (tv1 a0))]⟩) (fun z=>eS a0 z.1 z.2.1 z.2.2=some r) (fun z=>z.1) (fuel,0,0) (fun i=>i) ⟨(.sames M M),(.cons (.blk M M M) .nil),bX [0] M (by decide),fun _ _=>M⟩ ?_ ?_
 ·exact h
 ·
  rintro ⟨n0,v11,v12⟩ h
  cases n0 with
  | zero=>exact absurd h (by unfold eS; exact nofun)
  | succ n0 =>
   unfold eS at h;obtain ⟨x23,hx23,h⟩:=bF h;refine aC (cCm M hx23<|aB ?_);refine aP<|aK h M (fun h=>?_) (fun h=>?_)
   ·
    refine aO<|aJ<|aP<|bD ?_;obtain ⟨x25,hx25,h⟩:=bR h;refine aC (aA M (bQ aD (cs:=q20) M M (lb M) un33 dH (svL M) (svI M) hx25 M M)<|aA M (cJ (cs:=q20) M M (lb M) fL sG dH (by decide) (sv (d:=.fptr q20) M) (nle M) M)<|aA M (aR (cs:=q20) (cs':=(w49 0 0 0 false)) 1 M M (lb M) M dH M M (.all _))<|cSt q20 q20 dH M<|aB ?_);refine aC (cFa 3 fL M ti4 M<|cLd (d:=.bool _) un4 ag4 ti4 M<|aB ?_);refine aK h M (fun h=>?_) (fun h=>?_)
    ·
     obtain ⟨x27,hx27,h⟩:=bF h;refine aC (cI M<|aA M (aX M M (lb M) (svI M) (sv (d:=.int _ 1) M) M hx27)<|cAI M<|aB ?_);obtain ⟨x28,hx28,x29,hx29,h⟩:=eod h;refine cC M [nd1 [5] 18 (.ref 1 1),nd2 [18] [1] 19 (.int .i64 x25.To),nd2 [1] [0] 20 (.agg (tv1 a0)),nd1 [20] 21 (.int .i64 x28),nd1 [19,21] 22 (.bool x29)] M ?_ (by kernel_rfl) ?_
     ·refine .cons (dFa 1 fL M ti3 M)<|.cons (dLd un3 ag3 ti3 M)<|.cons (dLa un37 ag37 ti37 M)<|.cons (lop M M fun S hA=>(aL (r:=.int _ _) M M (lb M) aCp (.cons (svaA q12 hA M M) .nil) M (gP _ _ hx28)))<|.cons (lop M M fun S hA=>(cU M M (lb M) (svaI hA M M) (svaI hA M M) M hx29)) ?_
      exact .nil
     refine aK h M (fun h=>?_) (fun h=>?_)
     ·
      refine aC (cAs (.bool false) M<|aB ?_);refine aM<|bM<|aT<|aT<|bM<|aT ?_;obtain rfl:=sj_ h;refine ⟨.inr M,(.cons (sv M) .nil)⟩
     ·
      refine aO<|bW<|aJ ?_;obtain ⟨x31,hx31,h⟩:=bF h;refine aZ (aA M (aX M M (lb M) (svI M) (sv (d:=.int _ 1) M) M hx31)<|cI M<|bN ?_);refine aJ ⟨(n0,x27,x31),(fun i=>i),⟨(.sames M M),(.cons (.blk M M M) .nil),bX [0] M (by decide),fun _ _=>M⟩,?_,?_⟩;exact h;exact Nat.lt_succ_self _
    ·
     refine aO<|bW<|aJ ?_;obtain ⟨x32,hx32,h⟩:=bF h;refine aZ (aA M (aX M M (lb M) (svI M) (sv (d:=.int _ 1) M) M hx32)<|cI M<|bN ?_);refine aJ ⟨(n0,v11,x32),(fun i=>i),⟨(.sames M M),(.cons (.blk M M M) .nil),bX [0] M (by decide),fun _ _=>M⟩,?_,?_⟩;exact h;exact Nat.lt_succ_self _
   ·
    refine cR<|bP<|bP<|cS<|aJ<|aP<|aC (cFa 6 un37 M ti4 M<|cLd (d:=.bool _) un4 ag4 ti4 M<|aA M (cV M M (lb M) (svB M))<|aB ?_);refine aK h M (fun h=>?_) (fun h=>?_)
    ·
     obtain ⟨x34,hx34,x35,hx35,x36,hx36,h⟩:=eddd h;refine aC (cI M<|cCm (b:=0) M hx34<|cB M<|gG M (fun hb=>(tFa 7 un37 M ti4 M))<|gG M (fun hb=>(tLc (d:=.bool _) un4 ag4 ti4 M hb))<|gG M (fun hb=>(cV M M (lb M) (svcB M hb)))<|cAn M hx35<|cB M<|gG M (fun hb=>(tFa 8 un37 M ti4 M))<|gG M (fun hb=>(tLc (d:=.bool _) un4 ag4 ti4 M hb))<|gG M (fun hb=>(cV M M (lb M) (svcB M hb)))<|cAn M hx36<|cAB M<|aB ?_);refine aM<|aT ?_;obtain rfl:=sj_ h;refine ⟨.inr M,(.cons (sv M) .nil)⟩
    ·
     refine aO<|aJ<|aP ?_;obtain ⟨x37,hx37,x38,hx38,x39,hx39,h⟩:=eodd h;obtain ⟨x40,hx40,x41,hx41,h⟩:=edd h;refine cC M [nd1 [1] 39 (.ref 0 5),nd2 [39] [0] 40 (.bool a0.Closed),nd1 [40] 41 (.bool (!a0.Closed)),nd1 [41] 42 (.bool (!a0.Closed)),nd1 [1,42] 43 (.cnd ((!a0.Closed) == false) (.ref 0 2)),nd2 [42,43] [0] 44 (.cnd ((!a0.Closed) == false) (.int .i64 a0.Next)),nd2 [1,42] [0] 45 (.cnd ((!a0.Closed) == false) (.agg (tv1 a0))),nd1 [42,45] 46 (.cnd ((!a0.Closed) == false) (.int .i64 x37)),nd1 [42,44,46] 47 (.cnd ((!a0.Closed) == false) (.bool x38)),nd1 [42,47] 48 (.bool x39),nd1 [48] 49 (.bool x39),nd1 [1,49] 50 (.cnd (x39 == false) (.ref 0 7)),nd2 [49,50] [0] 51 (.cnd (x39 == false) (.bool a0.Again)),nd1 [49,51] 52 (.cnd (x39 == false) (.bool a0.Again)),nd1 [1,52] 53 (.cnd (((x39 == false)&&(a0.Again == true))) (.ref 0 8)),nd2 [52,53] [0] 54 (.cnd (((x39 == false)&&(a0.Again == true))) (.bool a0.Done)),nd1 [49,52,54] 55 (.cnd (x39 == false) (.bool x40)),nd1 [49,55] 56 (.bool x41)] M ?_ (by kernel_rfl) ?_
     ·refine .cons (dFa 5 un37 M ti4 M)<|.cons (dLd un4 ag4 ti4 M)<|.cons (lop M M fun S hA=>(cV M M (lb M) (svaB hA M M)))<|.cons (dMv M)<|.cons (gD M (fun S hA hb=>(aV M M (lb M) un37 M ti3 (by decide) (svaR hA M M) (off':=2) M)))<|.cons (gD M (fun S hA hb=>(cD (d:=.int _ _) M M (lb M) un3 ag3 ti3 (by decide) (svc (d:=.ref _ _) (agr hA M M) hb) (agi hA M M) (nle M) M)))<|.cons (gD M (fun S hA hb=>(bS (cs:=q12) M M (lb M) un37 ag37 ti37 (by decide) (svaR hA M M) (agi hA M M) (nle M) M)))<|.cons (gD M (fun S hA hb=>(aL (r:=.int _ _) M M (lb M) aCp (.cons (svc (d:=.agg (tv1 a0)) (agr hA M M) hb) .nil) M (gP _ _ (gd_t hx37 hb)))))<|.cons (gD M (fun S hA hb=>(cU M M (lb M) (svc (d:=.int _ _) (agr hA M M) hb) (svc (d:=.int _ _) (agr hA M M) hb) M hx38)))<|.cons (lop M M fun S hA=>(mB M M (lb M) (svaB hA M M) M (agr hA M M) hx39))<|.cons (dMv M)<|.cons (gD M (fun S hA hb=>(aV M M (lb M) un37 M ti4 (by decide) (svaR hA M M) (off':=7) M)))<|.cons (gD M (fun S hA hb=>(cD (d:=.bool _) M M (lb M) un4 ag4 ti4 (by decide) (svc (d:=.ref _ _) (agr hA M M) hb) (agi hA M M) (nle M) M)))<|.cons (gD M (fun S hA hb=>(bI M M (lb M) (svc (d:=.bool _) (agr hA M M) hb))))<|.cons (lopg M M M M (by decide) (fun S hA=>grd2 hA M M) (fun S hA hb=>(aV M M (lb M) un37 M ti4 (by decide) (svaR hA M M) (off':=8) M)))<|.cons (lopg M M M M (by decide) (fun S hA=>grd2 hA M M) (fun S hA hb=>(cD (d:=.bool _) M M (lb M) un4 ag4 ti4 (by decide) (svc (d:=.ref _ _) (agr hA M M) hb) (agi hA M M) (nle M) M)))<|.cons (gD M (fun S hA hb=>(fM M M (lb M) hb (svc (d:=.bool _) (agr hA M M) hb) (agr hA M M) M hx40)))<|.cons (lop M M fun S hA=>(mB M M (lb M) (svaB hA M M) M (agr hA M M) hx41)) ?_
      exact .nil
     refine aK h M (fun h=>?_) (fun h=>?_)
     ·
      refine aC (cAs (.bool false) M<|aB ?_);refine aM<|aT ?_;obtain rfl:=sj_ h;refine ⟨.inr M,(.cons (sv M) .nil)⟩
     ·
      refine aO<|aJ ?_;obtain ⟨x43,hx43,h⟩:=bF h;refine aC (cFa 7 un37 M ti4 M<|cLd (d:=.bool _) un4 ag4 ti4 M<|aA M (cV M M (lb M) (svB M))<|cB M<|gG M (fun hb=>(tFa 8 un37 M ti4 M))<|gG M (fun hb=>(tLc (d:=.bool _) un4 ag4 ti4 M hb))<|gG M (fun hb=>(cV M M (lb M) (svcB M hb)))<|cAn M hx43<|cAB M<|aB ?_);obtain ⟨x44,hx44,x45,hx45,x46,hx46,h⟩:=eddd h;obtain ⟨x47,hx47,x48,hx48,h⟩:=edd h;refine aC (cB M<|cB M<|gG M (fun hb=>(tI M))<|gG M (fun hb=>(tCg (b:=1) M hb hx44))<|cAn M hx45<|cB M<|gG M (fun hb=>(tB M))<|gG M (fun hb=>(cV M M (lb M) (svcB M hb)))<|gG M (fun hb=>(bI M M (lb M) (svcB M hb)))<|cG M M (.two M) M (by decide) (fun hb=>(tI M))<|cG M M (.two M) M (by decide) (fun hb=>(tCg (b:=0) M hb hx46))<|gG M (fun hb=>(fM M M (lb M) hb (svcB M hb) M M hx47))<|cOr M hx48<|cAB M<|aB ?_);refine aM ?_;obtain rfl:=sj_ h;refine ⟨.inr M,(.cons (sv M) .nil)⟩

theorem nK (a0:aN) (r:Int) (h:lQ a0=some r):bJ prog 117 [.agg (tv1 a0)] (.int .i64 r):=by
 refine aQ (rs:=[.int .i64 r]) func117 M ntmps117 (nle M) M fun O hO=>?_
 show IWP _ _ _ _ ⟨[(0,.agg (tv1 a0))],[]⟩ _
 unfold lQ at h;refine aC (cBx (cs:=q12) q12 0 M<|cAs (.int _ 0) M<|aB ?_);refine aP<|bD<|mW (α:=Bool) (fun z=>⟨[(1,.ref 0 0),(6,.bool z)],[(0,.blk 37 (tv1 a0))]⟩) (fun z=>lY a0 z=some r) ?_ ?_
 ·
  obtain ⟨x37,hx37,h⟩:=bF h;refine aC (cFa 0 un37 M ti3 M<|cLd (d:=.int _ _) un3 ag3 ti3 M<|cCm (b:=0) M hx37<|cAB M<|aB ?_);refine aK h M (fun h=>?_) (fun h=>?_)
  ·
   refine aO<|aJ ⟨x37,(fun i=>i),⟨(.sames M M),(.cons (.blk M M M) .nil),bX [0] M (by decide),fun _ _=>M⟩,?_⟩;exact h
  ·
   obtain ⟨x39,hx39,h⟩:=bF h;refine aC (cFa 0 un37 M ti3 M<|cLd (d:=.int _ _) un3 ag3 ti3 M<|cCm (b:=1099511623680) M hx39<|cAB M<|aB ?_);refine aK h M (fun h=>?_) (fun h=>?_)
   ·
    refine aO<|aJ ⟨x39,(fun i=>i),⟨(.sames M M),(.cons (.blk M M M) .nil),bX [0] M (by decide),fun _ _=>M⟩,?_⟩;exact h
   ·
    obtain ⟨x41,hx41,h⟩:=bF h;refine aC (cFa 2 un37 M ti3 M<|cLd (d:=.int _ _) un3 ag3 ti3 M<|cFa 0 un37 M ti3 M<|cLd (d:=.int _ _) un3 ag3 ti3 M<|cCm M hx41<|cAB M<|aB ?_);refine aK h M (fun h=>?_) (fun h=>?_)
    ·
     refine aO<|aJ ⟨x41,(fun i=>i),⟨(.sames M M),(.cons (.blk M M M) .nil),bX [0] M (by decide),fun _ _=>M⟩,?_⟩;exact h
    ·
     obtain ⟨x43,hx43,x44,hx44,h⟩:=edd h;refine aZ (cFa 2 un37 M ti3 M<|cLd (d:=.int _ _) un3 ag3 ti3 M<|cFa 0 un37 M ti3 M<|cLd (d:=.int _ _) un3 ag3 ti3 M<|aA M (aX M M (lb M) (svI M) (svI M) M hx43)<|cFa 1 un37 M ti9 M<|cLd (d:=.str _) un9 ag9 ti9 M<|aA M (cF M M (lb M) un9 (sv (d:=.str _) M) M)<|cCm M hx44<|cAB M<|bN ?_);refine aJ ⟨x44,(fun i=>i),⟨(.sames M M),(.cons (.blk M M M) .nil),bX [0] M (by decide),fun _ _=>M⟩,?_⟩;exact h
 ·
  rintro v9 h;unfold lY at h;refine aK h M (fun h=>?_) (fun h=>?_)
  ·
   refine aC (cAs (.int _ 8) M<|aB ?_);refine aM<|bM<|aT ?_;obtain rfl:=sj_ h;refine ⟨.inr M,(.cons (sv M) .nil)⟩
  ·
   obtain ⟨x11,hx11,h⟩:=bF h;refine aC (cFa 1 un37 M ti9 M<|cLd (d:=.str _) un9 ag9 ti9 M<|aA M (cF M M (lb M) un9 (sv (d:=.str _) M) M)<|cCm (b:=4096) M hx11<|cAB M<|aB ?_);refine aK h M (fun h=>?_) (fun h=>?_)
   ·
    refine aC (cAs (.int _ 5) M<|aB ?_);refine aM<|bM<|aT ?_;obtain rfl:=sj_ h;refine ⟨.inr M,(.cons (sv M) .nil)⟩
   ·
    obtain ⟨x13,hx13,h⟩:=bR h;refine aC (cLr q12 la37 M<|aA M (aL (r:=.bool _) M M (lb M) cl160 (.cons (svA q12 M) .nil) M (zO _ _ hx13))<|aA M (cV M M (lb M) (svB M))<|cAB M<|aB ?_);refine aK h M (fun h=>?_) (fun h=>?_)
    ·
     refine aC (cAs (.int _ 4) M<|aB ?_);refine aM<|bM<|aT ?_;obtain rfl:=sj_ h;refine ⟨.inr M,(.cons (sv M) .nil)⟩
    ·
     refine aO<|bW<|aJ<|aC (cFa 0 un37 M ti3 M<|cLd (d:=.int _ _) un3 ag3 ti3 M<|cAI M<|aB ?_);refine aP<|aC (cFa 3 un37 M ti33 M<|aA M (lrL la33 M M M M M (nle M) M)<|aA M (bY aD (l:=a0.Pieces) M M (lb M) un33 (svL M))<|cMv (.int _ 0) M<|aB ?_);refine bD<|cK (α:=Nat×Int×Int) (fun z=>⟨[(1,.ref 0 0),(3,.int .i64 z.2.1),(39,.slice false (a0.Pieces.map aD.d)),(40,.int .i64 (a0.Pieces.length:Int)),(41,.int .i64 z.2.2)],[(0,.blk 37 (tv1 a0))]⟩) (fun z=>jY a0 z.1 z.2.1 z.2.2=some r) (fun z=>z.1) (fuel,a0.Base,0) (fun i=>i) ⟨(.sames M M),(.cons (.blk M M M) .nil),bX [0] M (by decide),fun _ _=>M⟩ ?_ ?_
     ·exact h
     ·
      rintro ⟨n1,v21,v22⟩ h
      cases n1 with
      | zero=>exact absurd h (by unfold jY; exact nofun)
      | succ n1 =>
       unfold jY at h;obtain ⟨x29,hx29,h⟩:=bF h;refine aC (cCm M hx29<|aB ?_);refine aP<|aK h M (fun h=>?_) (fun h=>?_)
       ·
        refine aO<|aJ<|aP<|bD ?_;obtain ⟨x31,hx31,h⟩:=bR h;refine aC (aA M (bQ aD (cs:=q20) M M (lb M) un33 dH (svL M) (svI M) hx31 M M)<|aA M (cJ (cs:=q20) M M (lb M) fL sG dH (by decide) (sv (d:=.fptr q20) M) (nle M) M)<|aA M (aR (cs:=q20) (cs':=(w49 0 0 0 false)) 1 M M (lb M) M dH M M (.all _))<|cSt q20 q20 dH M<|aB ?_);refine aP ?_;obtain ⟨x32,hx32,h⟩:=bR h;refine aC (cLr q12 la37 M<|cLr q20 yO M<|cI M<|aA M (aL (r:=.bool _) M M (lb M) cl161 (.cons (svA q12 M) (.cons (svA q20 M) (.cons (svI M) .nil))) M (zP _ _ _ _ hx32))<|aA M (cV M M (lb M) (svB M))<|aB ?_);refine aK h M (fun h=>?_) (fun h=>?_)
        ·
         refine aC (cAs (.int _ 10) M<|aB ?_);refine aM<|aT<|bM<|aT<|aT<|bM<|aT ?_;obtain rfl:=sj_ h;refine ⟨.inr M,(.cons (sv M) .nil)⟩
        ·
         refine aO<|aJ<|aZ (cFa 1 fL M ti3 M<|cLd (d:=.int _ _) un3 ag3 ti3 M<|cAI M<|bN ?_);refine bW<|aJ ?_;obtain ⟨x34,hx34,h⟩:=bF h;refine aZ (aA M (aX M M (lb M) (svI M) (sv (d:=.int _ 1) M) M hx34)<|cI M<|bN ?_);refine aJ ⟨(n1,x31.To,x34),(fun i=>i),⟨(.sames M M),(.cons (.blk M M M) .nil),bX [0] M (by decide),fun _ _=>M⟩,?_,?_⟩;exact h;exact Nat.lt_succ_self _
       ·
        refine cR<|bP<|bP<|cS<|aJ<|aP ?_;obtain ⟨x35,hx35,h⟩:=bR h;refine aC (cLr q12 la37 M<|aA M (aL (r:=.bool _) M M (lb M) cl162 (.cons (svA q12 M) .nil) M (zQ _ _ hx35))<|aA M (cV M M (lb M) (svB M))<|aB ?_);refine aK h M (fun h=>?_) (fun h=>?_)
        ·
         refine aC (cAs (.int _ 9) M<|aB ?_);refine aM<|aT ?_;obtain rfl:=sj_ h;refine ⟨.inr M,(.cons (sv M) .nil)⟩
        ·
         refine aO<|aJ<|aC (cAs (.int _ 0) M<|aB ?_);refine aM ?_;obtain rfl:=sj_ h;refine ⟨.inr M,(.cons (sv M) .nil)⟩

theorem yK (a0:aW) (r:Int) (h:pR a0=some r):bJ prog 147 [.agg (tv5 a0)] (.int .i64 r):=by
 refine aQ (rs:=[.int .i64 r]) func147 M ntmps147 (nle M) M fun O hO=>?_
 show IWP _ _ _ _ ⟨[(0,.agg (tv5 a0))],[]⟩ _
 unfold pR at h;refine aC (cBx (cs:=q22) q22 0 M<|cAs (.int _ 0) M<|aB ?_);obtain ⟨x1,hx1,x2,hx2,x3,hx3,h⟩:=eddd h;refine aC (cFa 0 un40 M ti3 M<|cLd (d:=.int _ _) un3 ag3 ti3 M<|cFa 1 un40 M ti9 M<|cLd (d:=.str _) un9 ag9 ti9 M<|aA M (cF M M (lb M) un9 (sv (d:=.str _) M) M)<|aA M (aX M M (lb M) (svI M) (svI M) M hx1)<|aA M (aX M M (lb M) (svI M) (sv (d:=.int _ 4096) M) M hx2)<|aA M (iN M M (lb M) (svI M) (sv (d:=.int _ 1099511627776) M) hx3)<|cAI M<|aB ?_);refine aM ?_;obtain rfl:=sj_ h;refine ⟨.inr M,(.cons (sv M) .nil)⟩

theorem jT (a0:aS) (r:Int) (h:fT a0=some r):bJ prog 150 [.agg [.int .i64 a0.At,.str a0.Data]] (.int .i64 r):=by
 refine aQ (rs:=[.int .i64 r]) func150 M ntmps150 (nle M) M fun O hO=>?_
 show IWP _ _ _ _ ⟨[(0,.agg [.int .i64 a0.At,.str a0.Data])],[]⟩ _
 unfold fT at h;refine aC (cBx (cs:=q27) q27 0 M<|cAs (.int _ 0) M<|aB ?_);obtain ⟨x1,hx1,h⟩:=bF h;refine aC (cFa 0 jK M ti3 M<|cLd (d:=.int _ _) un3 ag3 ti3 M<|cFa 1 jK M ti9 M<|cLd (d:=.str _) un9 ag9 ti9 M<|aA M (cF M M (lb M) un9 (sv (d:=.str _) M) M)<|aA M (aX M M (lb M) (svI M) (svI M) M hx1)<|cAI M<|aB ?_);refine aM ?_;obtain rfl:=sj_ h;refine ⟨.inr M,(.cons (sv M) .nil)⟩

theorem tO (a0:aW) (r:Int) (h:oN a0=some r):bJ prog 143 [.agg (tv5 a0)] (.int .i64 r):=by
 refine aQ (rs:=[.int .i64 r]) func143 M ntmps143 (nle M) M fun O hO=>?_
 show IWP _ _ _ _ ⟨[(0,.agg (tv5 a0))],[]⟩ _
 unfold oN at h;refine aC (cBx (cs:=q22) q22 0 M<|cAs (.int _ 0) M<|aB ?_);refine aP ?_;obtain ⟨x1,hx1,x2,hx2,x3,hx3,h⟩:=eddd h;obtain ⟨x4,hx4,x5,hx5,x6,hx6,h⟩:=eddd h;refine aC (cFa 0 un40 M ti3 M<|cLd (d:=.int _ _) un3 ag3 ti3 M<|cCm (b:=0) M hx1<|cB M<|gG M (fun hb=>(tFa 0 un40 M ti3 M))<|gG M (fun hb=>(tLc (d:=.int _ _) un3 ag3 ti3 M hb))<|gG M (fun hb=>(tCg (b:=1099511627776) M hb hx2))<|cOr M hx3<|cB M<|gG M (fun hb=>(tFa 1 un40 M ti9 M))<|gG M (fun hb=>(tLc (d:=.str _) un9 ag9 ti9 M hb))<|gG M (fun hb=>(cF M M (lb M) un9 (svc (d:=.str _) M hb) M))<|gG M (fun hb=>(tFa 0 un40 M ti3 M))<|gG M (fun hb=>(tLc (d:=.int _ _) un3 ag3 ti3 M hb))<|gG M (fun hb=>(iN M M (lb M) (svcI M hb) (sv (d:=.int _ 4096) M) hx4))<|gG M (fun hb=>(tCh M hb hx5))<|cOr M hx6<|aB ?_);refine aK h M (fun h=>?_) (fun h=>?_)
 ·
  refine aC (cAs (.int _ 8) M<|aB ?_);refine aM<|aT ?_;obtain rfl:=sj_ h;refine ⟨.inr M,(.cons (sv M) .nil)⟩
 ·
  refine aO<|aJ ?_;obtain ⟨x8,hx8,h⟩:=bR h;refine cC M [nd1 [1] 24 (.ref 0 0),nd2 [24] [0] 25 (.int .i64 a0.Base),nd2 [1] [0] 26 (.agg (tv5 a0)),nd1 [26] 27 (.int .i64 x8),nd1 [25] 3 (.int .i64 a0.Base),nd1 [27] 4 (.int .i64 x8)] M ?_ (by kernel_rfl) ?_
  ·refine .cons (dFa 0 un40 M ti3 M)<|.cons (dLd un3 ag3 ti3 M)<|.cons (dLa un40 ag40 ti40 M)<|.cons (lop M M fun S hA=>(aL (r:=.int _ _) M M (lb M) cl147 (.cons (svaA q22 hA M M) .nil) M (yK _ _ hx8)))<|.cons (lop M M fun S hA=>(bV M M (lb M) (svaI hA M M)))<|.cons (lop M M fun S hA=>(bV M M (lb M) (svaI hA M M))) ?_
   exact .nil
  refine aP<|aC (cFa 2 un40 M ti38 M<|aA M (lrL la38 M M M M M (nle M) M)<|aA M (bY aF (l:=a0.Parts) M M (lb M) un38 (svL M))<|cMv (.int _ 0) M<|aB ?_);refine bD<|cK (α:=Nat×Int×Int) (fun z=>⟨[(3,.int .i64 z.2.1),(4,.int .i64 x8),(29,.slice false (a0.Parts.map aF.d)),(30,.int .i64 (a0.Parts.length:Int)),(31,.int .i64 z.2.2)],[]⟩) (fun z=>iT a0 x8 z.1 z.2.1 z.2.2=some r) (fun z=>z.1) (fuel,a0.Base,0) (fun i=>i) ⟨(.sames M M),.nil,bX [] M (by decide),fun _ _=>M⟩ ?_ ?_
  ·exact h
  ·
   rintro ⟨n0,v23,v24⟩ h
   cases n0 with
   | zero=>exact absurd h (by unfold iT; exact nofun)
   | succ n0 =>
    unfold iT at h;obtain ⟨x39,hx39,h⟩:=bF h;refine aC (cCm M hx39<|aB ?_);refine aP<|aK h M (fun h=>?_) (fun h=>?_)
    ·
     refine aO<|aJ<|aP<|bD ?_;obtain ⟨x41,hx41,h⟩:=bR h;refine aC (aA M (bQ aF (cs:=q27) M M (lb M) un38 iJ (svL M) (svI M) hx41 M M)<|aA M (cJ (cs:=q27) M M (lb M) jK xD iJ (by decide) (sv (d:=.fptr q27) M) (nle M) M)<|aA M (aR (cs:=q27) (cs':=[.int .i64 0,.str []]) 0 M M (lb M) M iJ M M (.all _))<|cSt q27 q27 iJ M<|aB ?_);refine aP ?_;obtain ⟨x42,hx42,x43,hx43,x44,hx44,h⟩:=eddd h;obtain ⟨x45,hx45,x46,hx46,x47,hx47,h⟩:=eddd h;obtain ⟨x48,hx48,x49,hx49,h⟩:=edd h;refine aC (cFa 0 jK M ti3 M<|cLd (d:=.int _ _) un3 ag3 ti3 M<|cI M<|cCm M hx42<|cB M<|gG M (fun hb=>(tFa 1 jK M ti9 M))<|gG M (fun hb=>(tLc (d:=.str _) un9 ag9 ti9 M hb))<|gG M (fun hb=>(mA M M (lb M) (svc (d:=.str _) M hb) (sv (d:=.str []) M) M hx43))<|cOr M hx44<|cB M<|gG M (fun hb=>(tFa 0 jK M ti3 M))<|gG M (fun hb=>(tLc (d:=.int _ _) un3 ag3 ti3 M hb))<|gG M (fun hb=>(tI M))<|gG M (fun hb=>(tCh M hb hx45))<|cOr M hx46<|cB M<|gG M (fun hb=>(tFa 1 jK M ti9 M))<|gG M (fun hb=>(tLc (d:=.str _) un9 ag9 ti9 M hb))<|gG M (fun hb=>(cF M M (lb M) un9 (svc (d:=.str _) M hb) M))<|gG M (fun hb=>(tI M))<|gG M (fun hb=>(tFa 0 jK M ti3 M))<|gG M (fun hb=>(tLc (d:=.int _ _) un3 ag3 ti3 M hb))<|gG M (fun hb=>(aX M M (lb M) (svcI M hb) (svcI M hb) M hx47))<|gG M (fun hb=>(tCh M hb hx48))<|cOr M hx49<|aB ?_);refine aK h M (fun h=>?_) (fun h=>?_)
     ·
      refine aC (cAs (.int _ 10) M<|aB ?_);refine aM<|aT<|bM<|aT<|aT<|bM<|aT ?_;obtain rfl:=sj_ h;refine ⟨.inr M,(.cons (sv M) .nil)⟩
     ·
      refine aO<|aJ ?_;obtain ⟨x51,hx51,h⟩:=bR h;refine aZ (cLr q27 la228 M<|aA M (aL (r:=.int _ _) M M (lb M) aER (.cons (svA q27 M) .nil) M (jT _ _ hx51))<|cAI M<|bN ?_);refine bW<|aJ ?_;obtain ⟨x52,hx52,h⟩:=bF h;refine aZ (aA M (aX M M (lb M) (svI M) (sv (d:=.int _ 1) M) M hx52)<|cI M<|bN ?_);refine aJ ⟨(n0,x51,x52),(fun i=>i),⟨(.sames M M),.nil,bX [] M (by decide),fun _ _=>M⟩,?_,?_⟩;exact h;exact Nat.lt_succ_self _
    ·
     refine cR<|bP<|bP<|cS<|aJ<|aC (cAs (.int _ 0) M<|aB ?_);refine aM ?_;obtain rfl:=sj_ h;refine ⟨.inr M,(.cons (sv M) .nil)⟩

theorem wY (a0:bE) (r:iC) (h:pF a0=some r):bJ prog 97 [.agg (tv4 a0)] (.agg (tv3 r)):=by
 refine aQ (rs:=[.agg (tv3 r)]) func97 M ntmps97 (nle M) M fun O hO=>?_
 show IWP _ _ _ _ ⟨[(0,.agg (tv4 a0))],[]⟩ _
 unfold pF at h;refine aC (cBx (cs:=q19) q19 0 M<|aA M (aR (cs:=q21) (cs':=zs1) 1 M M (lb M) M aD3 M M (.k (.k (.cons (.nils _) (.all _)))))<|aB ?_);refine aC (cFa 0 un42 M ti40 M<|cLr q22 la40 M<|cFa 3 un42 M ti3 M<|cLd (d:=.int _ _) un3 ag3 ti3 M<|aA M (bA (cs:=q19) M M (lb M) aA2 aD3 pl173 M (.cons (svA q22 M) (.cons (svI M) .nil)) M)<|cSt q19 q19 aD3 M<|aB ?_);refine aM ?_;obtain rfl:=sj_ h;refine ⟨.inr M,(.cons (rva aF4 M M (nle M) M) .nil)⟩

theorem rW (a0:iC) (r:Int) (h:jS a0=some r):bJ prog 145 [.agg (tv3 a0)] (.int .i64 r):=by
 refine aQ (rs:=[.int .i64 r]) func145 M ntmps145 (nle M) M fun O hO=>?_
 show IWP _ _ _ _ ⟨[(0,.agg (tv3 a0))],[]⟩ _
 unfold jS at h;refine aC (cBx (cs:=q19) q19 0 M<|cAs (.int _ 0) M<|aB ?_);refine aP<|aC (cFa 0 aA2 M ti40 M<|cFa 2 un40 M ti38 M<|aA M (lrL la38 M M M M M (nle M) M)<|aA M (bY aF (l:=a0.State.Parts) M M (lb M) un38 (svL M))<|cAI M<|aB ?_);obtain ⟨x1,hx1,h⟩:=bF h;refine aC (cI M<|cCm (b:=0) M hx1<|aB ?_);refine aK h M (fun h=>?_) (fun h=>?_)
 ·
  obtain ⟨x3,hx3,x4,hx4,x5,hx5,h⟩:=edod h;obtain ⟨x6,hx6,x7,hx7,h⟩:=eod h;refine cC M [nd1 [1] 10 (.ref 0 0),nd1 [10] 11 (.ref 0 2),nd2 [11] [0] 12 (.slice false (a0.State.Parts.map aF.d)),nd1 [3] 13 (.int .i64 (a0.State.Parts.length:Int)),nd1 [13] 14 (.int .i64 x3),nd1 [12,14] 15 (.fptr [.int .i64 x4.At,.str x4.Data]),nd1 [15] 16 (.fptr [.int .i64 x4.At]),nd1 [16] 17 (.int .i64 x4.At),nd1 [1] 18 (.ref 0 0),nd1 [18] 19 (.ref 0 2),nd2 [19] [0] 20 (.slice false (a0.State.Parts.map aF.d)),nd1 [3] 21 (.int .i64 (a0.State.Parts.length:Int)),nd1 [21] 22 (.int .i64 x5),nd1 [20,22] 23 (.fptr [.int .i64 x6.At,.str x6.Data]),nd1 [23] 24 (.fptr [.str x6.Data]),nd1 [24] 25 (.str x6.Data),nd1 [25] 26 (.int .i64 (x6.Data.length:Int)),nd1 [17,26] 27 (.int .i64 x7),nd1 [27] 2 (.int .i64 x7)] M ?_ (by kernel_rfl) ?_
  ·refine .cons (dFa 0 aA2 M ti40 M)<|.cons (dFa 2 un40 M ti38 M)<|.cons (dLd un38 ag38 ti38 M)<|.cons (dMv M)<|.cons (lop M M fun S hA=>(aX M M (lb M) (svaI hA M M) (sv (d:=.int _ 1) M) M hx3))<|.cons (lop M M fun S hA=>(bQ aF (cs:=q27) M M (lb M) un38 iJ (svaL hA M M) (svaI hA M M) hx4 M M))<|.cons (lop M M fun S hA=>(bG (cs':=[.int _ _]) M M (lb M) jK M ti3 (by decide) (sv (d:=.fptr q27) (agr hA M M)) M))<|.cons (lop M M fun S hA=>(bU M M (lb M) un3 ag3 ti3 (by decide) (sv (d:=.fptr [.int _ _]) (agr hA M M)) (nle M)))<|.cons (dFa 0 aA2 M ti40 M)<|.cons (dFa 2 un40 M ti38 M)<|.cons (dLd un38 ag38 ti38 M)<|.cons (dMv M)<|.cons (lop M M fun S hA=>(aX M M (lb M) (svaI hA M M) (sv (d:=.int _ 1) M) M hx5))<|.cons (lop M M fun S hA=>(bQ aF (cs:=q27) M M (lb M) un38 iJ (svaL hA M M) (svaI hA M M) hx6 M M))<|.cons (lop M M fun S hA=>(bG (cs':=[.str _]) M M (lb M) jK M ti9 (by decide) (sv (d:=.fptr q27) (agr hA M M)) M))<|.cons (lop M M fun S hA=>(bU M M (lb M) un9 ag9 ti9 (by decide) (sv (d:=.fptr [.str _]) (agr hA M M)) (nle M)))<|.cons (lop M M fun S hA=>(cF M M (lb M) un9 (sv (d:=.str _) (agr hA M M)) M))<|.cons (lop M M fun S hA=>(aX M M (lb M) (svaI hA M M) (svaI hA M M) M hx7))<|.cons (lop M M fun S hA=>(bV M M (lb M) (svaI hA M M))) ?_
   exact .nil
  refine aM<|aT ?_;obtain rfl:=sj_ h;refine ⟨.inr M,(.cons (sv M) .nil)⟩
 ·
  refine aO<|aJ<|aC (cFa 0 aA2 M ti40 M<|cFa 0 un40 M ti3 M<|cLd (d:=.int _ _) un3 ag3 ti3 M<|cAI M<|aB ?_);refine aM ?_;obtain rfl:=sj_ h;refine ⟨.inr M,(.cons (sv M) .nil)⟩

theorem aAl (a0:bE) (r:Int) (h:qE a0=some r):bJ prog 118 [.agg (tv4 a0)] (.int .i64 r):=by
 refine aQ (rs:=[.int .i64 r]) func118 M ntmps118 (nle M) M fun O hO=>?_
 show IWP _ _ _ _ ⟨[(0,.agg (tv4 a0))],[]⟩ _
 unfold qE at h;refine aC (cBx (cs:=q19) q19 0 M<|cAs (.int _ 0) M<|aB ?_);obtain ⟨x1,hx1,x2,hx2,h⟩:=eoo h;refine aC (cLr q19 la42 M<|aA M (aL (r:=.agg q19) M M (lb M) cl97 (.cons (svA q19 M) .nil) M (wY _ _ hx1))<|aA M (aL (r:=.int _ _) M M (lb M) cl145 (.cons (svA q19 M) .nil) M (rW _ _ hx2))<|cAI M<|aB ?_);refine aM ?_;obtain rfl:=sj_ h;refine ⟨.inr M,(.cons (sv M) .nil)⟩

theorem uV (a0:bE) (r:Int) (h:oY a0=some r):bJ prog 96 [.agg (tv4 a0)] (.int .i64 r):=by
 refine aQ (rs:=[.int .i64 r]) func96 M ntmps96 (nle M) M fun O hO=>?_
 show IWP _ _ _ _ ⟨[(0,.agg (tv4 a0))],[]⟩ _
 unfold oY at h;refine aC (cBx (cs:=q19) q19 0 M<|cAs (.int _ 0) M<|aB ?_);refine aP ?_;obtain ⟨x1,hx1,h⟩:=bR h;refine aC (cFa 0 un42 M ti40 M<|cLr q22 la40 M<|aA M (aL (r:=.int _ _) M M (lb M) cl143 (.cons (svA q22 M) .nil) M (tO _ _ hx1))<|cAI M<|aB ?_);obtain ⟨x2,hx2,h⟩:=bF h;refine aC (cI M<|cCm (b:=0) M hx2<|aB ?_);refine aK h M (fun h=>?_) (fun h=>?_)
 ·
  refine aC (cI M<|cAI M<|aB ?_);refine aM<|aT ?_;obtain rfl:=sj_ h;refine ⟨.inr M,(.cons (sv M) .nil)⟩
 ·
  refine aO<|aJ<|aP ?_;obtain ⟨x4,hx4,x5,hx5,x6,hx6,h⟩:=edod h;obtain ⟨x7,hx7,x8,hx8,x9,hx9,h⟩:=eddd h;refine cC M [nd1 [1] 10 (.ref 0 3),nd2 [10] [0] 11 (.int .i64 a0.End),nd1 [11] 12 (.bool x4),nd1 [12] 13 (.bool x4),nd1 [1,13] 14 (.cnd (x4 == true) (.ref 0 3)),nd2 [13,14] [0] 15 (.cnd (x4 == true) (.int .i64 a0.End)),nd2 [1,13] [0] 16 (.cnd (x4 == true) (.agg (tv4 a0))),nd1 [13,16] 17 (.cnd (x4 == true) (.int .i64 x5)),nd1 [13,15,17] 18 (.cnd (x4 == true) (.bool x6)),nd1 [13,18] 19 (.cnd (x4 == true) (.bool x6)),nd1 [1,19] 20 (.cnd (((x4 == true)&&(x6 == false))) (.ref 0 3)),nd2 [19,20] [0] 21 (.cnd (((x4 == true)&&(x6 == false))) (.int .i64 a0.End)),nd1 [19,21] 22 (.cnd (((x4 == true)&&(x6 == false))) (.bool x7)),nd1 [13,19,22] 23 (.cnd (x4 == true) (.bool x8)),nd1 [13,23] 24 (.bool x9)] M ?_ (by kernel_rfl) ?_
  ·refine .cons (dFa 3 un42 M ti3 M)<|.cons (dLd un3 ag3 ti3 M)<|.cons (lop M M fun S hA=>(cU M M (lb M) (svaI hA M M) (sv (d:=.int _ (-1)) M) M hx4))<|.cons (dMv M)<|.cons (gD M (fun S hA hb=>(aV M M (lb M) un42 M ti3 (by decide) (svaR hA M M) (off':=3) M)))<|.cons (gD M (fun S hA hb=>(cD (d:=.int _ _) M M (lb M) un3 ag3 ti3 (by decide) (svc (d:=.ref _ _) (agr hA M M) hb) (agi hA M M) (nle M) M)))<|.cons (gD M (fun S hA hb=>(bS (cs:=q19) M M (lb M) un42 ag42 ti42 (by decide) (svaR hA M M) (agi hA M M) (nle M) M)))<|.cons (gD M (fun S hA hb=>(aL (r:=.int _ _) M M (lb M) cl118 (.cons (svc (d:=.agg (tv4 a0)) (agr hA M M) hb) .nil) M (aAl _ _ (gd_t hx5 hb)))))<|.cons (gD M (fun S hA hb=>(cU M M (lb M) (svc (d:=.int _ _) (agr hA M M) hb) (svc (d:=.int _ _) (agr hA M M) hb) M hx6)))<|.cons (gD M (fun S hA hb=>(bI M M (lb M) (svc (d:=.bool _) (agr hA M M) hb))))<|.cons (lopg M M M M (by decide) (fun S hA=>grd2 hA M M) (fun S hA hb=>(aV M M (lb M) un42 M ti3 (by decide) (svaR hA M M) (off':=3) M)))<|.cons (lopg M M M M (by decide) (fun S hA=>grd2 hA M M) (fun S hA hb=>(cD (d:=.int _ _) M M (lb M) un3 ag3 ti3 (by decide) (svc (d:=.ref _ _) (agr hA M M) hb) (agi hA M M) (nle M) M)))<|.cons (lopg M M M M (by decide) (fun S hA=>grd2 hA M M) (fun S hA hb=>(cU M M (lb M) (svc (d:=.int _ _) (agr hA M M) hb) (sv (d:=.int _ 1099511627776) M) M hx7)))<|.cons (gD M (fun S hA hb=>(qA M M (lb M) hb (svc (d:=.bool _) (agr hA M M) hb) M (agr hA M M) hx8)))<|.cons (lop M M fun S hA=>(kK M M (lb M) (svaB hA M M) (agr hA M M) M hx9)) ?_
   exact .nil
  refine aK h M (fun h=>?_) (fun h=>?_)
  ·
   refine aC (cAs (.int _ 8) M<|aB ?_);refine aM<|aT ?_;obtain rfl:=sj_ h;refine ⟨.inr M,(.cons (sv M) .nil)⟩
  ·
   refine aO<|aJ<|aC (cAs (.int _ 0) M<|aB ?_);refine aM ?_;obtain rfl:=sj_ h;refine ⟨.inr M,(.cons (sv M) .nil)⟩

theorem xJ (a0:aH) (r:Int) (h:nY a0=some r):bJ prog 63 [.agg (tv0 a0)] (.int .i64 r):=by
 refine aQ (rs:=[.int .i64 r]) func63 M ntmps63 (nle M) M fun O hO=>?_
 show IWP _ _ _ _ ⟨[(0,.agg (tv0 a0))],[]⟩ _
 unfold nY at h;refine aC (cBx (cs:=q10) q10 0 M<|cAs (.int _ 0) M<|aB ?_);refine aP ?_;obtain ⟨x1,hx1,h⟩:=bR h;refine aC (cFa 14 un46 M ti44 M<|cLr q18 la44 M<|aA M (aL (r:=.int _ _) M M (lb M) cl95 (.cons (svA q18 M) .nil) M (kP _ _ hx1))<|cAI M<|aB ?_);obtain ⟨x2,hx2,h⟩:=bF h;refine aC (cI M<|cCm (b:=0) M hx2<|aB ?_);refine aK h M (fun h=>?_) (fun h=>?_)
 ·
  refine aC (cI M<|cAI M<|aB ?_);refine aM<|aT ?_;obtain rfl:=sj_ h;refine ⟨.inr M,(.cons (sv M) .nil)⟩
 ·
  refine aO<|aJ<|aP ?_;obtain ⟨x4,hx4,h⟩:=bR h;refine aC (cFa 18 un46 M ti44 M<|cLr q18 la44 M<|aA M (aL (r:=.int _ _) M M (lb M) cl95 (.cons (svA q18 M) .nil) M (kP _ _ hx4))<|cAI M<|aB ?_);obtain ⟨x5,hx5,h⟩:=bF h;refine aC (cI M<|cCm (b:=0) M hx5<|aB ?_);refine aK h M (fun h=>?_) (fun h=>?_)
  ·
   refine aC (cI M<|cAI M<|aB ?_);refine aM<|aT ?_;obtain rfl:=sj_ h;refine ⟨.inr M,(.cons (sv M) .nil)⟩
  ·
   refine aO<|aJ<|aP ?_;obtain ⟨x7,hx7,h⟩:=bR h;refine aC (cFa 1 un46 M ti37 M<|cLr q12 la37 M<|aA M (aL (r:=.int _ _) M M (lb M) aDP (.cons (svA q12 M) .nil) M (nK _ _ hx7))<|cAI M<|aB ?_);obtain ⟨x8,hx8,h⟩:=bF h;refine aC (cI M<|cCm (b:=0) M hx8<|aB ?_);refine aK h M (fun h=>?_) (fun h=>?_)
   ·
    refine aC (cI M<|cAI M<|aB ?_);refine aM<|aT ?_;obtain rfl:=sj_ h;refine ⟨.inr M,(.cons (sv M) .nil)⟩
   ·
    refine aO<|aJ ?_;obtain ⟨x10,hx10,h⟩:=bR h;refine aC (cFa 10 un46 M ti42 M<|cLr q19 la42 M<|aA M (aL (r:=.int _ _) M M (lb M) cl96 (.cons (svA q19 M) .nil) M (uV _ _ hx10))<|cAI M<|aB ?_);refine aM ?_;obtain rfl:=sj_ h;refine ⟨.inr M,(.cons (sv M) .nil)⟩

theorem xK (a0:aH) (r:Bool) (h:nZ a0=some r):bJ prog 64 [.agg (tv0 a0)] (.bool r):=by
 refine aQ (rs:=[.bool r]) func64 M ntmps64 (nle M) M fun O hO=>?_
 show IWP _ _ _ _ ⟨[(0,.agg (tv0 a0))],[]⟩ _
 unfold nZ at h;refine aC (cBx (cs:=q10) q10 0 M<|cAs (.bool false) M<|aB ?_);obtain ⟨x1,hx1,x2,hx2,h⟩:=eod h;refine cC M [nd1 [1] 5 (.ref 0 10),nd1 [5] 6 (.ref 0 13),nd2 [6] [0] 7 (.int .i64 a0.Recv.End),nd1 [1] 8 (.ref 0 10),nd2 [8] [0] 9 (.agg (tv4 a0.Recv)),nd1 [9] 10 (.int .i64 x1),nd1 [7,10] 11 (.int .i64 x2),nd1 [11] 3 (.int .i64 x2)] M ?_ (by kernel_rfl) ?_
 ·refine .cons (dFa 10 un46 M ti42 M)<|.cons (dFa 13 un42 M ti3 M)<|.cons (dLd un3 ag3 ti3 M)<|.cons (dFa 10 un46 M ti42 M)<|.cons (dLa un42 ag42 ti42 M)<|.cons (lop M M fun S hA=>(aL (r:=.int _ _) M M (lb M) cl118 (.cons (svaA q19 hA M M) .nil) M (aAl _ _ hx1)))<|.cons (lop M M fun S hA=>(mC M M (lb M) (svaI hA M M) (svaI hA M M) hx2))<|.cons (lop M M fun S hA=>(bV M M (lb M) (svaI hA M M))) ?_
  exact .nil
 obtain ⟨x3,hx3,h⟩:=bF h;refine aC (cFa 10 un46 M ti42 M<|cFa 10 un42 M ti40 M<|cFa 10 un40 M ti3 M<|cLd (d:=.int _ _) un3 ag3 ti3 M<|cFa 10 un46 M ti42 M<|cFa 10 un42 M ti40 M<|cFa 11 un40 M ti9 M<|cLd (d:=.str _) un9 ag9 ti9 M<|aA M (cF M M (lb M) un9 (sv (d:=.str _) M) M)<|aA M (aX M M (lb M) (svI M) (svI M) M hx3)<|cAI M<|aB ?_);obtain ⟨x4,hx4,x5,hx5,x6,hx6,h⟩:=eddd h;obtain ⟨x7,hx7,x8,hx8,x9,hx9,h⟩:=eddd h;obtain ⟨x10,hx10,x11,hx11,h⟩:=edd h;refine aC (cFa 14 un46 M ti44 M<|cFa 16 un44 M ti3 M<|cLd (d:=.int _ _) un3 ag3 ti3 M<|cFa 1 un46 M ti37 M<|cFa 3 un37 M ti3 M<|cLd (d:=.int _ _) un3 ag3 ti3 M<|cCm M hx4<|cB M<|gG M (fun hb=>(tFa 18 un46 M ti44 M))<|gG M (fun hb=>(aV M M (lb M) un44 M ti3 (by decide) (svcR M hb) (off':=20) M))<|gG M (fun hb=>(tLc (d:=.int _ _) un3 ag3 ti3 M hb))<|gG M (fun hb=>(tI M))<|gG M (fun hb=>(tCh M hb hx5))<|cAn M hx6<|cB M<|gG M (fun hb=>(tFa 18 un46 M ti44 M))<|gG M (fun hb=>(aV M M (lb M) un44 M ti3 (by decide) (svcR M hb) (off':=21) M))<|gG M (fun hb=>(tLc (d:=.int _ _) un3 ag3 ti3 M hb))<|gG M (fun hb=>(tI M))<|gG M (fun hb=>(tCh M hb hx7))<|cAn M hx8<|cB M<|gG M (fun hb=>(tFa 18 un46 M ti44 M))<|gG M (fun hb=>(aV M M (lb M) un44 M ti3 (by decide) (svcR M hb) (off':=19) M))<|gG M (fun hb=>(tLc (d:=.int _ _) un3 ag3 ti3 M hb))<|gG M (fun hb=>(tI M))<|gG M (fun hb=>(tFa 18 un46 M ti44 M))<|gG M (fun hb=>(aV M M (lb M) un44 M ti3 (by decide) (svcR M hb) (off':=18) M))<|gG M (fun hb=>(tLc (d:=.int _ _) un3 ag3 ti3 M hb))<|gG M (fun hb=>(aX M M (lb M) (svcI M hb) (svcI M hb) M hx9))<|gG M (fun hb=>(tCh M hb hx10))<|cAn M hx11<|cAB M<|aB ?_);refine aM ?_;obtain rfl:=sj_ h;refine ⟨.inr M,(.cons (sv M) .nil)⟩

theorem qI (a0:aH) (r:Int) (h:nR a0=some r):bJ prog 20 [.agg (tv0 a0)] (.int .i64 r):=by
 refine aQ (rs:=[.int .i64 r]) func20 M ntmps20 (nle M) M fun O hO=>?_
 show IWP _ _ _ _ ⟨[(0,.agg (tv0 a0))],[]⟩ _
 unfold nR at h;refine aC (cBx (cs:=q10) q10 0 M<|cAs (.int _ 0) M<|aB ?_);refine aP ?_;obtain ⟨x1,hx1,x2,hx2,x3,hx3,h⟩:=eood h;obtain ⟨x4,hx4,x5,hx5,x6,hx6,h⟩:=eodd h;obtain ⟨x7,hx7,h⟩:=bF h;refine aC (cFa 0 un46 M ti3 M<|cLd (d:=.int _ _) un3 ag3 ti3 M<|aA M (aL (r:=.bool _) M M (lb M) cl40 (.cons (svI M) (.cons (sv (d:=.int _ 0) M) (.cons (sv (d:=.int _ 1048576) M) .nil))) M (uQ _ _ _ _ hx1))<|aA M (cV M M (lb M) (svB M))<|cB M<|gG M (fun hb=>(tFa 22 un46 M ti3 M))<|gG M (fun hb=>(tLc (d:=.int _ _) un3 ag3 ti3 M hb))<|gG M (fun hb=>(aL (r:=.bool _) M M (lb M) cl40 (.cons (svcI M hb) (.cons (sv (d:=.int _ (-1)) M) (.cons (sv (d:=.int _ 255) M) .nil))) M (uQ _ _ _ _ (gd_t hx2 hb))))<|gG M (fun hb=>(cV M M (lb M) (svcB M hb)))<|cOr M hx3<|cB M<|gG M (fun hb=>(tFa 23 un46 M ti3 M))<|gG M (fun hb=>(tLc (d:=.int _ _) un3 ag3 ti3 M hb))<|gG M (fun hb=>(aL (r:=.bool _) M M (lb M) cl40 (.cons (svcI M hb) (.cons (sv (d:=.int _ (-1)) M) (.cons (sv (d:=.int _ 255) M) .nil))) M (uQ _ _ _ _ (gd_t hx4 hb))))<|gG M (fun hb=>(cV M M (lb M) (svcB M hb)))<|cOr M hx5<|cB M<|gG M (fun hb=>(tFa 18 un46 M ti44 M))<|gG M (fun hb=>(aV M M (lb M) un44 M ti3 (by decide) (svcR M hb) (off':=18) M))<|gG M (fun hb=>(tLc (d:=.int _ _) un3 ag3 ti3 M hb))<|gG M (fun hb=>(tCg (b:=4096) M hb hx6))<|cOr M hx7<|aB ?_);refine aK h M (fun h=>?_) (fun h=>?_)
 ·
  refine aC (cAs (.int _ 8) M<|aB ?_);refine aM<|aT ?_;obtain rfl:=sj_ h;refine ⟨.inr M,(.cons (sv M) .nil)⟩
 ·
  refine aO<|aJ<|aP ?_;obtain ⟨x9,hx9,h⟩:=bR h;refine aC (cLr q10 la46 M<|aA M (aL (r:=.int _ _) M M (lb M) cl63 (.cons (svA q10 M) .nil) M (xJ _ _ hx9))<|cAI M<|aB ?_);obtain ⟨x10,hx10,h⟩:=bF h;refine aC (cI M<|cCm (b:=0) M hx10<|aB ?_);refine aK h M (fun h=>?_) (fun h=>?_)
  ·
   refine aC (cI M<|cAI M<|aB ?_);refine aM<|aT ?_;obtain rfl:=sj_ h;refine ⟨.inr M,(.cons (sv M) .nil)⟩
  ·
   refine aO<|aJ<|aP ?_;obtain ⟨x12,hx12,h⟩:=bR h;refine aC (cLr q10 la46 M<|aA M (aL (r:=.bool _) M M (lb M) cl64 (.cons (svA q10 M) .nil) M (xK _ _ hx12))<|aA M (cV M M (lb M) (svB M))<|aB ?_);refine aK h M (fun h=>?_) (fun h=>?_)
   ·
    refine aC (cAs (.int _ 4) M<|aB ?_);refine aM<|aT ?_;obtain rfl:=sj_ h;refine ⟨.inr M,(.cons (sv M) .nil)⟩
   ·
    refine aO<|aJ<|aC (cAs (.int _ 0) M<|aB ?_);refine aM ?_;obtain rfl:=sj_ h;refine ⟨.inr M,(.cons (sv M) .nil)⟩

theorem tX (a0:aH) (r:Bool) (h:mR a0=some r):bJ prog 69 [.agg (tv0 a0)] (.bool r):=by
 refine aQ (rs:=[.bool r]) func69 M ntmps69 (nle M) M fun O hO=>?_
 show IWP _ _ _ _ ⟨[(0,.agg (tv0 a0))],[]⟩ _
 unfold mR at h;refine aC (cBx (cs:=q10) q10 0 M<|cAs (.bool false) M<|aB ?_);obtain ⟨x1,hx1,x2,hx2,x3,hx3,h⟩:=eddd h;refine aC (cFa 22 un46 M ti3 M<|cLd (d:=.int _ _) un3 ag3 ti3 M<|cCm (b:=(-1)) M hx1<|cB M<|gG M (fun hb=>(tFa 23 un46 M ti3 M))<|gG M (fun hb=>(tLc (d:=.int _ _) un3 ag3 ti3 M hb))<|gG M (fun hb=>(tCg (b:=(-1)) M hb hx2))<|cOr M hx3<|cAB M<|aB ?_);refine aM ?_;obtain rfl:=sj_ h;refine ⟨.inr M,(.cons (sv M) .nil)⟩

theorem fW (a0:aH) (r:Int) (h:eK a0=some r):bJ prog 39 [.agg (tv0 a0)] (.int .i64 r):=by
 refine aQ (rs:=[.int .i64 r]) func39 M ntmps39 (nle M) M fun O hO=>?_
 show IWP _ _ _ _ ⟨[(0,.agg (tv0 a0))],[]⟩ _
 unfold eK at h;refine aC (cBx (cs:=q10) q10 0 M<|cAs (.int _ 0) M<|aB ?_);refine aP ?_;obtain ⟨x1,hx1,h⟩:=bR h;refine aC (cLr q10 la46 M<|aA M (aL (r:=.int _ _) M M (lb M) cl20 (.cons (svA q10 M) .nil) M (qI _ _ hx1))<|cAI M<|aB ?_);obtain ⟨x2,hx2,h⟩:=bF h;refine aC (cI M<|cCm (b:=0) M hx2<|aB ?_);refine aK h M (fun h=>?_) (fun h=>?_)
 ·
  refine aC (cI M<|cAI M<|aB ?_);refine aM<|aT ?_;obtain rfl:=sj_ h;refine ⟨.inr M,(.cons (sv M) .nil)⟩
 ·
  refine aO<|aJ<|aP ?_;obtain ⟨x4,hx4,h⟩:=bR h;refine aC (cLr q10 la46 M<|aA M (aL (r:=.bool _) M M (lb M) cl69 (.cons (svA q10 M) .nil) M (tX _ _ hx4))<|aB ?_);refine aK h M (fun h=>?_) (fun h=>?_)
  ·
   refine aC (cAs (.int _ 15) M<|aB ?_);refine aM<|aT ?_;obtain rfl:=sj_ h;refine ⟨.inr M,(.cons (sv M) .nil)⟩
  ·
   refine aO<|aJ<|aC (cAs (.int _ 0) M<|aB ?_);refine aM ?_;obtain rfl:=sj_ h;refine ⟨.inr M,(.cons (sv M) .nil)⟩

theorem sS (a0:aH) (r:Int) (h:kT a0=some r):bJ prog 82 [.agg (tv0 a0)] (.int .i64 r):=by
 refine aQ (rs:=[.int .i64 r]) func82 M ntmps82 (nle M) M fun O hO=>?_
 show IWP _ _ _ _ ⟨[(0,.agg (tv0 a0))],[]⟩ _
 unfold kT at h;refine aC (cBx (cs:=q10) q10 0 M<|cAs (.int _ 0) M<|aB ?_);refine aP ?_;obtain ⟨x1,hx1,h⟩:=bR h;refine aC (cLr q10 la46 M<|aA M (aL (r:=.int _ _) M M (lb M) cl39 (.cons (svA q10 M) .nil) M (fW _ _ hx1))<|cAI M<|aB ?_);obtain ⟨x2,hx2,h⟩:=bF h;refine aC (cI M<|cCm (b:=0) M hx2<|aB ?_);refine aK h M (fun h=>?_) (fun h=>?_)
 ·
  refine aC (cI M<|cAI M<|aB ?_);refine aM<|aT ?_;obtain rfl:=sj_ h;refine ⟨.inr M,(.cons (sv M) .nil)⟩
 ·
  refine aO<|aJ<|aP<|aC (cFa 1 un46 M ti37 M<|cFa 6 un37 M ti4 M<|cLd (d:=.bool _) un4 ag4 ti4 M<|aB ?_);refine aK h M (fun h=>?_) (fun h=>?_)
  ·
   refine aC (cAs (.int _ 9) M<|aB ?_);refine aM<|aT ?_;obtain rfl:=sj_ h;refine ⟨.inr M,(.cons (sv M) .nil)⟩
  ·
   refine aO<|aJ<|aC (cAs (.int _ 0) M<|aB ?_);refine aM ?_;obtain rfl:=sj_ h;refine ⟨.inr M,(.cons (sv M) .nil)⟩

theorem oP (a0:(List aG)) (r:(List aG)) (h:dR a0=some r):bJ prog 169 [.slice false (a0.map aE.d)] (.slice false (r.map aE.d)):=by
 refine aQ (rs:=[.slice false (r.map aE.d)]) func169 M ntmps169 (nle M) M fun O hO=>?_
 show IWP _ _ _ _ ⟨[(0,.slice false (a0.map aE.d))],[]⟩ _
 unfold dR at h;refine aC (cAs (.nils) M<|aB ?_);refine aP<|aC (aA M (mvL M M M M)<|aAw M M M (by decide) un35 (svL M) M<|fun bn1 hbn1 =>
  aB ?_)
 refine pZ (b:=_) M (fun hc2=>?_) (fun hc2=>?_)
 ·
  replace h:=aDR h (mapE (hbn1 hc2));refine aC (cAs (.nils) M<|aB ?_);refine aM<|aT ?_;obtain rfl:=sj_ h;refine ⟨.inr M,(.cons (aCA M M) .nil)⟩
 ·
  replace h:=aDS h;refine aO<|aJ ?_;obtain ⟨x3,hx3,h⟩:=bR h;refine aC (aA M (qN aE ([]:(List aG)) 0 M M (lb M) un35 gS M .nil M M (by decide))<|aA M (mvL M M M M)<|aA M (sB aE 1 M M (lb M) un35 gS M M M M (svL M) hx3)<|cAs (.gsl _ _ _) M<|aB ?_);refine aM ?_;obtain rfl:=sj_ h;refine ⟨.inr M,(.cons (aCB M M) .nil)⟩

theorem kH (a0:aN) (r:(Int×(List UInt8)×Int×(List aI)×(List aG)×Bool×Bool×Bool×Bool)) (h:fV a0=some r):FnH prog 129 [.agg (tv1 a0)] [] (.agg (w45 r.1 r.2.1 r.2.2.1 (.osl 0 aD.sz r.2.2.2.1.length) r.2.2.2.2.1 r.2.2.2.2.2.1 r.2.2.2.2.2.2.1 r.2.2.2.2.2.2.2.1 r.2.2.2.2.2.2.2.2)) [(0,.blk 105 (D.flat (r.2.2.2.1.map aD.d)))]:=by
 refine gE (rs:=[.agg (w45 r.1 r.2.1 r.2.2.1 (.osl 0 aD.sz r.2.2.2.1.length) r.2.2.2.2.1 r.2.2.2.2.2.1 r.2.2.2.2.2.2.1 r.2.2.2.2.2.2.2.1 r.2.2.2.2.2.2.2.2)]) func129 M ntmps129 (nle M) fun O hO=>?_
 show IWP _ _ _ _ ⟨[(0,.agg (tv1 a0))],[]⟩ _
 unfold fV at h;refine aC (cBx (cs:=q12) q12 0 M<|aA M (aR (cs:=q15) (cs':=zs0) 1 M M (lb M) M ti37 M M (.k (.k (.k (.cons (.nils _) (.cons (.nils _) (.all _)))))))<|aB ?_);obtain ⟨x1,hx1,h⟩:=bR h;refine aC (cFa 3 un37 M ti33 M<|aA M (lrL la33 M M M M M (nle M) M)<|aA M (bY aD (l:=a0.Pieces) M M (lb M) un33 (svL M))<|aA M (aE7 aD.toEnc0 ((⟨0,0,0,false⟩:aI):aI) 2 M M (lb M) un33 dH M M (svI M) hx1 (.all _))<|cAs (.osl _ _ _) M<|aB ?_);obtain ⟨x2,hx2,h⟩:=bF h;refine aC (cMv (.osl _ _ _) M<|cFa 3 un37 M ti33 M<|aA M (lrL la33 M M M M M (nle M) M)<|aA M (aE9 aD.toEnc0 M M (lb M) un33 dH M M M (aBZ aD (ys:=a0.Pieces) (svL M)) hx2)<|aB ?_);refine aC (cMv (.osl _ _ _) M<|cFa 3 un37 M ti33 M<|aA M (bK (ds':=q13) M M ti33 (svR M) M (sv (d:=.osl _ _ _) M) M M M (nle M) M)<|aB ?_);obtain ⟨x3,hx3,h⟩:=bR h;refine aC (cFa 4 un37 M ti35 M<|aA M (lrL la35 M M M M M (nle M) M)<|aA M (aL (r:=.slice _ _) M M (lb M) cl169 (.cons (svL M) .nil) M (oP _ _ hx3))<|cFa 4 un37 M ti35 M<|aA M (bK (ds':=q13) M M ti35 (svR M) M (svL M) M M M (nle M) M)<|aB ?_);refine aC (cLr q13 la37 M<|cSt q13 q13 ti37 M<|aB ?_);refine aM ?_;obtain rfl:=sj_ h;refine ⟨.inr M,(fun i=>if i=0 then 2 else i),⟨.nil,(.cons (EntW.lst M) .nil),bX [2] M (by decide),(fun i hi=>by first | rfl | (show (if _ then _ else _)=_; (repeat' split) <;> omega))⟩,(.cons (rva la37 M M (nle M) (by rw [←(aGI hx2 M)]; rfl)) .nil),M⟩

theorem aC3 (a0:aN) (r:Int) (h:uJ a0=some r):bJ prog 130 [.agg (tv1 a0)] (.int .i64 r):=by
 refine aQ (rs:=[.int .i64 r]) func130 M ntmps130 (nle M) M fun O hO=>?_
 show IWP _ _ _ _ ⟨[(0,.agg (tv1 a0))],[]⟩ _
 unfold uJ at h;refine aC (cBx (cs:=q12) q12 0 M<|cAs (.int _ 0) M<|aB ?_);refine aP<|aC (cFa 5 un37 M ti4 M<|cLd (d:=.bool _) un4 ag4 ti4 M<|aB ?_);refine aK h M (fun h=>?_) (fun h=>?_)
 ·
  refine aC (cAs (.int _ 0) M<|aB ?_);refine aM<|aT ?_;obtain rfl:=sj_ h;refine ⟨.inr M,(.cons (sv M) .nil)⟩
 ·
  refine aO<|aJ ?_;obtain ⟨x2,hx2,h⟩:=bF h;refine aC (cFa 1 un37 M ti9 M<|cLd (d:=.str _) un9 ag9 ti9 M<|aA M (cF M M (lb M) un9 (sv (d:=.str _) M) M)<|aA M (aX M M (lb M) (sv (d:=.int _ 4096) M) (svI M) M hx2)<|cAI M<|aB ?_);refine aM ?_;obtain rfl:=sj_ h;refine ⟨.inr M,(.cons (sv M) .nil)⟩

theorem aCJ (a0:aN) (a1:(List UInt8)) (r:(aN×Int)) (h:sM a0 a1=some r):bJ prog 83 [.agg (tv1 a0),.str a1] (retD [.agg (tv1 r.1),.int .i64 r.2]):=by
 refine fC (rs:=[.agg (tv1 r.1),.int .i64 r.2]) func83 M ntmps83 (nle M) M fun O hO=>?_
 show IWP _ _ _ _ ⟨[(0,.agg (tv1 a0)),(1,.str a1)],[]⟩ _
 unfold sM at h;refine aC (cBx (cs:=q12) q12 0 M<|aA M (aR (cs:=q15) (cs':=zs0) 1 M M (lb M) M ti37 M M (.k (.k (.k (.cons (.nils _) (.cons (.nils _) (.all _)))))))<|cAs (.int _ 0) M<|aB ?_);obtain ⟨x1,hx1,h⟩:=bR h;refine aC (cLr q12 la37 M<|aA M (fR (r':=.agg (w45 x1.1 x1.2.1 x1.2.2.1 (.osl 2 aD.sz x1.2.2.2.1.length) x1.2.2.2.2.1 x1.2.2.2.2.2.1 x1.2.2.2.2.2.2.1 x1.2.2.2.2.2.2.2.1 x1.2.2.2.2.2.2.2.2)) (H1':=[(2,.blk 105 (D.flat (x1.2.2.2.1.map aD.d)))]) 2 [] M M (lb M) aFa (.cons (svA q12 M) .nil) M M ⟨M,M,by decide,M,List.forall_mem_nil _⟩ (kH _ _ hx1) M M (List.forall_mem_cons.2 ⟨⟨M,(mX aD)⟩,List.forall_mem_nil _⟩) (by simp only [List.map_cons,List.map_nil,Ent.ren,iF,kC]; rfl))<|aA M (aR (cs:=q15) (cs':=zs0) 3 M M (lb M) M ti37 M M (.k (.k (.k (.cons (.nils _) (.cons (.nils _) (.all _)))))))<|cSt q13 q13 ti37 M<|aB ?_);refine aP ?_;obtain ⟨x2,hx2,x3,hx3,h⟩:=eod h;refine aC (cLr q12 la37 M<|aA M (aL (r:=.int _ _) M M (lb M) aDP (.cons (svA q12 M) .nil) M (nK _ _ hx2))<|cCm (b:=0) M hx3<|aB ?_);refine aK h M (fun h=>?_) (fun h=>?_)
 ·
  refine aC (cLr q13 la37 M<|cSt q13 q13 ti37 M<|cAs (.int _ 0) M<|aB ?_);refine aM<|aT ?_;obtain rfl:=sj_ h;refine ⟨.inr M,_,(.cons (rva la37 M M (nle M) M) (.cons (sv M) .nil)),(.cons (.agg (.k (.k (.k (.cons (FDT aD M M) (.all _)))))) (.all _))⟩
 ·
  refine aO<|aJ ?_;obtain ⟨x5,hx5,x6,hx6,h⟩:=eod h;refine aC (cLr q12 la37 M<|aA M (aL (r:=.int _ _) M M (lb M) cl130 (.cons (svA q12 M) .nil) M (aC3 _ _ hx5))<|cMv (.str _) M<|aA M (cF M M (lb M) un9 (sv (d:=.str _) M) M)<|aA M (iN M M (lb M) (svI M) (svI M) hx6)<|cAI M<|aB ?_);refine aP ?_;obtain ⟨x7,hx7,x8,hx8,x9,hx9,h⟩:=eodd h;refine aC (cLr q12 la37 M<|aA M (aL (r:=.int _ _) M M (lb M) aCp (.cons (svA q12 M) .nil) M (gP _ _ hx7))<|cI M<|aA M (aX M M (lb M) (sv (d:=.int _ 1099511623680) M) (svI M) M hx8)<|cCm M hx9<|aB ?_);refine aK h M (fun h=>?_) (fun h=>?_)
  ·
   refine aC (cLr q13 la37 M<|cSt q13 q13 ti37 M<|cAs (.int _ 0) M<|aB ?_);refine aM<|aT ?_;obtain rfl:=sj_ h;refine ⟨.inr M,_,(.cons (rva la37 M M (nle M) M) (.cons (sv M) .nil)),(.cons (.agg (.k (.k (.k (.cons (FDT aD M M) (.all _)))))) (.all _))⟩
  ·
   refine aO<|aJ ?_;obtain ⟨x11,hx11,x12,hx12,h⟩:=eoo h;refine cC M [nd1 [6] 25 (.ref 3 1),nd2 [25] [3] 26 (.str x1.2.1),nd1 [1] 27 (.str a1),nd1 [7] 28 (.int .i64 x6),nd1 [27,28] 29 (.str x11),nd1 [26,29] 30 (.str x12),nd1 [6] 31 (.ref 3 1),⟨[30,31],[3],[],[(3,.blk 37 (w45 x1.1 x12 x1.2.2.1 (.osl 2 aD.sz x1.2.2.2.1.length) x1.2.2.2.2.1 x1.2.2.2.2.2.1 x1.2.2.2.2.2.2.1 x1.2.2.2.2.2.2.2.1 x1.2.2.2.2.2.2.2.2))]⟩] M ?_ (by kernel_rfl) ?_
   ·refine .cons (dFa 1 un37 M ti9 M)<|.cons (dLd un9 ag9 ti9 M)<|.cons (lop M M fun S hA=>(bI M M (lb M) (sv (d:=.str _) (agr hA M M))))<|.cons (dMv M)<|.cons (lop M M fun S hA=>(kR M M (lb M) un9 (sv (d:=.str _) (agr hA M M)) M ⟨_,(svaI hA M M)⟩ hx11))<|.cons (lop M M fun S hA=>(qT M M (lb M) (sv (d:=.str _) (agr hA M M)) (sv (d:=.str _) (agr hA M M)) hx12))<|.cons (dFa 1 un37 M ti9 M)<|.cons (lop M M fun S hA=>(bK (ds':=q13) M M ti9 (svaR hA M M) (agi hA M M) (sv (d:=.str _) (agr hA M M)) M M M (nle M) M)) ?_
    exact .nil
   refine aC (cLr q13 la37 M<|cI M<|cSt q13 q13 ti37 M<|cAI M<|aB ?_);refine aM ?_;obtain rfl:=sj_ h;refine ⟨.inr M,_,(.cons (rva la37 M M (nle M) M) (.cons (sv M) .nil)),(.cons (.agg (.k (.k (.k (.cons (FDT aD M M) (.all _)))))) (.all _))⟩

theorem aAB (a0:aH) (a1:(List UInt8)) (r:(aH×Int×Int)) (h:qU a0 a1=some r):bJ prog 31 [.agg (tv0 a0),.str a1] (retD [.agg (tv0 r.1),.int .i64 r.2.1,.int .i64 r.2.2]):=by
 refine aQ (rs:=[.agg (tv0 r.1),.int .i64 r.2.1,.int .i64 r.2.2]) func31 M ntmps31 (nle M) M fun O hO=>?_
 show IWP _ _ _ _ ⟨[(0,.agg (tv0 a0)),(1,.str a1)],[]⟩ _
 unfold qU at h;refine aC (cBx (cs:=q10) q10 0 M<|aA M (aR (cs:=q11) (cs':=zs2) 1 M M (lb M) M ti46 M M (.k4 (.cons (.nils _) (.cons (.nils _) (.k4 (.k (.k (.cons (.nils _) (.all _)))))))))<|cAs (.int _ 0) M<|cAs (.int _ 0) M<|aB ?_);refine aP ?_;obtain ⟨x1,hx1,h⟩:=bR h;refine aC (cLr q10 la46 M<|aA M (aL (r:=.int _ _) M M (lb M) cl82 (.cons (svA q10 M) .nil) M (sS _ _ hx1))<|cAI M<|aB ?_);obtain ⟨x2,hx2,h⟩:=bF h;refine aC (cI M<|cCm (b:=0) M hx2<|aB ?_);refine aK h M (fun h=>?_) (fun h=>?_)
 ·
  refine aC (cLr q10 la46 M<|cI M<|cSt q10 q10 ti46 M<|cAs (.int _ 0) M<|cAI M<|aB ?_);refine aM<|aT ?_;obtain rfl:=sj_ h;refine ⟨.inr M,(.cons (rva la46 M M (nle M) M) (.cons (sv M) (.cons (sv M) .nil)))⟩
 ·
  refine aO<|aJ ?_;obtain ⟨x4,hx4,h⟩:=bR h;refine aC (cFa 1 un46 M ti37 M<|cLr q12 la37 M<|cMv (.str _) M<|aA M (aL (r:=.tuple q36) M M (lb M) cl83 (.cons (svA q12 M) (.cons (sv (d:=.str _) M) .nil)) M (aCJ _ _ _ hx4))<|cMv (.tuple q36) M<|cEx (d:=.agg q12) (cs:=q36) M<|cEx (d:=.int _ _) (cs:=q36) M<|aA M (aR (cs:=q15) (cs':=zs0) 2 M M (lb M) M ti37 M M (.k (.k (.k (.cons (.nils _) (.cons (.nils _) (.all _)))))))<|cSt q12 q12 ti37 M<|cAI M<|aB ?_);refine aC (cLr q12 la37 M<|cFa 1 un46 M ti37 M<|cSt q12 q10 ti37 M<|aB ?_);refine aC (cLr q10 la46 M<|cI M<|cSt q10 q10 ti46 M<|cAI M<|cAs (.int _ 0) M<|aB ?_);refine aM ?_;obtain rfl:=sj_ h;refine ⟨.inr M,(.cons (rva la46 M M (nle M) M) (.cons (sv M) (.cons (sv M) .nil)))⟩

theorem rT (a0:aH) (a1:Int) (r:Int) (h:gO a0 a1=some r):bJ prog 76 [.agg (tv0 a0),.int .i64 a1] (.int .i64 r):=by
 refine aQ (rs:=[.int .i64 r]) func76 M ntmps76 (nle M) M fun O hO=>?_
 show IWP _ _ _ _ ⟨[(0,.agg (tv0 a0)),(1,.int .i64 a1)],[]⟩ _
 unfold gO at h;refine aC (cBx (cs:=q10) q10 0 M<|cAs (.int _ 0) M<|aB ?_);obtain ⟨x1,hx1,x2,hx2,x3,hx3,h⟩:=eddd h;refine aC (cFa 1 un46 M ti37 M<|cFa 3 un37 M ti3 M<|cLd (d:=.int _ _) un3 ag3 ti3 M<|cI M<|cFa 14 un46 M ti44 M<|cFa 15 un44 M ti3 M<|cLd (d:=.int _ _) un3 ag3 ti3 M<|cFa 1 un46 M ti37 M<|cFa 3 un37 M ti3 M<|cLd (d:=.int _ _) un3 ag3 ti3 M<|aA M (aX M M (lb M) (svI M) (svI M) M hx1)<|aA M (iN M M (lb M) (svI M) (svI M) hx2)<|aA M (aX M M (lb M) (svI M) (svI M) M hx3)<|cAI M<|aB ?_);refine aM ?_;obtain rfl:=sj_ h;refine ⟨.inr M,(.cons (sv M) .nil)⟩

theorem tZ (a0:aN) (r:Bool) (h:mT a0=some r):bJ prog 136 [.agg (tv1 a0)] (.bool r):=by
 refine aQ (rs:=[.bool r]) func136 M ntmps136 (nle M) M fun O hO=>?_
 show IWP _ _ _ _ ⟨[(0,.agg (tv1 a0))],[]⟩ _
 unfold mT at h;refine aC (cBx (cs:=q12) q12 0 M<|cAs (.bool false) M<|aB ?_);refine aP ?_;obtain ⟨x1,hx1,h⟩:=bF h;refine aC (cFa 5 un37 M ti4 M<|cLd (d:=.bool _) un4 ag4 ti4 M<|aA M (cV M M (lb M) (svB M))<|cB M<|gG M (fun hb=>(tFa 8 un37 M ti4 M))<|gG M (fun hb=>(tLc (d:=.bool _) un4 ag4 ti4 M hb))<|cOr M hx1<|aB ?_);refine aK h M (fun h=>?_) (fun h=>?_)
 ·
  refine aC (cAs (.bool false) M<|aB ?_);refine aM<|aT ?_;obtain rfl:=sj_ h;refine ⟨.inr M,(.cons (sv M) .nil)⟩
 ·
  refine aO<|aJ ?_;obtain ⟨x3,hx3,h⟩:=bF h;refine aC (cFa 7 un37 M ti4 M<|cLd (d:=.bool _) un4 ag4 ti4 M<|cB M<|gG M (fun hb=>(tFa 6 un37 M ti4 M))<|gG M (fun hb=>(tLc (d:=.bool _) un4 ag4 ti4 M hb))<|gG M (fun hb=>(cV M M (lb M) (svcB M hb)))<|cOr M hx3<|cAB M<|aB ?_);refine aM ?_;obtain rfl:=sj_ h;refine ⟨.inr M,(.cons (sv M) .nil)⟩

theorem sZ (a0:aN) (a1:Int) (a2:Int) (r:(aI×Bool)) (h:lP a0 a1 a2=some r):bJ prog 125 [.agg (tv1 a0),.int .i64 a1,.int .i64 a2] (retD [.agg (tv8 r.1),.bool r.2]):=by
 refine aQ (rs:=[.agg (tv8 r.1),.bool r.2]) func125 M ntmps125 (nle M) M fun O hO=>?_
 show IWP _ _ _ _ ⟨[(0,.agg (tv1 a0)),(1,.int .i64 a1),(2,.int .i64 a2)],[]⟩ _
 unfold lP at h;refine aC (cBx (cs:=q12) q12 0 M<|aA M (aR (cs:=q20) (cs':=(w49 0 0 0 false)) 1 M M (lb M) M dH M M (.all _))<|cAs (.bool false) M<|aB ?_);refine aP ?_;obtain ⟨x1,hx1,h⟩:=bF h;refine aC (cFa 4 un37 M ti35 M<|aA M (lrL la35 M M M M M (nle M) M)<|aA M (bY aE (l:=a0.Lost) M M (lb M) un35 (svL M))<|cCm (b:=0) M hx1<|aB ?_);refine aK h M (fun h=>?_) (fun h=>?_)
 ·
  obtain ⟨x3,hx3,h⟩:=bR h;refine aC (cFa 4 un37 M ti35 M<|aA M (lrL la35 M M M M M (nle M) M)<|aA M (bQ aE (cs:=q25) M M (lb M) un35 gS (svL M) (sv (d:=.int _ 0) M) hx3 M M)<|aA M (cJ (cs:=q25) M M (lb M) lT aA1 gS (by decide) (sv (d:=.fptr q25) M) (nle M) M)<|aA M (aR (cs:=q25) (cs':=[.int .i64 0,.int .i64 0]) 2 M M (lb M) M gS M M (.all _))<|cSt q25 q25 gS M<|aB ?_);obtain ⟨x4,hx4,x5,hx5,x6,hx6,h⟩:=eddd h;refine aC (cFa 0 lT M ti3 M<|cLd (d:=.int _ _) un3 ag3 ti3 M<|cFa 0 lT M ti3 M<|cLd (d:=.int _ _) un3 ag3 ti3 M<|cI M<|cFa 1 lT M ti3 M<|cLd (d:=.int _ _) un3 ag3 ti3 M<|cFa 0 lT M ti3 M<|cLd (d:=.int _ _) un3 ag3 ti3 M<|aA M (aX M M (lb M) (svI M) (svI M) M hx4)<|aA M (iN M M (lb M) (svI M) (svI M) hx5)<|aA M (aX M M (lb M) (svI M) (svI M) M hx6)<|aA M (bA (cs:=q20) M M (lb M) fL dH aCz M (.cons (svI M) (.cons (svI M) .nil)) M)<|cSt q20 q20 dH M<|cAs (.bool true) M<|aB ?_);refine aM<|aT ?_;obtain rfl:=sj_ h;refine ⟨.inr M,(.cons (rva yO M M (nle M) M) (.cons (sv M) .nil))⟩
 ·
  refine aO<|aJ ?_;obtain ⟨x7,hx7,x8,hx8,h⟩:=eod h;refine cC M [nd2 [3] [0] 32 (.agg (tv1 a0)),nd1 [32] 33 (.int .i64 x7),nd1 [3] 34 (.ref 0 2),nd2 [34] [0] 35 (.int .i64 a0.Next),nd1 [33,35] 36 (.int .i64 x8),nd1 [36] 9 (.int .i64 x8)] M ?_ (by kernel_rfl) ?_
  ·refine .cons (dLa un37 ag37 ti37 M)<|.cons (lop M M fun S hA=>(aL (r:=.int _ _) M M (lb M) aCp (.cons (svaA q12 hA M M) .nil) M (gP _ _ hx7)))<|.cons (dFa 2 un37 M ti3 M)<|.cons (dLd un3 ag3 ti3 M)<|.cons (lop M M fun S hA=>(aX M M (lb M) (svaI hA M M) (svaI hA M M) M hx8))<|.cons (lop M M fun S hA=>(bV M M (lb M) (svaI hA M M))) ?_
   exact .nil
  refine aP ?_;obtain ⟨x9,hx9,h⟩:=bF h;refine aC (cI M<|cCm (b:=0) M hx9<|aB ?_);refine aK h M (fun h=>?_) (fun h=>?_)
  ·
   obtain ⟨x11,hx11,x12,hx12,x13,hx13,h⟩:=eddd h;refine aC (cI M<|cI M<|cI M<|cFa 2 un37 M ti3 M<|cLd (d:=.int _ _) un3 ag3 ti3 M<|aA M (mC M M (lb M) (svI M) (svI M) hx11)<|cFa 2 un37 M ti3 M<|cLd (d:=.int _ _) un3 ag3 ti3 M<|aA M (aX M M (lb M) (svI M) (svI M) M hx12)<|aA M (aDm M M (lb M) (svI M) (svI M) (svI M) hx13)<|cAI M<|aB ?_);obtain ⟨x14,hx14,x15,hx15,h⟩:=edd h;refine aC (cFa 2 un37 M ti3 M<|cLd (d:=.int _ _) un3 ag3 ti3 M<|cFa 2 un37 M ti3 M<|cLd (d:=.int _ _) un3 ag3 ti3 M<|cI M<|aA M (aX M M (lb M) (svI M) (svI M) M hx14)<|aA M (bA (cs:=q20) M M (lb M) fL dH aCz M (.cons (svI M) (.cons (svI M) .nil)) M)<|cI M<|cCm (b:=0) M hx15<|cSt q20 q20 dH M<|cAB M<|aB ?_);refine aM<|aT ?_;obtain rfl:=sj_ h;refine ⟨.inr M,(.cons (rva yO M M (nle M) M) (.cons (sv M) .nil))⟩
  ·
   refine aO<|aJ ?_;obtain ⟨x16,hx16,h⟩:=bR h;refine cC M [nd1 [3] 58 (.ref 0 2),nd2 [58] [0] 59 (.int .i64 a0.Next),nd1 [3] 60 (.ref 0 2),nd2 [60] [0] 61 (.int .i64 a0.Next),nd1 [59,61] 62 (.agg (w49 a0.Next a0.Next 0 false)),nd2 [3] [0] 63 (.agg (tv1 a0)),nd1 [63] 64 (.bool x16),⟨[6,62],[1],[],[(1,.blk 105 (w49 a0.Next a0.Next 0 false))]⟩,nd1 [64] 7 (.bool x16)] M ?_ (by kernel_rfl) ?_
   ·refine .cons (dFa 2 un37 M ti3 M)<|.cons (dLd un3 ag3 ti3 M)<|.cons (dFa 2 un37 M ti3 M)<|.cons (dLd un3 ag3 ti3 M)<|.cons (lop M M fun S hA=>(bA (cs:=q20) M M (lb M) fL dH aCz M (.cons (svaI hA M M) (.cons (svaI hA M M) .nil)) M))<|.cons (dLa un37 ag37 ti37 M)<|.cons (lop M M fun S hA=>(aL (r:=.bool _) M M (lb M) cl136 (.cons (svaA q12 hA M M) .nil) M (tZ _ _ hx16)))<|.cons (dSt q20 dH M)<|.cons (lop M M fun S hA=>(bV M M (lb M) (svaB hA M M))) ?_
    exact .nil
   refine aM ?_;obtain rfl:=sj_ h;refine ⟨.inr M,(.cons (rva yO M M (nle M) M) (.cons (sv M) .nil))⟩

theorem vR (a0:aI) (a1:aI) (r:Bool) (h:mV a0 a1=some r):bJ prog 177 [.agg (tv8 a0),.fptr (tv8 a1)] (.bool r):=by
 refine aQ (rs:=[.bool r]) func177 M ntmps177 (nle M) M fun O hO=>?_
 show IWP _ _ _ _ ⟨[(0,.agg (tv8 a0)),(1,.fptr (tv8 a1))],[]⟩ _
 unfold mV at h;refine aC (cBx (cs:=q20) q20 0 M<|cAs (.bool false) M<|aB ?_);obtain ⟨x1,hx1,x2,hx2,x3,hx3,h⟩:=eddd h;obtain ⟨x4,hx4,x5,hx5,h⟩:=edd h;refine aC (cFa 0 fL M ti3 M<|cLd (d:=.int _ _) un3 ag3 ti3 M<|aA M (bG (cs':=[.int _ _]) M M (lb M) fL M ti3 (by decide) (sv (d:=.fptr q20) M) M)<|aA M (bU M M (lb M) un3 ag3 ti3 (by decide) (sv (d:=.fptr [.int _ _]) M) (nle M))<|cCm M hx1<|cB M<|gG M (fun hb=>(tFa 0 fL M ti3 M))<|gG M (fun hb=>(tLc (d:=.int _ _) un3 ag3 ti3 M hb))<|gG M (fun hb=>(bG (cs':=[.int _ _]) M M (lb M) fL M ti3 (by decide) (sv (d:=.fptr q20) M) M))<|gG M (fun hb=>(bU M M (lb M) un3 ag3 ti3 (by decide) (svc (d:=.fptr [.int _ _]) M hb) (nle M)))<|gG M (fun hb=>(tCh M hb hx2))<|gG M (fun hb=>(bI M M (lb M) (svcB M hb)))<|cG M M (.two M) M (by decide) (fun hb=>(tFa 1 fL M ti3 M))<|cG M M (.two M) M (by decide) (fun hb=>(tLc (d:=.int _ _) un3 ag3 ti3 M hb))<|cG M M (.two M) M (by decide) (fun hb=>(bG (cs':=[.int _ _]) M M (lb M) fL M ti3 (by decide) (sv (d:=.fptr q20) M) M))<|cG M M (.two M) M (by decide) (fun hb=>(bU M M (lb M) un3 ag3 ti3 (by decide) (svc (d:=.fptr [.int _ _]) M hb) (nle M)))<|cG M M (.two M) M (by decide) (fun hb=>(tCh M hb hx3))<|gG M (fun hb=>(fM M M (lb M) hb (svcB M hb) M M hx4))<|cOr M hx5<|cAB M<|aB ?_);refine aM ?_;obtain rfl:=sj_ h;refine ⟨.inr M,(.cons (sv M) .nil)⟩

theorem kG (a0:(List aI)) (a1:aI) (r:Int) (h:dG a0 a1=some r):bJ prog 176 [.slice false (a0.map aD.d),.fn 177 [.fptr (tv8 a1)]] (.int .i64 r):=by
 refine aQ (rs:=[.int .i64 r]) func176 M ntmps176 (nle M) M fun O hO=>?_
 show IWP _ _ _ _ ⟨[(0,.slice false (a0.map aD.d)),(1,.fn 177 [.fptr (tv8 a1)])],[]⟩ _
 unfold dG at h;refine aC (cAs (.int _ 0) M<|aB ?_);refine aP<|aC (aA M (mvL M M M M)<|aA M (bY aD (l:=a0) M M (lb M) un33 (svL M))<|cMv (.int _ 0) M<|aB ?_);refine bD<|cK (α:=Nat×Int) (fun z=>⟨[(0,.slice false (a0.map aD.d)),(1,.fn 177 [.fptr (tv8 a1)]),(7,.int .i64 (a0.length:Int)),(8,.int .i64 z.2)],[]⟩) (fun z=>bO a0 a1 z.1 z.2=some r) (fun z=>z.1) (fuel,0) (fun i=>i) ⟨(.sames M M),.nil,bX [] M (by decide),fun _ _=>M⟩ ?_ ?_
 ·exact h
 ·
  rintro ⟨n0,v7⟩ h
  cases n0 with
  | zero=>exact absurd h (by unfold bO; exact nofun)
  | succ n0 =>
   unfold bO at h;obtain ⟨x14,hx14,h⟩:=bF h;refine aC (cCm M hx14<|aB ?_);refine aP<|aK h M (fun h=>?_) (fun h=>?_)
   ·
    refine aO<|aJ<|aP<|bD<|aC (cI M<|cAI M<|aB ?_);obtain ⟨x16,hx16,x17,hx17,h⟩:=eoo h;refine aC (cMv (.fn 177 [.fptr q20]) M<|aA M (mvL M M M M)<|cI M<|aA M (bQ aD (cs:=q20) M M (lb M) un33 dH (svL M) (svI M) hx16 M M)<|aA M (cJ (cs:=q20) M M (lb M) fL sG dH (by decide) (sv (d:=.fptr q20) M) (nle M) M)<|aA M (tC (r:=.bool _) M M (lb M) cl177 (sv (d:=.fn 177 [.fptr q20]) M) (.cons (svA q20 M) .nil) M (vR _ _ _ hx17))<|aB ?_);refine aK h M (fun h=>?_) (fun h=>?_)
    ·
     refine aC (cI M<|cAI M<|aB ?_);refine aM<|bM<|aT<|aT<|bM<|aT ?_;obtain rfl:=sj_ h;refine ⟨.inr M,(.cons (sv M) .nil)⟩
    ·
     refine aO<|bW<|aJ ?_;obtain ⟨x19,hx19,h⟩:=bF h;refine aZ (aA M (aX M M (lb M) (svI M) (sv (d:=.int _ 1) M) M hx19)<|cI M<|bN ?_);refine aJ ⟨(n0,x19),(fun i=>i),⟨(.sames M M),.nil,bX [] M (by decide),fun _ _=>M⟩,?_,?_⟩;exact h;exact Nat.lt_succ_self _
   ·
    refine cR<|bP<|bP<|cS<|aJ<|aC (cAs (.int _ (-1)) M<|aB ?_);refine aM ?_;obtain rfl:=sj_ h;refine ⟨.inr M,(.cons (sv M) .nil)⟩

theorem yI (a0:aN) (a1:aI) (r:Int) (h:mQ a0 a1=some r):bJ prog 138 [.agg (tv1 a0),.agg (tv8 a1)] (.int .i64 r):=by
 refine aQ (rs:=[.int .i64 r]) func138 M ntmps138 (nle M) M fun O hO=>?_
 show IWP _ _ _ _ ⟨[(0,.agg (tv1 a0)),(1,.agg (tv8 a1))],[]⟩ _
 unfold mQ at h;refine aC (cBx (cs:=q12) q12 0 M<|cBx (cs:=q20) q20 1 M<|cAs (.int _ 0) M<|aB ?_);obtain ⟨x1,hx1,x2,hx2,x3,hx3,h⟩:=eooo h;obtain ⟨x4,hx4,x5,hx5,x6,hx6,h⟩:=edoo h;refine cC M [nd1 [2] 5 (.ref 0 3),nd2 [5] [0] 6 (.slice false (a0.Pieces.map aD.d)),nd1 [2] 7 (.ref 0 3),nd2 [7] [0] 8 (.slice false (a0.Pieces.map aD.d)),nd1 [8] 9 (.int .i64 (a0.Pieces.length:Int)),nd1 [2] 10 (.ref 0 3),nd2 [10] [0] 11 (.slice false (a0.Pieces.map aD.d)),nd1 [11] 12 (.int .i64 (a0.Pieces.length:Int)),nd1 [6,9,12] 13 (.slice true (x1.map aD.d)),nd2 [2] [0] 14 (.agg (tv1 a0)),nd1 [14] 15 (.int .i64 x2),nd2 [2] [0] 16 (.agg (tv1 a0)),nd1 [16] 17 (.int .i64 x3),nd1 [17] 18 (.int .i64 x4),nd1 [15,18] 19 (.agg (w49 x2 x4 0 false)),⟨[19],[2],[(20,.osl 2 aD.sz (([(⟨x2,x4,0,false⟩:aI)]:(List aI)).length))],[(2,.blk 105 (D.flat ((([(⟨x2,x4,0,false⟩:aI)]:(List aI))).map aD.d)))]⟩,⟨[13,20],[2,3],[(21,.osl 3 aD.sz x5.length)],[(3,.blk 105 (D.flat (x5.map aD.d)))]⟩,nd1 [3] 22 (.fn 177 [.ref 1 0]),nd2 [21,22] [1,3] 23 (.int .i64 x6),nd1 [23] 4 (.int .i64 x6)] M ?_ (by kernel_rfl) ?_
 ·refine .cons (dFa 3 un37 M ti33 M)<|.cons (dLd un33 ag33 ti33 M)<|.cons (dFa 3 un37 M ti33 M)<|.cons (dLd un33 ag33 ti33 M)<|.cons (lop M M fun S hA=>(bY aD (l:=a0.Pieces) M M (lb M) un33 (svaL hA M M)))<|.cons (dFa 3 un37 M ti33 M)<|.cons (dLd un33 ag33 ti33 M)<|.cons (lop M M fun S hA=>(bY aD (l:=a0.Pieces) M M (lb M) un33 (svaL hA M M)))<|.cons (lop M M fun S hA=>(aE8 aD M M (lb M) un33 dH (svaL hA M M) (svaI hA M M) (svaI hA M M) hx1))<|.cons (dLa un37 ag37 ti37 M)<|.cons (lop M M fun S hA=>(aL (r:=.int _ _) M M (lb M) aCp (.cons (svaA q12 hA M M) .nil) M (gP _ _ hx2)))<|.cons (dLa un37 ag37 ti37 M)<|.cons (lop M M fun S hA=>(aL (r:=.int _ _) M M (lb M) aCp (.cons (svaA q12 hA M M) .nil) M (gP _ _ hx3)))<|.cons (lop M M fun S hA=>(aX M M (lb M) (svaI hA M M) (sv (d:=.int _ 1) M) M hx4))<|.cons (lop M M fun S hA=>(bA (cs:=q20) M M (lb M) fL dH aCz M (.cons (svaI hA M M) (.cons (svaI hA M M) .nil)) M))<|.cons (lop M M fun S hA=>(pM aD.toEnc0 ([(⟨x2,x4,0,false⟩:aI)]:(List aI)) 2 M M (lb M) un33 dH (agi hA M M) (.cons (svaA q20 hA M M) .nil) M M (by decide)))<|.cons (lop M M fun S hA=>(aF9 aD.toEnc0 3 M M (lb M) un33 dH M (svaL hA M M) (agi hA M M) (xG aD.toEnc0 (agr hA M M) M (agi hA M M)) (by simp) hx5))<|.cons (lop M M fun S hA=>(nM M M (lb M) (.cons (svaR hA M M) .nil)))<|.cons (lop M M fun S hA=>(yT (r:=.int .i64 x6) M M (lb M) cl176 (.cons (sv (d:=.osl _ _ _) (agr hA M M)) (.cons (sv (d:=.fn 177 [.ref _ _]) (agr hA M M)) .nil)) (.cons (FDT aD (agi hA M M) M) (.cons (.fn (.cons (.ref (agi hA M M) M (vK _) M) .nil)) .nil)) M M (kG _ _ _ hx6)))<|.cons (lop M M fun S hA=>(bV M M (lb M) (svaI hA M M))) ?_
  exact .nil
 refine aM ?_;obtain rfl:=sj_ h;refine ⟨.inr M,(.cons (sv M) .nil)⟩

set_option maxRecDepth 8000 in
set_option maxHeartbeats 4000000 in
theorem nI (a0:Int) (a1:List aI) (a2:List aI) (r:List aI) (h:fN a0 a1 a2=some r):FnH prog 137 [.osl 1000 aD.sz a2.length,.int .i64 a0,.slice false (a1.map aD.d)] [(1000,.blk 105 (D.flat (a2.map aD.d)))] (.osl 0 aD.sz r.length) [(0,.blk 105 (D.flat (r.map aD.d)))]:=by
 replace h:insS 32 a2 a0 a1=some r:=h;obtain ⟨i,rfl,hi,hm,hb,hr⟩:=insS_e h
 have hX:=aD.toEnc0.flat_len a2
 have hV:=aD.toEnc0.flat_len a1
 have hp:=aD.pos
 have hvt:∀ k,a1.length≤k→(D.flat (a1.map aD.d)).take (min a1.length k*aD.sz)=D.flat (a1.map aD.d):=fun k hk=>by
  rw [Nat.min_eq_left hk,←hV,List.take_length]
 refine gE (rs:=[.osl 0 aD.sz r.length]) func137 M ntmps137 (nle M) fun O hO=>?_
 show IWP _ _ _ _ ⟨[(0,.osl 1000 aD.sz a2.length),(1,.int .i64 (i:Int)),(2,.slice false (a1.map aD.d))],[(1000,.blk 105 (D.flat (a2.map aD.d)))]⟩ _
 refine aBn 0 (id:=1000) (sz:=aD.sz) (n:=a2.length) M M hX (fun hn=>?_) (fun c hc hcm=>?_)
 ·
  obtain rfl:=List.length_eq_zero_iff.1 hn;obtain rfl:i=0:=by simpa using hi
  refine aC (cAs (.nils) M<|aB ?_);refine aC (cMv (.nils) M<|cI M<|aA M (qS aD (s:=[]) (r:=[]) (b:=false) M M (lb M) un33 dH (svn M) ⟨_,(svI M)⟩ M M)<|aB ?_);refine aC (aA M (mvL M M M M)<|aA M (bY aD (l:=a1) M M (lb M) un33 (svL M))<|cAI M<|aB ?_);refine aP<|aC (cI M<|cCm (b:=0) M M<|aB ?_);refine pZ (b:=_) M (fun h1=>?_) (fun h1=>?_)
  ·have h2:=of_decide_eq_true h1
   obtain rfl:=List.length_eq_zero_iff.1 (show a1.length=0 by omega)
   have hr':[]=r:=by simpa using hr
   subst hr';refine aC (cMv (.nils) M<|cAs (.nils) M<|aB ?_);refine aM<|aT ?_;refine ⟨.inr M,(fun i=>if i=0 then 50 else i),⟨.nil,(.cons (.nilb M) .nil),bX [50] M (by decide),(fun i hi=>by first | rfl | (show (if _ then _ else _)=_; (repeat' split) <;> omega))⟩,(.cons (svno M) .nil),M⟩
  ·refine aO<|aJ<|aC (cMv (.nils) M<|aA M (bY aD (l:=[]) (b:=false) M M (lb M) un33 (svn M))<|cAI M<|aB ?_)
   refine aP<|aC (cI M<|cI M<|cCm M M<|aB ?_);refine zS M M ?_
   have ha:app 32 ([]:List aI) a1=some r:=by
    rw [←hr]; unfold maxLen at hm; simpa using gZ hm hb
   refine aC (cMv (.nils) M<|aA M (mvL M M M M)<|aA M (aAv aD.toEnc0 0 M M (lb M) un33 dH M M M (aBZ aD (ys:=a1) (svL M)) ha)<|cAs (.osl _ _ _) M<|aB ?_);refine aM<|aT ?_;refine ⟨.inr M,(fun i=>i),⟨.nil,(.cons (EntW.lst M) .nil),bX [0] M (by decide),fun _ _=>M⟩,(.cons (sv M) .nil),M⟩
 ·refine aC (cAs (.nils) M<|aB ?_)
  refine aC (cMv (.rsl _ _ _ _ _) M<|cI M<|aA M (eG (sz:=aD.sz) (l:=(i:Int)) (h:=(a2.length:Int)) (m:=(c:Int)) M M (lb M) un33 dH (sv (d:=.rsl _ _ _ _ _) M) ⟨_,(svI M)⟩ M M (by simp) (by omega) (by omega) (by omega) (by omega) M)<|aB ?_);refine aC (aA M (mvL M M M M)<|aA M (bY aD (l:=a1) M M (lb M) un33 (svL M))<|cAI M<|aB ?_);refine aP<|aC (cI M<|cCm (b:=0) M M<|aB ?_);refine pZ (b:=_) M (fun h1=>?_) (fun h1=>?_)
  ·have h2:=of_decide_eq_true h1
   obtain rfl:=List.length_eq_zero_iff.1 (show a1.length=0 by omega)
   have hr':a2=r:=by simpa using hr
   subst hr';refine aC (cMv (.rsl _ _ _ _ _) M<|cAs (.rsl _ _ _ _ _) M<|aB ?_);refine uX 6 (id:=1000) M M hX<|aM<|aT ?_;refine ⟨.inr M,(fun i=>if i=0 then 1000 else i),⟨.nil,(.cons (EntW.lst M) .nil),bX [1000] M (by decide),(fun i hi=>by first | rfl | (show (if _ then _ else _)=_; (repeat' split) <;> omega))⟩,(.cons (sv M) .nil),M⟩
  ·have h2:=of_decide_eq_false h1
   have hm0:0<a1.length:=by omega
   refine aO<|aJ<|aC (cMv (.rsl _ _ _ _ _) M<|aA M (tR M M (lb M) un33 (sv (d:=.rsl _ _ _ _ _) M) M)<|cAI M<|aB ?_);refine aP<|aC (cI M<|cI M<|cCm M M<|aB ?_);refine pZ (b:=_) M (fun h3=>?_) (fun h3=>?_)
   ·have h4:=of_decide_eq_true h3
    obtain rfl:i=a2.length:=by omega
    have hr':a2++a1=r:=by simpa using hr
    have ha:app 32 a2 a1=some r:=by
     rw [←hr']; unfold maxLen at hm; exact gZ hm hb
    refine aC (cMv (.rsl _ _ _ _ _) M<|aA M (mvL M M M M)<|aFG 23 (id:=1000) M M hX<|aA M (kS aD.toEnc0 0 M M (lb M) un33 dH M M M M M (aBZ aD (ys:=a1) (svL M)) ha)<|cAs (.osl _ _ _) M<|aB ?_);refine aM<|aT ?_;refine ⟨.inr M,(fun i=>i),⟨.nil,(.cons (EntW.lst M) .nil),bX [0] M (by decide),fun _ _=>M⟩,(.cons (sv M) .nil),M⟩
   ·have h4:=of_decide_eq_false h3
    have hin:i<a2.length:=by omega
    have hXt:(D.flat ((a2.take i).map aD.d)).length=i*aD.sz:=by rw [aD.toEnc0.flat_len,List.length_take,Nat.min_eq_left hi]
    have hXd:(D.flat ((a2.drop i).map aD.d)).length=(a2.length-i)*aD.sz:=by rw [aD.toEnc0.flat_len,List.length_drop]
    have hXs:D.flat (a2.map aD.d)=D.flat ((a2.take i).map aD.d)++D.flat ((a2.drop i).map aD.d):=by
     rw [aD.toEnc0.flat_append,List.take_append_drop]
    have hR:D.flat (r.map aD.d)=D.flat ((a2.take i).map aD.d)++D.flat (a1.map aD.d)++D.flat ((a2.drop i).map aD.d):=by
     rw [←hr,aD.toEnc0.flat_append,aD.toEnc0.flat_append]
    have hRl:(D.flat (r.map aD.d)).length=r.length*aD.sz:=aD.toEnc0.flat_len r
    have hrl:r.length=a2.length+a1.length:=by rw [←hr]; simp; omega
    refine aO<|aJ<|aP<|aC (cI M<|cI M<|aA M (aX M M (lb M) (svI M) (svI M) M (wN hm))<|cMv (.rsl _ _ _ _ _) M<|aA M (aDI M M (lb M) un33 (sv (d:=.rsl _ _ _ _ _) M) M)<|cCm M M<|aB ?_);refine pZ (b:=_) M (fun h5=>?_) (fun h5=>?_)
    ·have h6:=of_decide_eq_true h5
     have hcn:c<a2.length+a1.length:=by omega
     obtain ⟨K,hK⟩:∃ K,K=a2.length+a1.length-i:=⟨_,rfl⟩
     have hKm:i+K=a2.length+a1.length:=by omega
     have w1:IntKind.wrap .i64 (((a2.length+a1.length:Nat):Int)-(i:Int))=(K:Int):=by rw [hK]; exact wS (by omega) hm
     have hD0:i*aD.sz≤(D.flat (a2.map aD.d)++List.replicate ((c-a2.length)*aD.sz) D.dead).length:=by
      rw [List.length_append,hX]; exact Nat.le_trans (Nat.mul_le_mul_right _ hi) (Nat.le_add_right _ _)
     have hT0:(D.flat (a2.map aD.d)++List.replicate ((c-a2.length)*aD.sz) D.dead).take (i*aD.sz)=D.flat ((a2.take i).map aD.d):=by
      rw [List.take_append_of_le_length (by rw [hX]; exact Nat.mul_le_mul_right _ hi),aD.toEnc0.flat_take]
     refine aC (cMv (.rsl _ _ _ _ _) M<|cI M<|aA M (eG (sz:=aD.sz) (l:=0) (h:=(i:Int)) (m:=(c:Int)) (d:=.rsl 1000 aD.sz 0 i c) M M (lb M) un33 dH (sv (d:=.rsl _ _ _ _ _) M) M ⟨_,(svI M)⟩ M (by simp) (by omega) (by omega) (by omega) (by omega) (by simp only [Int.toNat_natCast,Int.toNat_zero,Nat.zero_mul,Nat.zero_add,Nat.sub_zero]))<|cI M<|cI M<|aA M (aX M M (lb M) (svI M) (svI M) M (wN hm))<|cI M<|aA M (aX M M (lb M) (svI M) (svI M) M w1)<|aA M (aCc (sz:=aD.sz) (k:=K) 0 M M (lb M) un33 un3 dH M (sv (d:=.rsl _ _ _ _ _) M) M M (svI M) M (by omega) hD0 (by omega) (by rw [hKm]; exact hm) (by rw [hKm]; exact hb))<|cAs (.osl _ _ _) M<|aB ?_)
     have hY0:((D.flat (a2.map aD.d)++List.replicate ((c-a2.length)*aD.sz) D.dead).take (i*aD.sz)++List.replicate (K*aD.sz) D.dead).length=(i+K)*aD.sz:=by
      rw [List.length_append,List.length_take,List.length_replicate,Nat.min_eq_left hD0,Nat.add_mul]
     refine aBn 9 (id:=0) M M hY0 (fun h0=>absurd h0 (by omega)) (fun c1 hc1 hcm1=>?_);rw [hT0];rw [hT0] at hY0
     have w2:IntKind.wrap .i64 ((i:Int)+(a1.length:Int))=((i+a1.length:Nat):Int):=wN (by omega)
     have hKs:(K-a1.length)*aD.sz=(a2.length-i)*aD.sz:=by congr 1; omega
     obtain ⟨J,hJ⟩:∃ J,J=List.replicate ((c1-(i+K))*aD.sz) D.dead:=⟨_,rfl⟩;obtain ⟨Z,hZ⟩:∃ Z,Z=List.replicate (K*aD.sz) D.dead:=⟨_,rfl⟩
     have hZl:Z.length=K*aD.sz:=by rw [hZ,List.length_replicate]
     have hKsp:K*aD.sz=a1.length*aD.sz+(a2.length-i)*aD.sz:=by rw [←Nat.add_mul]; congr 1; omega
     rw [←hJ,←hZ]
     have hYl:(D.flat ((a2.take i).map aD.d)++Z++J).length=i*aD.sz+K*aD.sz+J.length:=by simp only [List.length_append,hXt,hZl]
     refine aC (cMv (.rsl _ _ _ _ _) M<|cI M<|aA M (eG (sz:=aD.sz) (l:=(i:Int)) (h:=((i+K:Nat):Int)) (m:=(c1:Int)) (d:=.rsl 0 aD.sz (i*aD.sz) K (c1-i)) M M (lb M) un33 dH (sv (d:=.rsl _ _ _ _ _) M) ⟨_,(svI M)⟩ M M (by simp) (by omega) (by omega) (by omega) (by omega) (by simp only [Int.toNat_natCast,Nat.zero_add]; congr 1; omega))<|aA M (mvL M M M M)<|aA M (rZ (sz:=aD.sz) (ds':=fS (D.flat ((a2.take i).map aD.d)++Z++J) (i*aD.sz) (D.flat (a1.map aD.d))) M M (lb M) un33 dH (sv (d:=.rsl _ _ _ _ _) M) M (aBZ aD (ys:=a1) (svL M)) hV (zA (aD.toEnc0.one a1) _) (by rw [hYl]; omega) M (by rw [hvt _ (by omega)]))<|aB ?_)
     have e1:fS (D.flat ((a2.take i).map aD.d)++Z++J) (i*aD.sz) (D.flat (a1.map aD.d))=D.flat ((a2.take i).map aD.d)++D.flat (a1.map aD.d)++(Z.drop (a1.length*aD.sz)++J):=by
      have e2:D.flat ((a2.take i).map aD.d)++Z++J=D.flat ((a2.take i).map aD.d)++Z.take (a1.length*aD.sz)++(Z.drop (a1.length*aD.sz)++J):=by
       rw [List.append_assoc (D.flat ((a2.take i).map aD.d)),List.append_assoc (D.flat ((a2.take i).map aD.d)),←List.append_assoc (Z.take _),List.take_append_drop]
      rw [e2]; exact uG hXt (by rw [List.length_take,hZl,hV]; omega)
     have hres:=ins_new (J:=J) (Y:=D.flat ((a2.drop i).map aD.d)) hXt hV (show Z.length=a1.length*aD.sz+(D.flat ((a2.drop i).map aD.d)).length by rw [hZl,hXd,hKsp])
     have hlen1:(fS (D.flat ((a2.take i).map aD.d)++Z++J) (i*aD.sz) (D.flat (a1.map aD.d))).length=i*aD.sz+K*aD.sz+J.length:=by
      rw [e1]; simp only [List.length_append,hXt,hV,List.length_drop,hZl]; omega
     obtain ⟨Y1,hY1⟩:∃ Y1,Y1=fS (D.flat ((a2.take i).map aD.d)++Z++J) (i*aD.sz) (D.flat (a1.map aD.d)):=⟨_,rfl⟩;rw [←hY1] at hlen1 hres ⊢;obtain ⟨es,hes⟩:∃ es,es=((D.flat (a2.map aD.d)++List.replicate ((c-a2.length)*aD.sz) D.dead).drop (i*aD.sz)).take ((a2.length-i)*aD.sz):=⟨_,rfl⟩
     have hes':es=D.flat ((a2.drop i).map aD.d):=by
      rw [hes,List.drop_append_of_le_length (by rw [hX]; exact Nat.mul_le_mul_right _ hi),aD.toEnc0.flat_drop,List.take_append_of_le_length (by rw [hXd]; exact Nat.le_refl _),←hXd,List.take_length]
     have hfit2:i*aD.sz+(a2.length-i)*aD.sz≤(D.flat (a2.map aD.d)++List.replicate ((c-a2.length)*aD.sz) D.dead).length:=by
      rw [List.length_append,hX,←Nat.add_mul,show i+(a2.length-i)=a2.length by omega]; exact Nat.le_add_right _ _
     have him:(i+a1.length)*aD.sz=i*aD.sz+a1.length*aD.sz:=Nat.add_mul _ _ _
     refine cC M [nd1 [9] 46 (.rsl 0 aD.sz 0 (i+K) c1),nd1 [1] 47 (.int .i64 (i:Int)),nd1 [7] 48 (.int .i64 (a1.length:Int)),nd1 [47,48] 49 (.int .i64 ((i+a1.length:Nat):Int)),nd1 [46,49] 50 (.rsl 0 aD.sz ((i+a1.length)*aD.sz) (K-a1.length) (c1-(i+a1.length))),nd1 [0] 51 (.rsl 1000 aD.sz 0 a2.length c),nd1 [1] 52 (.int .i64 (i:Int)),nd1 [51,52] 53 (.rsl 1000 aD.sz (i*aD.sz) (a2.length-i) (c-i)),⟨[50,53],[0,1000],[(54,.int .i64 ((min (a2.length-i) (K-a1.length):Nat):Int))],[(0,.blk 105 (fS Y1 ((i+a1.length)*aD.sz) es))]⟩] M ?_ (by kernel_rfl) ?_
     ·refine .cons (lop M M fun S hA=>(bI M M (lb M) (sv (d:=.rsl _ _ _ _ _) (agr hA M M))))<|.cons (dMv M)<|.cons (dMv M)<|.cons (lop M M fun S hA=>(aX M M (lb M) (svaI hA M M) (svaI hA M M) M w2))<|.cons (lop M M fun S hA=>(eG (sz:=aD.sz) (l:=((i+a1.length:Nat):Int)) (h:=((i+K:Nat):Int)) (m:=(c1:Int)) (d:=.rsl 0 aD.sz ((i+a1.length)*aD.sz) (K-a1.length) (c1-(i+a1.length))) M M (lb M) un33 dH (sv (d:=.rsl _ _ _ _ _) (agr hA M M)) ⟨_,(svaI hA M M)⟩ M M (by simp) (by omega) (by omega) (by omega) (by omega) (by simp only [Int.toNat_natCast,Nat.zero_add]; congr 1; omega)))<|.cons (lop M M fun S hA=>(bI M M (lb M) (sv (d:=.rsl _ _ _ _ _) (agr hA M M))))<|.cons (dMv M)<|.cons (lop M M fun S hA=>(eG (sz:=aD.sz) (l:=(i:Int)) (h:=(a2.length:Int)) (m:=(c:Int)) (d:=.rsl 1000 aD.sz (i*aD.sz) (a2.length-i) (c-i)) M M (lb M) un33 dH (sv (d:=.rsl _ _ _ _ _) (agr hA M M)) ⟨_,(svaI hA M M)⟩ M M (by simp) (by omega) (by omega) (by omega) (by omega) (by simp only [Int.toNat_natCast,Nat.zero_add])))<|.cons (lop M M fun S hA=>(rZ (sz:=aD.sz) (es:=es) (ds':=fS Y1 ((i+a1.length)*aD.sz) es) M M (lb M) un33 dH (sv (d:=.rsl _ _ _ _ _) (agr hA M M)) (agi hA M M) (hes ▸ aCt (sv (d:=.rsl _ _ _ _ _) (agr hA M M)) (agi hA M M) hfit2) (by rw [hes',hXd]) (zA (by rw [hes']; exact aD.toEnc0.one _) _) (by rw [hlen1,him,hKs]; omega) M (by rw [show min (a2.length-i) (K-a1.length)=a2.length-i by omega,hes',←hXd,List.take_length]))) ?_
      exact .nil
     ·rw [hes',him,hres,←hR]
      refine aC (cMv (.rsl _ _ _ _ _) M<|cAs (.rsl _ _ _ _ _) M<|aB ?_);refine uX 6 (id:=0) M M (show (D.flat (r.map aD.d)).length=(i+K)*aD.sz by rw [hRl,hrl,hKm])<|aM<|aT ?_;refine ⟨.inr M,(fun i=>i),⟨.nil,(.cons (EntW.lst M) .nil),bX [0] M (by decide),fun _ _=>M⟩,(.cons (sv (congrArg (D.osl _ _) (show i+K=r.length by omega))) .nil),M⟩
    ·have h6:=of_decide_eq_false h5
     have hcn:a2.length+a1.length≤c:=by omega
     have w2:IntKind.wrap .i64 ((i:Int)+(a1.length:Int))=((i+a1.length:Nat):Int):=wN (by omega)
     have him:(i+a1.length)*aD.sz=i*aD.sz+a1.length*aD.sz:=Nat.add_mul _ _ _
     obtain ⟨J,hJ⟩:∃ J,J=List.replicate ((c-a2.length)*aD.sz) D.dead:=⟨_,rfl⟩
     have hJl:J.length=(c-a2.length)*aD.sz:=by rw [hJ,List.length_replicate]
     have hJm:a1.length*aD.sz≤J.length:=by rw [hJl]; exact Nat.mul_le_mul_right _ (by omega)
     have hni:a2.length*aD.sz=i*aD.sz+(a2.length-i)*aD.sz:=by rw [←Nat.add_mul]; congr 1; omega
     have hnm:(a2.length+a1.length-i)*aD.sz=(a2.length-i)*aD.sz+a1.length*aD.sz:=by rw [←Nat.add_mul]; congr 1; omega
     have hnm2:(a2.length+a1.length-(i+a1.length))*aD.sz=(a2.length-i)*aD.sz:=by congr 1; omega
     rw [←hJ]
     have hD0:(D.flat (a2.map aD.d)++J).length=i*aD.sz+(a2.length-i)*aD.sz+J.length:=by rw [List.length_append,hX,hni]
     refine aO<|aJ<|aC (cMv (.rsl _ _ _ _ _) M<|cI M<|cI M<|aA M (aX M M (lb M) (svI M) (svI M) M (wN hm))<|aA M (eG (sz:=aD.sz) (l:=0) (h:=((a2.length+a1.length:Nat):Int)) (m:=(c:Int)) (d:=.rsl 1000 aD.sz 0 (a2.length+a1.length) c) M M (lb M) un33 dH (sv (d:=.rsl _ _ _ _ _) M) M ⟨_,(svI M)⟩ M (by simp) (by omega) (by omega) (by omega) (by omega) (by simp only [Int.toNat_natCast,Int.toNat_zero,Nat.zero_mul,Nat.zero_add,Nat.sub_zero]))<|cAs (.rsl _ _ _ _ _) M<|aB ?_);refine aP<|aC (aA M (mvL M M M M)<|cMv (.rsl _ _ _ _ _) M<|cI M<|cI M<|aA M (aX M M (lb M) (svI M) (svI M) M w2)<|aA M (eG (sz:=aD.sz) (l:=((i+a1.length:Nat):Int)) (h:=((a2.length+a1.length:Nat):Int)) (m:=(c:Int)) M M (lb M) un33 dH (sv (d:=.rsl _ _ _ _ _) M) ⟨_,(svI M)⟩ M M (by simp) (by omega) (by omega) (by omega) (by omega) M)<|aA M (aCV M M (lb M) ex174 un33 dH (svL M) (by intro e; have e9:=congrArg List.length e; rw [List.length_map,List.length_nil] at e9; omega) (sv (d:=.rsl _ _ _ _ _) M) M (by intro e; have:=congrArg List.length e; rw [hD0] at this; simp only [List.length_nil] at this; have h9:0<(a2.length-i)*aD.sz:=Nat.mul_pos (Nat.sub_pos_of_lt hin) hp; clear hnm hnm2 him; omega))<|aA M (cV M M (lb M) (svB M))<|aB ?_);refine zS M M ?_;obtain ⟨es,hes⟩:∃ es,es=((D.flat (a2.map aD.d)++J).drop (i*aD.sz)).take ((a2.length+a1.length-i)*aD.sz):=⟨_,rfl⟩
     have hes':es.take ((a2.length-i)*aD.sz)=D.flat ((a2.drop i).map aD.d):=by
      rw [hes,List.take_take,Nat.min_eq_left (by omega),List.drop_append_of_le_length (by omega),aD.toEnc0.flat_drop,List.take_append_of_le_length (by rw [hXd]; exact Nat.le_refl _),←hXd,List.take_length]
     have hesl:es.length=(a2.length+a1.length-i)*aD.sz:=by
      rw [hes,List.length_take,List.length_drop,hD0]; omega
     have hres:=aFC (J:=J) (Y:=D.flat ((a2.drop i).map aD.d)) hXt hV hJm
     rw [←hXs] at hres;refine cC M [nd1 [0] 69 (.rsl 1000 aD.sz 0 (a2.length+a1.length) c),nd1 [1] 70 (.int .i64 (i:Int)),nd1 [7] 71 (.int .i64 (a1.length:Int)),nd1 [70,71] 72 (.int .i64 ((i+a1.length:Nat):Int)),nd1 [69,72] 73 (.rsl 1000 aD.sz ((i+a1.length)*aD.sz) (a2.length+a1.length-(i+a1.length)) (c-(i+a1.length))),nd1 [0] 74 (.rsl 1000 aD.sz 0 (a2.length+a1.length) c),nd1 [1] 75 (.int .i64 (i:Int)),nd1 [74,75] 76 (.rsl 1000 aD.sz (i*aD.sz) (a2.length+a1.length-i) (c-i)),⟨[73,76],[1000],[(77,.int .i64 ((min (a2.length+a1.length-i) (a2.length+a1.length-(i+a1.length)):Nat):Int))],[(1000,.blk 105 (fS (D.flat (a2.map aD.d)++J) (i*aD.sz+a1.length*aD.sz) (D.flat ((a2.drop i).map aD.d))))]⟩] M ?_ (by kernel_rfl) ?_
     ·refine .cons (lop M M fun S hA=>(bI M M (lb M) (sv (d:=.rsl _ _ _ _ _) (agr hA M M))))<|.cons (dMv M)<|.cons (dMv M)<|.cons (lop M M fun S hA=>(aX M M (lb M) (svaI hA M M) (svaI hA M M) M w2))<|.cons (lop M M fun S hA=>(eG (sz:=aD.sz) (l:=((i+a1.length:Nat):Int)) (h:=((a2.length+a1.length:Nat):Int)) (m:=(c:Int)) (d:=.rsl 1000 aD.sz ((i+a1.length)*aD.sz) (a2.length+a1.length-(i+a1.length)) (c-(i+a1.length))) M M (lb M) un33 dH (sv (d:=.rsl _ _ _ _ _) (agr hA M M)) ⟨_,(svaI hA M M)⟩ M M (by simp) (by omega) (by omega) (by omega) (by omega) (by simp only [Int.toNat_natCast,Nat.zero_add])))<|.cons (lop M M fun S hA=>(bI M M (lb M) (sv (d:=.rsl _ _ _ _ _) (agr hA M M))))<|.cons (dMv M)<|.cons (lop M M fun S hA=>(eG (sz:=aD.sz) (l:=(i:Int)) (h:=((a2.length+a1.length:Nat):Int)) (m:=(c:Int)) (d:=.rsl 1000 aD.sz (i*aD.sz) (a2.length+a1.length-i) (c-i)) M M (lb M) un33 dH (sv (d:=.rsl _ _ _ _ _) (agr hA M M)) ⟨_,(svaI hA M M)⟩ M M (by simp) (by omega) (by omega) (by omega) (by omega) (by simp only [Int.toNat_natCast,Nat.zero_add])))<|.cons (lop M M fun S hA=>(rZ (sz:=aD.sz) (es:=es) (ds':=fS (D.flat (a2.map aD.d)++J) (i*aD.sz+a1.length*aD.sz) (D.flat ((a2.drop i).map aD.d))) M M (lb M) un33 dH (sv (d:=.rsl _ _ _ _ _) (agr hA M M)) (agi hA M M) (hes ▸ aCt (sv (d:=.rsl _ _ _ _ _) (agr hA M M)) (agi hA M M) (by rw [hD0]; omega)) hesl (by rw [show min (a2.length+a1.length-i) (a2.length+a1.length-(i+a1.length))=a2.length-i by omega,hes']; exact aD.toEnc0.one _) (by rw [hD0,him,hnm2]; omega) M (by rw [show min (a2.length+a1.length-i) (a2.length+a1.length-(i+a1.length))=a2.length-i by omega,hes',him]))) ?_
      exact .nil
     ·refine aC (cMv (.rsl _ _ _ _ _) M<|cI M<|aA M (eG (sz:=aD.sz) (l:=(i:Int)) (h:=((a2.length+a1.length:Nat):Int)) (m:=(c:Int)) (d:=.rsl 1000 aD.sz (i*aD.sz) (a2.length+a1.length-i) (c-i)) M M (lb M) un33 dH (sv (d:=.rsl _ _ _ _ _) M) ⟨_,(svI M)⟩ M M (by simp) (by omega) (by omega) (by omega) (by omega) (by simp only [Int.toNat_natCast,Nat.zero_add]))<|aA M (mvL M M M M)<|aA M (rZ (sz:=aD.sz) (ds':=D.flat (r.map aD.d)++J.drop (a1.length*aD.sz)) M M (lb M) un33 dH (sv (d:=.rsl _ _ _ _ _) M) M (aBZ aD (ys:=a1) (svL M)) hV (zA (aD.toEnc0.one a1) _) (by rw [vY,hD0]; omega; rw [hD0,hXd]; omega) M (by rw [hvt _ (by omega),hres,hR]))<|aB ?_)
      refine aC (cMv (.rsl _ _ _ _ _) M<|cAs (.rsl _ _ _ _ _) M<|aB ?_);refine uX 6 (id:=1000) M M (show (D.flat (r.map aD.d)).length=(a2.length+a1.length)*aD.sz by rw [hRl,hrl])<|aM<|aT ?_;refine ⟨.inr M,(fun i=>if i=0 then 1000 else i),⟨.nil,(.cons (EntW.lst M) .nil),bX [1000] M (by decide),(fun i hi=>by first | rfl | (show (if _ then _ else _)=_; (repeat' split) <;> omega))⟩,(.cons (sv (congrArg (D.osl _ _) hrl.symm)) .nil),M⟩

theorem aC4 (a0:aN) (a1:Int) (a2:Int) (a3:Int) (r:(aN×aI×(List UInt8)×Bool)) (h:nH a0 a1 a2 a3=some r):bJ prog 88 [.agg (tv1 a0),.int .i64 a1,.int .i64 a2,.int .i64 a3] (retD [.agg (tv1 r.1),.agg (tv8 r.2.1),.str r.2.2.1,.bool r.2.2.2]):=by
 refine fC (rs:=[.agg (tv1 r.1),.agg (tv8 r.2.1),.str r.2.2.1,.bool r.2.2.2]) func88 M ntmps88 (nle M) M fun O hO=>?_
 show IWP _ _ _ _ ⟨[(0,.agg (tv1 a0)),(1,.int .i64 a1),(2,.int .i64 a2),(3,.int .i64 a3)],[]⟩ _
 unfold nH at h;refine aC (cBx (cs:=q12) q12 0 M<|aA M (aR (cs:=q15) (cs':=zs0) 1 M M (lb M) M ti37 M M (.k (.k (.k (.cons (.nils _) (.cons (.nils _) (.all _)))))))<|aA M (aR (cs:=q20) (cs':=(w49 0 0 0 false)) 2 M M (lb M) M dH M M (.all _))<|cAs (.str []) M<|cAs (.bool false) M<|aB ?_);obtain ⟨x1,hx1,h⟩:=bR h;refine aC (cLr q12 la37 M<|aA M (fR (r':=.agg (w45 x1.1 x1.2.1 x1.2.2.1 (.osl 3 aD.sz x1.2.2.2.1.length) x1.2.2.2.2.1 x1.2.2.2.2.2.1 x1.2.2.2.2.2.2.1 x1.2.2.2.2.2.2.2.1 x1.2.2.2.2.2.2.2.2)) (H1':=[(3,.blk 105 (D.flat (x1.2.2.2.1.map aD.d)))]) 3 [] M M (lb M) aFa (.cons (svA q12 M) .nil) M M ⟨M,M,by decide,M,List.forall_mem_nil _⟩ (kH _ _ hx1) M M (List.forall_mem_cons.2 ⟨⟨M,(mX aD)⟩,List.forall_mem_nil _⟩) (by simp only [List.map_cons,List.map_nil,Ent.ren,iF,kC]; rfl))<|aA M (aR (cs:=q15) (cs':=zs0) 4 M M (lb M) M ti37 M M (.k (.k (.k (.cons (.nils _) (.cons (.nils _) (.all _)))))))<|cSt q13 q13 ti37 M<|aB ?_);refine aP ?_;obtain ⟨x2,hx2,x3,hx3,x4,hx4,h⟩:=eodd h;obtain ⟨x5,hx5,x6,hx6,x7,hx7,h⟩:=eodd h;refine aC (cI M<|aA M (aL (r:=.bool _) M M (lb M) cl133 (.cons (svI M) .nil) M (aAk _ _ hx2))<|aA M (cV M M (lb M) (svB M))<|cB M<|gG M (fun hb=>(tI M))<|gG M (fun hb=>(tCg (b:=1) M hb hx3))<|cOr M hx4<|cB M<|gG M (fun hb=>(tLr q12 la37 M))<|gG M (fun hb=>(aL (r:=.int _ _) M M (lb M) aDP (.cons (svcA (tv1 a0) M hb) .nil) M (nK _ _ (gd_t hx5 hb))))<|gG M (fun hb=>(tCg (b:=0) M hb hx6))<|cOr M hx7<|aB ?_);refine aK h M (fun h=>?_) (fun h=>?_)
 ·
  refine aC (cLr q13 la37 M<|aA M (bA (cs:=q20) M M (lb M) fL dH aCz M .nil M)<|cSt q13 q13 ti37 M<|cSt q20 q20 dH M<|cAs (.str []) M<|cAs (.bool false) M<|aB ?_);refine aM<|aT ?_;obtain rfl:=sj_ h;refine ⟨.inr M,_,(.cons (rva la37 M M (nle M) M) (.cons (rva yO M M (nle M) M) (.cons (sv M) (.cons (sv M) .nil)))),(.cons (.agg (.k (.k (.k (.cons (FDT aD M M) (.all _)))))) (.all _))⟩
 ·
  refine aO<|aJ ?_;obtain ⟨x9,hx9,h⟩:=bR h;refine aC (cLr q12 la37 M<|cI M<|cI M<|aA M (aL (r:=.tuple q40) M M (lb M) cl125 (.cons (svA q12 M) (.cons (svI M) (.cons (svI M) .nil))) M (sZ _ _ _ _ hx9))<|cMv (.tuple q40) M<|cEx (d:=.agg q20) (cs:=q40) M<|cEx (d:=.bool _) (cs:=q40) M<|aA M (aR (cs:=q20) (cs':=(w49 0 0 0 false)) 5 M M (lb M) M dH M M (.all _))<|cSt q20 q20 dH M<|cAB M<|aB ?_);refine aP<|aC (cB M<|aA M (cV M M (lb M) (svB M))<|aB ?_);refine aK h M (fun h=>?_) (fun h=>?_)
  ·
   refine aC (cLr q13 la37 M<|aA M (bA (cs:=q20) M M (lb M) fL dH aCz M .nil M)<|cSt q13 q13 ti37 M<|cSt q20 q20 dH M<|cAs (.str []) M<|cAs (.bool false) M<|aB ?_);refine aM<|aT ?_;obtain rfl:=sj_ h;refine ⟨.inr M,_,(.cons (rva la37 M M (nle M) M) (.cons (rva yO M M (nle M) M) (.cons (sv M) (.cons (sv M) .nil)))),(.cons (.agg (.k (.k (.k (.cons (FDT aD M M) (.all _)))))) (.all _))⟩
  ·
   refine aO<|aJ<|aC (cI M<|cFa 2 fL M ti3 M<|aA M (bK (ds':=q20) M M ti3 (svR M) M (svI M) M M M (nle M) M)<|aB ?_);obtain ⟨x11,hx11,h⟩:=bF h;refine aC (cFa 2 un37 M ti3 M<|cLd (d:=.int _ _) un3 ag3 ti3 M<|cFa 1 fL M ti3 M<|cLd (d:=.int _ _) un3 ag3 ti3 M<|aA M (mC M M (lb M) (svI M) (svI M) hx11)<|cFa 2 un37 M ti3 M<|aA M (bK (ds':=q13) M M ti3 (svR M) M (svI M) M M M (nle M) M)<|aB ?_);refine mW (α:=(List aG)) (fun z=>⟨[(4,.ref 0 0),(8,.ref 1 0),(9,.ref 2 0),(12,.ref 4 0),(13,.ref 5 0)],[(0,.blk 37 (tv1 a0)),(1,.blk 37 zs0),(2,.blk 105 (w49 0 0 0 false)),(4,.blk 37 (w45 x1.1 x1.2.1 x11 (.osl 3 aD.sz x1.2.2.2.1.length) z x1.2.2.2.2.2.1 x1.2.2.2.2.2.2.1 x1.2.2.2.2.2.2.2.1 x1.2.2.2.2.2.2.2.2)),(5,.blk 105 (w49 x9.1.From x9.1.To a1 x9.1.Fin)),(3,.blk 105 (D.flat (x1.2.2.2.1.map aD.d)))]⟩) (fun z=>oV a0 a1 x1 x9 x11 z=some r) ?_ ?_
   ·
    obtain ⟨x35,hx35,h⟩:=bF h;refine aC (cFa 0 fL M ti3 M<|cLd (d:=.int _ _) un3 ag3 ti3 M<|cFa 1 fL M ti3 M<|cLd (d:=.int _ _) un3 ag3 ti3 M<|cCm M hx35<|aB ?_);refine aK h M (fun h=>?_) (fun h=>?_)
    ·
     obtain ⟨x37,hx37,x38,hx38,h⟩:=eoo h;refine oK M [nd1 [12] 55 (.ref 4 4),nd2 [55] [4] 56 (.slice false (x1.2.2.2.2.1.map aE.d)),nd2 [13] [5] 57 (.agg (w49 x9.1.From x9.1.To a1 x9.1.Fin)),nd1 [57] 58 (.agg [.int .i64 x37.From,.int .i64 x37.To]),nd1 [56,58] 59 (.slice false (x38.map aE.d)),nd1 [12] 60 (.ref 4 4),⟨[59,60],[4],[],[(4,.blk 37 (w45 x1.1 x1.2.1 x11 (.osl 3 aD.sz x1.2.2.2.1.length) x38 x1.2.2.2.2.2.1 x1.2.2.2.2.2.2.1 x1.2.2.2.2.2.2.2.1 x1.2.2.2.2.2.2.2.2))]⟩] M ?_ (by kernel_rfl) ?_
     ·refine .cons (dFa 4 un37 M ti35 M)<|.cons (dLd un35 ag35 ti35 M)<|.cons (dLa fL sG dH M)<|.cons (lop M M fun S hA=>(aL (r:=.agg q25) M M (lb M) aGL (.cons (svaA q20 hA M M) .nil) M (nS _ _ hx37)))<|.cons (lop M M fun S hA=>(aL (r:=.slice _ _) M M (lb M) cl134 (.cons (svaL hA M M) (.cons (svaA q25 hA M M) .nil)) M (wZ _ _ _ hx38)))<|.cons (dFa 4 un37 M ti35 M)<|.cons (lop M M fun S hA=>(bK (ds':=q13) M M ti35 (svaR hA M M) (agi hA M M) (svaL hA M M) M M M (nle M) M)) ?_
      exact .nil
     refine aJ ⟨x38,(fun i=>i),⟨(.sames M M),(.cons (.blk M M M) (.cons (.blk M M M) (.cons (.blk M M M) (.cons (.blk M M M) (.cons (.blk M M M) (.cons (EntW.lst M) .nil)))))),bX [0,1,2,4,5,3] M (by decide),fun _ _=>M⟩,?_⟩;exact h
    ·
     refine aO<|aJ ⟨x1.2.2.2.2.1,(fun i=>i),⟨(.sames M M),(.cons (.blk M M M) (.cons (.blk M M M) (.cons (.blk M M M) (.cons (.blk M M M) (.cons (.blk M M M) (.cons (EntW.lst M) .nil)))))),bX [0,1,2,4,5,3] M (by decide),fun _ _=>M⟩,?_⟩;exact h
   ·
    rintro v16 h;unfold oV at h;refine mW (α:=Bool×Bool×Bool) (fun z=>⟨[(4,.ref 0 0),(8,.ref 1 0),(9,.ref 2 0),(12,.ref 4 0),(13,.ref 5 0)],[(0,.blk 37 (tv1 a0)),(1,.blk 37 zs0),(2,.blk 105 (w49 0 0 0 false)),(4,.blk 37 (w45 x1.1 x1.2.1 x11 (.osl 3 aD.sz x1.2.2.2.1.length) v16 x1.2.2.2.2.2.1 z.1 z.2.1 x1.2.2.2.2.2.2.2.2)),(5,.blk 105 (w49 x9.1.From x9.1.To a1 z.2.2)),(3,.blk 105 (D.flat (x1.2.2.2.1.map aD.d)))]⟩) (fun z=>lV a0 a1 x1 x9 x11 v16 z.1 z.2.1 z.2.2=some r) ?_ ?_
    ·
     obtain ⟨x30,hx30,x31,hx31,x32,hx32,h⟩:=eodo h;obtain ⟨x33,hx33,h⟩:=bF h;refine cC M [nd1 [13] 61 (.ref 5 1),nd2 [61] [5] 62 (.int .i64 x9.1.To),nd2 [4] [0] 63 (.agg (tv1 a0)),nd1 [63] 64 (.int .i64 x30),nd1 [62,64] 65 (.bool x31),nd1 [65] 66 (.bool x31),nd2 [4,66] [0] 67 (.cnd (x31 == true) (.agg (tv1 a0))),nd1 [66,67] 68 (.cnd (x31 == true) (.bool x32)),nd1 [66,68] 69 (.bool x33),nd1 [13] 70 (.ref 5 3),⟨[69,70],[5],[],[(5,.blk 105 (w49 x9.1.From x9.1.To a1 x33))]⟩] M ?_ (by kernel_rfl) ?_
     ·refine .cons (dFa 1 fL M ti3 M)<|.cons (dLd un3 ag3 ti3 M)<|.cons (dLa un37 ag37 ti37 M)<|.cons (lop M M fun S hA=>(aL (r:=.int _ _) M M (lb M) aCp (.cons (svaA q12 hA M M) .nil) M (gP _ _ hx30)))<|.cons (lop M M fun S hA=>(cU M M (lb M) (svaI hA M M) (svaI hA M M) M hx31))<|.cons (dMv M)<|.cons (gD M (fun S hA hb=>(bS (cs:=q12) M M (lb M) un37 ag37 ti37 (by decide) (svaR hA M M) (agi hA M M) (nle M) M)))<|.cons (gD M (fun S hA hb=>(aL (r:=.bool _) M M (lb M) cl136 (.cons (svc (d:=.agg (tv1 a0)) (agr hA M M) hb) .nil) M (tZ _ _ (gd_t hx32 hb)))))<|.cons (lop M M fun S hA=>(kK M M (lb M) (svaB hA M M) (agr hA M M) M hx33))<|.cons (dFa 3 fL M ti4 M)<|.cons (lop M M fun S hA=>(bK (ds':=q20) M M ti4 (svaR hA M M) (agi hA M M) (svaB hA M M) M M M (nle M) M)) ?_
      exact .nil
     refine aC (cFa 3 fL M ti4 M<|cLd (d:=.bool _) un4 ag4 ti4 M<|aB ?_);refine aK h M (fun h=>?_) (fun h=>?_)
     ·
      refine aZ (cFa 6 un37 M ti4 M<|aA M (bK (ds':=q13) M M ti4 (svR M) M (sv (d:=.bool true) M) M M M (nle M) M)<|cFa 7 un37 M ti4 M<|aA M (bK (ds':=q13) M M ti4 (svR M) M (sv (d:=.bool false) M) M M M (nle M) M)<|bN ?_);refine aJ ⟨(true,false,x33),(fun i=>i),⟨(.sames M M),(.cons (.blk M M M) (.cons (.blk M M M) (.cons (.blk M M M) (.cons (.blk M M M) (.cons (.blk M M M) (.cons (EntW.lst M) .nil)))))),bX [0,1,2,4,5,3] M (by decide),fun _ _=>M⟩,?_⟩;exact h
     ·
      refine aO<|aJ ⟨(x1.2.2.2.2.2.2.1,x1.2.2.2.2.2.2.2.1,x33),(fun i=>i),⟨(.sames M M),(.cons (.blk M M M) (.cons (.blk M M M) (.cons (.blk M M M) (.cons (.blk M M M) (.cons (.blk M M M) (.cons (EntW.lst M) .nil)))))),bX [0,1,2,4,5,3] M (by decide),fun _ _=>M⟩,?_⟩;exact h
    ·
     rintro ⟨v22,v23,v24⟩ h;unfold lV at h;obtain ⟨x25,hx25,x26,hx26,h⟩:=eoo h;refine cC M [nd1 [12] 75 (.ref 4 3),nd2 [75] [4] 76 (.osl 3 aD.sz x1.2.2.2.1.length),nd2 [4] [0] 77 (.agg (tv1 a0)),nd2 [13] [5] 78 (.agg (w49 x9.1.From x9.1.To a1 v24)),nd1 [77,78] 79 (.int .i64 x25),nd2 [13] [5] 80 (.agg (w49 x9.1.From x9.1.To a1 v24)),⟨[80],[6],[(81,.gsl 6 aD.sz ((([(⟨x9.1.From,x9.1.To,a1,v24⟩:aI)]:(List aI))).map aD.d))],[(6,.tail 105 aD.sz (([(⟨x9.1.From,x9.1.To,a1,v24⟩:aI)]:(List aI))).length)]⟩,⟨[76,79,81],[3,7],[(82,.osl 7 aD.sz x26.length)],[(7,.blk 105 (D.flat (x26.map aD.d))),(3,.none)]⟩,nd1 [12] 83 (.ref 4 3),⟨[82,83],[4],[],[(4,.blk 37 (w45 x1.1 x1.2.1 x11 (.osl 7 aD.sz x26.length) v16 x1.2.2.2.2.2.1 v22 v23 x1.2.2.2.2.2.2.2.2))]⟩] M ?_ (by kernel_rfl) ?_
     ·refine .cons (dFa 3 un37 M ti33 M)<|.cons (dLd un33 ag33 ti33 M)<|.cons (dLa un37 ag37 ti37 M)<|.cons (dLa fL sG dH M)<|.cons (lop M M fun S hA=>(aL (r:=.int _ _) M M (lb M) cl138 (.cons (svaA q12 hA M M) (.cons (svaA q20 hA M M) .nil)) M (yI _ _ _ hx25)))<|.cons (dLa fL sG dH M)<|.cons (lop M M fun S hA=>(qN aD ([(⟨x9.1.From,x9.1.To,a1,v24⟩:aI)]:(List aI)) 6 M M (lb M) un33 dH (agi hA M M) (.cons (svaA q20 hA M M) .nil) M M (by decide)))<|.cons (lop M M fun S hA=>(aCY (r':=.osl 7 aD.sz x26.length) (U:=[(7,.blk 105 (D.flat (x26.map aD.d))),(3,.none)]) 7 1 [3] M M (lb M) cl137 (.cons (sv (d:=.osl _ _ _) (agr hA M M)) (.cons (svaI hA M M) (.cons (svg (agr hA M M)) .nil))) M M M (List.forall_mem_cons.2 ⟨(agi hA M M),List.forall_mem_nil _⟩) ⟨by decide,M,List.forall_mem_cons.2 ⟨⟨M,M,(aCi aD (agi hA M M)),(mX aD)⟩,List.forall_mem_nil _⟩⟩ (nI _ _ _ _ hx26) M M (List.forall_mem_cons.2 ⟨⟨M,(mX aD)⟩,List.forall_mem_nil _⟩) (by simp only [List.map_cons,List.map_nil,Ent.ren,iF,kC]; rfl)))<|.cons (dFa 3 un37 M ti33 M)<|.cons (lop M M fun S hA=>(bK (ds':=q13) M M ti33 (svaR hA M M) (agi hA M M) (sv (d:=.osl _ _ _) (agr hA M M)) M M M (nle M) M)) ?_
      exact .nil
     obtain ⟨x27,hx27,x28,hx28,x29,hx29,h⟩:=eddo h;refine cC M [nd2 [12] [4] 84 (.agg (w45 x1.1 x1.2.1 x11 (.osl 7 aD.sz x26.length) v16 x1.2.2.2.2.2.1 v22 v23 x1.2.2.2.2.2.2.2.2)),nd2 [13] [5] 85 (.agg (w49 x9.1.From x9.1.To a1 v24)),nd1 [4] 86 (.ref 0 1),nd2 [86] [0] 87 (.str a0.Data),nd1 [13] 88 (.ref 5 0),nd2 [88] [5] 89 (.int .i64 x9.1.From),nd1 [4] 90 (.ref 0 0),nd2 [90] [0] 91 (.int .i64 a0.Base),nd1 [89,91] 92 (.int .i64 x27),nd1 [13] 93 (.ref 5 1),nd2 [93] [5] 94 (.int .i64 x9.1.To),nd1 [4] 95 (.ref 0 0),nd2 [95] [0] 96 (.int .i64 a0.Base),nd1 [94,96] 97 (.int .i64 x28),nd1 [87,92,97] 98 (.str x29),⟨[8,84],[1],[],[(1,.blk 37 (w45 x1.1 x1.2.1 x11 (.osl 7 aD.sz x26.length) v16 x1.2.2.2.2.2.1 v22 v23 x1.2.2.2.2.2.2.2.2))]⟩,⟨[9,85],[2],[],[(2,.blk 105 (w49 x9.1.From x9.1.To a1 v24))]⟩,nd1 [98] 10 (.str x29),nd1 [] 11 (.bool true)] M ?_ (by kernel_rfl) ?_
     ·refine .cons (dLa un37 ag37 ti37 M)<|.cons (dLa fL sG dH M)<|.cons (dFa 1 un37 M ti9 M)<|.cons (dLd un9 ag9 ti9 M)<|.cons (dFa 0 fL M ti3 M)<|.cons (dLd un3 ag3 ti3 M)<|.cons (dFa 0 un37 M ti3 M)<|.cons (dLd un3 ag3 ti3 M)<|.cons (lop M M fun S hA=>(aX M M (lb M) (svaI hA M M) (svaI hA M M) M hx27))<|.cons (dFa 1 fL M ti3 M)<|.cons (dLd un3 ag3 ti3 M)<|.cons (dFa 0 un37 M ti3 M)<|.cons (dLd un3 ag3 ti3 M)<|.cons (lop M M fun S hA=>(aX M M (lb M) (svaI hA M M) (svaI hA M M) M hx28))<|.cons (lop M M fun S hA=>(kR M M (lb M) un9 (sv (d:=.str _) (agr hA M M)) ⟨_,(svaI hA M M)⟩ ⟨_,(svaI hA M M)⟩ hx29))<|.cons (dSt q13 ti37 M)<|.cons (dSt q20 dH M)<|.cons (lop M M fun S hA=>(bV M M (lb M) (sv (d:=.str _) (agr hA M M))))<|.cons (lop M M fun S hA=>(tAs (.bool true) M)) ?_
      exact .nil
     refine aM ?_;obtain rfl:=sj_ h;refine ⟨.inr M,_,(.cons (rva la37 M M (nle M) M) (.cons (rva yO M M (nle M) M) (.cons (sv M) (.cons (sv M) .nil)))),(.cons (.agg (.k (.k (.k (.cons (FDT aD M M) (.all _)))))) (.all _))⟩

theorem aAj (a0:aH) (a1:Int) (a2:Int) (a3:Int) (r:(aH×aI×(List UInt8)×Bool)) (h:sJ a0 a1 a2 a3=some r):bJ prog 34 [.agg (tv0 a0),.int .i64 a1,.int .i64 a2,.int .i64 a3] (retD [.agg (tv0 r.1),.agg (tv8 r.2.1),.str r.2.2.1,.bool r.2.2.2]):=by
 refine aQ (rs:=[.agg (tv0 r.1),.agg (tv8 r.2.1),.str r.2.2.1,.bool r.2.2.2]) func34 M ntmps34 (nle M) M fun O hO=>?_
 show IWP _ _ _ _ ⟨[(0,.agg (tv0 a0)),(1,.int .i64 a1),(2,.int .i64 a2),(3,.int .i64 a3)],[]⟩ _
 unfold sJ at h;refine aC (cBx (cs:=q10) q10 0 M<|aA M (aR (cs:=q11) (cs':=zs2) 1 M M (lb M) M ti46 M M (.k4 (.cons (.nils _) (.cons (.nils _) (.k4 (.k (.k (.cons (.nils _) (.all _)))))))))<|aA M (aR (cs:=q20) (cs':=(w49 0 0 0 false)) 2 M M (lb M) M dH M M (.all _))<|cAs (.str []) M<|cAs (.bool false) M<|aB ?_);refine aP ?_;obtain ⟨x1,hx1,x2,hx2,x3,hx3,h⟩:=edod h;obtain ⟨x4,hx4,h⟩:=bF h;refine aC (cI M<|cCm (b:=0) M hx1<|cB M<|gG M (fun hb=>(tLr q10 la46 M))<|gG M (fun hb=>(aL (r:=.int _ _) M M (lb M) cl39 (.cons (svcA (tv0 a0) M hb) .nil) M (fW _ _ (gd_t hx2 hb))))<|gG M (fun hb=>(tCg (b:=0) M hb hx3))<|cOr M hx4<|aB ?_);refine aK h M (fun h=>?_) (fun h=>?_)
 ·
  refine aC (cLr q10 la46 M<|aA M (bA (cs:=q20) M M (lb M) fL dH aCz M .nil M)<|cSt q10 q10 ti46 M<|cSt q20 q20 dH M<|cAs (.str []) M<|cAs (.bool false) M<|aB ?_);refine aM<|aT ?_;obtain rfl:=sj_ h;refine ⟨.inr M,(.cons (rva la46 M M (nle M) M) (.cons (rva yO M M (nle M) M) (.cons (sv M) (.cons (sv M) .nil))))⟩
 ·
  refine aO<|aJ ?_;obtain ⟨x6,hx6,x7,hx7,h⟩:=eoo h;refine cC M [nd1 [4] 26 (.ref 0 1),nd2 [26] [0] 27 (.agg (tv1 a0.Send)),nd1 [1] 28 (.int .i64 a1),nd1 [2] 29 (.int .i64 a2),nd2 [4] [0] 30 (.agg (tv0 a0)),nd1 [3] 31 (.int .i64 a3),nd1 [30,31] 32 (.int .i64 x6),nd1 [27,28,29,32] 33 (.tuple [.agg (tv1 x7.1),.agg (tv8 x7.2.1),.str x7.2.2.1,.bool x7.2.2.2]),nd1 [33] 25 (.tuple [.agg (tv1 x7.1),.agg (tv8 x7.2.1),.str x7.2.2.1,.bool x7.2.2.2]),nd1 [25] 34 (.agg (tv1 x7.1)),nd1 [25] 35 (.agg (tv8 x7.2.1)),nd1 [25] 36 (.str x7.2.2.1),nd1 [25] 37 (.bool x7.2.2.2),⟨[],[3],[(12,.ref 3 0)],[(3,.blk 37 zs0)]⟩,⟨[],[4],[(13,.ref 4 0)],[(4,.blk 105 (w49 0 0 0 false))]⟩,⟨[12,34],[3],[],[(3,.blk 37 (tv1 x7.1))]⟩,⟨[13,35],[4],[],[(4,.blk 105 (tv8 x7.2.1))]⟩,nd1 [36] 14 (.str x7.2.2.1),nd1 [37] 15 (.bool x7.2.2.2)] M ?_ (by kernel_rfl) ?_
  ·refine .cons (dFa 1 un46 M ti37 M)<|.cons (dLa un37 ag37 ti37 M)<|.cons (dMv M)<|.cons (dMv M)<|.cons (dLa un46 ag46 ti46 M)<|.cons (dMv M)<|.cons (lop M M fun S hA=>(aL (r:=.int _ _) M M (lb M) cl76 (.cons (svaA q10 hA M M) (.cons (svaI hA M M) .nil)) M (rT _ _ _ hx6)))<|.cons (lop M M fun S hA=>(aL (r:=.tuple q28) M M (lb M) cl88 (.cons (svaA q12 hA M M) (.cons (svaI hA M M) (.cons (svaI hA M M) (.cons (svaI hA M M) .nil)))) M (aC4 _ _ _ _ _ hx7)))<|.cons (lop M M fun S hA=>(bI M M (lb M) (sv (d:=.tuple q28) (agr hA M M))))<|.cons (lop M M fun S hA=>(fE (d:=.agg q12) M M (lb M) (sv (d:=.tuple q28) (agr hA M M)) M))<|.cons (lop M M fun S hA=>(fE (d:=.agg q20) M M (lb M) (sv (d:=.tuple q28) (agr hA M M)) M))<|.cons (lop M M fun S hA=>(fE (d:=.str _) M M (lb M) (sv (d:=.tuple q28) (agr hA M M)) M))<|.cons (lop M M fun S hA=>(fE (d:=.bool _) M M (lb M) (sv (d:=.tuple q28) (agr hA M M)) M))<|.cons (lop M M fun S hA=>(aR (cs:=q15) (cs':=zs0) 3 M M (lb M) (agi hA M M) ti37 M M (.k (.k (.k (.cons (.nils _) (.cons (.nils _) (.all _))))))))<|.cons (lop M M fun S hA=>(aR (cs:=q20) (cs':=(w49 0 0 0 false)) 4 M M (lb M) (agi hA M M) dH M M (.all _)))<|.cons (dSt q12 ti37 M)<|.cons (dSt q20 dH M)<|.cons (lop M M fun S hA=>(bV M M (lb M) (sv (d:=.str _) (agr hA M M))))<|.cons (lop M M fun S hA=>(bV M M (lb M) (svaB hA M M))) ?_
   exact .nil
  refine aC (cLr q12 la37 M<|cFa 1 un46 M ti37 M<|cSt q12 q10 ti37 M<|aB ?_);refine aC (cFa 2 un37 M ti3 M<|cLd (d:=.int _ _) un3 ag3 ti3 M<|cFa 14 un46 M ti44 M<|cFa 16 un44 M ti3 M<|aA M (bK (ds':=q10) M M ti3 (svR M) M (svI M) M M M (nle M) M)<|aB ?_);refine cC M [nd2 [4] [0] 44 (.agg (w43 a0.ID x7.1.Base x7.1.Data x7.1.Next x7.1.Pieces x7.1.Lost x7.1.Closed x7.1.Sent x7.1.Again x7.1.Done a0.Recv.Recv.Base a0.Recv.Recv.Ready a0.Recv.Recv.Parts a0.Recv.End a0.Out.Window a0.Out.Limit x7.1.Next a0.Out.Read a0.In.Window a0.In.Limit a0.In.Used a0.In.Read a0.Mine a0.Hers)),nd2 [13] [4] 45 (.agg (tv8 x7.2.1)),nd1 [14] 46 (.str x7.2.2.1),nd1 [15] 47 (.bool x7.2.2.2),⟨[8,44],[1],[],[(1,.blk 46 (w43 a0.ID x7.1.Base x7.1.Data x7.1.Next x7.1.Pieces x7.1.Lost x7.1.Closed x7.1.Sent x7.1.Again x7.1.Done a0.Recv.Recv.Base a0.Recv.Recv.Ready a0.Recv.Recv.Parts a0.Recv.End a0.Out.Window a0.Out.Limit x7.1.Next a0.Out.Read a0.In.Window a0.In.Limit a0.In.Used a0.In.Read a0.Mine a0.Hers))]⟩,⟨[9,45],[2],[],[(2,.blk 105 (tv8 x7.2.1))]⟩,nd1 [46] 10 (.str x7.2.2.1),nd1 [47] 11 (.bool x7.2.2.2)] M ?_ (by kernel_rfl) ?_
  ·refine .cons (dLa un46 ag46 ti46 M)<|.cons (dLa fL sG dH M)<|.cons (lop M M fun S hA=>(bI M M (lb M) (sv (d:=.str _) (agr hA M M))))<|.cons (dMv M)<|.cons (dSt q10 ti46 M)<|.cons (dSt q20 dH M)<|.cons (lop M M fun S hA=>(bV M M (lb M) (sv (d:=.str _) (agr hA M M))))<|.cons (lop M M fun S hA=>(bV M M (lb M) (svaB hA M M))) ?_
   exact .nil
  refine aM ?_;obtain rfl:=sj_ h;refine ⟨.inr M,(.cons (rva la46 M M (nle M) M) (.cons (rva yO M M (nle M) M) (.cons (sv M) (.cons (sv M) .nil))))⟩

theorem aA4 (a0:aY) (a1:Int) (r:(aY×Int×Bool)) (h:qJ a0 a1=some r):bJ prog 41 [.agg (tv6 a0),.int .i64 a1] (retD [.agg (tv6 r.1),.int .i64 r.2.1,.bool r.2.2]):=by
 refine aQ (rs:=[.agg (tv6 r.1),.int .i64 r.2.1,.bool r.2.2]) func41 M ntmps41 (nle M) M fun O hO=>?_
 show IWP _ _ _ _ ⟨[(0,.agg (tv6 a0)),(1,.int .i64 a1)],[]⟩ _
 unfold qJ at h;refine aC (cBx (cs:=q18) q18 0 M<|aA M (aR (cs:=q18) (cs':=(w48 0 0 0 0)) 1 M M (lb M) M ti44 M M (.all _))<|cAs (.int _ 0) M<|cAs (.bool false) M<|aB ?_);refine aP ?_;obtain ⟨x1,hx1,x2,hx2,x3,hx3,h⟩:=eddd h;obtain ⟨x4,hx4,x5,hx5,x6,hx6,h⟩:=eodd h;refine aC (cI M<|cCm (b:=0) M hx1<|cB M<|gG M (fun hb=>(tI M))<|gG M (fun hb=>(tFa 1 un44 M ti3 M))<|gG M (fun hb=>(tLc (d:=.int _ _) un3 ag3 ti3 M hb))<|gG M (fun hb=>(tCh M hb hx2))<|cOr M hx3<|cB M<|gG M (fun hb=>(tLr q18 la44 M))<|gG M (fun hb=>(aL (r:=.int _ _) M M (lb M) cl95 (.cons (svcA (tv6 a0) M hb) .nil) M (kP _ _ (gd_t hx4 hb))))<|gG M (fun hb=>(tCg (b:=0) M hb hx5))<|cOr M hx6<|aB ?_);refine aK h M (fun h=>?_) (fun h=>?_)
 ·
  refine aC (cLr q18 la44 M<|cSt q18 q18 ti44 M<|cAs (.int _ 0) M<|cAs (.bool false) M<|aB ?_);refine aM<|aT ?_;obtain rfl:=sj_ h;refine ⟨.inr M,(.cons (rva la44 M M (nle M) M) (.cons (sv M) (.cons (sv M) .nil)))⟩
 ·
  refine aO<|aJ<|aC (cFa 2 un44 M ti3 M<|cLd (d:=.int _ _) un3 ag3 ti3 M<|cAI M<|aB ?_);obtain ⟨x8,hx8,h⟩:=bF h;refine aC (cI M<|cI M<|aA M (mC M M (lb M) (svI M) (svI M) hx8)<|cFa 2 un44 M ti3 M<|aA M (bK (ds':=q18) M M ti3 (svR M) M (svI M) M M M (nle M) M)<|aB ?_);obtain ⟨x9,hx9,h⟩:=bF h;refine cC M [nd2 [2] [0] 28 (.agg (w48 a0.Window a0.Limit x8 a0.Read)),nd1 [2] 29 (.ref 0 2),nd2 [29] [0] 30 (.int .i64 x8),nd1 [7] 31 (.int .i64 a0.Used),nd1 [30,31] 32 (.int .i64 x9),⟨[4,28],[1],[],[(1,.blk 44 (w48 a0.Window a0.Limit x8 a0.Read))]⟩,nd1 [32] 5 (.int .i64 x9),nd1 [] 6 (.bool true)] M ?_ (by kernel_rfl) ?_
  ·refine .cons (dLa un44 ag44 ti44 M)<|.cons (dFa 2 un44 M ti3 M)<|.cons (dLd un3 ag3 ti3 M)<|.cons (dMv M)<|.cons (lop M M fun S hA=>(aX M M (lb M) (svaI hA M M) (svaI hA M M) M hx9))<|.cons (dSt q18 ti44 M)<|.cons (lop M M fun S hA=>(bV M M (lb M) (svaI hA M M)))<|.cons (lop M M fun S hA=>(tAs (.bool true) M)) ?_
   exact .nil
  refine aM ?_;obtain rfl:=sj_ h;refine ⟨.inr M,(.cons (rva la44 M M (nle M) M) (.cons (sv M) (.cons (sv M) .nil)))⟩

theorem rL (a0:iC) (r:Bool) (h:iY a0=some r):bJ prog 144 [.agg (tv3 a0)] (.bool r):=by
 refine aQ (rs:=[.bool r]) func144 M ntmps144 (nle M) M fun O hO=>?_
 show IWP _ _ _ _ ⟨[(0,.agg (tv3 a0))],[]⟩ _
 unfold iY at h;refine aC (cBx (cs:=q19) q19 0 M<|cAs (.bool false) M<|aB ?_);obtain ⟨x1,hx1,h⟩:=bF h;refine aC (cFa 3 aA2 M ti3 M<|cLd (d:=.int _ _) un3 ag3 ti3 M<|cCm (b:=0) M hx1<|cAB M<|aB ?_);refine aM ?_;obtain rfl:=sj_ h;refine ⟨.inr M,(.cons (sv M) .nil)⟩

theorem vS (a0:iC) (a1:Int) (a2:Bool) (r:Bool) (h:kF a0 a1 a2=some r):bJ prog 98 [.agg (tv3 a0),.int .i64 a1,.bool a2] (.bool r):=by
 refine aQ (rs:=[.bool r]) func98 M ntmps98 (nle M) M fun O hO=>?_
 show IWP _ _ _ _ ⟨[(0,.agg (tv3 a0)),(1,.int .i64 a1),(2,.bool a2)],[]⟩ _
 unfold kF at h;refine aC (cBx (cs:=q19) q19 0 M<|cAs (.bool false) M<|aB ?_);refine aP ?_;obtain ⟨x1,hx1,h⟩:=bR h;refine aC (cLr q19 aF4 M<|aA M (aL (r:=.bool _) M M (lb M) cl144 (.cons (svA q19 M) .nil) M (rL _ _ hx1))<|aB ?_);refine aK h M (fun h=>?_) (fun h=>?_)
 ·
  obtain ⟨x3,hx3,x4,hx4,x5,hx5,h⟩:=eddd h;obtain ⟨x6,hx6,h⟩:=bF h;refine aC (cI M<|cFa 3 aA2 M ti3 M<|cLd (d:=.int _ _) un3 ag3 ti3 M<|cCm M hx3<|cB M<|gG M (fun hb=>(tB M))<|gG M (fun hb=>(bI M M (lb M) (svcB M hb)))<|cG M M (.two M) M (by decide) (fun hb=>(tI M))<|cG M M (.two M) M (by decide) (fun hb=>(tFa 3 aA2 M ti3 M))<|cG M M (.two M) M (by decide) (fun hb=>(tLc (d:=.int _ _) un3 ag3 ti3 M hb))<|cG M M (.two M) M (by decide) (fun hb=>(tCh M hb hx4))<|gG M (fun hb=>(fM M M (lb M) hb (svcB M hb) M M hx5))<|cOr M hx6<|cAB M<|aB ?_);refine aM<|aT ?_;obtain rfl:=sj_ h;refine ⟨.inr M,(.cons (sv M) .nil)⟩
 ·
  refine aO<|aJ ?_;obtain ⟨x7,hx7,x8,hx8,x9,hx9,h⟩:=eodd h;refine aC (cB M<|cB M<|gG M (fun hb=>(tI M))<|gG M (fun hb=>(tLr q19 aF4 M))<|gG M (fun hb=>(aL (r:=.int _ _) M M (lb M) cl145 (.cons (svcA (tv3 a0) M hb) .nil) M (rW _ _ (gd_t hx7 hb))))<|gG M (fun hb=>(tCh M hb hx8))<|cAn M hx9<|cAB M<|aB ?_);refine aM ?_;obtain rfl:=sj_ h;refine ⟨.inr M,(.cons (sv M) .nil)⟩

theorem iU (a0:(List aS)) (r:(List aS)) (h:dD a0=some r):bJ prog 146 [.slice false (a0.map aF.d)] (.slice false (r.map aF.d)):=by
 refine aQ (rs:=[.slice false (r.map aF.d)]) func146 M ntmps146 (nle M) M fun O hO=>?_
 show IWP _ _ _ _ ⟨[(0,.slice false (a0.map aF.d))],[]⟩ _
 unfold dD at h;refine aC (cAs (.nils) M<|aB ?_);refine aP<|aC (aA M (mvL M M M M)<|aAw M M M (by decide) un38 (svL M) M<|fun bn1 hbn1 =>
  aB ?_)
 refine pZ (b:=_) M (fun hc2=>?_) (fun hc2=>?_)
 ·
  replace h:=aDR h (mapE (hbn1 hc2));refine aC (cAs (.nils) M<|aB ?_);refine aM<|aT ?_;obtain rfl:=sj_ h;refine ⟨.inr M,(.cons (aCA M M) .nil)⟩
 ·
  replace h:=aDS h;refine aO<|aJ ?_;obtain ⟨x3,hx3,h⟩:=bR h;refine aC (aA M (qN aF ([]:(List aS)) 0 M M (lb M) un38 iJ M .nil M M (by decide))<|aA M (mvL M M M M)<|aA M (sB aF 1 M M (lb M) un38 iJ M M M M (svL M) hx3)<|cAs (.gsl _ _ _) M<|aB ?_);refine aM ?_;obtain rfl:=sj_ h;refine ⟨.inr M,(.cons (aCB M M) .nil)⟩

theorem aAC (a0:aW) (r:Int) (h:qW a0=some r):bJ prog 148 [.agg (tv5 a0)] (.int .i64 r):=by
 refine aQ (rs:=[.int .i64 r]) func148 M ntmps148 (nle M) M fun O hO=>?_
 show IWP _ _ _ _ ⟨[(0,.agg (tv5 a0))],[]⟩ _
 unfold qW at h;refine aC (cBx (cs:=q22) q22 0 M<|cAs (.int _ 0) M<|aB ?_);refine aC (cFa 1 un40 M ti9 M<|cLd (d:=.str _) un9 ag9 ti9 M<|aA M (cF M M (lb M) un9 (sv (d:=.str _) M) M)<|cAI M<|aB ?_);refine aP<|aC (cFa 2 un40 M ti38 M<|aA M (lrL la38 M M M M M (nle M) M)<|aA M (bY aF (l:=a0.Parts) M M (lb M) un38 (svL M))<|cMv (.int _ 0) M<|aB ?_);refine bD<|cK (α:=Nat×Int×Int) (fun z=>⟨[(3,.int .i64 z.2.1),(10,.slice false (a0.Parts.map aF.d)),(11,.int .i64 (a0.Parts.length:Int)),(12,.int .i64 z.2.2)],[]⟩) (fun z=>kE a0 z.1 z.2.1 z.2.2=some r) (fun z=>z.1) (fuel,(a0.Ready.length:Int),0) (fun i=>i) ⟨(.sames M M),.nil,bX [] M (by decide),fun _ _=>M⟩ ?_ ?_
 ·exact h
 ·
  rintro ⟨n0,v6,v7⟩ h
  cases n0 with
  | zero=>exact absurd h (by unfold kE; exact nofun)
  | succ n0 =>
   unfold kE at h;obtain ⟨x13,hx13,h⟩:=bF h;refine aC (cCm M hx13<|aB ?_);refine aP<|aK h M (fun h=>?_) (fun h=>?_)
   ·
    refine aO<|aJ<|aP<|bD ?_;obtain ⟨x15,hx15,h⟩:=bR h;refine aC (aA M (bQ aF (cs:=q27) M M (lb M) un38 iJ (svL M) (svI M) hx15 M M)<|aA M (cJ (cs:=q27) M M (lb M) jK xD iJ (by decide) (sv (d:=.fptr q27) M) (nle M) M)<|aA M (aR (cs:=q27) (cs':=[.int .i64 0,.str []]) 0 M M (lb M) M iJ M M (.all _))<|cSt q27 q27 iJ M<|aB ?_);obtain ⟨x16,hx16,h⟩:=bF h;refine aZ (cI M<|cFa 1 jK M ti9 M<|cLd (d:=.str _) un9 ag9 ti9 M<|aA M (cF M M (lb M) un9 (sv (d:=.str _) M) M)<|aA M (aX M M (lb M) (svI M) (svI M) M hx16)<|cAI M<|bN ?_);refine bW<|aJ ?_;obtain ⟨x17,hx17,h⟩:=bF h;refine aZ (aA M (aX M M (lb M) (svI M) (sv (d:=.int _ 1) M) M hx17)<|cI M<|bN ?_);refine aJ ⟨(n0,x16,x17),(fun i=>i),⟨(.sames M M),.nil,bX [] M (by decide),fun _ _=>M⟩,?_,?_⟩;exact h;exact Nat.lt_succ_self _
   ·
    refine cR<|bP<|bP<|cS<|aJ<|aC (cI M<|cAI M<|aB ?_);refine aM ?_;obtain rfl:=sj_ h;refine ⟨.inr M,(.cons (sv M) .nil)⟩

theorem aA3 (a0:(List aS)) (a1:aS) (r:(List aS)) (h:oW a0 a1=some r):FnH prog 149 [.slice false (a0.map aF.d),.agg [.int .i64 a1.At,.str a1.Data]] [] (.osl 0 aF.sz r.length) [(0,.blk 228 (D.flat (r.map aF.d)))]:=by
 refine gE (rs:=[.osl 0 aF.sz r.length]) func149 M ntmps149 (nle M) fun O hO=>?_
 show IWP _ _ _ _ ⟨[(0,.slice false (a0.map aF.d)),(1,.agg [.int .i64 a1.At,.str a1.Data])],[]⟩ _
 unfold oW at h;refine aC (cBx (cs:=q27) q27 0 M<|cAs (.nils) M<|aB ?_);refine aE1<|aC (cAs (.nils) M<|aB ?_);refine aC (cAs (.int _ 0) M<|aB ?_);refine aP<|bD<|cK (α:=Nat×(List aS)×Int) (fun z=>⟨[(0,.slice false (a0.map aF.d)),(3,.ref 0 0),(5,.osl 22 aF.sz z.2.1.length),(6,.int .i64 z.2.2)],[(0,.blk 228 [.int .i64 a1.At,.str a1.Data]),(22,.blk 228 (D.flat (z.2.1.map aF.d)))]⟩) (fun z=>iG a0 a1 z.1 z.2.1 z.2.2=some r) (fun z=>z.1) (fuel,([]:(List aS)),0) (fun i=>if i=22 then 73 else i) ⟨(.s M M (.s M M (.cons (.nilo M) (.sames M M)))),(.cons (.blk M M M) (.cons (.nilb M) .nil)),bX [0,73] M (by decide),(fun i hi=>by first | rfl | (show (if _ then _ else _)=_; (repeat' split) <;> omega))⟩ ?_ ?_
 ·exact h
 ·
  rintro ⟨n0,v10,v11⟩ h
  cases n0 with
  | zero=>exact absurd h (by unfold iG; exact nofun)
  | succ n0 =>
   unfold iG at h;refine aP ?_;obtain ⟨x21,hx21,x22,hx22,x23,hx23,h⟩:=edoo h;obtain ⟨x24,hx24,x25,hx25,h⟩:=edd h;refine cC M [nd1 [6] 8 (.int .i64 v11),nd1 [0] 9 (.slice false (a0.map aF.d)),nd1 [9] 10 (.int .i64 (a0.length:Int)),nd1 [8,10] 11 (.bool x21),nd1 [11] 12 (.bool x21),nd1 [0,12] 13 (.cnd (x21 == true) (.slice false (a0.map aF.d))),nd1 [6,12] 14 (.cnd (x21 == true) (.int .i64 v11)),nd1 [12,13,14] 15 (.cnd (x21 == true) (.fptr [.int .i64 x22.At,.str x22.Data])),nd1 [12,15] 16 (.cnd (x21 == true) (.agg [.int .i64 x22.At,.str x22.Data])),nd1 [12,16] 17 (.cnd (x21 == true) (.int .i64 x23)),nd1 [3,12] 18 (.cnd (x21 == true) (.ref 0 0)),nd2 [12,18] [0] 19 (.cnd (x21 == true) (.int .i64 a1.At)),nd1 [12,17,19] 20 (.cnd (x21 == true) (.bool x24)),nd1 [12,20] 21 (.bool x25)] M ?_ (by kernel_rfl) ?_
   ·refine .cons (dMv M)<|.cons (dMv M)<|.cons (lop M M fun S hA=>(bY aF (l:=a0) M M (lb M) un38 (svaL hA M M)))<|.cons (lop M M fun S hA=>(cU M M (lb M) (svaI hA M M) (svaI hA M M) M hx21))<|.cons (dMv M)<|.cons (gD M (fun S hA hb=>(bI M M (lb M) (svaL hA M M))))<|.cons (gD M (fun S hA hb=>(bI M M (lb M) (svaI hA M M))))<|.cons (gD M (fun S hA hb=>(bQ aF (cs:=q27) M M (lb M) un38 iJ (svc (d:=.slice _ _) (agr hA M M) hb) (svc (d:=.int _ _) (agr hA M M) hb) (gd_t hx22 hb) M M)))<|.cons (gD M (fun S hA hb=>(cJ (cs:=q27) M M (lb M) jK xD iJ (by decide) (svc (d:=.fptr q27) (agr hA M M) hb) (nle M) M)))<|.cons (gD M (fun S hA hb=>(aL (r:=.int _ _) M M (lb M) aER (.cons (svc (d:=.agg [.int .i64 x22.At,.str x22.Data]) (agr hA M M) hb) .nil) M (jT _ _ (gd_t hx23 hb)))))<|.cons (gD M (fun S hA hb=>(aV M M (lb M) jK M ti3 (by decide) (svaR hA M M) (off':=0) M)))<|.cons (gD M (fun S hA hb=>(cD (d:=.int _ _) M M (lb M) un3 ag3 ti3 (by decide) (svc (d:=.ref _ _) (agr hA M M) hb) (agi hA M M) (nle M) M)))<|.cons (gD M (fun S hA hb=>(cU M M (lb M) (svc (d:=.int _ _) (agr hA M M) hb) (svc (d:=.int _ _) (agr hA M M) hb) M hx24)))<|.cons (lop M M fun S hA=>(kK M M (lb M) (svaB hA M M) (agr hA M M) M hx25)) ?_
    exact .nil
   refine aK h M (fun h=>?_) (fun h=>?_)
   ·
    refine aO<|aJ<|aP<|bD ?_;obtain ⟨x27,hx27,x28,hx28,h⟩:=eoo h;refine aZ (cMv (.osl _ _ _) M<|aA M (mvL M M M M)<|cI M<|aA M (bQ aF (cs:=q27) M M (lb M) un38 iJ (svL M) (svI M) hx27 M M)<|aA M (cJ (cs:=q27) M M (lb M) jK xD iJ (by decide) (sv (d:=.fptr q27) M) (nle M) M)<|aA M (pM aF.toEnc0 ([x27]:(List aS)) 23 M M (lb M) un38 iJ M (.cons (svA q27 M) .nil) M M (by decide))<|aA M (kS aF.toEnc0 24 M M (lb M) un38 iJ M M M M M (xG aF.toEnc0 M M M) hx28)<|cAs (.osl _ _ _) M<|bN ?_);refine bW<|aJ ?_;obtain ⟨x29,hx29,h⟩:=bF h;refine aZ (cI M<|aA M (aX M M (lb M) (svI M) (sv (d:=.int _ 1) M) M hx29)<|cAI M<|bN ?_);refine aJ ⟨(n0,x28,x29),(fun i=>if i=22 then 24 else i),⟨(.sames M M),(.cons (.blk M M M) (.cons (EntW.lst M) .nil)),bX [0,24] M (by decide),(fun i hi=>by first | rfl | (show (if _ then _ else _)=_; (repeat' split) <;> omega))⟩,?_,?_⟩;exact h;exact Nat.lt_succ_self _
   ·
    refine cR<|bP<|bP<|cS<|aJ<|aP<|aE3<|aJ<|mW (α:=Int×Int×(List UInt8)) (fun z=>⟨[(0,.slice false (a0.map aF.d)),(3,.ref 0 0),(5,.osl 22 aF.sz v10.length),(6,.int .i64 z.1)],[(0,.blk 228 [.int .i64 z.2.1,.str z.2.2]),(22,.blk 228 (D.flat (v10.map aF.d)))]⟩) (fun z=>lR a0 v10 z.1 z.2.1 z.2.2=some r) ?_ ?_
    ·
     refine bD<|cK (α:=Nat×Int×Int×(List UInt8)) (fun z=>⟨[(0,.slice false (a0.map aF.d)),(3,.ref 0 0),(5,.osl 22 aF.sz v10.length),(6,.int .i64 z.2.1)],[(0,.blk 228 [.int .i64 z.2.2.1,.str z.2.2.2]),(22,.blk 228 (D.flat (v10.map aF.d)))]⟩) (fun z=>gM a0 v10 z.1 z.2.1 z.2.2.1 z.2.2.2=some r) (fun z=>z.1) (fuel,v11,a1.At,a1.Data) (fun i=>i) ⟨(.sames M M),(.cons (.blk M M M) (.cons (EntW.lst M) .nil)),bX [0,22] M (by decide),fun _ _=>M⟩ ?_ ?_
     ·exact h
     ·
      rintro ⟨n3,v131,v132,v133⟩ h
      cases n3 with
      | zero=>exact absurd h (by unfold gM; exact nofun)
      | succ n3 =>
       unfold gM at h;refine aP ?_;obtain ⟨x157,hx157,h⟩:=bF h;refine aC (cI M<|aA M (mvL M M M M)<|aA M (bY aF (l:=a0) M M (lb M) un38 (svL M))<|cCm M hx157<|aB ?_);refine aK h M (fun h=>?_) (fun h=>?_)
       ·
        refine aO<|aJ<|aP<|bD ?_;obtain ⟨x159,hx159,h⟩:=bR h;refine aC (aA M (mvL M M M M)<|cI M<|aA M (bQ aF (cs:=q27) M M (lb M) un38 iJ (svL M) (svI M) hx159 M M)<|aA M (cJ (cs:=q27) M M (lb M) jK xD iJ (by decide) (sv (d:=.fptr q27) M) (nle M) M)<|aA M (aR (cs:=q27) (cs':=[.int .i64 0,.str []]) 23 M M (lb M) M iJ M M (.all _))<|cSt q27 q27 iJ M<|aB ?_);refine bD ?_;obtain ⟨x160,hx160,x161,hx161,h⟩:=eod h;refine cC M [nd1 [7] 67 (.ref 23 0),nd2 [67] [23] 68 (.int .i64 x159.At),nd2 [3] [0] 69 (.agg [.int .i64 v132,.str v133]),nd1 [69] 70 (.int .i64 x160),nd1 [68,70] 71 (.bool x161),nd1 [71] 66 (.bool x161)] M ?_ (by kernel_rfl) ?_
        ·refine .cons (dFa 0 jK M ti3 M)<|.cons (dLd un3 ag3 ti3 M)<|.cons (dLa jK xD iJ M)<|.cons (lop M M fun S hA=>(aL (r:=.int _ _) M M (lb M) aER (.cons (svaA q27 hA M M) .nil) M (jT _ _ hx160)))<|.cons (lop M M fun S hA=>(cU M M (lb M) (svaI hA M M) (svaI hA M M) M hx161))<|.cons (lop M M fun S hA=>(bV M M (lb M) (svaB hA M M))) ?_
         exact .nil
        refine aK h M (fun h=>?_) (fun h=>?_)
        ·
         refine cR<|aDv M<|aDv M<|bP<|bP<|cS<|aJ ⟨(v131,v132,v133),(fun i=>i),⟨(.sames M M),(.cons (.blk M M M) (.cons (EntW.lst M) .nil)),bX [0,22] M (by decide),fun _ _=>M⟩,?_⟩;exact h
        ·
         obtain ⟨x163,hx163,h⟩:=bF h;refine aC (cFa 0 jK M ti3 M<|cLd (d:=.int _ _) un3 ag3 ti3 M<|cFa 0 jK M ti3 M<|cLd (d:=.int _ _) un3 ag3 ti3 M<|cCm M hx163<|cAB M<|aB ?_);refine aK h M (fun h=>?_) (fun h=>?_)
         ·
          obtain ⟨x165,hx165,x166,hx166,x167,hx167,h⟩:=eodd h;obtain ⟨x168,hx168,x169,hx169,h⟩:=eoo h;refine oK M [nd1 [7] 78 (.ref 23 0),nd2 [78] [23] 79 (.int .i64 x159.At),nd1 [7] 80 (.ref 23 1),nd2 [80] [23] 81 (.str x159.Data),nd1 [3] 82 (.ref 0 1),nd2 [82] [0] 83 (.str v133),nd1 [3] 84 (.ref 0 1),nd2 [84] [0] 85 (.str v133),nd1 [85] 86 (.int .i64 (v133.length:Int)),nd2 [7] [23] 87 (.agg [.int .i64 x159.At,.str x159.Data]),nd1 [87] 88 (.int .i64 x165),nd1 [3] 89 (.ref 0 0),nd2 [89] [0] 90 (.int .i64 v132),nd1 [88,90] 91 (.int .i64 x166),nd1 [86,91] 92 (.int .i64 x167),nd1 [83,92] 93 (.str x168),nd1 [81,93] 94 (.str x169),nd1 [79,94] 95 (.agg [.int .i64 x159.At,.str x169]),⟨[3,95],[0],[],[(0,.blk 228 [.int .i64 x159.At,.str x169])]⟩] M ?_ (by kernel_rfl) ?_
          ·refine .cons (dFa 0 jK M ti3 M)<|.cons (dLd un3 ag3 ti3 M)<|.cons (dFa 1 jK M ti9 M)<|.cons (dLd un9 ag9 ti9 M)<|.cons (dFa 1 jK M ti9 M)<|.cons (dLd un9 ag9 ti9 M)<|.cons (dFa 1 jK M ti9 M)<|.cons (dLd un9 ag9 ti9 M)<|.cons (lop M M fun S hA=>(cF M M (lb M) un9 (sv (d:=.str _) (agr hA M M)) M))<|.cons (dLa jK xD iJ M)<|.cons (lop M M fun S hA=>(aL (r:=.int _ _) M M (lb M) aER (.cons (svaA q27 hA M M) .nil) M (jT _ _ hx165)))<|.cons (dFa 0 jK M ti3 M)<|.cons (dLd un3 ag3 ti3 M)<|.cons (lop M M fun S hA=>(aX M M (lb M) (svaI hA M M) (svaI hA M M) M hx166))<|.cons (lop M M fun S hA=>(iN M M (lb M) (svaI hA M M) (svaI hA M M) hx167))<|.cons (lop M M fun S hA=>(kR M M (lb M) un9 (sv (d:=.str _) (agr hA M M)) ⟨_,(svaI hA M M)⟩ M hx168))<|.cons (lop M M fun S hA=>(qT M M (lb M) (sv (d:=.str _) (agr hA M M)) (sv (d:=.str _) (agr hA M M)) hx169))<|.cons (lop M M fun S hA=>(bA (cs:=q27) M M (lb M) jK iJ pl228 M (.cons (svaI hA M M) (.cons (sv (d:=.str _) (agr hA M M)) .nil)) M))<|.cons (dSt q27 iJ M) ?_
           exact .nil
          refine bW<|bW<|aJ ?_;obtain ⟨x170,hx170,h⟩:=bF h;refine aZ (cI M<|aA M (aX M M (lb M) (svI M) (sv (d:=.int _ 1) M) M hx170)<|cAI M<|bN ?_);refine aJ ⟨(n3,x170,x159.At,x169),(fun i=>i),⟨(.sames M M),(.cons (.blk M M M) (.cons (EntW.lst M) .nil)),bX [0,22] M (by decide),fun _ _=>M⟩,?_,?_⟩;exact h;exact Nat.lt_succ_self _
         ·
          obtain ⟨x171,hx171,x172,hx172,x173,hx173,h⟩:=edoo h;obtain ⟨x174,hx174,x175,hx175,x176,hx176,h⟩:=eodd h;obtain ⟨x177,hx177,x178,hx178,h⟩:=eoo h;refine oK M [nd1 [3] 41 (.ref 0 1),nd2 [41] [0] 42 (.str v133),nd1 [7] 43 (.ref 23 0),nd2 [43] [23] 44 (.int .i64 x159.At),nd1 [3] 45 (.ref 0 0),nd2 [45] [0] 46 (.int .i64 v132),nd1 [44,46] 47 (.int .i64 x171),nd1 [42,47] 48 (.str x172),nd1 [7] 49 (.ref 23 1),nd2 [49] [23] 50 (.str x159.Data),nd1 [48,50] 51 (.str x173),nd1 [3] 52 (.ref 0 1),nd2 [52] [0] 53 (.str v133),nd1 [3] 54 (.ref 0 1),nd2 [54] [0] 55 (.str v133),nd1 [55] 56 (.int .i64 (v133.length:Int)),nd2 [7] [23] 57 (.agg [.int .i64 x159.At,.str x159.Data]),nd1 [57] 58 (.int .i64 x174),nd1 [3] 59 (.ref 0 0),nd2 [59] [0] 60 (.int .i64 v132),nd1 [58,60] 61 (.int .i64 x175),nd1 [56,61] 62 (.int .i64 x176),nd1 [53,62] 63 (.str x177),nd1 [51,63] 64 (.str x178),nd1 [3] 65 (.ref 0 1),⟨[64,65],[0],[],[(0,.blk 228 [.int .i64 v132,.str x178])]⟩] M ?_ (by kernel_rfl) ?_
          ·refine .cons (dFa 1 jK M ti9 M)<|.cons (dLd un9 ag9 ti9 M)<|.cons (dFa 0 jK M ti3 M)<|.cons (dLd un3 ag3 ti3 M)<|.cons (dFa 0 jK M ti3 M)<|.cons (dLd un3 ag3 ti3 M)<|.cons (lop M M fun S hA=>(aX M M (lb M) (svaI hA M M) (svaI hA M M) M hx171))<|.cons (lop M M fun S hA=>(kR M M (lb M) un9 (sv (d:=.str _) (agr hA M M)) M ⟨_,(svaI hA M M)⟩ hx172))<|.cons (dFa 1 jK M ti9 M)<|.cons (dLd un9 ag9 ti9 M)<|.cons (lop M M fun S hA=>(qT M M (lb M) (sv (d:=.str _) (agr hA M M)) (sv (d:=.str _) (agr hA M M)) hx173))<|.cons (dFa 1 jK M ti9 M)<|.cons (dLd un9 ag9 ti9 M)<|.cons (dFa 1 jK M ti9 M)<|.cons (dLd un9 ag9 ti9 M)<|.cons (lop M M fun S hA=>(cF M M (lb M) un9 (sv (d:=.str _) (agr hA M M)) M))<|.cons (dLa jK xD iJ M)<|.cons (lop M M fun S hA=>(aL (r:=.int _ _) M M (lb M) aER (.cons (svaA q27 hA M M) .nil) M (jT _ _ hx174)))<|.cons (dFa 0 jK M ti3 M)<|.cons (dLd un3 ag3 ti3 M)<|.cons (lop M M fun S hA=>(aX M M (lb M) (svaI hA M M) (svaI hA M M) M hx175))<|.cons (lop M M fun S hA=>(iN M M (lb M) (svaI hA M M) (svaI hA M M) hx176))<|.cons (lop M M fun S hA=>(kR M M (lb M) un9 (sv (d:=.str _) (agr hA M M)) ⟨_,(svaI hA M M)⟩ M hx177))<|.cons (lop M M fun S hA=>(qT M M (lb M) (sv (d:=.str _) (agr hA M M)) (sv (d:=.str _) (agr hA M M)) hx178))<|.cons (dFa 1 jK M ti9 M)<|.cons (lop M M fun S hA=>(bK (ds':=q27) M M ti9 (svaR hA M M) (agi hA M M) (sv (d:=.str _) (agr hA M M)) M M M (nle M) M)) ?_
           exact .nil
          refine bW<|bW<|aJ ?_;obtain ⟨x179,hx179,h⟩:=bF h;refine aZ (cI M<|aA M (aX M M (lb M) (svI M) (sv (d:=.int _ 1) M) M hx179)<|cAI M<|bN ?_);refine aJ ⟨(n3,x179,v132,x178),(fun i=>i),⟨(.sames M M),(.cons (.blk M M M) (.cons (EntW.lst M) .nil)),bX [0,22] M (by decide),fun _ _=>M⟩,?_,?_⟩;exact h;exact Nat.lt_succ_self _
       ·
        refine cR<|bP<|bP<|cS<|aJ ⟨(v131,v132,v133),(fun i=>i),⟨(.sames M M),(.cons (.blk M M M) (.cons (EntW.lst M) .nil)),bX [0,22] M (by decide),fun _ _=>M⟩,?_⟩;exact h
    ·
     rintro ⟨v102,v103,v104⟩ h;unfold lR at h;obtain ⟨x105,hx105,x106,hx106,x107,hx107,h⟩:=eooo h;refine cC M [nd1 [5] 96 (.osl 22 aF.sz v10.length),nd2 [3] [0] 97 (.agg [.int .i64 v103,.str v104]),⟨[97],[23],[(98,.osl 23 aF.sz (([(⟨v103,v104⟩:aS)]:(List aS)).length))],[(23,.blk 228 (D.flat ((([(⟨v103,v104⟩:aS)]:(List aS))).map aF.d)))]⟩,⟨[96,98],[22,23,24],[(99,.osl 24 aF.sz x105.length)],[(24,.blk 228 (D.flat (x105.map aF.d))),(22,.none)]⟩,nd1 [0] 100 (.slice false (a0.map aF.d)),nd1 [6] 101 (.int .i64 v102),nd1 [100,101] 102 (.slice false (x106.map aF.d)),⟨[99,102],[24,25],[(103,.osl 25 aF.sz x107.length)],[(25,.blk 228 (D.flat (x107.map aF.d))),(24,.none)]⟩,nd1 [103] 4 (.osl 25 aF.sz x107.length)] M ?_ (by kernel_rfl) ?_
     ·refine .cons (lop M M fun S hA=>(bI M M (lb M) (sv (d:=.osl _ _ _) (agr hA M M))))<|.cons (dLa jK xD iJ M)<|.cons (lop M M fun S hA=>(pM aF.toEnc0 ([(⟨v103,v104⟩:aS)]:(List aS)) 23 M M (lb M) un38 iJ (agi hA M M) (.cons (svaA q27 hA M M) .nil) M M (by decide)))<|.cons (lop M M fun S hA=>(kS aF.toEnc0 24 M M (lb M) un38 iJ M (agr hA M M) M (agi hA M M) (agi hA M M) (xG aF.toEnc0 (agr hA M M) M (agi hA M M)) hx105))<|.cons (dMv M)<|.cons (dMv M)<|.cons (lop M M fun S hA=>(qS aF M M (lb M) un38 iJ (svaL hA M M) ⟨_,(svaI hA M M)⟩ M hx106))<|.cons (lop M M fun S hA=>(kS aF.toEnc0 25 M M (lb M) un38 iJ M (agr hA M M) M (agi hA M M) (agi hA M M) (aBZ aF (ys:=x106) (svaL hA M M)) hx107))<|.cons (lop M M fun S hA=>(bV M M (lb M) (sv (d:=.osl _ _ _) (agr hA M M)))) ?_
      exact .nil
     refine aM<|aFn ?_;obtain rfl:=sj_ h;refine ⟨.inr M,(fun i=>if i=0 then 25 else i),⟨.nil,(.cons (EntW.lst M) .nil),bX [25] M (by decide),(fun i hi=>by first | rfl | (show (if _ then _ else _)=_; (repeat' split) <;> omega))⟩,(.cons (sv M) .nil),M⟩

set_option maxRecDepth 8000 in
set_option maxHeartbeats 4000000 in
theorem nJ (a0:Int) (a1:Int) (a2:List aS) (r:List aS) (h:dT a0 a1 a2=some r):FnH prog 151 [.osl 1000 aF.sz a2.length,.int .i64 a0,.int .i64 a1] [(1000,.blk 228 (D.flat (a2.map aF.d)))] (.osl 0 aF.sz r.length) [(0,.blk 228 (D.flat (r.map aF.d)))]:=by
 replace h:delS a2 a0 a1=some r:=h;obtain ⟨i,j,rfl,rfl,hij,hj,hr⟩:=delS_e h
 have hX:=aF.toEnc0.flat_len a2
 refine gE (rs:=[.osl 0 aF.sz r.length]) func151 M ntmps151 (nle M) fun O hO=>?_
 show IWP _ _ _ _ ⟨[(0,.osl 1000 aF.sz a2.length),(1,.int .i64 (i:Int)),(2,.int .i64 (j:Int))],[(1000,.blk 228 (D.flat (a2.map aF.d)))]⟩ _
 refine aBn 0 (id:=1000) (sz:=aF.sz) (n:=a2.length) M M hX (fun hn=>?_) (fun c hc hcm=>?_)
 ·obtain rfl:=List.length_eq_zero_iff.1 hn
  obtain rfl:j=0:=by simpa using hj
  obtain rfl:i=0:=by omega
  refine aC (cAs (.nils) M<|aB ?_);refine aC (cMv (.nils) M<|cI M<|cI M<|cMv (.nils) M<|aA M (bY aF (l:=[]) (b:=false) M M (lb M) un38 (svn M))<|aA M (aAq M M (lb M) un38 iJ (sv (d:=.nils) M) (svI M) (svI M) (svI M))<|aB ?_);refine aP<|aC (cI M<|cI M<|cCm M M<|aB ?_);refine zS M M ?_
  have hr':[]=r:=by simpa using hr
  subst hr';refine aC (cMv (.nils) M<|cAs (.nils) M<|aB ?_);refine aM<|aT ?_;refine ⟨.inr M,(fun i=>if i=0 then 50 else i),⟨.nil,(.cons (.nilb M) .nil),bX [50] M (by decide),(fun i hi=>by first | rfl | (show (if _ then _ else _)=_; (repeat' split) <;> omega))⟩,(.cons (svno M) .nil),M⟩
 ·refine aC (cAs (.nils) M<|aB ?_)
  refine aC (cMv (.rsl _ _ _ _ _) M<|cI M<|cI M<|cMv (.rsl _ _ _ _ _) M<|aA M (tR M M (lb M) un38 (sv (d:=.rsl _ _ _ _ _) M) M)<|aA M (eG (sz:=aF.sz) (l:=(i:Int)) (h:=(j:Int)) (m:=(a2.length:Int)) M M (lb M) un38 iJ (sv (d:=.rsl _ _ _ _ _) M) ⟨_,(svI M)⟩ ⟨_,(svI M)⟩ ⟨_,(svI M)⟩ (by simp) (by omega) (by omega) (by omega) (by omega) M)<|aB ?_);refine aP<|aC (cI M<|cI M<|cCm M M<|aB ?_);refine pZ (b:=_) M (fun h1=>?_) (fun h1=>?_)
  ·have h2:=of_decide_eq_true h1
   obtain rfl:i=j:=by omega
   have hr':a2=r:=by simpa using hr
   subst hr';refine aC (cMv (.rsl _ _ _ _ _) M<|cAs (.rsl _ _ _ _ _) M<|aB ?_);refine uX 6 (id:=1000) M M hX<|aM<|aT ?_;refine ⟨.inr M,(fun i=>if i=0 then 1000 else i),⟨.nil,(.cons (EntW.lst M) .nil),bX [1000] M (by decide),(fun i hi=>by first | rfl | (show (if _ then _ else _)=_; (repeat' split) <;> omega))⟩,(.cons (sv M) .nil),M⟩
  ·have h2:=of_decide_eq_false h1
   have hlt:i<j:=by omega
   obtain ⟨J,hJ⟩:∃ J,J=List.replicate ((c-a2.length)*aF.sz) D.dead:=⟨_,rfl⟩
   have hXd:(D.flat ((a2.drop j).map aF.d)).length=(a2.length-j)*aF.sz:=by rw [aF.toEnc0.flat_len,List.length_drop]
   have hXt:(D.flat ((a2.take i).map aF.d)).length=i*aF.sz:=by rw [aF.toEnc0.flat_len,List.length_take,Nat.min_eq_left (by omega)]
   have hrl:r.length=i+(a2.length-j):=by rw [←hr,List.length_append,List.length_take,List.length_drop,Nat.min_eq_left (by omega)]
   have hR:D.flat (r.map aF.d)=D.flat ((a2.take i).map aF.d)++D.flat ((a2.drop j).map aF.d):=by rw [←hr,aF.toEnc0.flat_append]
   have hRl:(D.flat (r.map aF.d)).length=(i+(a2.length-j))*aF.sz:=by rw [aF.toEnc0.flat_len,hrl]
   have hfitj:j*aF.sz+(a2.length-j)*aF.sz=a2.length*aF.sz:=by rw [←Nat.add_mul]; congr 1; omega
   have hfiti:(i+(a2.length-j))*aF.sz≤a2.length*aF.sz:=Nat.mul_le_mul_right _ (by omega)
   rw [←hJ]
   have hD0:(D.flat (a2.map aF.d)++J).length=a2.length*aF.sz+J.length:=by rw [List.length_append,hX]
   obtain ⟨es,hes⟩:∃ es,es=((D.flat (a2.map aF.d)++J).drop (j*aF.sz)).take ((a2.length-j)*aF.sz):=⟨_,rfl⟩
   have hes':es=D.flat ((a2.drop j).map aF.d):=by
    rw [hes,List.drop_append_of_le_length (by rw [hX]; exact Nat.mul_le_mul_right _ hj),aF.toEnc0.flat_drop,List.take_append_of_le_length (by rw [hXd]; exact Nat.le_refl _),←hXd,List.take_length]
   obtain ⟨Z,hZ⟩:∃ Z,fS (D.flat (a2.map aF.d)++J) (i*aF.sz) es=D.flat (r.map aF.d)++Z:=by
    refine ⟨(D.flat ((a2.drop i).map aF.d)++J).drop es.length,?_⟩;rw [vJ aF.toEnc0 a2 i,List.append_assoc,aBD hXt,hR,hes',List.append_assoc]
   have hZl:(D.flat (r.map aF.d)++Z).length=a2.length*aF.sz+J.length:=by
    rw [←hZ,vY (by rw [hD0,hes',hXd,←Nat.add_mul]; omega),hD0]
   refine aO<|aJ<|aC (cMv (.rsl _ _ _ _ _) M<|aA M (tR M M (lb M) un38 (sv (d:=.rsl _ _ _ _ _) M) M)<|cAI M<|aB ?_);refine cC M [nd1 [0] 20 (.rsl 1000 aF.sz 0 a2.length c),nd1 [1] 21 (.int .i64 (i:Int)),nd1 [20,21] 22 (.rsl 1000 aF.sz 0 i c),nd1 [0] 23 (.rsl 1000 aF.sz 0 a2.length c),nd1 [2] 24 (.int .i64 (j:Int)),nd1 [23,24] 25 (.rsl 1000 aF.sz (j*aF.sz) (a2.length-j) (c-j)),⟨[22,25],[1000],[(26,.rsl 1000 aF.sz 0 (i+(a2.length-j)) c)],[(1000,.blk 228 (D.flat (r.map aF.d)++Z))]⟩,nd1 [26] 0 (.rsl 1000 aF.sz 0 (i+(a2.length-j)) c)] M ?_ (by kernel_rfl) ?_
   ·refine .cons (lop M M fun S hA=>(bI M M (lb M) (sv (d:=.rsl _ _ _ _ _) (agr hA M M))))<|.cons (dMv M)<|.cons (lop M M fun S hA=>(eG (sz:=aF.sz) (l:=0) (h:=(i:Int)) (m:=(c:Int)) (d:=.rsl 1000 aF.sz 0 i c) M M (lb M) un38 iJ (sv (d:=.rsl _ _ _ _ _) (agr hA M M)) M ⟨_,(svaI hA M M)⟩ M (by simp) (by omega) (by omega) (by omega) (by omega) (by simp only [Int.toNat_natCast,Int.toNat_zero,Nat.zero_mul,Nat.zero_add,Nat.sub_zero])))<|.cons (lop M M fun S hA=>(bI M M (lb M) (sv (d:=.rsl _ _ _ _ _) (agr hA M M))))<|.cons (dMv M)<|.cons (lop M M fun S hA=>(eG (sz:=aF.sz) (l:=(j:Int)) (h:=(a2.length:Int)) (m:=(c:Int)) (d:=.rsl 1000 aF.sz (j*aF.sz) (a2.length-j) (c-j)) M M (lb M) un38 iJ (sv (d:=.rsl _ _ _ _ _) (agr hA M M)) ⟨_,(svaI hA M M)⟩ M M (by simp) (by omega) (by omega) (by omega) (by omega) (by simp only [Int.toNat_natCast,Nat.zero_add])))<|.cons (lop M M fun S hA=>(aCb (sz:=aF.sz) (m:=a2.length-j) (es:=es) (ds':=D.flat (r.map aF.d)++Z) (d:=.rsl 1000 aF.sz 0 (i+(a2.length-j)) c) M M (lb M) un38 iJ (sv (d:=.rsl _ _ _ _ _) (agr hA M M)) (agi hA M M) (hes ▸ aCt (sv (d:=.rsl _ _ _ _ _) (agr hA M M)) (agi hA M M) (by rw [hD0,hfitj]; exact Nat.le_add_right _ _)) (by rw [hes',hXd]) (by rw [hes']; exact aF.toEnc0.one _) (by omega) (by rw [hD0]; exact Nat.le_trans hfiti (Nat.le_add_right _ _)) hZ M))<|.cons (lop M M fun S hA=>(bV M M (lb M) (sv (d:=.rsl _ _ _ _ _) (agr hA M M)))) ?_
    exact .nil
   ·refine aC (cMv (.rsl _ _ _ _ _) M<|cMv (.rsl _ _ _ _ _) M<|aA M (tR M M (lb M) un38 (sv (d:=.rsl _ _ _ _ _) M) M)<|cI M<|aA M (eG (sz:=aF.sz) (l:=((i+(a2.length-j):Nat):Int)) (h:=(a2.length:Int)) (m:=(c:Int)) (d:=.rsl 1000 aF.sz ((i+(a2.length-j))*aF.sz) (a2.length-(i+(a2.length-j))) (c-(i+(a2.length-j)))) M M (lb M) un38 iJ (sv (d:=.rsl _ _ _ _ _) M) ⟨_,(svI M)⟩ ⟨_,(svI M)⟩ M (by simp) (by omega) (by omega) (by omega) (by omega) (by simp only [Int.toNat_natCast,Nat.zero_add]))<|aA M (yS (sz:=aF.sz) M M un38 iJ M M (sv (d:=.rsl _ _ _ _ _) M) M (by rw [hZl,←Nat.add_mul,show i+(a2.length-j)+(a2.length-(i+(a2.length-j)))=a2.length by omega]; exact Nat.le_add_right _ _) (aBD hRl))<|aB ?_)
    refine aC (cMv (.rsl _ _ _ _ _) M<|cAs (.rsl _ _ _ _ _) M<|aB ?_);refine uX 6 (id:=1000) M M hRl<|aM ?_;refine ⟨.inr M,(fun i=>if i=0 then 1000 else i),⟨.nil,(.cons (EntW.lst M) .nil),bX [1000] M (by decide),(fun i hi=>by first | rfl | (show (if _ then _ else _)=_; (repeat' split) <;> omega))⟩,(.cons (sv (congrArg (D.osl _ _) hrl.symm)) .nil),M⟩

theorem aC8 (a0:aW) (a1:Int) (a2:(List UInt8)) (r:(aW×Int)) (h:uM a0 a1 a2=some r):bJ prog 99 [.agg (tv5 a0),.int .i64 a1,.str a2] (retD [.agg (tv5 r.1),.int .i64 r.2]):=by
 refine fC (rs:=[.agg (tv5 r.1),.int .i64 r.2]) func99 M ntmps99 (nle M) M fun O hO=>?_
 show IWP _ _ _ _ ⟨[(0,.agg (tv5 a0)),(1,.int .i64 a1),(2,.str a2)],[]⟩ _
 unfold uM at h;refine aC (cBx (cs:=q22) q22 0 M<|aA M (aR (cs:=q24) (cs':=[.int .i64 0,.str [],.slice false (([]:List aS).map aF.d)]) 1 M M (lb M) M ti40 M M (.k (.k (.cons (.nils _) .nil))))<|cAs (.int _ 0) M<|aB ?_);obtain ⟨x1,hx1,h⟩:=bR h;refine aC (cFa 2 un40 M ti38 M<|aA M (lrL la38 M M M M M (nle M) M)<|aA M (aL (r:=.slice _ _) M M (lb M) cl146 (.cons (svL M) .nil) M (iU _ _ hx1))<|cFa 2 un40 M ti38 M<|aA M (bK (ds':=q22) M M ti38 (svR M) M (svL M) M M M (nle M) M)<|aB ?_);refine aP ?_;obtain ⟨x2,hx2,x3,hx3,x4,hx4,h⟩:=eddd h;obtain ⟨x5,hx5,x6,hx6,x7,hx7,h⟩:=eodd h;refine aC (cI M<|cCm (b:=0) M hx2<|cB M<|gG M (fun hb=>(tI M))<|gG M (fun hb=>(tCg (b:=1099511627776) M hb hx3))<|cOr M hx4<|cB M<|gG M (fun hb=>(tLr q22 la40 M))<|gG M (fun hb=>(aL (r:=.int _ _) M M (lb M) cl143 (.cons (svc (d:=.agg [.int .i64 a0.Base,.str a0.Ready,.slice false (x1.map aF.d)]) M hb) .nil) M (tO _ _ (gd_t hx5 hb))))<|gG M (fun hb=>(tCg (b:=0) M hb hx6))<|cOr M hx7<|aB ?_);refine aK h M (fun h=>?_) (fun h=>?_)
 ·
  refine aC (cLr q22 la40 M<|cSt q22 q22 ti40 M<|cAs (.int _ 0) M<|aB ?_);refine aM<|aT ?_;obtain rfl:=sj_ h;refine ⟨.inr M,_,(.cons (rva la40 M M (nle M) M) (.cons (sv M) .nil)),(.all _)⟩
 ·
  refine aO<|aJ ?_;obtain ⟨x9,hx9,h⟩:=bR h;refine aC (cLr q22 la40 M<|aA M (aL (r:=.int _ _) M M (lb M) cl147 (.cons (svA q22 M) .nil) M (yK _ _ hx9))<|cAI M<|aB ?_);refine aP ?_;obtain ⟨x10,hx10,h⟩:=bF h;refine aC (cI M<|cI M<|cCm M hx10<|aB ?_);refine aK h M (fun h=>?_) (fun h=>?_)
  ·
   refine aC (cLr q22 la40 M<|cSt q22 q22 ti40 M<|cAs (.int _ 0) M<|aB ?_);refine aM<|aT ?_;obtain rfl:=sj_ h;refine ⟨.inr M,_,(.cons (rva la40 M M (nle M) M) (.cons (sv M) .nil)),(.all _)⟩
  ·
   refine aO<|aJ ?_;obtain ⟨x12,hx12,x13,hx13,x14,hx14,h⟩:=eddo h;refine aC (cMv (.str _) M<|cMv (.str _) M<|aA M (cF M M (lb M) un9 (sv (d:=.str _) M) M)<|cI M<|cI M<|aA M (aX M M (lb M) (svI M) (svI M) M hx12)<|aA M (iN M M (lb M) (svI M) (svI M) hx13)<|aA M (kR M M (lb M) un9 (sv (d:=.str _) M) M ⟨_,(svI M)⟩ hx14)<|cAs (.str _) M<|aB ?_);refine mW (α:=Int×(List UInt8)) (fun z=>⟨[(1,.int .i64 z.1),(2,.str z.2),(3,.ref 0 0),(6,.ref 1 0)],[(0,.blk 40 [.int .i64 a0.Base,.str a0.Ready,.slice false (x1.map aF.d)]),(1,.blk 40 [.int .i64 0,.str [],.slice false (([]:List aS).map aF.d)])]⟩) (fun z=>kD a0 x1 z.1 z.2=some r) ?_ ?_
   ·
    obtain ⟨x45,hx45,h⟩:=bF h;refine aC (cI M<|cFa 0 un40 M ti3 M<|cLd (d:=.int _ _) un3 ag3 ti3 M<|cCm M hx45<|aB ?_);refine aK h M (fun h=>?_) (fun h=>?_)
    ·
     obtain ⟨x47,hx47,x48,hx48,x49,hx49,h⟩:=eddo h;refine aC (cMv (.str _) M<|cMv (.str _) M<|aA M (cF M M (lb M) un9 (sv (d:=.str _) M) M)<|cFa 0 un40 M ti3 M<|cLd (d:=.int _ _) un3 ag3 ti3 M<|cI M<|aA M (aX M M (lb M) (svI M) (svI M) M hx47)<|aA M (iN M M (lb M) (svI M) (svI M) hx48)<|aA M (kR M M (lb M) un9 (sv (d:=.str _) M) ⟨_,(svI M)⟩ M hx49)<|cAs (.str _) M<|aB ?_);refine aZ (cFa 0 un40 M ti3 M<|cLd (d:=.int _ _) un3 ag3 ti3 M<|cAI M<|bN ?_);refine aJ ⟨(a0.Base,x49),(fun i=>i),⟨(.sames M M),(.cons (.blk M M M) (.cons (.blk M M M) .nil)),bX [0,1] M (by decide),fun _ _=>M⟩,?_⟩;exact h
    ·
     refine aO<|aJ ⟨(a1,x14),(fun i=>i),⟨(.sames M M),(.cons (.blk M M M) (.cons (.blk M M M) .nil)),bX [0,1] M (by decide),fun _ _=>M⟩,?_⟩;exact h
   ·
    rintro ⟨v20,v21⟩ h;unfold kD at h;refine aP ?_;obtain ⟨x22,hx22,h⟩:=bF h;refine aC (cMv (.str _) M<|aA M (mA M M (lb M) (sv (d:=.str _) M) (sv (d:=.str []) M) M hx22)<|aB ?_);refine aK h M (fun h=>?_) (fun h=>?_)
    ·
     refine aC (cLr q22 la40 M<|cSt q22 q22 ti40 M<|cAs (.int _ 0) M<|aB ?_);refine aM<|aT ?_;obtain rfl:=sj_ h;refine ⟨.inr M,_,(.cons (rva la40 M M (nle M) M) (.cons (sv M) .nil)),(.all _)⟩
    ·
     refine aO<|aJ ?_;obtain ⟨x24,hx24,h⟩:=bR h;refine aC (cLr q22 la40 M<|aA M (aL (r:=.int _ _) M M (lb M) cl148 (.cons (svA q22 M) .nil) M (aAC _ _ hx24))<|cAI M<|aB ?_);obtain ⟨x25,hx25,h⟩:=bR h;refine aC (cFa 2 un40 M ti38 M<|aA M (lrL la38 M M M M M (nle M) M)<|cI M<|cMv (.str _) M<|aA M (bA (cs:=q27) M M (lb M) jK iJ pl228 M (.cons (svI M) (.cons (sv (d:=.str _) M) .nil)) M)<|aA M (fR (r':=.osl 2 aF.sz x25.length) (H1':=[(2,.blk 228 (D.flat (x25.map aF.d)))]) 2 [] M M (lb M) cl149 (.cons (svL M) (.cons (svA q27 M) .nil)) M M ⟨M,M,by decide,M,List.forall_mem_nil _⟩ (aA3 _ _ _ hx25) M M (List.forall_mem_cons.2 ⟨⟨M,(mX aF)⟩,List.forall_mem_nil _⟩) (by simp only [List.map_cons,List.map_nil,Ent.ren,iF,kC]; rfl))<|cFa 2 un40 M ti38 M<|aA M (bK (ds':=q23) M M ti38 (svR M) M (sv (d:=.osl _ _ _) M) M M M (nle M) M)<|aB ?_);refine mW (α:=Int×(List UInt8)×(List aS)) (fun z=>⟨[(3,.ref 0 0),(6,.ref 1 0),(9,.int .i64 x24)],[(0,.blk 40 [.int .i64 z.1,.str z.2.1,.osl 4 aF.sz z.2.2.length]),(1,.blk 40 [.int .i64 0,.str [],.slice false (([]:List aS).map aF.d)]),(4,.blk 228 (D.flat (z.2.2.map aF.d)))]⟩) (fun z=>oX x24 z.1 z.2.1 z.2.2=some r) ?_ ?_
     ·
      obtain ⟨x38,hx38,x39,hx39,h⟩:=eoo h;refine aC (cFa 2 un40 M ti38 M<|cLd (d:=.osl _ _ _) un38 ag38 ti38 M<|aA M (jJ aF.toEnc0 M M (lb M) un38 iJ (sv (d:=.osl _ _ _) M) M (sv (d:=.int _ 0) M) hx38)<|aA M (vI aF.toEnc0 (cs:=q27) M M (lb M) jK xD iJ (by decide) (svR M) M hx39 (nle M) M)<|aA M (aR (cs:=q27) (cs':=[.int .i64 0,.str []]) 3 M M (lb M) M iJ M M (.all _))<|cSt q27 q27 iJ M<|aB ?_);obtain ⟨x40,hx40,h⟩:=bF h;refine aC (cFa 0 jK M ti3 M<|cLd (d:=.int _ _) un3 ag3 ti3 M<|cFa 0 un40 M ti3 M<|cLd (d:=.int _ _) un3 ag3 ti3 M<|cCm M hx40<|aB ?_);refine aK h M (fun h=>?_) (fun h=>?_)
      ·
       obtain ⟨x42,hx42,x43,hx43,h⟩:=eoo h;refine cC M [nd2 [10] [3] 77 (.agg [.int .i64 x39.At,.str x39.Data]),nd1 [77] 78 (.int .i64 x42),nd1 [3] 79 (.ref 0 1),nd2 [79] [0] 80 (.str a0.Ready),nd1 [10] 81 (.ref 3 1),nd2 [81] [3] 82 (.str x39.Data),nd1 [80,82] 83 (.str x43),nd1 [3] 84 (.ref 0 0),⟨[78,84],[0],[],[(0,.blk 40 [.int .i64 x42,.str a0.Ready,.osl 2 aF.sz x25.length])]⟩,nd1 [3] 85 (.ref 0 1),⟨[83,85],[0],[],[(0,.blk 40 [.int .i64 x42,.str x43,.osl 2 aF.sz x25.length])]⟩] M ?_ (by kernel_rfl) ?_
       ·refine .cons (dLa jK xD iJ M)<|.cons (lop M M fun S hA=>(aL (r:=.int _ _) M M (lb M) aER (.cons (svaA q27 hA M M) .nil) M (jT _ _ hx42)))<|.cons (dFa 1 un40 M ti9 M)<|.cons (dLd un9 ag9 ti9 M)<|.cons (dFa 1 jK M ti9 M)<|.cons (dLd un9 ag9 ti9 M)<|.cons (lop M M fun S hA=>(qT M M (lb M) (sv (d:=.str _) (agr hA M M)) (sv (d:=.str _) (agr hA M M)) hx43))<|.cons (dFa 0 un40 M ti3 M)<|.cons (lop M M fun S hA=>(bK (ds':=q23) M M ti3 (svaR hA M M) (agi hA M M) (svaI hA M M) M M M (nle M) M))<|.cons (dFa 1 un40 M ti9 M)<|.cons (lop M M fun S hA=>(bK (ds':=q23) M M ti9 (svaR hA M M) (agi hA M M) (sv (d:=.str _) (agr hA M M)) M M M (nle M) M)) ?_
        exact .nil
       obtain ⟨x44,hx44,h⟩:=bR h;refine aZ (cFa 2 un40 M ti38 M<|cLd (d:=.osl _ _ _) un38 ag38 ti38 M<|aA M (fR (r':=.osl 4 aF.sz x44.length) (H1':=[(4,.blk 228 (D.flat (x44.map aF.d)))]) 4 [2] M M (lb M) cl151 (.cons (sv (d:=.osl _ _ _) M) (.cons (sv (d:=.int _ 0) M) (.cons (sv (d:=.int _ 1) M) .nil))) M M ⟨M,M,by decide,M,List.forall_mem_cons.2 ⟨⟨M,M,(aCi aF M),(mX aF)⟩,List.forall_mem_nil _⟩⟩ (nJ _ _ _ _ hx44) M M (List.forall_mem_cons.2 ⟨⟨M,(mX aF)⟩,List.forall_mem_nil _⟩) (by simp only [List.map_cons,List.map_nil,Ent.ren,iF,kC]; rfl))<|cFa 2 un40 M ti38 M<|aA M (bK (ds':=q23) M M ti38 (svR M) M (sv (d:=.osl _ _ _) M) M M M (nle M) M)<|bN ?_);refine aJ ⟨(x42,x43,x44),(fun i=>i),⟨(.sames M M),(.cons (.blk M M M) (.cons (.blk M M M) (.cons (EntW.lst M) .nil))),bX [0,1,4] M (by decide),fun _ _=>M⟩,?_⟩;exact h
      ·
       refine aO<|aJ ⟨(a0.Base,a0.Ready,x25),(fun i=>if i=4 then 2 else i),⟨(.sames M M),(.cons (.blk M M M) (.cons (.blk M M M) (.cons (EntW.lst M) .nil))),bX [0,1,2] M (by decide),(fun i hi=>by first | rfl | (show (if _ then _ else _)=_; (repeat' split) <;> omega))⟩,?_⟩;exact h
     ·
      rintro ⟨v33,v34,v35⟩ h;unfold oX at h;obtain ⟨x36,hx36,x37,hx37,h⟩:=eod h;refine cC M [nd2 [3] [0] 90 (.agg [.int .i64 v33,.str v34,.osl 4 aF.sz v35.length]),nd2 [3] [0] 91 (.agg [.int .i64 v33,.str v34,.osl 4 aF.sz v35.length]),nd2 [91] [4] 92 (.int .i64 x36),nd1 [9] 93 (.int .i64 x24),nd1 [92,93] 94 (.int .i64 x37),⟨[6,90],[1],[],[(1,.blk 40 [.int .i64 v33,.str v34,.osl 4 aF.sz v35.length])]⟩,nd1 [94] 7 (.int .i64 x37)] M ?_ (by kernel_rfl) ?_
      ·refine .cons (dLa un40 ag40 ti40 M)<|.cons (dLa un40 ag40 ti40 M)<|.cons (lop M M fun S hA=>(yT (r:=.int .i64 x36) M M (lb M) cl148 (.cons (svaA q23 hA M M) .nil) (.cons (.agg (.k (.k (.cons (FDT aF (agi hA M M) M) .nil)))) .nil) M M (aAC _ _ hx36)))<|.cons (dMv M)<|.cons (lop M M fun S hA=>(aX M M (lb M) (svaI hA M M) (svaI hA M M) M hx37))<|.cons (dSt q23 ti40 M)<|.cons (lop M M fun S hA=>(bV M M (lb M) (svaI hA M M))) ?_
       exact .nil
      refine aM ?_;obtain rfl:=sj_ h;refine ⟨.inr M,_,(.cons (rva la40 M M (nle M) M) (.cons (sv M) .nil)),(.cons (.agg (.k (.k (.cons (FDT aF M M) .nil)))) (.all _))⟩
end Go.Proofs.YtnokcmkfkfeaiaaGreat
