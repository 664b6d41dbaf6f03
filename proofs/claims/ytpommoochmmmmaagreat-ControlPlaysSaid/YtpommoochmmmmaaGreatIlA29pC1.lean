/-
  A part of the proof: rules and plain facts. No condition.
-/
import Derived.Test.YtpommoochmmmmaaGreatProg
import Derived.KernelRfl
import Derived.Test.YtpommoochmmmmaaGreatIlEx
import Derived.Test.YtpommoochmmmmaaGreatIlA29pD
set_option linter.all false
open Array renaming mapM → HL
open Go renaming FuncId → BP,Program → An
open Go.IL.CsOk renaming of → FI,to → Dl
open Go.IL.D renaming flat → Al
open Go.IL.Ent renaming ren → Fm
open Go.IL.EntW renaming lst → Cd,lstR → Dj
open Go.IL.FsOk renaming of → Bk
open Go.IL.HsOk renaming of → HK
open Go.IL.ITL renaming ty → BN
open Go.IL.RK renaming ty → Bb
open Go.IntKind renaming wrap → Ab
open Go.Proofs.Tryz renaming prog → Ik
open Int renaming toNat_natCast → Au,toNat_zero → Df
open List renaming append_assoc → Ax,drop_append_of_le_length → Bi,forall_mem_cons → BL,forall_mem_nil → BU,length → DH,length_append → Ae,length_drop → AA,length_eq_zero_iff → Bh,length_map → Bf,length_nil → Bj,length_replicate → BG,length_take → Aw,map_cons → AB,map_nil → BI,replicate → Ay,take_append_drop → AO,take_append_of_le_length → AC,take_length → AM
open Nat renaming add_mul → Bp,beq → Aj,le_add_right → Da,le_refl → AJ,le_trans → Cb,lt_succ_self → BH,min_eq_left → BT,mul_le_mul_right → AS,sub_zero → DA,zero_add → Bl,zero_mul → CW
open _root_ renaming UInt8 → Ai,absurd → AP,congrArg → Bv
set_option maxRecDepth 8000
set_option maxHeartbeats 2000000
open Go Go.IL Go.Fn Go.Proofs
open Go.Proofs.Tryz
namespace Go.Proofs.YtpommoochmmmmaaGreat
def tEl:Nat→El
 | 0=>⟨Ai,rC,default⟩
 | 1=>⟨aW,cP,default⟩
 | 2=>⟨aA,bB,default⟩
 | 3=>⟨dB,oL,default⟩
 | 4=>⟨aD,aB,default⟩
 | 5=>⟨aC,aO,default⟩
 | 6=>⟨aF,aFI,default⟩
 | 7=>⟨aL,aP,default⟩
 | 8=>⟨aH,aD1,default⟩
 | 9=>⟨aM,aFJ,default⟩
 | 10=>⟨aG,aCG,default⟩
 | 11=>⟨iX,aD2,default⟩
 | 12=>⟨Int,eInt .i64,default⟩
 | 13=>⟨aK,aCF,default⟩
 | 14=>⟨iM,aCE,default⟩
 | 15=>⟨cW,xK,default⟩
 | _=>⟨Bool,eBool,default⟩
def tCod:∀ e,Cod tEl e
 | 0=>⟨[.u8],fun z=>z.1,fun a=>(a,()),fun _ _=>M,fun _=>M⟩
 | 1=>⟨[.int .i64,.int .i64],fun z=>(⟨z.1,z.2.1⟩:aW),fun (a:aW)=>(a.ID,a.ce,()),fun _ _=>M,fun _=>M⟩
 | 2=>⟨[.int .u8,.bool,.int .i64,.int .i64,.int .i64,.int .i64,.int .i64,.int .i64,.sl 1,.str],fun z=>(⟨z.1,z.2.1,z.2.2.1,z.2.2.2.1,z.2.2.2.2.1,z.2.2.2.2.2.1,z.2.2.2.2.2.2.1,z.2.2.2.2.2.2.2.1,z.2.2.2.2.2.2.2.2.1,z.2.2.2.2.2.2.2.2.2.1⟩:aA),fun (a:aA)=>(a.aq,a.bp,a.bg,a.bj,a.cb,a.bo,a.N,a.Code,a.au,a.aj,()),fun _ _=>M,fun _=>M⟩
 | 3=>⟨[.int .u8,.int .u8,.bool,.int .i64,.int .i64,.int .i64,.int .i64,.int .i64,.int .i64,.sl 1,.str,.str,.int .i64,.int .i64],fun z=>(⟨z.1,(⟨z.2.1,z.2.2.1,z.2.2.2.1,z.2.2.2.2.1,z.2.2.2.2.2.1,z.2.2.2.2.2.2.1,z.2.2.2.2.2.2.2.1,z.2.2.2.2.2.2.2.2.1,z.2.2.2.2.2.2.2.2.2.1,z.2.2.2.2.2.2.2.2.2.2.1⟩:aA),z.2.2.2.2.2.2.2.2.2.2.2.1,z.2.2.2.2.2.2.2.2.2.2.2.2.1,z.2.2.2.2.2.2.2.2.2.2.2.2.2.1⟩:dB),fun (a:dB)=>(a.aq,a.F.aq,a.F.bp,a.F.bg,a.F.bj,a.F.cb,a.F.bo,a.F.N,a.F.Code,a.F.au,a.F.aj,a.cj,a.N,a.M,()),fun _ _=>M,fun _=>M⟩
 | 4=>⟨[.int .i64,.int .i64,.int .i64,.bool],fun z=>(⟨z.1,z.2.1,z.2.2.1,z.2.2.2.1⟩:aD),fun (a:aD)=>(a.aa,a.To,a.bu,a.bx,()),fun _ _=>M,fun _=>M⟩
 | 5=>⟨[.int .i64,.int .i64],fun z=>(⟨z.1,z.2.1⟩:aC),fun (a:aC)=>(a.aa,a.To,()),fun _ _=>M,fun _=>M⟩
 | 6=>⟨[.int .i64,.str,.int .i64,.sl 4,.sl 5,.bool,.bool,.bool,.bool],fun z=>(⟨z.1,z.2.1,z.2.2.1,z.2.2.2.1,z.2.2.2.2.1,z.2.2.2.2.2.1,z.2.2.2.2.2.2.1,z.2.2.2.2.2.2.2.1,z.2.2.2.2.2.2.2.2.1⟩:aF),fun (a:aF)=>(a.ag,a.aj,a.ak,a.ah,a.ay,a.aw,a.az,a.ax,a.ba,()),fun _ _=>M,fun _=>M⟩
 | 7=>⟨[.int .i64,.str],fun z=>(⟨z.1,z.2.1⟩:aL),fun (a:aL)=>(a.At,a.aj,()),fun _ _=>M,fun _=>M⟩
 | 8=>⟨[.int .i64,.str,.sl 7],fun z=>(⟨z.1,z.2.1,z.2.2.1⟩:aH),fun (a:aH)=>(a.ag,a.ap,a.ao,()),fun _ _=>M,fun _=>M⟩
 | 9=>⟨[.int .i64,.str,.sl 7,.int .i64],fun z=>(⟨(⟨z.1,z.2.1,z.2.2.1⟩:aH),z.2.2.2.1⟩:aM),fun (a:aM)=>(a.af.ag,a.af.ap,a.af.ao,a.br,()),fun _ _=>M,fun _=>M⟩
 | 10=>⟨[.int .i64,.str,.int .i64,.sl 4,.sl 5,.bool,.bool,.bool,.bool,.int .i64,.str,.sl 7,.int .i64,.str,.int .i64,.int .i64],fun z=>(⟨(⟨z.1,z.2.1,z.2.2.1,z.2.2.2.1,z.2.2.2.2.1,z.2.2.2.2.2.1,z.2.2.2.2.2.2.1,z.2.2.2.2.2.2.2.1,z.2.2.2.2.2.2.2.2.1⟩:aF),(⟨(⟨z.2.2.2.2.2.2.2.2.2.1,z.2.2.2.2.2.2.2.2.2.2.1,z.2.2.2.2.2.2.2.2.2.2.2.1⟩:aH),z.2.2.2.2.2.2.2.2.2.2.2.2.1⟩:aM),(⟨z.2.2.2.2.2.2.2.2.2.2.2.2.2.1,z.2.2.2.2.2.2.2.2.2.2.2.2.2.2.1,z.2.2.2.2.2.2.2.2.2.2.2.2.2.2.2.1⟩:aK)⟩:aG),fun (a:aG)=>(a.ae.ag,a.ae.aj,a.ae.ak,a.ae.ah,a.ae.ay,a.ae.aw,a.ae.az,a.ae.ax,a.ae.ba,a.af.af.ag,a.af.af.ap,a.af.af.ao,a.af.br,a.In.bq,a.In.bv,a.In.bf,()),fun _ _=>M,fun _=>M⟩
 | 11=>⟨[.int .i64,.str,.sl 7,.int .i64],fun z=>(⟨(⟨z.1,z.2.1,z.2.2.1⟩:aH),z.2.2.2.1⟩:iX),fun (a:iX)=>(a.State.ag,a.State.ap,a.State.ao,a.end_,()),fun _ _=>M,fun _=>M⟩
 | 12=>⟨[.int .i64],fun z=>z.1,fun a=>(a,()),fun _ _=>M,fun _=>M⟩
 | 13=>⟨[.str,.int .i64,.int .i64],fun z=>(⟨z.1,z.2.1,z.2.2.1⟩:aK),fun (a:aK)=>(a.bq,a.bv,a.bf,()),fun _ _=>M,fun _=>M⟩
 | 14=>⟨[.int .i64,.int .u32],fun z=>(⟨z.1,z.2.1⟩:iM),fun (a:iM)=>(a.cq,a.Code,()),fun _ _=>M,fun _=>M⟩
 | 15=>⟨[.int .i64,.int .i64],fun z=>(⟨z.1,z.2.1⟩:cW),fun (a:cW)=>(a.cq,a.Code,()),fun _ _=>M,fun _=>M⟩
 | _+16=>⟨[.bool],fun z=>z.1,fun a=>(a,()),fun _ _=>M,fun _=>M⟩
def tEc (t:Nat):Nat:=Go.IL.look (0:Nat) t ([(2,12),(3,12),(28,6),(29,6),(31,8),(32,8),(33,9),(34,9),(35,12),(36,13),(37,13),(38,10),(39,10),(43,6),(44,6),(46,8),(47,8),(48,9),(49,9),(50,13),(51,13),(52,10),(53,10),(56,2),(57,2),(58,3),(59,3),(72,4),(73,4),(76,4),(81,2),(105,14),(106,14),(116,15),(117,15),(155,11),(156,11),(174,1),(175,1),(181,5),(182,5),(184,5),(220,7),(221,7),(226,7)]:List (Nat×Nat))
abbrev cX0 (l:List (BP×CS tEl)) (P:An):Cx:=⟨P,tEl,M,tCod,tEc,fun _=>false,l,[]⟩
abbrev cX1 (w:Nat→Bool) (l:List (BP×CS tEl)) (h:List (BP×HS tEl)) (P:An):Cx:=⟨P,tEl,M,tCod,tEc,w,l,h⟩
theorem ti3:TI Ik 3 (some (.int .i64 0)) 1 8:=by unfold TI; kernel_rfl
theorem ti4:TI Ik 4 (some (.bool false)) 1 1:=by unfold TI; kernel_rfl
theorem ti5:TI Ik 5 (some (.int .u8 0)) 1 1:=by unfold TI; kernel_rfl
theorem ti9:TI Ik 9 (some (.string ⟨#[]⟩)) 1 16:=by unfold TI; kernel_rfl
theorem ti25:TI Ik 25 (some (.slice none 0 0)) 1 24:=by unfold TI; kernel_rfl
theorem ti27:TI Ik 27 (some (.slice none 0 0)) 1 24:=by unfold TI; kernel_rfl
theorem ti29:TI Ik 29 (some (.agg #[.int .i64 0,.string ⟨#[]⟩,.int .i64 0,.slice none 0 0,.slice none 0 0,.bool false,.bool false,.bool false,.bool false])) 9 88:=by unfold TI; kernel_rfl
theorem ti35:TI Ik 35 (some (.int .i64 0)) 1 8:=by unfold TI; kernel_rfl
theorem ti37:TI Ik 37 (some (.agg #[.string ⟨#[]⟩,.int .i64 0,.int .i64 0])) 3 32:=by unfold TI; kernel_rfl
theorem ti55:TI Ik 55 (some (.slice none 0 0)) 1 24:=by unfold TI; kernel_rfl
theorem ti57:TI Ik 57 (some (.agg #[.int .u8 0,.bool false,.int .i64 0,.int .i64 0,.int .i64 0,.int .i64 0,.int .i64 0,.int .i64 0,.slice none 0 0,.string ⟨#[]⟩])) 10 96:=by unfold TI; kernel_rfl
theorem ti60:TI Ik 60 (some (.slice none 0 0)) 1 24:=by unfold TI; kernel_rfl
theorem ti73:TI Ik 73 (some (.agg #[.int .i64 0,.int .i64 0,.int .i64 0,.bool false])) 4 32:=by unfold TI; kernel_rfl
theorem ti81:TI Ik 81 (some (.agg #[.int .u8 0,.bool false,.int .i64 0,.int .i64 0,.int .i64 0,.int .i64 0,.int .i64 0,.int .i64 0,.slice none 0 0,.string ⟨#[]⟩])) 10 96:=by unfold TI; kernel_rfl
theorem aFL:TI Ik 175 (some (.agg #[.int .i64 0,.int .i64 0])) 2 16:=by unfold TI; kernel_rfl
theorem uW:TI Ik 182 (some (.agg #[.int .i64 0,.int .i64 0])) 2 16:=by unfold TI; kernel_rfl
theorem aCv:TI Ik 221 (some (.agg #[.int .i64 0,.string ⟨#[]⟩])) 2 24:=by unfold TI; kernel_rfl
theorem aHb:TI Ik 225 (some (.pointer none)) 1 8:=by unfold TI; kernel_rfl
theorem sN:TI Ik 250 (some (.pointer none)) 1 8:=by unfold TI; kernel_rfl
theorem ti270:TI Ik 270 (some (.agg #[.int .i64 0,.int .i64 0,.int .i64 0,.int .i64 0])) 4 32:=by unfold TI; kernel_rfl
theorem ag3:gP Ik 3=false:=by kernel_rfl
theorem ag4:gP Ik 4=false:=by kernel_rfl
theorem ag5:gP Ik 5=false:=by kernel_rfl
theorem ag9:gP Ik 9=false:=by kernel_rfl
theorem ag25:gP Ik 25=false:=by kernel_rfl
theorem ag27:gP Ik 27=false:=by kernel_rfl
theorem ag29:gP Ik 29=true:=by kernel_rfl
theorem ag35:gP Ik 35=false:=by kernel_rfl
theorem ag37:gP Ik 37=true:=by kernel_rfl
theorem ag55:gP Ik 55=false:=by kernel_rfl
theorem ag57:gP Ik 57=true:=by kernel_rfl
theorem ag60:gP Ik 60=false:=by kernel_rfl
theorem ag73:gP Ik 73=true:=by kernel_rfl
theorem ag81:gP Ik 81=true:=by kernel_rfl
theorem ag175:gP Ik 175=true:=by kernel_rfl
theorem ag182:gP Ik 182=true:=by kernel_rfl
theorem aIC:gP Ik 225=false:=by kernel_rfl
theorem ag250:gP Ik 250=false:=by kernel_rfl
theorem ex157:aDz Ik 157 (Extern.SlicesOverlaps.overlaps #[25,25] #[4]):=⟨f157,func157,by kernel_rfl,by kernel_rfl,by kernel_rfl,by kernel_rfl⟩
theorem pl175:∀ w,(HL (m:=Sem) (fun (f:Field)=>Functor.map (Prod.mk f.offset) (sizeOf f.type)) (fieldsOf Ik 175)).run Ik w = .ok #[(0,1),(1,1)] w:=fun w=>by kernel_rfl
theorem pl182:∀ w,(HL (m:=Sem) (fun (f:Field)=>Functor.map (Prod.mk f.offset) (sizeOf f.type)) (fieldsOf Ik 182)).run Ik w = .ok #[(0,1),(1,1)] w:=fun w=>by kernel_rfl
theorem pl57:∀ w,(HL (m:=Sem) (fun (f:Field)=>Functor.map (Prod.mk f.offset) (sizeOf f.type)) (fieldsOf Ik 57)).run Ik w = .ok #[(0,1),(1,1),(2,1),(3,1),(4,1),(5,1),(6,1),(7,1),(8,1),(9,1)] w:=fun w=>by kernel_rfl
theorem pl73:∀ w,(HL (m:=Sem) (fun (f:Field)=>Functor.map (Prod.mk f.offset) (sizeOf f.type)) (fieldsOf Ik 73)).run Ik w = .ok #[(0,1),(1,1),(2,1),(3,1)] w:=fun w=>by kernel_rfl
theorem cl35:bP Ik 35:=⟨f35,func35,rfl,rfl⟩
theorem cl48:bP Ik 48:=⟨f48,func48,rfl,rfl⟩
theorem cl66:bP Ik 66:=⟨f66,func66,rfl,rfl⟩
theorem cl68:bP Ik 68:=⟨f68,func68,rfl,rfl⟩
theorem cl82:bP Ik 82:=⟨f82,func82,rfl,rfl⟩
theorem cl87:bP Ik 87:=⟨f87,func87,rfl,rfl⟩
theorem cl89:bP Ik 89:=⟨f89,func89,rfl,rfl⟩
theorem cl90:bP Ik 90:=⟨f90,func90,rfl,rfl⟩
theorem cl91:bP Ik 91:=⟨f91,func91,rfl,rfl⟩
theorem cl92:bP Ik 92:=⟨f92,func92,rfl,rfl⟩
theorem cl93:bP Ik 93:=⟨f93,func93,rfl,rfl⟩
theorem cl100:bP Ik 100:=⟨f100,func100,rfl,rfl⟩
theorem cl101:bP Ik 101:=⟨f101,func101,rfl,rfl⟩
theorem cl104:bP Ik 104:=⟨f104,func104,rfl,rfl⟩
theorem cl108:bP Ik 108:=⟨f108,func108,rfl,rfl⟩
theorem cl111:bP Ik 111:=⟨f111,func111,rfl,rfl⟩
theorem cl113:bP Ik 113:=⟨f113,func113,rfl,rfl⟩
theorem cl124:bP Ik 124:=⟨f124,func124,rfl,rfl⟩
theorem cl135:bP Ik 135:=⟨f135,func135,rfl,rfl⟩
theorem cl140:bP Ik 140:=⟨f140,func140,rfl,rfl⟩
theorem cl142:bP Ik 142:=⟨f142,func142,rfl,rfl⟩
theorem cl145:bP Ik 145:=⟨f145,func145,rfl,rfl⟩
theorem cl146:bP Ik 146:=⟨f146,func146,rfl,rfl⟩
theorem cl147:bP Ik 147:=⟨f147,func147,rfl,rfl⟩
theorem cl148:bP Ik 148:=⟨f148,func148,rfl,rfl⟩
theorem cl149:bP Ik 149:=⟨f149,func149,rfl,rfl⟩
theorem cl150:bP Ik 150:=⟨f150,func150,rfl,rfl⟩
theorem cl151:bP Ik 151:=⟨f151,func151,rfl,rfl⟩
theorem cl152:bP Ik 152:=⟨f152,func152,rfl,rfl⟩
theorem cl153:bP Ik 153:=⟨f153,func153,rfl,rfl⟩
theorem cl165:bP Ik 165:=⟨f165,func165,rfl,rfl⟩
theorem cl166:bP Ik 166:=⟨f166,func166,rfl,rfl⟩
theorem cl167:bP Ik 167:=⟨f167,func167,rfl,rfl⟩
theorem cl169:bP Ik 169:=⟨f169,func169,rfl,rfl⟩
theorem cl175:bP Ik 175:=⟨f175,func175,rfl,rfl⟩
theorem cl176:bP Ik 176:=⟨f176,func176,rfl,rfl⟩
theorem cl179:bP Ik 179:=⟨f179,func179,rfl,rfl⟩
theorem cl188:bP Ik 188:=⟨f188,func188,rfl,rfl⟩
theorem cl189:bP Ik 189:=⟨f189,func189,rfl,rfl⟩
theorem cl193:bP Ik 193:=⟨f193,func193,rfl,rfl⟩
theorem cl203:bP Ik 203:=⟨f203,func203,rfl,rfl⟩
theorem cl209:bP Ik 209:=⟨f209,func209,rfl,rfl⟩
theorem cl210:bP Ik 210:=⟨f210,func210,rfl,rfl⟩
def la27:=LA.mk underlying27 ag27 ti27 (by decide)
def la29:=LA.mk underlying29 ag29 ti29 (by decide)
def la37:=LA.mk underlying37 ag37 ti37 (by decide)
def la55:=LA.mk underlying55 ag55 ti55 (by decide)
def la57:=LA.mk underlying57 ag57 ti57 (by decide)
def la73:=LA.mk underlying73 ag73 ti73 (by decide)
def la81:=LA.mk underlying81 ag81 ti81 (by decide)
def aHy:=LA.mk underlying182 ag182 uW (by decide)
abbrev tv0 (x:aA):List D:=[.int .u8 x.aq,.bool x.bp,.int .i64 x.bg,.int .i64 x.bj,.int .i64 x.cb,.int .i64 x.bo,.int .i64 x.N,.int .i64 x.Code,.slice false (x.au.map cP.d),.str x.aj]
abbrev tv1 (x:aF):List D:=[.int .i64 x.ag,.str x.aj,.int .i64 x.ak,.slice false (x.ah.map aB.d),.slice false (x.ay.map aO.d),.bool x.aw,.bool x.az,.bool x.ax,.bool x.ba]
abbrev tv2 (x:aD):List D:=[.int .i64 x.aa,.int .i64 x.To,.int .i64 x.bu,.bool x.bx]
abbrev tv3 (x:aK):List D:=[.str x.bq,.int .i64 x.bv,.int .i64 x.bf]
abbrev q4 {a1:IntKind} {a2:Int} {a3:Bool} {a4:IntKind} {a5:Int} {a6:IntKind} {a7:Int} {a8:IntKind} {a9:Int} {a10:IntKind} {a11:Int} {a12:IntKind} {a13:Int} {a14:IntKind} {a15:Int} {a16:Bool} {a17:List D} {a18:List Ai}:List D:=[.int a1 a2,.bool a3,.int a4 a5,.int a6 a7,.int a8 a9,.int a10 a11,.int a12 a13,.int a14 a15,.slice a16 a17,.str a18]
abbrev q5 {a1:IntKind} {a2:Int} {a3:Bool} {a4:IntKind} {a5:Int} {a6:IntKind} {a7:Int} {a8:IntKind} {a9:Int} {a10:IntKind} {a11:Int} {a12:IntKind} {a13:Int} {a14:IntKind} {a15:Int} {a16:Nat} {a17:Nat} {a18:List D} {a19:List Ai}:List D:=[.int a1 a2,.bool a3,.int a4 a5,.int a6 a7,.int a8 a9,.int a10 a11,.int a12 a13,.int a14 a15,.gsl a16 a17 a18,.str a19]
abbrev q6 {a1:IntKind} {a2:Int} {a3:Bool} {a4:IntKind} {a5:Int} {a6:IntKind} {a7:Int} {a8:IntKind} {a9:Int} {a10:IntKind} {a11:Int} {a12:IntKind} {a13:Int} {a14:IntKind} {a15:Int} {a16:List Ai}:List D:=[.int a1 a2,.bool a3,.int a4 a5,.int a6 a7,.int a8 a9,.int a10 a11,.int a12 a13,.int a14 a15,.nils,.str a16]
abbrev q7 {a1:IntKind} {a2:Int} {a3:List Ai} {a4:IntKind} {a5:Int} {a6:Bool} {a7:List D} {a8:Bool} {a9:List D} {a10:Bool} {a11:Bool} {a12:Bool} {a13:Bool}:List D:=[.int a1 a2,.str a3,.int a4 a5,.slice a6 a7,.slice a8 a9,.bool a10,.bool a11,.bool a12,.bool a13]
abbrev q8 {a1:IntKind} {a2:Int} {a3:List Ai} {a4:IntKind} {a5:Int} {a6:Nat} {a7:Nat} {a8:Nat} {a9:Bool} {a10:List D} {a11:Bool} {a12:Bool} {a13:Bool} {a14:Bool}:List D:=[.int a1 a2,.str a3,.int a4 a5,.osl a6 a7 a8,.slice a9 a10,.bool a11,.bool a12,.bool a13,.bool a14]
abbrev q9 {a1:IntKind} {a2:Int} {a3:List Ai} {a4:IntKind} {a5:Int} {a6:Bool} {a7:Bool} {a8:Bool} {a9:Bool}:List D:=[.int a1 a2,.str a3,.int a4 a5,.nils,.nils,.bool a6,.bool a7,.bool a8,.bool a9]
abbrev q10 {a1:IntKind} {a2:Int} {a3:IntKind} {a4:Int} {a5:IntKind} {a6:Int} {a7:Bool}:List D:=[.int a1 a2,.int a3 a4,.int a5 a6,.bool a7]
abbrev q11 {a1:IntKind} {a2:Int} {a3:IntKind} {a4:Int} {a5:IntKind} {a6:Int}:List D:=[.int a1 a2,.int a3 a4,.int a5 a6]
abbrev q12 {a1:List Ai} {a2:IntKind} {a3:Int} {a4:IntKind} {a5:Int}:List D:=[.str a1,.int a2 a3,.int a4 a5]
abbrev q13 {a1:Bool} {a2:List D} {a3:IntKind} {a4:Int}:List D:=[.slice a1 a2,.int a3 a4]
abbrev q14 {a1:IntKind} {a2:Int} {a3:IntKind} {a4:Int}:List D:=[.int a1 a2,.int a3 a4]
abbrev q15 {a1:IntKind} {a2:Int} {a3:Bool} {a4:IntKind} {a5:Int} {a6:IntKind} {a7:Int} {a8:IntKind} {a9:Int} {a10:IntKind} {a11:Int} {a12:IntKind} {a13:Int} {a14:IntKind} {a15:Int} {a16:Bool} {a17:List D} {a18:List Ai} {a19:IntKind} {a20:Int} {a21:IntKind} {a22:Int}:List D:=[.agg [.int a1 a2,.bool a3,.int a4 a5,.int a6 a7,.int a8 a9,.int a10 a11,.int a12 a13,.int a14 a15,.slice a16 a17,.str a18],.int a19 a20,.int a21 a22]
abbrev w16 (a0:Int) (a1:Bool) (a2:Int) (a3:Int) (a4:Int) (a5:Int) (a6:Int) (a7:Int) (a8:List aW) (a9:List Ai):List D:=[.int .u8 a0,.bool a1,.int .i64 a2,.int .i64 a3,.int .i64 a4,.int .i64 a5,.int .i64 a6,.int .i64 a7,.slice false (a8.map cP.d),.str a9]
abbrev w17 (a0:Int) (a1:List Ai) (a2:Int) (a3:List aD) (a4:List aC) (a5:Bool) (a6:Bool) (a7:Bool) (a8:Bool):List D:=[.int .i64 a0,.str a1,.int .i64 a2,.slice false (a3.map aB.d),.slice false (a4.map aO.d),.bool a5,.bool a6,.bool a7,.bool a8]
abbrev w18 (a0:Int) (a1:List Ai) (a2:Int) (a3:D) (a4:List aC) (a5:Bool) (a6:Bool) (a7:Bool) (a8:Bool):List D:=[.int .i64 a0,.str a1,.int .i64 a2,a3,.slice false (a4.map aO.d),.bool a5,.bool a6,.bool a7,.bool a8]
abbrev w19 (a0:Int) (a1:Int) (a2:Int) (a3:Int):List D:=[.int .i64 a0,.int .i64 a1,.int .i64 a2,.int .i64 a3]
abbrev w20 (a0:Int) (a1:Int) (a2:Int) (a3:Bool):List D:=[.int .i64 a0,.int .i64 a1,.int .i64 a2,.bool a3]
abbrev zs0:List D:=w16 0 false 0 0 0 0 0 0 ([]:List aW) []
abbrev zs1:List D:=w17 0 [] 0 ([]:List aD) ([]:List aC) false false false false

variable [Fu]
def s0:CS tEl:=⟨[.agg 2],[kB],fun z=>oB z.1⟩
def X0:=cX0 []
theorem o0:CsOk Ik tCod 29 s0:=aV (X0 Ik) trivial trivial func29 rfl
def s1:CS tEl:=⟨[.one (.sl 3)],[kB],fun z=>tK z.1⟩
def X1:=cX0 [(29,s0)]
theorem h1:FsOk (X1 Ik):=Bk (C:=(X1 Ik)) ⟨o0,trivial⟩ trivial
def W1 (P:An) (f:Func):Fw (X1 P):=⟨f,s1.acx,s1.rs⟩
abbrev c1_0 (m0:Nat):Ct (X1 Ik) (Bb tEl s1.rs):=⟨[0,1,0,1,1],[.sl 0 (.one (.sl 3)),.sl 3 kI],fun z=>z,0,fun z=>gC z.1 m0 z.2.1⟩
theorem t1_0 {O:aR} {r:Bb tEl s1.rs}:∀ m0,SndW (W1 Ik f4) O r (c1_0 m0):=bH (W:=(W1 Ik f4)) h1 (fun m0=>c1_0 m0) (fun m0=>[c1_0 m0]) (fun m0 e0=>⟨e0,trivial⟩)
theorem o1:CsOk Ik tCod 4 s1:=bR (W:=(W1 Ik f4)) h1 func4 rfl [c1_0 fuel] (fun O r _=>⟨(t1_0 fuel),trivial⟩)
def s2:CS tEl:=⟨[],[.agg 6],fun z=>aGC⟩
def X2:=cX1 (fun t=>Aj t 72||Aj t 73||Aj t 76) [] []
theorem o2:CsOk Ik tCod 30 s2:=aV (X2 Ik) trivial trivial func30 rfl
def s3:CS tEl:=⟨[],[.agg 8],fun z=>aEK⟩
def X3:=cX0 []
theorem o3:CsOk Ik tCod 76 s3:=aV (X3 Ik) trivial trivial func76 rfl
def s4:CS tEl:=⟨[],[.agg 9],fun z=>aGI⟩
def X4:=cX0 [(76,s3)]
theorem o4:CsOk Ik tCod 31 s4:=aV (X4 Ik) ⟨o3,trivial⟩ trivial func31 rfl
def s5:CS tEl:=⟨[],[.agg 10],fun z=>tX⟩
def X5:=cX0 [(30,s2),(31,s4)]
theorem o5:CsOk Ik tCod 6 s5:=aV (X5 Ik) ⟨o2,o4,trivial⟩ trivial func6 rfl
def s6:CS tEl:=⟨[kI],[kB],fun z=>aAD z.1⟩
def X6:=cX0 []
theorem o6:CsOk Ik tCod 190 s6:=aV (X6 Ik) trivial trivial func190 rfl
def s7:CS tEl:=⟨[.agg 5],[kB],fun z=>jE z.1⟩
def X7:=cX0 [(190,s6)]
theorem o7:CsOk Ik tCod 150 s7:=aV (X7 Ik) ⟨o6,trivial⟩ trivial func150 rfl
theorem aBF (a0:aC) (r:Bool) (h:jE a0=some r):eL Ik 150 [.agg [.int .i64 a0.aa,.int .i64 a0.To]] (.bool r):=Dl o7 (a0,()) r h (by kernel_rfl) (by kernel_rfl)
def s8:CS tEl:=⟨[.agg 5],[kB],fun z=>sS z.1⟩
def X8:=cX0 [(150,s7)]
theorem o8:CsOk Ik tCod 192 s8:=aV (X8 Ik) ⟨o7,trivial⟩ trivial func192 rfl
def s9:CS tEl:=⟨[.one (.sl 5),.fn0 192],[kI],fun z=>fN z.1⟩
def X9:=cX0 [(192,s8)]
theorem h9:FsOk (X9 Ik):=Bk (C:=(X9 Ik)) ⟨o8,trivial⟩ trivial
def W9 (P:An) (f:Func):Fw (X9 P):=⟨f,s9.acx,s9.rs⟩
abbrev c9_0 (m0:Nat):Ct (X9 Ik) (Bb tEl s9.rs):=⟨[0,1,0,1],[.sl 0 (.one (.sl 5)),.sl 1 (.fn0 192),.sl 7 kI,.sl 8 kI],fun z=>(z.1,z.2.1,((z.1.length:Int):Int),z.2.2.2.1,()),0,fun z=>bL z.1 m0 z.2.2.2.1⟩
theorem t9_0 {O:aR} {r:Bb tEl s9.rs}:∀ m0,SndW (W9 Ik f211) O r (c9_0 m0):=bH (W:=(W9 Ik f211)) h9 (fun m0=>c9_0 m0) (fun m0=>[c9_0 m0]) (fun m0 e0=>⟨e0,trivial⟩)
theorem o9:CsOk Ik tCod 211 s9:=bR (W:=(W9 Ik f211)) h9 func211 rfl [c9_0 fuel] (fun O r _=>⟨(t9_0 fuel),trivial⟩)
def s10:CS tEl:=⟨[.one (.sl 5),.fn0 192],[kB],fun z=>dD z.1⟩
def X10:=cX0 [(211,s9)]
theorem o10:CsOk Ik tCod 191 s10:=aV (X10 Ik) ⟨o9,trivial⟩ trivial func191 rfl
def s11:CS tEl:=⟨[.agg 5],[kB],fun z=>gE z.1⟩
def X11:=cX0 []
theorem o11:CsOk Ik tCod 151 s11:=aV (X11 Ik) trivial trivial func151 rfl
theorem vB (a0:aC) (r:Bool) (h:gE a0=some r):eL Ik 151 [.agg [.int .i64 a0.aa,.int .i64 a0.To]] (.bool r):=Dl o11 (a0,()) r h (by kernel_rfl) (by kernel_rfl)
def s12:CS tEl:=⟨[.one (.sl 5),.fn0 151],[kI],fun z=>gK z.1⟩
def X12:=cX0 [(151,s11)]
theorem h12:FsOk (X12 Ik):=Bk (C:=(X12 Ik)) ⟨o11,trivial⟩ trivial
def W12 (P:An) (f:Func):Fw (X12 P):=⟨f,s12.acx,s12.rs⟩
abbrev aMH (m0:Nat):Ct (X12 Ik) (Bb tEl s12.rs):=⟨[0,1,0,1],[.sl 0 (.one (.sl 5)),.sl 1 (.fn0 151),.sl 7 kI,.sl 8 kI],fun z=>(z.1,z.2.1,((z.1.length:Int):Int),z.2.2.2.1,()),0,fun z=>bQ z.1 m0 z.2.2.2.1⟩
theorem t12_0 {O:aR} {r:Bb tEl s12.rs}:∀ m0,SndW (W12 Ik f211) O r (aMH m0):=bH (W:=(W12 Ik f211)) h12 (fun m0=>aMH m0) (fun m0=>[aMH m0]) (fun m0 e0=>⟨e0,trivial⟩)
theorem o12:CsOk Ik tCod 211 s12:=bR (W:=(W12 Ik f211)) h12 func211 rfl [aMH fuel] (fun O r _=>⟨(t12_0 fuel),trivial⟩)
def s13:CS tEl:=⟨[.one (.sl 5),.fn0 151],[kB],fun z=>dQ z.1⟩
def X13:=cX0 [(211,s12)]
theorem o13:CsOk Ik tCod 191 s13:=aV (X13 Ik) ⟨o12,trivial⟩ trivial func191 rfl
def s14:CS tEl:=⟨[.one (.sl 5)],[kI],fun z=>nO z.1⟩
def X14:=cX0 [(191,s10),(191,s13)]
theorem h14:FsOk (X14 Ik):=Bk (C:=(X14 Ik)) ⟨o10,o13,trivial⟩ trivial
def W14 (P:An) (f:Func):Fw (X14 P):=⟨f,s14.acx,s14.rs⟩
abbrev aMG (m0:Nat):Ct (X14 Ik) (Bb tEl s14.rs):=⟨[0,1,0,1,1],[.sl 0 (.one (.sl 5)),.sl 3 kI],fun z=>z,0,fun z=>lN z.1 m0 z.2.1⟩
theorem t14_0 {O:aR} {r:Bb tEl s14.rs}:∀ m0,SndW (W14 Ik f152) O r (aMG m0):=bH (W:=(W14 Ik f152)) h14 (fun m0=>aMG m0) (fun m0=>[aMG m0]) (fun m0 e0=>⟨e0,trivial⟩)
theorem o14:CsOk Ik tCod 152 s14:=bR (W:=(W14 Ik f152)) h14 func152 rfl [aMG fuel] (fun O r _=>⟨(t14_0 fuel),trivial⟩)
theorem aDL (a0:(List aC)) (r:Int) (h:nO a0=some r):eL Ik 152 [.slice false (a0.map aO.d)] (.int .i64 r):=Dl o14 (a0,()) r h (by kernel_rfl) (by kernel_rfl)
def s15:CS tEl:=⟨[.agg 6],[kB],fun z=>qF z.1⟩
def X15:=cX1 (fun t=>Aj t 72||Aj t 73||Aj t 76) [(152,s14)] []
theorem o15:CsOk Ik tCod 119 s15:=aV (X15 Ik) ⟨o14,trivial⟩ trivial func119 rfl
def s16:CS tEl:=⟨[kI],[kB],fun z=>mV z.1⟩
def X16:=cX1 (fun t=>Aj t 72||Aj t 73||Aj t 76) [] []
theorem o16:CsOk Ik tCod 96 s16:=aV (X16 Ik) trivial trivial func96 rfl
def s17:CS tEl:=⟨[.agg 4],[.agg 5],fun z=>iJ z.1⟩
def X17:=cX1 (fun t=>Aj t 72||Aj t 73||Aj t 76) [] []
theorem o17:CsOk Ik tCod 98 s17:=aV (X17 Ik) trivial trivial func98 rfl
theorem iV (a0:(List aC)) (r:(List aC)) (h:bW a0=some r):FnH Ik 148 [.slice false (a0.map aO.d)] [] (.osl 0 aO.sz r.length) [(0,.blk 182 (Al (r.map aO.d)))]:=by
 refine pS (rs:=[.osl 0 aO.sz r.length]) func148 M ntmps148 (nle M) fun O hO=>?_
 show IWP _ _ _ _ ⟨[(0,.slice false (a0.map aO.d))],[]⟩ _
 unfold bW at h;refine aJ (cAs (.nils) M<|aI ?_);refine bG<|aJ (aE M (mvL M M M M)<|aAP M M M (by decide) underlying27 (svL M) M<|fun bn1 hbn1 =>
  aI ?_)
 refine oG (b:=_) M (fun hc2=>?_) (fun hc2=>?_)
 ·
  replace h:=aDv h (mapE (hbn1 hc2));refine aJ (cAs (.nils) M<|aI ?_);refine bJ<|cN ?_;obtain rfl:=sj_ h;refine ⟨.inr M,(fun i=>if i=0 then 50 else i),⟨.nil,(.cons (.nilb M) .nil),dF [50] M (by decide),(fun i hi=>by first | rfl | (show (if _ then _ else _)=_; (repeat' split) <;> omega))⟩,(.cons (svno M) .nil),M⟩
 ·
  replace h:=aDw h;refine bS<|aT ?_;obtain ⟨x3,hx3,h⟩:=eC h;refine aJ (aE M (qM aO.toEnc0 ([]:(List aC)) 0 M M (lb M) underlying27 uW M .nil M M (by decide))<|aE M (mvL M M M M)<|aE M (wB aO.toEnc0 1 M M (lb M) underlying27 uW M M M M M (aFO aO (ys:=a0) (svL M)) hx3)<|cAs (.osl _ _ _) M<|aI ?_);refine bJ ?_;obtain rfl:=sj_ h;refine ⟨.inr M,(fun i=>if i=0 then 1 else i),⟨.nil,(.cons (Cd M) .nil),dF [1] M (by decide),(fun i hi=>by first | rfl | (show (if _ then _ else _)=_; (repeat' split) <;> omega))⟩,(.cons (sv M) .nil),M⟩
def s18:HS tEl:=⟨[.sl 0 (.one (.sl 5))],1,0,[.vf 0 .one [.os 0 182 5]],1,1,(List aC),fun y=>y.1.1,fun z r=>(((r:List _),()),()),fun z=>bW z.1⟩
theorem o18:HsOk tCod Ik 148 s18:=HK cl148 (by kernel_rfl) (fun z r h=>⟨_,_,_,_,iV z.1 r h,by kernel_rfl,by kernel_rfl,by kernel_rfl,by kernel_rfl⟩)
theorem aBl (a0:(List aC)) (a1:aC) (r:(List aC)) (h:rR a0 a1=some r):eL Ik 93 [.slice false (a0.map aO.d),.agg [.int .i64 a1.aa,.int .i64 a1.To]] (.slice false (r.map aO.d)):=by
 refine pP (rs:=[.slice false (r.map aO.d)]) func93 M ntmps93 (nle M) M fun O hO=>?_
 show IWP _ _ _ _ ⟨[(0,.slice false (a0.map aO.d)),(1,.agg [.int .i64 a1.aa,.int .i64 a1.To])],[]⟩ _
 unfold rR at h;refine aJ (cBx (cs:=q14) q14 0 M<|cAs (.nils) M<|aI ?_);refine bG ?_;obtain ⟨x1,hx1,x2,hx2,x3,hx3,h⟩:=eood h;obtain ⟨x4,hx4,x5,hx5,x6,hx6,h⟩:=eodd h;refine aJ (cLr q14 aHy M<|aE M (eZ (r:=.bool _) M M (lb M) cl150 (.cons (svA q14 M) .nil) M (aBF _ _ hx1))<|aE M (qJ M M (lb M) (svB M))<|cB M<|gG M (fun hb=>(tLr q14 aHy M))<|gG M (fun hb=>(eZ (r:=.bool _) M M (lb M) cl151 (.cons (svc (d:=.agg [.int .i64 a1.aa,.int .i64 a1.To]) M hb) .nil) M (vB _ _ (gd_t hx2 hb))))<|cOr M hx3<|cB M<|gG M (fun hb=>(mvL M M M M))<|gG M (fun hb=>(eZ (r:=.int _ _) M M (lb M) cl152 (.cons (svcL M hb) .nil) M (aDL _ _ (gd_t hx4 hb))))<|gG M (fun hb=>(tCg (b:=0) M hb hx5))<|cOr M hx6<|aI ?_);refine bE h M (fun h=>?_) (fun h=>?_)
 ·
  obtain ⟨x8,hx8,h⟩:=eC h;refine aJ (aE M (mvL M M M M)<|aE M (tA (r':=.osl 1 aO.sz x8.length) (H1':=[(1,.blk 182 (Al (x8.map aO.d)))]) 1 [] M M (lb M) cl148 (.cons (svL M) .nil) M M ⟨M,M,by decide,M,BU _⟩ (iV _ _ hx8) M M (BL.2 ⟨⟨M,(aGY aO)⟩,BU _⟩) (by simp only [AB,BI,Fm,tP,uC]; rfl))<|cAs (.osl _ _ _) M<|aI ?_);refine bJ<|cN ?_;obtain rfl:=sj_ h;refine ⟨.inr M,_,(.cons (sv M) .nil),(.cons (FDT aO M M) .nil)⟩
 ·
  refine bS<|aT<|aJ (aE M (fA (cs:=[.nils]) (cs':=[.nils]) 1 M M (lb M) M ti27 M M (.all _))<|aI ?_);refine bG<|aJ (aE M (mvL M M M M)<|cLr q14 aHy M <|?_);refine aBQ (S':=⟨[(5,.ref 1 0),(21,.slice false (a0.map aO.d)),(22,.agg [.int .i64 a1.aa,.int .i64 a1.To])],[(1,.blk 27 [.nils])]⟩) (fun i=>i) ⟨(.sames M M),(.cons (.blk M M M) .nil),dF [1] M (by decide),fun _ _=>M⟩<|aJf 1 2 M M M (by decide) cl153 func153 M (.cons (svL M) (.cons (svA q14 M) .nil)) ntmps153 (nle M) M hO fun O1 hO1=>?_
  show IWP _ _ _ _ ⟨[(0,.slice false (a0.map aO.d)),(1,.agg [.int .i64 a1.aa,.int .i64 a1.To])],[(2,.kept 1 (dd_ 5 (.ref 1 0::(dd_ 15 (.slice false (a0.map aO.d)::(.agg [.int .i64 a1.aa,.int .i64 a1.To]::(dd_ 7 []))))))),(1,.blk 27 [.nils])]⟩ _
  refine aJ (aE M (aBP (cs:=[.slice _ _]) 3 M M (lb M) M (svL M) M M)<|cBx (cs:=q14) q14 4 M<|cAs (.nilf) M<|aI ?_);refine aJ (aE M (uF M M (lb M) (.cons (svR M) (.cons (svR M) .nil)))<|cAs (.fn 193 [.ref _ _,.ref _ _]) M<|aI ?_);refine bJ ?_;refine ⟨.inr M,2,_,[.fn 193 [.ref 3 0,.ref 4 0]],(.cons (sv M) .nil),M,M,⟨[(5,.ref 1 0),(23,.fn 193 [.ref 3 0,.ref 4 0])],[(1,.blk 27 [.nils]),(3,.blk 27 [.slice false (a0.map aO.d)]),(4,.blk 182 [.int .i64 a1.aa,.int .i64 a1.To])]⟩,(fun i=>i),⟨(.sames M M),(.cons (.blk M M M) (.cons (.blk M M M) (.cons (.blk M M M) .nil))),dF [1,3,4] M (by decide),fun _ _=>M⟩,?_⟩;refine aI<|bT<|aAC (S':=⟨[(5,.ref 1 0),(23,.fn 193 [.ref 3 0,.ref 4 0])],[(1,.blk 27 [.nils]),(3,.blk 27 [.slice false (a0.map aO.d)]),(4,.blk 182 [.int .i64 a1.aa,.int .i64 a1.To])]⟩) (fun i=>i) ⟨(.sames M M),(.cons (.blk M M M) (.cons (.blk M M M) (.cons (.blk M M M) .nil))),dF [1,3,4] M (by decide),fun _ _=>M⟩<|aEa 1 5 6 (sv (d:=.fn 193 [.ref _ _,.ref _ _]) M) cl193 func193 M M ntmps193 (nle M) M M hO fun O1 hO1 hlc1=>?_
  show IWP _ _ _ _ ⟨[(0,.yld 5),(1,.ref 3 0),(2,.ref 4 0)],[(6,.kept 1 (dd_ 5 (.ref 1 0::(dd_ 17 (.fn 193 [.ref 3 0,.ref 4 0]::(dd_ 6 [])))))),(5,.loop 1 [.dead,.dead,.dead,.dead,.dead,.ref 1 0,.dead,.dead,.dead,.dead,.dead,.dead,.dead,.dead,.dead,.dead,.dead,.dead,.dead,.dead,.dead,.dead,.dead,.fn 193 [.ref 3 0,.ref 4 0],.dead,.dead,.dead,.dead,.dead,.dead] .ready none),(1,.blk 27 [.nils]),(3,.blk 27 [.slice false (a0.map aO.d)]),(4,.blk 182 [.int .i64 a1.aa,.int .i64 a1.To])]⟩ _
  refine aJ (aE M (lrL la27 M M M M M (nle M) M)<|aE M (qK aO (l:=a0) M M (lb M) underlying27 (svL M))<|cMv (.int _ 0) M<|aI ?_);refine bT<|lX (α:=Nat×Int×(List aC)) (fun z=>⟨[(0,.yld 5),(2,.ref 4 0),(8,.slice false (a0.map aO.d)),(9,.int .i64 (a0.length:Int)),(10,.int .i64 z.2.1)],[(5,.loop 1 [.dead,.dead,.dead,.dead,.dead,.ref 1 0,.dead,.dead,.dead,.dead,.dead,.dead,.dead,.dead,.dead,.dead,.dead,.dead,.dead,.dead,.dead,.dead,.dead,.fn 193 [.ref 3 0,.ref 4 0],.dead,.dead,.dead,.dead,.dead,.dead] .ready none),(4,.blk 182 [.int .i64 a1.aa,.int .i64 a1.To]),(6,.kept 1 (dd_ 5 (.ref 1 0::(dd_ 17 (.fn 193 [.ref 3 0,.ref 4 0]::(dd_ 6 [])))))),(1,.blk 27 [.osl 28 aO.sz z.2.2.length]),(3,.blk 27 [.slice false (a0.map aO.d)]),(28,.blk 182 (Al (z.2.2.map aO.d)))]⟩) (fun z=>lF a0 a1 z.1 z.2.1 z.2.2=some r) (fun z=>z.1) (fuel,0,([]:(List aC))) (fun i=>if i=28 then 85 else i) ⟨(.sames M M),(.cons (.loop M M M) (.cons (.blk M M M) (.cons (.kept M M M) (.cons (.sub M (.nilo .nil) M) (.cons (.blk M M M) (.cons (.nilb M) .nil)))))),dF [5,4,6,1,3,85] M (by decide),(fun i hi=>by first | rfl | (show (if _ then _ else _)=_; (repeat' split) <;> omega))⟩ ?_ ?_
  ·exact h
  ·
   rintro ⟨n0,v52,v53⟩ h
   cases n0 with
   | zero=>exact AP h (by unfold lF; exact nofun)
   | succ n0 =>
    unfold lF at h;obtain ⟨x97,hx97,h⟩:=dM h;refine aJ (cCm M hx97<|aI ?_);refine bG<|bE h M (fun h=>?_) (fun h=>?_)
    ·
     refine bS<|aT<|bG<|bT ?_;obtain ⟨x99,hx99,h⟩:=eC h;refine aJ (aE M (aAK aO (cs:=q14) M M (lb M) underlying27 uW (svL M) (svI M) hx99 M M)<|aE M (aBt (cs:=q14) M M (lb M) underlying182 ag182 uW (by decide) (sv (d:=.fptr q14) M) (nle M) M)<|aE M (fA (cs:=q14) (cs':=[.int .i64 0,.int .i64 0]) 29 M M (lb M) M uW M M (.all _))<|cSt q14 q14 uW M<|aI ?_);obtain ⟨x100,hx100,x101,hx101,h⟩:=edd h;refine aJ (cFa 0 underlying182 M ti3 M<|cLd (d:=.int _ _) underlying3 ag3 ti3 M<|cFa 1 underlying182 M ti3 M<|cLd (d:=.int _ _) underlying3 ag3 ti3 M<|cFa 0 underlying182 M ti3 M<|cLd (d:=.int _ _) underlying3 ag3 ti3 M<|aE M (aGS M M (lb M) (svI M) (svI M) hx100)<|aE M (gO (cs:=q14) M M (lb M) underlying182 uW pl182 M (.cons (svI M) (.cons (svI M) .nil)) M)<|cFa 0 underlying182 M ti3 M<|cLd (d:=.int _ _) underlying3 ag3 ti3 M<|cFa 1 underlying182 M ti3 M<|cLd (d:=.int _ _) underlying3 ag3 ti3 M<|aE M (aAI M M (lb M) (svI M) (svI M) hx101)<|cFa 1 underlying182 M ti3 M<|cLd (d:=.int _ _) underlying3 ag3 ti3 M<|aE M (gO (cs:=q14) M M (lb M) underlying182 uW pl182 M (.cons (svI M) (.cons (svI M) .nil)) M)<|aE M (aBw (cs:=[.int _ _,.int _ _,.int _ _,.int _ _]) M M (lb M) underlying270 ti270 uW M (.cons (svA q14 M) (.cons (svA q14 M) .nil)) M)<|cMv (.int _ 0) M<|aI ?_);refine bT<|lX (α:=Nat×Int×(List aC)) (fun z=>⟨[(0,.yld 5),(2,.ref 4 0),(8,.slice false (a0.map aO.d)),(9,.int .i64 (a0.length:Int)),(10,.int .i64 v52),(30,.agg (w19 x99.aa x100 x101 x99.To)),(31,.int .i64 z.2.1)],[(5,.loop 1 [.dead,.dead,.dead,.dead,.dead,.ref 1 0,.dead,.dead,.dead,.dead,.dead,.dead,.dead,.dead,.dead,.dead,.dead,.dead,.dead,.dead,.dead,.dead,.dead,.fn 193 [.ref 3 0,.ref 4 0],.dead,.dead,.dead,.dead,.dead,.dead] .ready none),(4,.blk 182 [.int .i64 a1.aa,.int .i64 a1.To]),(6,.kept 1 (dd_ 5 (.ref 1 0::(dd_ 17 (.fn 193 [.ref 3 0,.ref 4 0]::(dd_ 6 [])))))),(1,.blk 27 [.osl 28 aO.sz z.2.2.length]),(3,.blk 27 [.slice false (a0.map aO.d)]),(28,.blk 182 (Al (z.2.2.map aO.d)))]⟩) (fun z=>gN v52 (lF a0 a1 n0) x99 x100 x101 z.1 z.2.1 z.2.2=some r) (fun z=>z.1) (fuel,0,v53) (fun i=>i) ⟨(.sames M M),(.cons (.loop M M M) (.cons (.blk M M M) (.cons (.kept M M M) (.cons (.blk M M M) (.cons (.blk M M M) (.cons (Cd M) .nil)))))),dF [5,4,6,1,3,28] M (by decide),fun _ _=>M⟩ ?_ ?_
     ·exact h
     ·
      rintro ⟨n1,v113,v114⟩ h
      cases n1 with
      | zero=>exact AP h (by unfold gN; exact nofun)
      | succ n1 =>
       unfold gN at h;obtain ⟨x127,hx127,h⟩:=dM h;refine aJ (cCm (b:=2) M hx127<|aI ?_);refine bG<|bE h M (fun h=>?_) (fun h=>?_)
       ·
        refine bS<|aT<|bG<|bT ?_;obtain ⟨x129,hx129,h⟩:=eC h;refine aJ (aE M (aEh aO (ds:=q14) M M (lb M) underlying270 underlying182 ag182 uW (by decide) (sv (d:=.agg [.int _ _,.int _ _,.int _ _,.int _ _]) M) (svI M) hx129 M ⟨M,⟨M,trivial⟩⟩ M M)<|aE M (fA (cs:=q14) (cs':=[.int .i64 0,.int .i64 0]) 29 M M (lb M) M uW M M (.all _))<|cSt q14 q14 uW M<|aI ?_);obtain ⟨x130,hx130,h⟩:=eC h;refine aJ (cLr q14 aHy M<|aE M (eZ (r:=.bool _) M M (lb M) cl151 (.cons (svA q14 M) .nil) M (vB _ _ hx130))<|aE M (qJ M M (lb M) (svB M))<|cB M<|gG M (fun hb=>(tMv (.yld _) M))<|gG M (fun hb=>(tLr q14 aHy M)) <|?_);refine aH5 M M (.one M) M (by decide) (fun hc131=>?_) (fun hc131=>?_)
        ·
         replace h:=aMK h hc131;refine aEr 38 M hc131<|aEr 39 M hc131<|aBQ (S':=⟨[(0,.yld 5),(2,.ref 4 0),(8,.slice false (a0.map aO.d)),(9,.int .i64 (a0.length:Int)),(10,.int .i64 v52),(30,.agg (w19 x99.aa x100 x101 x99.To)),(31,.int .i64 v113),(37,.bool (!x130)),(38,.yld 5),(39,.agg [.int .i64 x129.aa,.int .i64 x129.To])],[(1,.blk 27 [.osl 28 aO.sz v114.length]),(3,.blk 27 [.slice false (a0.map aO.d)]),(4,.blk 182 [.int .i64 a1.aa,.int .i64 a1.To]),(5,.loop 1 [.dead,.dead,.dead,.dead,.dead,.ref 1 0,.dead,.dead,.dead,.dead,.dead,.dead,.dead,.dead,.dead,.dead,.dead,.dead,.dead,.dead,.dead,.dead,.dead,.fn 193 [.ref 3 0,.ref 4 0],.dead,.dead,.dead,.dead,.dead,.dead] .ready none),(6,.kept 1 (dd_ 5 (.ref 1 0::(dd_ 17 (.fn 193 [.ref 3 0,.ref 4 0]::(dd_ 6 [])))))),(28,.blk 182 (Al (v114.map aO.d)))]⟩) (fun i=>i) ⟨(.sames M M),(.cons (.blk M M M) (.cons (.blk M M M) (.cons (.blk M M M) (.cons (.loop M M M) (.cons (.kept M M M) (.cons (Cd M) .nil)))))),dF [1,3,4,5,6,28] M (by decide),fun _ _=>M⟩<|aEq 2 5 30 M M M (by decide) M (.cons (svA q14 M) .nil) M M M M M M hO1 hlc1 ⟨[(24,.agg [.int .i64 x129.aa,.int .i64 x129.To]),(5,.ref 1 0)],[(1,.blk 27 [.osl 28 aO.sz v114.length]),(3,.blk 27 [.slice false (a0.map aO.d)]),(4,.blk 182 [.int .i64 a1.aa,.int .i64 a1.To]),(5,.loop 1 [.dead,.dead,.dead,.dead,.dead,.ref 1 0,.dead,.dead,.dead,.dead,.dead,.dead,.dead,.dead,.dead,.dead,.dead,.dead,.dead,.dead,.dead,.dead,.dead,.fn 193 [.ref 3 0,.ref 4 0],.dead,.dead,.dead,.dead,.dead,.dead] .ready none),(6,.kept 1 (dd_ 5 (.ref 1 0::(dd_ 17 (.fn 193 [.ref 3 0,.ref 4 0]::(dd_ 6 [])))))),(28,.blk 182 (Al (v114.map aO.d))),(30,.kept 2 (.yld 5::(.dead::(.ref 4 0::(dd_ 5 (.slice false (a0.map aO.d)::(.int .i64 (a0.length:Int)::(.int .i64 v52::(dd_ 19 (.agg (w19 x99.aa x100 x101 x99.To)::(.int .i64 v113::(dd_ 5 (.bool (!x130)::(.yld 5::(.agg [.int .i64 x129.aa,.int .i64 x129.To]::(dd_ 5 []))))))))))))))))]⟩ (fun i=>i) ⟨(.sames M M),(.cons (.blk M M M) (.cons (.blk M M M) (.cons (.blk M M M) (.cons (.loop M M M) (.cons (.kept M M M) (.cons (Cd M) (.cons (.kept M M M) .nil))))))),dF [1,3,4,5,6,28,30] M (by decide),fun _ _=>M⟩ fun O2=>?_
         refine bN (aE M (fA (cs:=q14) (cs':=[.int .i64 0,.int .i64 0]) 31 M M (lb M) M uW M M (.all _))<|cSt q14 q14 uW M<|dJ ?_);refine ⟨M,5,_,M,⟨[(5,.ref 1 0),(6,.ref 31 0)],[(1,.blk 27 [.osl 28 aO.sz v114.length]),(3,.blk 27 [.slice false (a0.map aO.d)]),(4,.blk 182 [.int .i64 a1.aa,.int .i64 a1.To]),(5,.loop 1 [.dead,.dead,.dead,.dead,.dead,.ref 1 0,.dead,.dead,.dead,.dead,.dead,.dead,.dead,.dead,.dead,.dead,.dead,.dead,.dead,.dead,.dead,.dead,.dead,.fn 193 [.ref 3 0,.ref 4 0],.dead,.dead,.dead,.dead,.dead,.dead] .busy none),(6,.kept 1 (dd_ 5 (.ref 1 0::(dd_ 17 (.fn 193 [.ref 3 0,.ref 4 0]::(dd_ 6 [])))))),(28,.blk 182 (Al (v114.map aO.d))),(30,.kept 2 (.yld 5::(.dead::(.ref 4 0::(dd_ 5 (.slice false (a0.map aO.d)::(.int .i64 (a0.length:Int)::(.int .i64 v52::(dd_ 19 (.agg (w19 x99.aa x100 x101 x99.To)::(.int .i64 v113::(dd_ 5 (.bool (!x130)::(.yld 5::(.agg [.int .i64 x129.aa,.int .i64 x129.To]::(dd_ 5 [])))))))))))))))),(31,.blk 182 [.int .i64 x129.aa,.int .i64 x129.To])]⟩,(fun i=>i),⟨(.sames M M),(.cons (.blk M M M) (.cons (.blk M M M) (.cons (.blk M M M) (.cons (.loop M M M) (.cons (.kept M M M) (.cons (Cd M) (.cons (.kept M M M) (.cons (.blk M M M) .nil)))))))),dF [1,3,4,5,6,28,30,31] M (by decide),fun _ _=>M⟩,?_⟩;refine bT ?_;obtain ⟨x132,hx132,h⟩:=eC h;refine bN (cLd (d:=.osl _ _ _) underlying27 ag27 ti27 M<|cLr q14 aHy M<|aE M (qM aO.toEnc0 ([(⟨x129.aa,x129.To⟩:aC)]:(List aC)) 32 M M (lb M) underlying27 uW M (.cons (svA q14 M) .nil) M M (by decide))<|aE M (wB aO.toEnc0 33 M M (lb M) underlying27 uW M M M M M (aAf aO.toEnc0 M M M) hx132)<|aE M (cY (ds':=[.osl _ _ _]) M M ti27 (svR M) M (sv (d:=.osl _ _ _) M) M M M (nle M) M)<|dJ ?_);refine cV ?_;refine ⟨5,30,_,_,none,M,M,M,M,(by decide),⟨[(0,.yld 5),(2,.ref 4 0),(8,.slice false (a0.map aO.d)),(9,.int .i64 (a0.length:Int)),(10,.int .i64 v52),(30,.agg (w19 x99.aa x100 x101 x99.To)),(31,.int .i64 v113),(37,.bool (!x130)),(38,.yld 5),(39,.agg [.int .i64 x129.aa,.int .i64 x129.To]),(40,.bool true)],[(1,.blk 27 [.osl 33 aO.sz x132.length]),(3,.blk 27 [.slice false (a0.map aO.d)]),(4,.blk 182 [.int .i64 a1.aa,.int .i64 a1.To]),(5,.loop 1 [.dead,.dead,.dead,.dead,.dead,.ref 1 0,.dead,.dead,.dead,.dead,.dead,.dead,.dead,.dead,.dead,.dead,.dead,.dead,.dead,.dead,.dead,.dead,.dead,.fn 193 [.ref 3 0,.ref 4 0],.dead,.dead,.dead,.dead,.dead,.dead] .ready none),(6,.kept 1 (dd_ 5 (.ref 1 0::(dd_ 17 (.fn 193 [.ref 3 0,.ref 4 0]::(dd_ 6 [])))))),(33,.blk 182 (Al (x132.map aO.d)))]⟩,(fun i=>i),⟨(.sames M M),(.cons (.blk M M M) (.cons (.blk M M M) (.cons (.blk M M M) (.cons (.loop M M M) (.cons (.kept M M M) (.cons (Cd M) .nil)))))),dF [1,3,4,5,6,33] M (by decide),fun _ _=>M⟩,?_⟩;obtain ⟨x133,hx133,h⟩:=dM h;refine gG M (fun hb=>(qJ M M (lb M) (svB M)))<|cAn M hx133<|aI ?_;refine bE h M (fun h=>?_) (fun h=>?_)
         ·
          refine bJ<|eA<|cN<|cN<|eA<|eA<|cN<|cN<|eA ?_;refine ⟨.inr M,5,6,_,_,_,_,M,(by simp),M,M,⟨[(5,.ref 1 0)],[(1,.blk 27 [.osl 33 aO.sz x132.length]),(33,.blk 182 (Al (x132.map aO.d)))]⟩,(fun i=>i),⟨(.sames M M),(.cons (.blk M M M) (.cons (Cd M) .nil)),dF [1,33] M (by decide),fun _ _=>M⟩,?_⟩;refine cV<|aT<|aJ (cLd (d:=.osl _ _ _) underlying27 ag27 ti27 M<|cAs (.osl _ _ _) M<|aI ?_);refine bJ ?_;obtain rfl:=sj_ h;refine ⟨.inr M,_,(.cons (sv M) .nil),(.cons (FDT aO M M) .nil)⟩
         ·
          refine bS<|cV<|aT ?_;obtain ⟨x135,hx135,h⟩:=dM h;refine bN (aE M (cT M M (lb M) (svI M) (sv (d:=.int _ 1) M) M hx135)<|cI M<|dJ ?_);refine aT ⟨(n1,x135,x132),(fun i=>if i=28 then 33 else i),⟨(.sames M M),(.cons (.loop M M M) (.cons (.blk M M M) (.cons (.kept M M M) (.cons (.blk M M M) (.cons (.blk M M M) (.cons (Cd M) .nil)))))),dF [5,4,6,1,3,33] M (by decide),(fun i hi=>by first | rfl | (show (if _ then _ else _)=_; (repeat' split) <;> omega))⟩,?_,?_⟩;exact h;exact BH _
        ·
         replace h:=aML h hc131;obtain ⟨x136,hx136,h⟩:=dM h;refine gG M (fun hb=>(qJ M M (lb M) (svcB M hb)))<|cAn M hx136<|aI ?_;refine bE h M (fun h=>?_) (fun h=>?_)
         ·
          refine bJ<|eA<|cN<|cN<|eA<|eA<|cN<|cN<|eA ?_;refine ⟨.inr M,5,6,_,_,_,_,M,(by simp),M,M,⟨[(5,.ref 1 0)],[(1,.blk 27 [.osl 28 aO.sz v114.length]),(28,.blk 182 (Al (v114.map aO.d)))]⟩,(fun i=>i),⟨(.sames M M),(.cons (.blk M M M) (.cons (Cd M) .nil)),dF [1,28] M (by decide),fun _ _=>M⟩,?_⟩;refine cV<|aT<|aJ (cLd (d:=.osl _ _ _) underlying27 ag27 ti27 M<|cAs (.osl _ _ _) M<|aI ?_);refine bJ ?_;obtain rfl:=sj_ h;refine ⟨.inr M,_,(.cons (sv M) .nil),(.cons (FDT aO M M) .nil)⟩
         ·
          refine bS<|cV<|aT ?_;obtain ⟨x138,hx138,h⟩:=dM h;refine bN (aE M (cT M M (lb M) (svI M) (sv (d:=.int _ 1) M) M hx138)<|cI M<|dJ ?_);refine aT ⟨(n1,x138,v114),(fun i=>i),⟨(.sames M M),(.cons (.loop M M M) (.cons (.blk M M M) (.cons (.kept M M M) (.cons (.blk M M M) (.cons (.blk M M M) (.cons (Cd M) .nil)))))),dF [5,4,6,1,3,28] M (by decide),fun _ _=>M⟩,?_,?_⟩;exact h;exact BH _
       ·
        refine dW<|aY<|aY<|eB<|cV<|aT ?_;obtain ⟨x139,hx139,h⟩:=dM h;refine bN (aE M (cT M M (lb M) (svI M) (sv (d:=.int _ 1) M) M hx139)<|cI M<|dJ ?_);refine aT ⟨(n0,x139,v114),(fun i=>i),⟨(.sames M M),(.cons (.loop M M M) (.cons (.blk M M M) (.cons (.kept M M M) (.cons (.blk M M M) (.cons (.blk M M M) (.cons (Cd M) .nil)))))),dF [5,4,6,1,3,28] M (by decide),fun _ _=>M⟩,?_,?_⟩;exact h;exact BH _
    ·
     refine dW<|aY<|aY<|eB ?_;refine ⟨.inl M,5,6,_,_,_,_,M,(by simp),M,M,⟨[(5,.ref 1 0)],[(1,.blk 27 [.osl 28 aO.sz v53.length]),(28,.blk 182 (Al (v53.map aO.d)))]⟩,(fun i=>i),⟨(.sames M M),(.cons (.blk M M M) (.cons (Cd M) .nil)),dF [1,28] M (by decide),fun _ _=>M⟩,?_⟩;refine cV<|aT<|aJ (cLd (d:=.osl _ _ _) underlying27 ag27 ti27 M<|cAs (.osl _ _ _) M<|aI ?_);refine bJ ?_;obtain rfl:=sj_ h;refine ⟨.inr M,_,(.cons (sv M) .nil),(.cons (FDT aO M M) .nil)⟩
def s19:CS tEl:=⟨[.one (.sl 5),.agg 5],[.one (.sl 5)],fun z=>rR z.1 z.2.1⟩
theorem o19:CsOk Ik tCod 93 s19:=FI cl93 (fun z r h=>⟨_,_,aBl z.1 z.2.1 r h,by kernel_rfl,by kernel_rfl⟩)
def s20:CS tEl:=⟨[.one (.sl 5),.agg 5],[.one (.sl 5)],fun z=>xV z.1 z.2.1⟩
def X20:=cX0 [(150,s7),(152,s14),(151,s11),(93,s19)]
theorem h20:FsOk (X20 Ik):=Bk (C:=(X20 Ik)) ⟨o7,o14,o11,o19,trivial⟩ trivial
def W20 (P:An) (f:Func):Fw (X20 P):=⟨f,s20.acx,s20.rs⟩
abbrev aMF (m0:Nat):Ct (X20 Ik) (Bb tEl s20.rs):=⟨[0,1,0,1,1,1],[.sl 5 (.one (.sl 5)),.sl 22 (.one (.sl 5)),.sl 23 kI,.sl 24 kI],fun z=>(z.1,z.2.1,((z.2.1.length:Int):Int),z.2.2.2.1,()),0,fun z=>oH z.2.1 m0 z.1 z.2.2.2.1⟩
theorem t20_0 {O:aR} {r:Bb tEl s20.rs}:∀ m0,SndW (W20 Ik f177) O r (aMF m0):=bH (W:=(W20 Ik f177)) h20 (fun m0=>aMF m0) (fun m0=>[aMF m0]) (fun m0 e0=>⟨e0,trivial⟩)
theorem o20:CsOk Ik tCod 177 s20:=bR (W:=(W20 Ik f177)) h20 func177 rfl [aMF fuel] (fun O r _=>⟨(t20_0 fuel),trivial⟩)
def s21:CS tEl:=⟨[.one (.sl 5),.one (.sl 5)],[kB],fun z=>gA z.1 z.2.1⟩
def X21:=cX0 []
theorem h21:FsOk (X21 Ik):=Bk (C:=(X21 Ik)) trivial trivial
def W21 (P:An) (f:Func):Fw (X21 P):=⟨f,s21.acx,s21.rs⟩
abbrev aME (m0:Nat):Ct (X21 Ik) (Bb tEl s21.rs):=⟨[0,1,0,1,1],[.sl 0 (.one (.sl 5)),.sl 1 (.one (.sl 5)),.sl 12 kI,.sl 13 kI],fun z=>(z.1,z.2.1,((z.1.length:Int):Int),z.2.2.2.1,()),0,fun z=>cD z.1 z.2.1 m0 z.2.2.2.1⟩
theorem t21_0 {O:aR} {r:Bb tEl s21.rs}:∀ m0,SndW (W21 Ik f183) O r (aME m0):=bH (W:=(W21 Ik f183)) h21 (fun m0=>aME m0) (fun m0=>[aME m0]) (fun m0 e0=>⟨e0,trivial⟩)
theorem o21:CsOk Ik tCod 183 s21:=bR (W:=(W21 Ik f183)) h21 func183 rfl [aME fuel] (fun O r _=>⟨(t21_0 fuel),trivial⟩)
def s22:CS tEl:=⟨[.one (.sl 5),.one (.sl 5)],[kB],fun z=>vD z.1 z.2.1⟩
def X22:=cX0 [(183,s21)]
theorem o22:CsOk Ik tCod 131 s22:=aV (X22 Ik) ⟨o21,trivial⟩ trivial func131 rfl
def s23:CS tEl:=⟨[.agg 6,.agg 4,kI],[kB],fun z=>qG z.1 z.2.1 z.2.2.1⟩
def X23:=cX1 (fun t=>Aj t 72||Aj t 73||Aj t 76) [(96,s16),(98,s17),(177,s20),(131,s22)] []
theorem o23:CsOk Ik tCod 120 s23:=aV (X23 Ik) ⟨o16,o17,o20,o22,trivial⟩ trivial func120 rfl
def s24:CS tEl:=⟨[.agg 6],[kI],fun z=>eX z.1⟩
def X24:=cX1 (fun t=>Aj t 72||Aj t 73||Aj t 76) [] []
theorem o24:CsOk Ik tCod 90 s24:=aV (X24 Ik) trivial trivial func90 rfl
theorem sF (a0:aF) (r:Int) (h:eX a0=some r):eL Ik 90 [.agg [.int .i64 a0.ag,.str a0.aj,.int .i64 a0.ak,.slice false (a0.ah.map aB.d),.slice false (a0.ay.map aO.d),.bool a0.aw,.bool a0.az,.bool a0.ax,.bool a0.ba]] (.int .i64 r):=Dl o24 (a0,()) r h (by kernel_rfl) (by kernel_rfl)
def s25:CS tEl:=⟨[.agg 6],[kB],fun z=>tL z.1⟩
def X25:=cX1 (fun t=>Aj t 72||Aj t 73||Aj t 76) [(90,s24)] []
theorem h25:FsOk (X25 Ik):=Bk (C:=(X25 Ik)) ⟨o24,trivial⟩ trivial
def W25 (P:An) (f:Func):Fw (X25 P):=⟨f,s25.acx,s25.rs⟩
abbrev aMD (m0:Nat):Ct (X25 Ik) (Bb tEl s25.rs):=⟨[0,1,0,1,1],[.vf 1 .one [.rf 0 0],.sl 3 kI,.sl 8 (.one (.sl 4)),.sl 9 kI,.sl 10 kI,.bc 0 29 6],fun z=>(z.1,z.2.1,(z.2.2.2.2.2.1.ah:List _),((z.2.2.2.2.2.1.ah.length:Int):Int),z.2.2.2.2.1,z.2.2.2.2.2.1,()),1,fun z=>gD z.2.2.2.2.2.1 m0 z.2.1 z.2.2.2.2.1⟩
theorem t25_0 {O:aR} {r:Bb tEl s25.rs}:∀ m0,SndW (W25 Ik f121) O r (aMD m0):=bH (W:=(W25 Ik f121)) h25 (fun m0=>aMD m0) (fun m0=>[aMD m0]) (fun m0 e0=>⟨e0,trivial⟩)
theorem o25:CsOk Ik tCod 121 s25:=bR (W:=(W25 Ik f121)) h25 func121 rfl [aMD fuel] (fun O r _=>⟨(t25_0 fuel),trivial⟩)
def s26:CS tEl:=⟨[.agg 6],[kI],fun z=>lU z.1⟩
def X26:=cX1 (fun t=>Aj t 72||Aj t 73||Aj t 76) [(119,s15),(120,s23),(121,s25)] []
theorem h26:FsOk (X26 Ik):=Bk (C:=(X26 Ik)) ⟨o15,o23,o25,trivial⟩ trivial
def W26 (P:An) (f:Func):Fw (X26 P):=⟨f,s26.acx,s26.rs⟩
abbrev c26_0:Ct (X26 Ik) (Bb tEl s26.rs):=⟨[1,0,0,1],[.vf 1 .one [.rf 0 0],.sl 6 kB,.bc 0 29 6],fun z=>z,1,fun z=>oE z.2.2.1 z.2.1⟩
abbrev aKM (m1:Nat):Ct (X26 Ik) (Bb tEl s26.rs):=⟨[0,1,0,1,1,1],[.vf 1 .one [.rf 0 0],.sl 3 kI,.sl 39 (.one (.sl 4)),.sl 40 kI,.sl 41 kI,.bc 0 29 6],fun z=>(z.1,z.2.1,(z.2.2.2.2.2.1.ah:List _),((z.2.2.2.2.2.1.ah.length:Int):Int),z.2.2.2.2.1,z.2.2.2.2.2.1,()),1,fun z=>oD z.2.2.2.2.2.1 m1 z.2.1 z.2.2.2.2.1⟩
theorem t26_1 {O:aR} {r:Bb tEl s26.rs}:∀ m1,SndW (W26 Ik f66) O r (aKM m1):=bH (W:=(W26 Ik f66)) h26 (fun m1=>aKM m1) (fun m1=>[aKM m1]) (fun m1 e1=>⟨e1,trivial⟩)
theorem t26_0 {O:aR} {r:Bb tEl s26.rs}:SndW (W26 Ik f66) O r (c26_0):=fF (W:=(W26 Ik f66)) h26 (c26_0) [aKM fuel] ⟨(t26_1 fuel),trivial⟩
theorem o26:CsOk Ik tCod 66 s26:=bR (W:=(W26 Ik f66)) h26 func66 rfl [c26_0,aKM fuel] (fun O r _=>⟨(t26_0),(t26_1 fuel),trivial⟩)
theorem aEU (a0:aF) (r:Int) (h:lU a0=some r):eL Ik 66 [.agg [.int .i64 a0.ag,.str a0.aj,.int .i64 a0.ak,.slice false (a0.ah.map aB.d),.slice false (a0.ay.map aO.d),.bool a0.aw,.bool a0.az,.bool a0.ax,.bool a0.ba]] (.int .i64 r):=Dl o26 (a0,()) r h (by kernel_rfl) (by kernel_rfl)
def s27:CS tEl:=⟨[.agg 8],[kI],fun z=>tQ z.1⟩
def X27:=cX0 []
theorem o27:CsOk Ik tCod 136 s27:=aV (X27 Ik) trivial trivial func136 rfl
def s28:CS tEl:=⟨[.agg 7],[kI],fun z=>fY z.1⟩
def X28:=cX0 []
theorem o28:CsOk Ik tCod 139 s28:=aV (X28 Ik) trivial trivial func139 rfl
def s29:CS tEl:=⟨[.agg 8],[kI],fun z=>qW z.1⟩
def X29:=cX0 [(136,s27),(139,s28)]
theorem h29:FsOk (X29 Ik):=Bk (C:=(X29 Ik)) ⟨o27,o28,trivial⟩ trivial
def W29 (P:An) (f:Func):Fw (X29 P):=⟨f,s29.acx,s29.rs⟩
abbrev aMC (m0:Nat):Ct (X29 Ik) (Bb tEl s29.rs):=⟨[0,1,0,1,1,1],[.sl 0 (.agg 8),.sl 3 kI,.sl 4 kI,.sl 29 (.one (.sl 7)),.sl 30 kI,.sl 31 kI],fun z=>(z.1,z.2.1,z.2.2.1,(z.1.ao:List _),((z.1.ao.length:Int):Int),z.2.2.2.2.2.1,()),0,fun z=>mX z.1 z.2.2.1 m0 z.2.1 z.2.2.2.2.2.1⟩
theorem t29_0 {O:aR} {r:Bb tEl s29.rs}:∀ m0,SndW (W29 Ik f122) O r (aMC m0):=bH (W:=(W29 Ik f122)) h29 (fun m0=>aMC m0) (fun m0=>[aMC m0]) (fun m0 e0=>⟨e0,trivial⟩)
theorem o29:CsOk Ik tCod 122 s29:=bR (W:=(W29 Ik f122)) h29 func122 rfl [aMC fuel] (fun O r _=>⟨(t29_0 fuel),trivial⟩)
def s30:CS tEl:=⟨[.agg 9],[.agg 11],fun z=>rP z.1⟩
def X30:=cX0 []
theorem o30:CsOk Ik tCod 77 s30:=aV (X30 Ik) trivial trivial func77 rfl
def s31:CS tEl:=⟨[.agg 11],[kI],fun z=>mW z.1⟩
def X31:=cX0 []
theorem o31:CsOk Ik tCod 134 s31:=aV (X31 Ik) trivial trivial func134 rfl
def s32:CS tEl:=⟨[.agg 9],[kI],fun z=>tR z.1⟩
def X32:=cX0 [(77,s30),(134,s31)]
theorem o32:CsOk Ik tCod 123 s32:=aV (X32 Ik) ⟨o30,o31,trivial⟩ trivial func123 rfl
def s33:CS tEl:=⟨[.agg 9],[kI],fun z=>pO z.1⟩
def X33:=cX0 [(122,s29),(123,s32)]
theorem o33:CsOk Ik tCod 67 s33:=aV (X33 Ik) ⟨o29,o32,trivial⟩ trivial func67 rfl
def s34:CS tEl:=⟨[.one (.int .u8)],[kB],fun z=>wE z.1⟩
def X34:=cX0 []
theorem o34:CsOk Ik tCod 162 s34:=aV (X34 Ik) trivial trivial func162 rfl
def s35:CS tEl:=⟨[.one (.int .u64)],[kI],fun z=>qI z.1⟩
def X35:=cX0 []
theorem h35:FsOk (X35 Ik):=Bk (C:=(X35 Ik)) trivial trivial
def W35 (P:An) (f:Func):Fw (X35 P):=⟨f,s35.acx,s35.rs⟩
abbrev c35_0:Ct (X35 Ik) (Bb tEl s35.rs):=⟨[1,1],[.sl 0 (.one (.int .u64)),.sl 2 kI],fun z=>z,0,fun z=>lD z.1 z.2.1⟩
abbrev aMB:Ct (X35 Ik) (Bb tEl s35.rs):=⟨[1,1,1],[.sl 0 (.one (.int .u64)),.sl 2 kI],fun z=>z,0,fun z=>lC z.1 z.2.1⟩
abbrev aKL:Ct (X35 Ik) (Bb tEl s35.rs):=⟨[1,1,1,1],[.sl 0 (.one (.int .u64)),.sl 2 kI],fun z=>z,0,fun z=>lB z.1 z.2.1⟩
theorem t35_2 {O:aR} {r:Bb tEl s35.rs}:SndW (W35 Ik f215) O r (aKL):=fF (W:=(W35 Ik f215)) h35 (aKL) [] trivial
theorem t35_1 {O:aR} {r:Bb tEl s35.rs}:SndW (W35 Ik f215) O r (aMB):=fF (W:=(W35 Ik f215)) h35 (aMB) [aKL] ⟨(t35_2),trivial⟩
theorem t35_0 {O:aR} {r:Bb tEl s35.rs}:SndW (W35 Ik f215) O r (c35_0):=fF (W:=(W35 Ik f215)) h35 (c35_0) [aMB,aKL] ⟨(t35_1),(t35_2),trivial⟩
theorem o35:CsOk Ik tCod 215 s35:=bR (W:=(W35 Ik f215)) h35 func215 rfl [c35_0,aMB,aKL] (fun O r _=>⟨(t35_0),(t35_1),(t35_2),trivial⟩)
def s36:CS tEl:=⟨[.one (.int .u64)],[kI],fun z=>sQ z.1⟩
def X36:=cX0 [(215,s35)]
theorem o36:CsOk Ik tCod 205 s36:=aV (X36 Ik) ⟨o35,trivial⟩ trivial func205 rfl
def s37:CS tEl:=⟨[kI],[kI],fun z=>tE z.1⟩
def X37:=cX0 [(205,s36)]
theorem h37:FsOk (X37 Ik):=Bk (C:=(X37 Ik)) ⟨o36,trivial⟩ trivial
def W37 (P:An) (f:Func):Fw (X37 P):=⟨f,s37.acx,s37.rs⟩
abbrev aMA (m0:Nat):Ct (X37 Ik) (Bb tEl s37.rs):=⟨[0,1,0,1,1],[.sl 0 kI,.sl 10 kI],fun z=>z,0,fun z=>oN z.1 m0 z.2.1⟩
theorem t37_0 {O:aR} {r:Bb tEl s37.rs}:∀ m0,SndW (W37 Ik f168) O r (aMA m0):=bH (W:=(W37 Ik f168)) h37 (fun m0=>aMA m0) (fun m0=>[aMA m0]) (fun m0 e0=>⟨e0,trivial⟩)
theorem o37:CsOk Ik tCod 168 s37:=bR (W:=(W37 Ik f168)) h37 func168 rfl [aMA fuel] (fun O r _=>⟨(t37_0 fuel),trivial⟩)
def s38:CS tEl:=⟨[kS],[kI,kI,kI],fun z=>qS z.1⟩
def X38:=cX0 [(168,s37)]
theorem h38:FsOk (X38 Ik):=Bk (C:=(X38 Ik)) ⟨o37,trivial⟩ trivial
def W38 (P:An) (f:Func):Fw (X38 P):=⟨f,s38.acx,s38.rs⟩
abbrev aL9 (m0:Nat):Ct (X38 Ik) (Bb tEl s38.rs):=⟨[0,1,0,1,1,1,1,1,1],[.sl 5 kI,.sl 6 kI,.sl 7 kI,.sl 29 (.one (.sl 0)),.sl 30 kI,.sl 31 kI],fun z=>(z.1,z.2.1,z.2.2.1,z.2.2.2.1,((z.2.2.2.1.length:Int):Int),z.2.2.2.2.2.1,()),0,fun z=>pV z.1 z.2.1 z.2.2.2.1 m0 z.2.2.1 z.2.2.2.2.2.1⟩
theorem t38_0 {O:aR} {r:Bb tEl s38.rs}:∀ m0,SndW (W38 Ik f209) O r (aL9 m0):=bH (W:=(W38 Ik f209)) h38 (fun m0=>aL9 m0) (fun m0=>[aL9 m0]) (fun m0 e0=>⟨e0,trivial⟩)
theorem o38:CsOk Ik tCod 209 s38:=bR (W:=(W38 Ik f209)) h38 func209 rfl [aL9 fuel] (fun O r _=>⟨(t38_0 fuel),trivial⟩)
theorem aET (a0:(List Ai)) (r:(Int×Int×Int)) (h:qS a0=some r):eL Ik 209 [.str a0] (retD [.int .i64 r.1,.int .i64 r.2.1,.int .i64 r.2.2]):=Dl o38 (a0,()) r h (by kernel_rfl) (by kernel_rfl)
def s39:CS tEl:=⟨[kS],[.agg 2,kI,kI,kI],fun z=>aAt z.1⟩
def X39:=cX0 [(162,s34),(209,s38)]
theorem o39:CsOk Ik tCod 178 s39:=aV (X39 Ik) ⟨o34,o38,trivial⟩ trivial func178 rfl
theorem mK (a0:aA) (r:(List Nat)) (h:eU a0=some r):FnH Ik 166 [.ref 1000 0] [(1000,.blk 81 (tv0 a0))] (.osl 0 (eRef 1000).sz r.length) [(1000,.blk 81 (tv0 a0)),(0,.blk 250 (Al (r.map (eRef 1000).d)))]:=by
 refine pS (rs:=[.osl 0 (eRef 1000).sz r.length]) func166 M ntmps166 (nle M) fun O hO=>?_
 show IWP _ _ _ _ ⟨[(0,.ref 1000 0)],[(1000,.blk 81 (tv0 a0))]⟩ _
 unfold eU at h;refine aJ (cAs (.nils) M<|aI ?_);refine aJ (cAs (.nils) M<|aI ?_);refine bG<|aJ (aE M (mvR M M M M)<|aE M (aS M M (lb M) (svR M))<|cFa 0 underlying81 M ti5 M<|cLd (d:=.int _ _) underlying5 ag5 ti5 M<|aI ?_);refine bT<|bG<|bT<|aDW (α:=(List Nat)) (fun z=>⟨[(0,.ref 1000 0),(3,.osl 1 (eRef 1000).sz z.length)],[(1000,.blk 81 (tv0 a0)),(1,.blk 250 (Al (z.map (eRef 1000).d)))]⟩) (fun z=>fS z=some r) ?_ ?_
 ·
  refine bT<|bG<|bT<|bG<|bT<|bG<|bT<|bG<|bT<|bG<|bT<|bG<|bG<|bG ?_;obtain ⟨x28,hx28,h⟩:=dM h;refine aJ (cCm (b:=0) M hx28<|cAB M<|aI ?_);refine oG (b:=_) M (fun hc29=>?_) (fun hc29=>?_)
  ·
   replace h:=aMK h hc29;refine bS<|aT<|vC M hc29<|dW<|aY<|aY<|eB<|aT ?_;obtain ⟨x30,hx30,h⟩:=eC h;refine lY M [nd1 [3] 24 .nils,nd1 [0] 25 (.ref 1000 0),nd1 [25] 26 (.ref 1000 0),nd1 [26] 27 (.ref 1000 2),nd1 [0] 28 (.ref 1000 0),nd1 [28] 29 (.ref 1000 0),nd1 [29] 30 (.ref 1000 3),⟨[27,30],[0],[(31,.osl 0 (eRef 1000).sz (([2,3]:(List Nat)).length))],[(0,.blk 250 (Al (([2,3]:(List Nat)).map (eRef 1000).d)))]⟩,⟨[24,31],[0,1],[(32,.osl 1 (eRef 1000).sz x30.length)],[(1,.blk 250 (Al (x30.map (eRef 1000).d)))]⟩,nd1 [32] 3 (.osl 1 (eRef 1000).sz x30.length)] M ?_ (by kernel_rfl) ?_
   ·refine .cons (lop M M fun S hA=>(eK M M (lb M) (sv (d:=.nils) (agr hA M M))))<|.cons (dMv M)<|.cons (lop M M fun S hA=>(aS M M (lb M) (svaR hA M M)))<|.cons (dFa 2 underlying81 M ti3 M)<|.cons (dMv M)<|.cons (lop M M fun S hA=>(aS M M (lb M) (svaR hA M M)))<|.cons (dFa 3 underlying81 M ti3 M)<|.cons (lop M M fun S hA=>(qM (eRef 1000) ([2,3]:(List Nat)) 0 M M (lb M) underlying248 sN (agi hA M M) (.cons (svaR hA M M) (.cons (svaR hA M M) .nil)) M M (by decide)))<|.cons (lop M M fun S hA=>(oR (eRef 1000) 1 M M (lb M) underlying248 sN M (agr hA M M) (agi hA M M) (aAf (eRef 1000) (agr hA M M) M (agi hA M M)) hx30))<|.cons (lop M M fun S hA=>(dK M M (lb M) (sv (d:=.osl _ _ _) (agr hA M M)))) ?_
    exact .nil
   refine dW<|bO M<|aY<|bO M<|aY<|bO M<|aY<|bO M<|aY<|bO M<|aY<|bO M<|aY<|eB<|aT<|aJ (cMv (.osl _ _ _) M<|cAs (.osl _ _ _) M<|aI ?_);refine bJ ?_;obtain rfl:=sj_ h;refine ⟨.inr M,(fun i=>if i=0 then 1 else i),⟨.nil,(.cons (.blk M M M) (.cons (Dj M M) .nil)),dF [1000,1] M (by decide),(fun i hi=>by first | rfl | (show (if _ then _ else _)=_; (repeat' split) <;> omega))⟩,(.cons (sv M) .nil),M⟩
  ·
   replace h:=aML h hc29;obtain ⟨x31,hx31,h⟩:=dM h;refine bN (cCm (b:=9) M hx31<|cAB M<|dJ ?_);refine aT<|bE h M (fun h=>?_) (fun h=>?_)
   ·
    refine dW<|aY<|aY<|eB<|aT ?_;obtain ⟨x33,hx33,h⟩:=eC h;refine lY M [nd1 [3] 24 .nils,nd1 [0] 25 (.ref 1000 0),nd1 [25] 26 (.ref 1000 0),nd1 [26] 27 (.ref 1000 2),nd1 [0] 28 (.ref 1000 0),nd1 [28] 29 (.ref 1000 0),nd1 [29] 30 (.ref 1000 3),⟨[27,30],[0],[(31,.osl 0 (eRef 1000).sz (([2,3]:(List Nat)).length))],[(0,.blk 250 (Al (([2,3]:(List Nat)).map (eRef 1000).d)))]⟩,⟨[24,31],[0,1],[(32,.osl 1 (eRef 1000).sz x33.length)],[(1,.blk 250 (Al (x33.map (eRef 1000).d)))]⟩,nd1 [32] 3 (.osl 1 (eRef 1000).sz x33.length)] M ?_ (by kernel_rfl) ?_
    ·refine .cons (lop M M fun S hA=>(eK M M (lb M) (sv (d:=.nils) (agr hA M M))))<|.cons (dMv M)<|.cons (lop M M fun S hA=>(aS M M (lb M) (svaR hA M M)))<|.cons (dFa 2 underlying81 M ti3 M)<|.cons (dMv M)<|.cons (lop M M fun S hA=>(aS M M (lb M) (svaR hA M M)))<|.cons (dFa 3 underlying81 M ti3 M)<|.cons (lop M M fun S hA=>(qM (eRef 1000) ([2,3]:(List Nat)) 0 M M (lb M) underlying248 sN (agi hA M M) (.cons (svaR hA M M) (.cons (svaR hA M M) .nil)) M M (by decide)))<|.cons (lop M M fun S hA=>(oR (eRef 1000) 1 M M (lb M) underlying248 sN M (agr hA M M) (agi hA M M) (aAf (eRef 1000) (agr hA M M) M (agi hA M M)) hx33))<|.cons (lop M M fun S hA=>(dK M M (lb M) (sv (d:=.osl _ _ _) (agr hA M M)))) ?_
     exact .nil
    refine dW<|bO M<|aY<|bO M<|aY<|bO M<|aY<|bO M<|aY<|bO M<|aY<|bO M<|aY<|eB<|aT<|aJ (cMv (.osl _ _ _) M<|cAs (.osl _ _ _) M<|aI ?_);refine bJ ?_;obtain rfl:=sj_ h;refine ⟨.inr M,(fun i=>if i=0 then 1 else i),⟨.nil,(.cons (.blk M M M) (.cons (Dj M M) .nil)),dF [1000,1] M (by decide),(fun i hi=>by first | rfl | (show (if _ then _ else _)=_; (repeat' split) <;> omega))⟩,(.cons (sv M) .nil),M⟩
   ·
    refine bS<|aT<|bG<|bG ?_;obtain ⟨x34,hx34,h⟩:=dM h;refine aJ (cCm (b:=1) M hx34<|cAB M<|aI ?_);refine oG (b:=_) M (fun hc35=>?_) (fun hc35=>?_)
    ·
     replace h:=aMK h hc35;refine bS<|aT<|vC M hc35<|dW<|aY<|aY<|bO M<|aY<|eB<|aT ?_;obtain ⟨x36,hx36,h⟩:=eC h;refine lY M [nd1 [3] 33 .nils,nd1 [0] 34 (.ref 1000 0),nd1 [34] 35 (.ref 1000 0),nd1 [35] 36 (.ref 1000 2),nd1 [0] 37 (.ref 1000 0),nd1 [37] 38 (.ref 1000 0),nd1 [38] 39 (.ref 1000 4),nd1 [0] 40 (.ref 1000 0),nd1 [40] 41 (.ref 1000 0),nd1 [41] 42 (.ref 1000 5),⟨[36,39,42],[0],[(43,.osl 0 (eRef 1000).sz (([2,4,5]:(List Nat)).length))],[(0,.blk 250 (Al (([2,4,5]:(List Nat)).map (eRef 1000).d)))]⟩,⟨[33,43],[0,1],[(44,.osl 1 (eRef 1000).sz x36.length)],[(1,.blk 250 (Al (x36.map (eRef 1000).d)))]⟩,nd1 [44] 3 (.osl 1 (eRef 1000).sz x36.length)] M ?_ (by kernel_rfl) ?_
     ·refine .cons (lop M M fun S hA=>(eK M M (lb M) (sv (d:=.nils) (agr hA M M))))<|.cons (dMv M)<|.cons (lop M M fun S hA=>(aS M M (lb M) (svaR hA M M)))<|.cons (dFa 2 underlying81 M ti3 M)<|.cons (dMv M)<|.cons (lop M M fun S hA=>(aS M M (lb M) (svaR hA M M)))<|.cons (dFa 4 underlying81 M ti3 M)<|.cons (dMv M)<|.cons (lop M M fun S hA=>(aS M M (lb M) (svaR hA M M)))<|.cons (dFa 5 underlying81 M ti3 M)<|.cons (lop M M fun S hA=>(qM (eRef 1000) ([2,4,5]:(List Nat)) 0 M M (lb M) underlying248 sN (agi hA M M) (.cons (svaR hA M M) (.cons (svaR hA M M) (.cons (svaR hA M M) .nil))) M M (by decide)))<|.cons (lop M M fun S hA=>(oR (eRef 1000) 1 M M (lb M) underlying248 sN M (agr hA M M) (agi hA M M) (aAf (eRef 1000) (agr hA M M) M (agi hA M M)) hx36))<|.cons (lop M M fun S hA=>(dK M M (lb M) (sv (d:=.osl _ _ _) (agr hA M M)))) ?_
      exact .nil
     refine dW<|bO M<|aY<|bO M<|aY<|bO M<|aY<|bO M<|aY<|bO M<|aY<|eB<|aT<|aJ (cMv (.osl _ _ _) M<|cAs (.osl _ _ _) M<|aI ?_);refine bJ ?_;obtain rfl:=sj_ h;refine ⟨.inr M,(fun i=>if i=0 then 1 else i),⟨.nil,(.cons (.blk M M M) (.cons (Dj M M) .nil)),dF [1000,1] M (by decide),(fun i hi=>by first | rfl | (show (if _ then _ else _)=_; (repeat' split) <;> omega))⟩,(.cons (sv M) .nil),M⟩
    ·
     replace h:=aML h hc35;obtain ⟨x37,hx37,h⟩:=dM h;refine bN (cCm (b:=2) M hx37<|cAB M<|dJ ?_);refine aT<|bE h M (fun h=>?_) (fun h=>?_)
     ·
      refine dW<|aY<|aY<|bO M<|aY<|eB<|aT ?_;obtain ⟨x39,hx39,h⟩:=eC h;refine lY M [nd1 [3] 33 .nils,nd1 [0] 34 (.ref 1000 0),nd1 [34] 35 (.ref 1000 0),nd1 [35] 36 (.ref 1000 2),nd1 [0] 37 (.ref 1000 0),nd1 [37] 38 (.ref 1000 0),nd1 [38] 39 (.ref 1000 4),nd1 [0] 40 (.ref 1000 0),nd1 [40] 41 (.ref 1000 0),nd1 [41] 42 (.ref 1000 5),⟨[36,39,42],[0],[(43,.osl 0 (eRef 1000).sz (([2,4,5]:(List Nat)).length))],[(0,.blk 250 (Al (([2,4,5]:(List Nat)).map (eRef 1000).d)))]⟩,⟨[33,43],[0,1],[(44,.osl 1 (eRef 1000).sz x39.length)],[(1,.blk 250 (Al (x39.map (eRef 1000).d)))]⟩,nd1 [44] 3 (.osl 1 (eRef 1000).sz x39.length)] M ?_ (by kernel_rfl) ?_
      ·refine .cons (lop M M fun S hA=>(eK M M (lb M) (sv (d:=.nils) (agr hA M M))))<|.cons (dMv M)<|.cons (lop M M fun S hA=>(aS M M (lb M) (svaR hA M M)))<|.cons (dFa 2 underlying81 M ti3 M)<|.cons (dMv M)<|.cons (lop M M fun S hA=>(aS M M (lb M) (svaR hA M M)))<|.cons (dFa 4 underlying81 M ti3 M)<|.cons (dMv M)<|.cons (lop M M fun S hA=>(aS M M (lb M) (svaR hA M M)))<|.cons (dFa 5 underlying81 M ti3 M)<|.cons (lop M M fun S hA=>(qM (eRef 1000) ([2,4,5]:(List Nat)) 0 M M (lb M) underlying248 sN (agi hA M M) (.cons (svaR hA M M) (.cons (svaR hA M M) (.cons (svaR hA M M) .nil))) M M (by decide)))<|.cons (lop M M fun S hA=>(oR (eRef 1000) 1 M M (lb M) underlying248 sN M (agr hA M M) (agi hA M M) (aAf (eRef 1000) (agr hA M M) M (agi hA M M)) hx39))<|.cons (lop M M fun S hA=>(dK M M (lb M) (sv (d:=.osl _ _ _) (agr hA M M)))) ?_
       exact .nil
      refine dW<|bO M<|aY<|bO M<|aY<|bO M<|aY<|bO M<|aY<|bO M<|aY<|eB<|aT<|aJ (cMv (.osl _ _ _) M<|cAs (.osl _ _ _) M<|aI ?_);refine bJ ?_;obtain rfl:=sj_ h;refine ⟨.inr M,(fun i=>if i=0 then 1 else i),⟨.nil,(.cons (.blk M M M) (.cons (Dj M M) .nil)),dF [1000,1] M (by decide),(fun i hi=>by first | rfl | (show (if _ then _ else _)=_; (repeat' split) <;> omega))⟩,(.cons (sv M) .nil),M⟩
     ·
      refine bS<|aT<|bG ?_;obtain ⟨x40,hx40,h⟩:=dM h;refine aJ (cCm (b:=3) M hx40<|cAB M<|aI ?_);refine bE h M (fun h=>?_) (fun h=>?_)
      ·
       refine dW<|aY<|aY<|bO M<|aY<|bO M<|aY<|eB<|aT ?_;obtain ⟨x42,hx42,h⟩:=eC h;refine lY M [nd1 [3] 45 .nils,nd1 [0] 46 (.ref 1000 0),nd1 [46] 47 (.ref 1000 0),nd1 [47] 48 (.ref 1000 2),nd1 [0] 49 (.ref 1000 0),nd1 [49] 50 (.ref 1000 0),nd1 [50] 51 (.ref 1000 6),nd1 [0] 52 (.ref 1000 0),nd1 [52] 53 (.ref 1000 0),nd1 [53] 54 (.ref 1000 7),⟨[48,51,54],[0],[(55,.osl 0 (eRef 1000).sz (([2,6,7]:(List Nat)).length))],[(0,.blk 250 (Al (([2,6,7]:(List Nat)).map (eRef 1000).d)))]⟩,⟨[45,55],[0,1],[(56,.osl 1 (eRef 1000).sz x42.length)],[(1,.blk 250 (Al (x42.map (eRef 1000).d)))]⟩,nd1 [56] 3 (.osl 1 (eRef 1000).sz x42.length)] M ?_ (by kernel_rfl) ?_
       ·refine .cons (lop M M fun S hA=>(eK M M (lb M) (sv (d:=.nils) (agr hA M M))))<|.cons (dMv M)<|.cons (lop M M fun S hA=>(aS M M (lb M) (svaR hA M M)))<|.cons (dFa 2 underlying81 M ti3 M)<|.cons (dMv M)<|.cons (lop M M fun S hA=>(aS M M (lb M) (svaR hA M M)))<|.cons (dFa 6 underlying81 M ti3 M)<|.cons (dMv M)<|.cons (lop M M fun S hA=>(aS M M (lb M) (svaR hA M M)))<|.cons (dFa 7 underlying81 M ti3 M)<|.cons (lop M M fun S hA=>(qM (eRef 1000) ([2,6,7]:(List Nat)) 0 M M (lb M) underlying248 sN (agi hA M M) (.cons (svaR hA M M) (.cons (svaR hA M M) (.cons (svaR hA M M) .nil))) M M (by decide)))<|.cons (lop M M fun S hA=>(oR (eRef 1000) 1 M M (lb M) underlying248 sN M (agr hA M M) (agi hA M M) (aAf (eRef 1000) (agr hA M M) M (agi hA M M)) hx42))<|.cons (lop M M fun S hA=>(dK M M (lb M) (sv (d:=.osl _ _ _) (agr hA M M)))) ?_
        exact .nil
       refine dW<|bO M<|aY<|bO M<|aY<|bO M<|aY<|bO M<|aY<|eB<|aT<|aJ (cMv (.osl _ _ _) M<|cAs (.osl _ _ _) M<|aI ?_);refine bJ ?_;obtain rfl:=sj_ h;refine ⟨.inr M,(fun i=>if i=0 then 1 else i),⟨.nil,(.cons (.blk M M M) (.cons (Dj M M) .nil)),dF [1000,1] M (by decide),(fun i hi=>by first | rfl | (show (if _ then _ else _)=_; (repeat' split) <;> omega))⟩,(.cons (sv M) .nil),M⟩
      ·
       refine bS<|aT<|bG ?_;obtain ⟨x43,hx43,h⟩:=dM h;refine aJ (cCm (b:=7) M hx43<|cAB M<|aI ?_);refine bE h M (fun h=>?_) (fun h=>?_)
       ·
        refine dW<|aY<|aY<|bO M<|aY<|bO M<|aY<|bO M<|aY<|eB<|aT ?_;obtain ⟨x45,hx45,h⟩:=eC h;refine lY M [nd1 [3] 57 .nils,nd1 [0] 58 (.ref 1000 0),nd1 [58] 59 (.ref 1000 0),nd1 [59] 60 (.ref 1000 2),nd1 [0] 61 (.ref 1000 0),nd1 [61] 62 (.ref 1000 0),nd1 [62] 63 (.ref 1000 7),⟨[60,63],[0],[(64,.osl 0 (eRef 1000).sz (([2,7]:(List Nat)).length))],[(0,.blk 250 (Al (([2,7]:(List Nat)).map (eRef 1000).d)))]⟩,⟨[57,64],[0,1],[(65,.osl 1 (eRef 1000).sz x45.length)],[(1,.blk 250 (Al (x45.map (eRef 1000).d)))]⟩,nd1 [65] 3 (.osl 1 (eRef 1000).sz x45.length)] M ?_ (by kernel_rfl) ?_
        ·refine .cons (lop M M fun S hA=>(eK M M (lb M) (sv (d:=.nils) (agr hA M M))))<|.cons (dMv M)<|.cons (lop M M fun S hA=>(aS M M (lb M) (svaR hA M M)))<|.cons (dFa 2 underlying81 M ti3 M)<|.cons (dMv M)<|.cons (lop M M fun S hA=>(aS M M (lb M) (svaR hA M M)))<|.cons (dFa 7 underlying81 M ti3 M)<|.cons (lop M M fun S hA=>(qM (eRef 1000) ([2,7]:(List Nat)) 0 M M (lb M) underlying248 sN (agi hA M M) (.cons (svaR hA M M) (.cons (svaR hA M M) .nil)) M M (by decide)))<|.cons (lop M M fun S hA=>(oR (eRef 1000) 1 M M (lb M) underlying248 sN M (agr hA M M) (agi hA M M) (aAf (eRef 1000) (agr hA M M) M (agi hA M M)) hx45))<|.cons (lop M M fun S hA=>(dK M M (lb M) (sv (d:=.osl _ _ _) (agr hA M M)))) ?_
         exact .nil
        refine dW<|bO M<|aY<|bO M<|aY<|bO M<|aY<|eB<|aT<|aJ (cMv (.osl _ _ _) M<|cAs (.osl _ _ _) M<|aI ?_);refine bJ ?_;obtain rfl:=sj_ h;refine ⟨.inr M,(fun i=>if i=0 then 1 else i),⟨.nil,(.cons (.blk M M M) (.cons (Dj M M) .nil)),dF [1000,1] M (by decide),(fun i hi=>by first | rfl | (show (if _ then _ else _)=_; (repeat' split) <;> omega))⟩,(.cons (sv M) .nil),M⟩
       ·
        refine bS<|aT<|bG ?_;obtain ⟨x46,hx46,h⟩:=dM h;refine aJ (cCm (b:=8) M hx46<|cAB M<|aI ?_);refine bE h M (fun h=>?_) (fun h=>?_)
        ·
         refine dW<|aY<|aY<|bO M<|aY<|bO M<|aY<|bO M<|aY<|bO M<|aY<|eB<|aT ?_;obtain ⟨x48,hx48,h⟩:=eC h;refine bN (cMv (.nils) M<|aE M (mvR M M M M)<|aE M (aS M M (lb M) (svR M))<|cFa 2 underlying81 M ti3 M<|aE M (qM (eRef 1000) ([2]:(List Nat)) 0 M M (lb M) underlying248 sN M (.cons (svR M) .nil) M M (by decide))<|aE M (oR (eRef 1000) 1 M M (lb M) underlying248 sN M M M (aAf (eRef 1000) M M M) hx48)<|cAs (.osl _ _ _) M<|dJ ?_);refine cV<|aT ⟨x48,(fun i=>i),⟨(.sames M M),(.cons (.blk M M M) (.cons (Dj M M) .nil)),dF [1000,1] M (by decide),fun _ _=>M⟩,?_⟩;exact h
        ·
         refine bS<|aT<|bG ?_;obtain ⟨x49,hx49,h⟩:=dM h;refine aJ (cCm (b:=6) M hx49<|cAB M<|aI ?_);refine bE h M (fun h=>?_) (fun h=>?_)
         ·
          refine dW<|aY<|aY<|bO M<|aY<|bO M<|aY<|bO M<|aY<|bO M<|aY<|bO M<|aY<|eB<|aT ⟨([]:(List Nat)),(fun i=>if i=1 then 51 else i),⟨(.s M M (.cons (.nilo M) .nil)),(.cons (.blk M M M) (.cons (.nilb M) .nil)),dF [1000,51] M (by decide),(fun i hi=>by first | rfl | (show (if _ then _ else _)=_; (repeat' split) <;> omega))⟩,?_⟩;exact h
         ·
          refine bS<|aT ?_;obtain ⟨x51,hx51,h⟩:=dM h;refine aJ (cCm (b:=10) M hx51<|cAB M<|aI ?_);refine bE h M (fun h=>?_) (fun h=>?_)
          ·
           refine dW<|aY<|bO M<|aY<|bO M<|aY<|bO M<|aY<|bO M<|aY<|bO M<|aY<|bO M<|aY<|eB<|aT ?_;obtain ⟨x53,hx53,h⟩:=eC h;refine lY M [nd1 [3] 78 .nils,nd1 [0] 79 (.ref 1000 0),nd1 [79] 80 (.ref 1000 0),nd1 [80] 81 (.ref 1000 6),nd1 [0] 82 (.ref 1000 0),nd1 [82] 83 (.ref 1000 0),nd1 [83] 84 (.ref 1000 7),⟨[81,84],[0],[(85,.osl 0 (eRef 1000).sz (([6,7]:(List Nat)).length))],[(0,.blk 250 (Al (([6,7]:(List Nat)).map (eRef 1000).d)))]⟩,⟨[78,85],[0,1],[(86,.osl 1 (eRef 1000).sz x53.length)],[(1,.blk 250 (Al (x53.map (eRef 1000).d)))]⟩,nd1 [86] 3 (.osl 1 (eRef 1000).sz x53.length)] M ?_ (by kernel_rfl) ?_
           ·refine .cons (lop M M fun S hA=>(eK M M (lb M) (sv (d:=.nils) (agr hA M M))))<|.cons (dMv M)<|.cons (lop M M fun S hA=>(aS M M (lb M) (svaR hA M M)))<|.cons (dFa 6 underlying81 M ti3 M)<|.cons (dMv M)<|.cons (lop M M fun S hA=>(aS M M (lb M) (svaR hA M M)))<|.cons (dFa 7 underlying81 M ti3 M)<|.cons (lop M M fun S hA=>(qM (eRef 1000) ([6,7]:(List Nat)) 0 M M (lb M) underlying248 sN (agi hA M M) (.cons (svaR hA M M) (.cons (svaR hA M M) .nil)) M M (by decide)))<|.cons (lop M M fun S hA=>(oR (eRef 1000) 1 M M (lb M) underlying248 sN M (agr hA M M) (agi hA M M) (aAf (eRef 1000) (agr hA M M) M (agi hA M M)) hx53))<|.cons (lop M M fun S hA=>(dK M M (lb M) (sv (d:=.osl _ _ _) (agr hA M M)))) ?_
            exact .nil
           refine dW<|eB<|aT<|aJ (cMv (.osl _ _ _) M<|cAs (.osl _ _ _) M<|aI ?_);refine bJ ?_;obtain rfl:=sj_ h;refine ⟨.inr M,(fun i=>if i=0 then 1 else i),⟨.nil,(.cons (.blk M M M) (.cons (Dj M M) .nil)),dF [1000,1] M (by decide),(fun i hi=>by first | rfl | (show (if _ then _ else _)=_; (repeat' split) <;> omega))⟩,(.cons (sv M) .nil),M⟩
          ·
           refine bS<|aT<|dW<|bO M<|aY<|bO M<|aY<|bO M<|aY<|bO M<|aY<|bO M<|aY<|bO M<|aY<|bO M<|aY<|eB<|aT<|aJ (cMv (.nils) M<|cAs (.nils) M<|aI ?_);refine bJ ?_;obtain rfl:=sj_ h;refine ⟨.inr M,(fun i=>if i=0 then 50 else i),⟨.nil,(.cons (.blk M M M) (.cons (.nilb M) .nil)),dF [1000,50] M (by decide),(fun i hi=>by first | rfl | (show (if _ then _ else _)=_; (repeat' split) <;> omega))⟩,(.cons (svno M) .nil),M⟩
 ·
  rintro v26 h;unfold fS at h;obtain ⟨x27,hx27,h⟩:=eC h;refine aJ (cMv (.osl _ _ _) M<|aE M (mvR M M M M)<|aE M (aS M M (lb M) (svR M))<|cFa 6 underlying81 M ti3 M<|aE M (qM (eRef 1000) ([6]:(List Nat)) 2 M M (lb M) underlying248 sN M (.cons (svR M) .nil) M M (by decide))<|aE M (wB (eRef 1000) 3 M M (lb M) underlying248 sN M M M M M (aAf (eRef 1000) M M M) hx27)<|cAs (.osl _ _ _) M<|aI ?_);refine dW<|bO M<|aY<|eB<|aT<|aJ (cMv (.osl _ _ _) M<|cAs (.osl _ _ _) M<|aI ?_);refine bJ ?_;obtain rfl:=sj_ h;refine ⟨.inr M,(fun i=>if i=0 then 3 else i),⟨.nil,(.cons (.blk M M M) (.cons (Dj M M) .nil)),dF [1000,3] M (by decide),(fun i hi=>by first | rfl | (show (if _ then _ else _)=_; (repeat' split) <;> omega))⟩,(.cons (sv M) .nil),M⟩

def s41:CS tEl:=⟨[kS],[.one (.sl 12),kI],fun z=>xL z.1⟩
def X41:=cX0 [(209,s38)]
theorem h41:FsOk (X41 Ik):=Bk (C:=(X41 Ik)) ⟨o38,trivial⟩ trivial
def W41 (P:An) (f:Func):Fw (X41 P):=⟨f,s41.acx,s41.rs⟩
abbrev aL8 (m0:Nat):Ct (X41 Ik) (Bb tEl s41.rs):=⟨[0,0,1,1],[.gs 4 21 3 12,.sl 0 kS],fun z=>z,22,fun z=>pW m0 z.2.1 z.1⟩
theorem t41_0 {O:aR} {r:Bb tEl s41.rs}:∀ m0,SndW (W41 Ik f216) O r (aL8 m0):=bH (W:=(W41 Ik f216)) h41 (fun m0=>aL8 m0) (fun m0=>[aL8 m0]) (fun m0 e0=>⟨e0,trivial⟩)
theorem o41:CsOk Ik tCod 216 s41:=bR (W:=(W41 Ik f216)) h41 func216 rfl [aL8 fuel] (fun O r _=>⟨(t41_0 fuel),trivial⟩)
def s42:CS tEl:=⟨[kS],[.one (.sl 1),kB],fun z=>mY z.1⟩
def X42:=cX0 [(216,s41)]
theorem h42:FsOk (X42 Ik):=Bk (C:=(X42 Ik)) ⟨o41,trivial⟩ trivial
def W42 (P:An) (f:Func):Fw (X42 P):=⟨f,s42.acx,s42.rs⟩
abbrev aL7 (m0:Nat):Ct (X42 Ik) (Bb tEl s42.rs):=⟨[0,0,1,1,1,1],[.gs 6 21 175 1,.sl 4 (.one (.sl 12))],fun z=>z,22,fun z=>mB m0 z.2.1 z.1⟩
theorem t42_0 {O:aR} {r:Bb tEl s42.rs}:∀ m0,SndW (W42 Ik f210) O r (aL7 m0):=bH (W:=(W42 Ik f210)) h42 (fun m0=>aL7 m0) (fun m0=>[aL7 m0]) (fun m0 e0=>⟨e0,trivial⟩)
theorem o42:CsOk Ik tCod 210 s42:=bR (W:=(W42 Ik f210)) h42 func210 rfl [aL7 fuel] (fun O r _=>⟨(t42_0 fuel),trivial⟩)
theorem aBG (a0:(List Ai)) (r:((List aW)×Bool)) (h:mY a0=some r):eL Ik 210 [.str a0] (retD [.slice false (r.1.map cP.d),.bool r.2]):=Dl o42 (a0,()) r h (by kernel_rfl) (by kernel_rfl)
theorem yD (a0:(List Ai)) (a1:aA) (r:(Bool×aA)) (h:iQ a0 a1=some r):FnH Ik 179 [.ref 1000 0,.str a0] [(1000,.blk 81 (tv0 a1))] (.bool r.1) [(1000,.blk 81 (tv0 r.2))]:=by
 refine pS (rs:=[.bool r.1]) func179 M ntmps179 (nle M) fun O hO=>?_
 show IWP _ _ _ _ ⟨[(0,.ref 1000 0),(1,.str a0)],[(1000,.blk 81 (tv0 a1))]⟩ _
 unfold iQ at h;refine aJ (cAs (.bool false) M<|aI ?_);refine bG ?_;obtain ⟨x1,hx1,h⟩:=eC h;refine aJ (aE M (mvR M M M M)<|aE M (tA (r':=.osl 0 (eRef 1000).sz x1.length) (H1':=[(1000,.blk 81 (tv0 a1)),(0,.blk 250 (Al (x1.map (eRef 1000).d)))]) 0 [1000] M M (lb M) cl166 (.cons (svR M) .nil) M M ⟨M,M,by decide,M,BL.2 ⟨⟨M,M,M,M⟩,BU _⟩⟩ (mK _ _ hx1) M M (BL.2 ⟨⟨M,M⟩,BL.2 ⟨⟨M,(aJm M)⟩,BU _⟩⟩) (by simp only [AB,BI,Fm,tP,uC]; rfl))<|aE M (vY M M (lb M) underlying248 (sv (d:=.osl _ _ _) M))<|cMv (.int _ 0) M<|aI ?_);refine bT<|lX (α:=Nat×(List Ai)×Int×Int×Int×Int×Int×Int×Int) (fun z=>⟨[(0,.ref 1000 0),(1,.str z.2.1),(13,.osl 0 (eRef 1000).sz x1.length),(14,.int .i64 (x1.length:Int)),(15,.int .i64 z.2.2.1)],[(1000,.blk 81 (w16 a1.aq a1.bp z.2.2.2.1 z.2.2.2.2.1 z.2.2.2.2.2.1 z.2.2.2.2.2.2.1 z.2.2.2.2.2.2.2.1 z.2.2.2.2.2.2.2.2 a1.au a1.aj)),(0,.blk 250 (Al (x1.map (eRef 1000).d)))]⟩) (fun z=>eS a1 x1 z.1 z.2.1 z.2.2.1 z.2.2.2.1 z.2.2.2.2.1 z.2.2.2.2.2.1 z.2.2.2.2.2.2.1 z.2.2.2.2.2.2.2.1 z.2.2.2.2.2.2.2.2=some r) (fun z=>z.1) (fuel,a0,0,a1.bg,a1.bj,a1.cb,a1.bo,a1.N,a1.Code) (fun i=>i) ⟨(.sames M M),(.cons (.blk M M M) (.cons (Dj M M) .nil)),dF [1000,0] M (by decide),fun _ _=>M⟩ ?_ ?_
 ·exact h
 ·
  rintro ⟨n0,v12,v13,v14,v15,v16,v17,v18,v19⟩ h
  cases n0 with
  | zero=>exact AP h (by unfold eS; exact nofun)
  | succ n0 =>
   unfold eS at h;obtain ⟨x30,hx30,h⟩:=dM h;refine aJ (cCm M hx30<|aI ?_);refine bG<|bE h M (fun h=>?_) (fun h=>?_)
   ·
    refine bS<|aT<|bG<|bT ?_;obtain ⟨x32,hx32,x33,hx33,h⟩:=eoo h;refine aJ (aE M (qL (eRef 1000) M M (lb M) underlying248 sN (sv (d:=.osl _ _ _) M) M (svI M) hx32)<|aE M (pQ (eRef 1000) (d:=.ref _ _) M M (lb M) underlying250 ag250 sN (by decide) (svR M) M hx33 (nle M) M)<|aE M (dK M M (lb M) (svR M))<|aI ?_);obtain ⟨x34,hx34,h⟩:=eC h;refine aJ (cMv (.str _) M<|aE M (eZ (r:=.tuple q11) M M (lb M) cl209 (.cons (sv (d:=.str _) M) .nil) M (aET _ _ hx34))<|cMv (.tuple q11) M<|cEx (d:=.int _ _) (cs:=q11) M<|cEx (d:=.int _ _) (cs:=q11) M<|cEx (d:=.int _ _) (cs:=q11) M<|cAI M<|cAI M<|cAI M<|aI ?_);refine bG ?_;obtain ⟨x35,hx35,h⟩:=dM h;refine aJ (cI M<|cCm (b:=0) M hx35<|aI ?_);refine bE h M (fun h=>?_) (fun h=>?_)
    ·
     refine aJ (cAs (.bool false) M<|aI ?_);refine bJ<|cN<|eA<|cN<|cN<|eA<|cN ?_;obtain rfl:=sj_ h;refine ⟨.inr M,(fun i=>i),⟨.nil,(.cons (.blk M M M) .nil),dF [1000] M (by decide),fun _ _=>M⟩,(.cons (sv M) .nil),M⟩
    ·
     refine bS<|aT ?_;obtain ⟨x37,hx37,h⟩:=eC h;refine aJ (aE M (mvR M M M M)<|cI M<|aE M (aS M M (lb M) (svR M))<|aE M (aAF (cs':=(w16 a1.aq a1.bp (bif Aj x33 2 then x34.1 else v14) (bif Aj x33 3 then x34.1 else v15) (bif Aj x33 4 then x34.1 else v16) (bif Aj x33 5 then x34.1 else v17) (bif Aj x33 6 then x34.1 else v18) (bif Aj x33 7 then x34.1 else v19) a1.au a1.aj)) M M ti3 (svR M) M (svI M) hx37 M)<|aI ?_);obtain ⟨x38,hx38,h⟩:=eC h;refine bN (cMv (.str _) M<|cI M<|aE M (vZ M M (lb M) underlying9 (sv (d:=.str _) M) ⟨_,(svI M)⟩ M hx38)<|cAs (.str _) M<|dJ ?_);refine cV<|aT ?_;obtain ⟨x39,hx39,h⟩:=dM h;refine bN (aE M (cT M M (lb M) (svI M) (sv (d:=.int _ 1) M) M hx39)<|cI M<|dJ ?_);refine aT ⟨(n0,x38,x39,(bif Aj x33 2 then x34.1 else v14),(bif Aj x33 3 then x34.1 else v15),(bif Aj x33 4 then x34.1 else v16),(bif Aj x33 5 then x34.1 else v17),(bif Aj x33 6 then x34.1 else v18),(bif Aj x33 7 then x34.1 else v19)),(fun i=>i),⟨(.sames M M),(.cons (.blk M M M) (.cons (Dj M M) .nil)),dF [1000,0] M (by decide),fun _ _=>M⟩,?_,?_⟩;exact h;exact BH _
   ·
    refine dW<|aY<|aY<|eB<|aT<|bG<|aJ (aE M (mvR M M M M)<|aE M (aS M M (lb M) (svR M))<|cFa 0 underlying81 M ti5 M<|cLd (d:=.int _ _) underlying5 ag5 ti5 M<|aI ?_);refine bT ?_;obtain ⟨x40,hx40,h⟩:=dM h;refine aJ (cCm (b:=0) M hx40<|cAB M<|aI ?_);refine bE h M (fun h=>?_) (fun h=>?_)
    ·
     refine aJ (aE M (mvR M M M M)<|cMv (.str _) M<|aE M (aS M M (lb M) (svR M))<|cFa 9 underlying81 M ti9 M<|aE M (cY (ds':=q4) M M ti9 (svR M) M (sv (d:=.str _) M) M M M (nle M) M)<|aI ?_);refine aJ (cAs (.bool true) M<|aI ?_);refine bJ<|eA<|cN ?_;obtain rfl:=sj_ h;refine ⟨.inr M,(fun i=>i),⟨.nil,(.cons (.blk M M M) .nil),dF [1000] M (by decide),fun _ _=>M⟩,(.cons (sv M) .nil),M⟩
    ·
     obtain ⟨x42,hx42,h⟩:=dM h;refine aJ (cCm (b:=4) M hx42<|cAB M<|aI ?_);refine bE h M (fun h=>?_) (fun h=>?_)
     ·
      obtain ⟨x44,hx44,h⟩:=eC h;refine aJ (cMv (.str _) M<|aE M (eZ (r:=.tuple [.slice _ _,.bool _]) M M (lb M) cl210 (.cons (sv (d:=.str _) M) .nil) M (aBG _ _ hx44))<|cMv (.tuple [.slice _ _,.bool _]) M<|aE M (rA (d:=.slice _ _) M M (lb M) (sv (d:=.tuple [.slice _ _,.bool _]) M) M)<|aE M (rA (d:=.bool _) M M (lb M) (sv (d:=.tuple [.slice _ _,.bool _]) M) M)<|aE M (dK M M (lb M) (svL M))<|cAB M<|aI ?_);refine aJ (aE M (mvR M M M M)<|aE M (mvL M M M M)<|aE M (aS M M (lb M) (svR M))<|cFa 8 underlying81 M ti55 M<|aE M (cY (ds':=q4) M M ti55 (svR M) M (svL M) M M M (nle M) M)<|aI ?_);refine aJ (cB M<|cAB M<|aI ?_);refine bJ<|eA<|cN ?_;obtain rfl:=sj_ h;refine ⟨.inr M,(fun i=>i),⟨.nil,(.cons (.blk M M M) .nil),dF [1000] M (by decide),fun _ _=>M⟩,(.cons (sv M) .nil),M⟩
     ·
      refine bS<|cV<|aT ?_;obtain ⟨x45,hx45,h⟩:=dM h;refine aJ (cMv (.str _) M<|aE M (xW M M (lb M) (sv (d:=.str _) M) (sv (d:=.str []) M) M hx45)<|cAB M<|aI ?_);refine bJ ?_;obtain rfl:=sj_ h;refine ⟨.inr M,(fun i=>i),⟨.nil,(.cons (.blk M M M) .nil),dF [1000] M (by decide),fun _ _=>M⟩,(.cons (sv M) .nil),M⟩
def s43:HS tEl:=⟨[.vf 0 .one [.rf 1000 0],.sl 1 (.one .str),.bc 1000 81 2],2,1,[.bc 1000 81 2,.sl 0 (.one .bool)],1,0,(Bool×aA),fun y=>(y.2.1,y.1),fun z r=>((r.2),(r.1:Bool),()),fun z=>iQ z.2.1 z.2.2.1⟩
theorem o43:HsOk tCod Ik 179 s43:=HK cl179 (by kernel_rfl) (fun z r h=>⟨_,_,_,_,yD z.2.1 z.2.2.1 r h,by kernel_rfl,by kernel_rfl,by kernel_rfl,by kernel_rfl⟩)
def s44:CS tEl:=⟨[kI,kI,kI],[kB],fun z=>rH z.1 z.2.1 z.2.2.1⟩
def X44:=cX0 []
theorem o44:CsOk Ik tCod 199 s44:=aV (X44 Ik) trivial trivial func199 rfl
def s45:CS tEl:=⟨[.agg 1],[kB],fun z=>lO z.1⟩
def X45:=cX0 [(199,s44)]
theorem o45:CsOk Ik tCod 200 s45:=aV (X45 Ik) ⟨o44,trivial⟩ trivial func200 rfl
def s46:CS tEl:=⟨[.one (.sl 1),.fn0 200],[kI],fun z=>dV z.1⟩
def X46:=cX0 [(200,s45)]
theorem h46:FsOk (X46 Ik):=Bk (C:=(X46 Ik)) ⟨o45,trivial⟩ trivial
def W46 (P:An) (f:Func):Fw (X46 P):=⟨f,s46.acx,s46.rs⟩
abbrev aL6 (m0:Nat):Ct (X46 Ik) (Bb tEl s46.rs):=⟨[0,1,0,1],[.sl 0 (.one (.sl 1)),.sl 1 (.fn0 200),.sl 7 kI,.sl 8 kI],fun z=>(z.1,z.2.1,((z.1.length:Int):Int),z.2.2.2.1,()),0,fun z=>bV z.1 m0 z.2.2.2.1⟩
theorem t46_0 {O:aR} {r:Bb tEl s46.rs}:∀ m0,SndW (W46 Ik f213) O r (aL6 m0):=bH (W:=(W46 Ik f213)) h46 (fun m0=>aL6 m0) (fun m0=>[aL6 m0]) (fun m0 e0=>⟨e0,trivial⟩)
theorem o46:CsOk Ik tCod 213 s46:=bR (W:=(W46 Ik f213)) h46 func213 rfl [aL6 fuel] (fun O r _=>⟨(t46_0 fuel),trivial⟩)
def s47:CS tEl:=⟨[.one (.sl 1),.fn0 200],[kB],fun z=>cM z.1⟩
def X47:=cX0 [(213,s46)]
theorem o47:CsOk Ik tCod 201 s47:=aV (X47 Ik) ⟨o46,trivial⟩ trivial func201 rfl
def s48:CS tEl:=⟨[.agg 2],[kB],fun z=>nC z.1⟩
def X48:=cX0 [(199,s44),(201,s47)]
theorem h48:FsOk (X48 Ik):=Bk (C:=(X48 Ik)) ⟨o44,o47,trivial⟩ trivial
def W48 (P:An) (f:Func):Fw (X48 P):=⟨f,s48.acx,s48.rs⟩
abbrev c48_0:Ct (X48 Ik) (Bb tEl s48.rs):=⟨[1,1,1,1,1,0,1,0,1,1],[.vf 1 .one [.rf 0 0],.sl 3 kI,.sl 4 kI,.sl 5 kI,.sl 13 kB,.bc 0 81 2],fun z=>(z.1,(0:Int),(1099511627776:Int),(255:Int),z.2.2.2.2.1,z.2.2.2.2.2.1,()),1,fun z=>lH z.2.2.2.2.2.1 z.2.2.2.2.1⟩
abbrev aL5:Ct (X48 Ik) (Bb tEl s48.rs):=⟨[1,1,1],[.vf 1 .one [.rf 0 0],.sl 3 kI,.sl 4 kI,.sl 5 kI,.bc 0 81 2],fun z=>z,1,fun z=>eT z.2.2.2.2.1 z.2.1 z.2.2.1 z.2.2.2.1⟩
theorem t48_1 {O:aR} {r:Bb tEl s48.rs}:SndW (W48 Ik f163) O r (aL5):=fF (W:=(W48 Ik f163)) h48 (aL5) [] trivial
theorem t48_0 {O:aR} {r:Bb tEl s48.rs}:SndW (W48 Ik f163) O r (c48_0):=fF (W:=(W48 Ik f163)) h48 (c48_0) [aL5] ⟨(t48_1),trivial⟩
theorem o48:CsOk Ik tCod 163 s48:=bR (W:=(W48 Ik f163)) h48 func163 rfl [c48_0,aL5] (fun O r _=>⟨(t48_0),(t48_1),trivial⟩)
def s49:CS tEl:=⟨[.one (.int .u8)],[kB],fun z=>qP z.1⟩
def X49:=cX0 []
theorem o49:CsOk Ik tCod 203 s49:=aV (X49 Ik) trivial trivial func203 rfl
theorem aBm (a0:Int) (r:Bool) (h:qP a0=some r):eL Ik 203 [.int .u8 a0] (.bool r):=Dl o49 (a0,()) r h (by kernel_rfl) (by kernel_rfl)
theorem aAA (a0:aA) (r:aA) (h:kK a0=some r):eL Ik 165 [.agg (tv0 a0)] (.agg (tv0 r)):=by
 refine pI (rs:=[.agg (tv0 r)]) func165 M ntmps165 (nle M) M fun O hO=>?_
 show IWP _ _ _ _ ⟨[(0,.agg (tv0 a0))],[]⟩ _
 unfold kK at h;refine aJ (cBx (cs:=q4) q4 0 M<|aE M (fA (cs:=q6) (cs':=zs0) 1 M M (lb M) M ti81 M M (.k4 (.k4 (.cons (.nils _) (.all _)))))<|aI ?_);refine bG ?_;obtain ⟨x1,hx1,h⟩:=eC h;refine aJ (aE M (tA (r':=.osl 2 (eRef 0).sz x1.length) (H1':=[(0,.blk 81 (tv0 a0)),(2,.blk 250 (Al (x1.map (eRef 0).d)))]) 2 [0] M M (lb M) cl166 (.cons (svR M) .nil) M M ⟨M,M,by decide,M,BL.2 ⟨⟨M,M,M,M⟩,BU _⟩⟩ (mK _ _ hx1) M M (BL.2 ⟨⟨M,M⟩,BL.2 ⟨⟨M,(aJm M)⟩,BU _⟩⟩) (by simp only [AB,BI,Fm,tP,uC]; rfl))<|aE M (vY M M (lb M) underlying248 (sv (d:=.osl _ _ _) M))<|cMv (.int _ 0) M<|aI ?_);refine bT<|lX (α:=Nat×Int×Int×Int×Int×Int×Int×Int) (fun z=>⟨[(1,.ref 0 0),(2,.ref 1 0),(5,.osl 2 (eRef 0).sz x1.length),(6,.int .i64 (x1.length:Int)),(7,.int .i64 z.2.1)],[(0,.blk 81 (w16 a0.aq a0.bp z.2.2.1 z.2.2.2.1 z.2.2.2.2.1 z.2.2.2.2.2.1 z.2.2.2.2.2.2.1 z.2.2.2.2.2.2.2 a0.au a0.aj)),(1,.blk 81 zs0),(2,.blk 250 (Al (x1.map (eRef 0).d)))]⟩) (fun z=>dY a0 x1 z.1 z.2.1 z.2.2.1 z.2.2.2.1 z.2.2.2.2.1 z.2.2.2.2.2.1 z.2.2.2.2.2.2.1 z.2.2.2.2.2.2.2=some r) (fun z=>z.1) (fuel,0,a0.bg,a0.bj,a0.cb,a0.bo,a0.N,a0.Code) (fun i=>i) ⟨(.sames M M),(.cons (.blk M M M) (.cons (.blk M M M) (.cons (Dj M M) .nil))),dF [0,1,2] M (by decide),fun _ _=>M⟩ ?_ ?_
 ·exact h
 ·
  rintro ⟨n0,v8,v9,v10,v11,v12,v13,v14⟩ h
  cases n0 with
  | zero=>exact AP h (by unfold dY; exact nofun)
  | succ n0 =>
   unfold dY at h;obtain ⟨x21,hx21,h⟩:=dM h;refine aJ (cCm M hx21<|aI ?_);refine bG<|bE h M (fun h=>?_) (fun h=>?_)
   ·
    refine bS<|aT<|bG<|bT ?_;obtain ⟨x23,hx23,x24,hx24,h⟩:=eoo h;refine aJ (aE M (qL (eRef 0) M M (lb M) underlying248 sN (sv (d:=.osl _ _ _) M) M (svI M) hx23)<|aE M (pQ (eRef 0) (d:=.ref _ _) M M (lb M) underlying250 ag250 sN (by decide) (svR M) M hx24 (nle M) M)<|aE M (dK M M (lb M) (svR M))<|aI ?_);obtain ⟨x25,hx25,h⟩:=eC h;refine bN (aE M (mvR M M M M)<|aE M (aS M M (lb M) (svR M))<|aE M (aAF (cs':=(w16 a0.aq a0.bp (bif Aj x24 2 then 0 else v9) (bif Aj x24 3 then 0 else v10) (bif Aj x24 4 then 0 else v11) (bif Aj x24 5 then 0 else v12) (bif Aj x24 6 then 0 else v13) (bif Aj x24 7 then 0 else v14) a0.au a0.aj)) M M ti3 (svR M) M (sv (d:=.int _ 0) M) hx25 M)<|dJ ?_);refine cV<|aT ?_;obtain ⟨x26,hx26,h⟩:=dM h;refine bN (aE M (cT M M (lb M) (svI M) (sv (d:=.int _ 1) M) M hx26)<|cI M<|dJ ?_);refine aT ⟨(n0,x26,(bif Aj x24 2 then 0 else v9),(bif Aj x24 3 then 0 else v10),(bif Aj x24 4 then 0 else v11),(bif Aj x24 5 then 0 else v12),(bif Aj x24 6 then 0 else v13),(bif Aj x24 7 then 0 else v14)),(fun i=>i),⟨(.sames M M),(.cons (.blk M M M) (.cons (.blk M M M) (.cons (Dj M M) .nil))),dF [0,1,2] M (by decide),fun _ _=>M⟩,?_,?_⟩;exact h;exact BH _
   ·
    refine dW<|aY<|aY<|eB<|aT<|aDW (α:=(List aW)×(List Ai)) (fun z=>⟨[(1,.ref 0 0),(2,.ref 1 0)],[(0,.blk 81 (w16 a0.aq a0.bp v9 v10 v11 v12 v13 v14 z.1 z.2)),(1,.blk 81 zs0)]⟩) (fun z=>eV a0 v9 v10 v11 v12 v13 v14 z.1 z.2=some r) ?_ ?_
    ·
     refine aJ (cFa 0 underlying81 M ti5 M<|cLd (d:=.int _ _) underlying5 ag5 ti5 M<|aI ?_);refine bT ?_;obtain ⟨x36,hx36,h⟩:=dM h;refine aJ (cCm (b:=0) M hx36<|cAB M<|aI ?_);refine bE h M (fun h=>?_) (fun h=>?_)
     ·
      refine bN (cFa 9 underlying81 M ti9 M<|aE M (cY (ds':=q4) M M ti9 (svR M) M (sv (d:=.str []) M) M M M (nle M) M)<|dJ ?_);refine cV<|aT ⟨(a0.au,([]:(List Ai))),(fun i=>i),⟨(.sames M M),(.cons (.blk M M M) (.cons (.blk M M M) .nil)),dF [0,1] M (by decide),fun _ _=>M⟩,?_⟩;exact h
     ·
      obtain ⟨x38,hx38,h⟩:=dM h;refine aJ (cCm (b:=4) M hx38<|cAB M<|aI ?_);refine bE h M (fun h=>?_) (fun h=>?_)
      ·
       refine aJ (cFa 1 underlying81 M ti4 M<|cLd (d:=.bool _) underlying4 ag4 ti4 M<|aE M (qJ M M (lb M) (svB M))<|aI ?_);refine bE h M (fun h=>?_) (fun h=>?_)
       ·
        refine bN (cFa 8 underlying81 M ti55 M<|aE M (cY (ds':=[.int _ _,.bool _,.int _ _,.int _ _,.int _ _,.int _ _,.int _ _,.int _ _,.slice false (([]:List aW).map cP.d),.str _]) M M ti55 (svR M) M (svn M) M M M (nle M) M)<|dJ ?_);refine cV<|aT ⟨(([]:(List aW)),a0.aj),(fun i=>i),⟨(.sames M M),(.cons (.blk M M M) (.cons (.blk M M M) .nil)),dF [0,1] M (by decide),fun _ _=>M⟩,?_⟩;exact h
       ·
        refine bS<|cV<|aT ⟨(a0.au,a0.aj),(fun i=>i),⟨(.sames M M),(.cons (.blk M M M) (.cons (.blk M M M) .nil)),dF [0,1] M (by decide),fun _ _=>M⟩,?_⟩;exact h
      ·
       refine bS<|cV<|aT ⟨(a0.au,a0.aj),(fun i=>i),⟨(.sames M M),(.cons (.blk M M M) (.cons (.blk M M M) .nil)),dF [0,1] M (by decide),fun _ _=>M⟩,?_⟩;exact h
    ·
     rintro ⟨v32,v33⟩ h;unfold eV at h;refine bG ?_;obtain ⟨x34,hx34,h⟩:=eC h;refine aJ (cFa 0 underlying81 M ti5 M<|cLd (d:=.int _ _) underlying5 ag5 ti5 M<|aE M (eZ (r:=.bool _) M M (lb M) cl203 (.cons (svI M) .nil) M (aBm _ _ hx34))<|aI ?_);refine bE h M (fun h=>?_) (fun h=>?_)
     ·
      refine bN (cFa 1 underlying81 M ti4 M<|aE M (cY (ds':=q4) M M ti4 (svR M) M (sv (d:=.bool false) M) M M M (nle M) M)<|dJ ?_);refine aT<|aJ (cLr q4 la81 M<|cSt q4 q4 ti81 M<|aI ?_);refine bJ ?_;obtain rfl:=sj_ h;refine ⟨.inr M,(.cons (rva la81 M M (nle M) M) .nil)⟩
     ·
      refine bS<|aT<|aJ (cLr q4 la81 M<|cSt q4 q4 ti81 M<|aI ?_);refine bJ ?_;obtain rfl:=sj_ h;refine ⟨.inr M,(.cons (rva la81 M M (nle M) M) .nil)⟩
def s50:CS tEl:=⟨[.agg 2],[.agg 2],fun z=>kK z.1⟩
theorem o50:CsOk Ik tCod 165 s50:=FI cl165 (fun z r h=>⟨_,_,aAA z.1 r h,by kernel_rfl,by kernel_rfl⟩)
def s51:CS tEl:=⟨[.one (.sl 1),.one (.sl 1)],[kB],fun z=>fE z.1 z.2.1⟩
def X51:=cX0 []
theorem h51:FsOk (X51 Ik):=Bk (C:=(X51 Ik)) trivial trivial
def W51 (P:An) (f:Func):Fw (X51 P):=⟨f,s51.acx,s51.rs⟩
abbrev aL4 (m0:Nat):Ct (X51 Ik) (Bb tEl s51.rs):=⟨[0,1,0,1,1],[.sl 0 (.one (.sl 1)),.sl 1 (.one (.sl 1)),.sl 12 kI,.sl 13 kI],fun z=>(z.1,z.2.1,((z.1.length:Int):Int),z.2.2.2.1,()),0,fun z=>dC z.1 z.2.1 m0 z.2.2.2.1⟩
theorem t51_0 {O:aR} {r:Bb tEl s51.rs}:∀ m0,SndW (W51 Ik f202) O r (aL4 m0):=bH (W:=(W51 Ik f202)) h51 (fun m0=>aL4 m0) (fun m0=>[aL4 m0]) (fun m0 e0=>⟨e0,trivial⟩)
theorem o51:CsOk Ik tCod 202 s51:=bR (W:=(W51 Ik f202)) h51 func202 rfl [aL4 fuel] (fun O r _=>⟨(t51_0 fuel),trivial⟩)
def s52:CS tEl:=⟨[.agg 2,.agg 2],[kB],fun z=>xX z.1 z.2.1⟩
def X52:=cX0 [(202,s51)]
theorem o52:CsOk Ik tCod 164 s52:=aV (X52 Ik) ⟨o51,trivial⟩ trivial func164 rfl
def s53:CS tEl:=⟨[.agg 2],[kI],fun z=>tV z.1⟩
def X53:=cX0 [(162,s34),(163,s48),(165,s50),(164,s52)]
theorem h53:FsOk (X53 Ik):=Bk (C:=(X53 Ik)) ⟨o34,o48,o50,o52,trivial⟩ trivial
def W53 (P:An) (f:Func):Fw (X53 P):=⟨f,s53.acx,s53.rs⟩
abbrev c53_0:Ct (X53 Ik) (Bb tEl s53.rs):=⟨[1,1,1,1,1,0,0,1],[.vf 1 .one [.rf 0 0],.sl 12 kB,.bc 0 81 2],fun z=>z,1,fun z=>oS z.2.2.1 z.2.1⟩
theorem t53_0 {O:aR} {r:Bb tEl s53.rs}:SndW (W53 Ik f107) O r (c53_0):=fF (W:=(W53 Ik f107)) h53 (c53_0) [] trivial
theorem o53:CsOk Ik tCod 107 s53:=bR (W:=(W53 Ik f107)) h53 func107 rfl [c53_0] (fun O r _=>⟨(t53_0),trivial⟩)
def s54:CS tEl:=⟨[kS],[.agg 2,kI,kI],fun z=>vE z.1⟩
def X54:=cX1 (fun _=>false) [(178,s39),(107,s53)] [(179,s43)]
theorem o54:CsOk Ik tCod 124 s54:=aV (X54 Ik) ⟨o39,o53,trivial⟩ ⟨o43,trivial⟩ func124 rfl
theorem aFY (a0:(List Ai)) (r:(aA×Int×Int)) (h:vE a0=some r):eL Ik 124 [.str a0] (retD [.agg [.int .u8 r.1.aq,.bool r.1.bp,.int .i64 r.1.bg,.int .i64 r.1.bj,.int .i64 r.1.cb,.int .i64 r.1.bo,.int .i64 r.1.N,.int .i64 r.1.Code,.slice false (r.1.au.map cP.d),.str r.1.aj],.int .i64 r.2.1,.int .i64 r.2.2]):=Dl o54 (a0,()) r h (by kernel_rfl) (by kernel_rfl)
def s55:CS tEl:=⟨[.agg 13],[kI],fun z=>oJ z.1⟩
def X55:=cX0 [(124,s54)]
theorem o55:CsOk Ik tCod 68 s55:=aV (X55 Ik) ⟨o54,trivial⟩ trivial func68 rfl
theorem aBn (a0:aK) (r:Int) (h:oJ a0=some r):eL Ik 68 [.agg [.str a0.bq,.int .i64 a0.bv,.int .i64 a0.bf]] (.int .i64 r):=Dl o55 (a0,()) r h (by kernel_rfl) (by kernel_rfl)
def s56:CS tEl:=⟨[.agg 10],[kI],fun z=>dE z.1⟩
def X56:=cX0 [(66,s26),(67,s33),(68,s55)]
theorem o56:CsOk Ik tCod 22 s56:=aV (X56 Ik) ⟨o26,o33,o55,trivial⟩ trivial func22 rfl
def s57:CS tEl:=⟨[.one (.int .u8)],[kB],fun z=>qH z.1⟩
def X57:=cX0 []
theorem o57:CsOk Ik tCod 38 s57:=aV (X57 Ik) trivial trivial func38 rfl
def s58:CS tEl:=⟨[kI],[.one (.sl 0),kI],fun z=>uU z.1⟩
def X58:=cX1 (fun t=>Aj t 5||Aj t 6||Aj t 298||Aj t 299) [(168,s37)] []
theorem h58:FsOk (X58 Ik):=Bk (C:=(X58 Ik)) ⟨o37,trivial⟩ trivial
def W58 (P:An) (f:Func):Fw (X58 P):=⟨f,s58.acx,s58.rs⟩
abbrev aL3 (m0:Nat):Ct (X58 Ik) (Bb tEl s58.rs):=⟨[0,1,0,1,1,1,1],[.vf 5 .one [.os 0 5 0],.sl 0 kI,.sl 4 kI,.sl 6 kI],fun z=>z,1,fun z=>pU z.2.2.1 m0 z.2.1 z.1.1 z.2.2.2.1⟩
theorem t58_0 {O:aR} {r:Bb tEl s58.rs}:∀ m0,SndW (W58 Ik f109) O r (aL3 m0):=bH (W:=(W58 Ik f109)) h58 (fun m0=>aL3 m0) (fun m0=>[aL3 m0]) (fun m0 e0=>⟨e0,trivial⟩)
theorem o58:CsOk Ik tCod 109 s58:=bR (W:=(W58 Ik f109)) h58 func109 rfl [aL3 fuel] (fun O r _=>⟨(t58_0 fuel),trivial⟩)
def s59:CS tEl:=⟨[.one (.sl 12)],[.one (.sl 0),kI],fun z=>yT z.1⟩
def X59:=cX0 [(109,s58)]
theorem h59:FsOk (X59 Ik):=Bk (C:=(X59 Ik)) ⟨o58,trivial⟩ trivial
def W59 (P:An) (f:Func):Fw (X59 P):=⟨f,s59.acx,s59.rs⟩
abbrev aL2 (m0:Nat):Ct (X59 Ik) (Bb tEl s59.rs):=⟨[0,1,0,1,1],[.gs 4 21 5 0,.sl 9 (.one (.sl 12)),.sl 10 kI,.sl 11 kI],fun z=>(z.1,z.2.1,((z.2.1.length:Int):Int),z.2.2.2.1,()),22,fun z=>oO z.2.1 m0 z.1 z.2.2.2.1⟩
theorem t59_0 {O:aR} {r:Bb tEl s59.rs}:∀ m0,SndW (W59 Ik f204) O r (aL2 m0):=bH (W:=(W59 Ik f204)) h59 (fun m0=>aL2 m0) (fun m0=>[aL2 m0]) (fun m0 e0=>⟨e0,trivial⟩)
theorem o59:CsOk Ik tCod 204 s59:=bR (W:=(W59 Ik f204)) h59 func204 rfl [aL2 fuel] (fun O r _=>⟨(t59_0 fuel),trivial⟩)
def s60:CS tEl:=⟨[.one (.sl 12)],[.one (.sl 0),kI],fun z=>qR z.1⟩
def X60:=cX0 [(204,s59)]
theorem o60:CsOk Ik tCod 167 s60:=aV (X60 Ik) ⟨o59,trivial⟩ trivial func167 rfl
theorem aDI (a0:(List Int)) (r:((List Ai)×Int)) (h:qR a0=some r):eL Ik 167 [.slice false (a0.map (eInt .i64).d)] (retD [.slice false (r.1.map rC.d),.int .i64 r.2]):=Dl o60 (a0,()) r h (by kernel_rfl) (by kernel_rfl)
theorem wX (a0:aA) (r:(List Ai)) (h:iE a0=some r):eL Ik 108 [.agg (tv0 a0)] (.str r):=by
 refine pI (rs:=[.str r]) func108 M ntmps108 (nle M) M fun O hO=>?_
 show IWP _ _ _ _ ⟨[(0,.agg (tv0 a0))],[]⟩ _
 unfold iE at h;refine aJ (cBx (cs:=q4) q4 0 M<|cAs (.str []) M<|aI ?_);refine aJ (cAs (.nils) M<|aI ?_);refine bG ?_;obtain ⟨x1,hx1,h⟩:=eC h;refine aJ (aE M (tA (r':=.osl 1 (eRef 0).sz x1.length) (H1':=[(0,.blk 81 (tv0 a0)),(1,.blk 250 (Al (x1.map (eRef 0).d)))]) 1 [0] M M (lb M) cl166 (.cons (svR M) .nil) M M ⟨M,M,by decide,M,BL.2 ⟨⟨M,M,M,M⟩,BU _⟩⟩ (mK _ _ hx1) M M (BL.2 ⟨⟨M,M⟩,BL.2 ⟨⟨M,(aJm M)⟩,BU _⟩⟩) (by simp only [AB,BI,Fm,tP,uC]; rfl))<|aE M (vY M M (lb M) underlying248 (sv (d:=.osl _ _ _) M))<|cMv (.int _ 0) M<|aI ?_);refine bT<|lX (α:=Nat×(List Int)×Int) (fun z=>⟨[(1,.ref 0 0),(3,.gsl 23 (eInt .i64).sz (z.2.1.map (eInt .i64).d)),(10,.osl 1 (eRef 0).sz x1.length),(11,.int .i64 (x1.length:Int)),(12,.int .i64 z.2.2)],[(0,.blk 81 (tv0 a0)),(23,.tail 3 (eInt .i64).sz z.2.1.length),(1,.blk 250 (Al (x1.map (eRef 0).d)))]⟩) (fun z=>eG a0 x1 z.1 z.2.1 z.2.2=some r) (fun z=>z.1) (fuel,([]:(List Int)),0) (fun i=>if i=23 then 75 else i) ⟨(.s M M (.cons (.nils M) (.sames M M))),(.cons (.blk M M M) (.cons (.nils M) (.cons (Dj M M) .nil))),dF [0,75,1] M (by decide),(fun i hi=>by first | rfl | (show (if _ then _ else _)=_; (repeat' split) <;> omega))⟩ ?_ ?_
 ·exact h
 ·
  rintro ⟨n0,v9,v10⟩ h
  cases n0 with
  | zero=>exact AP h (by unfold eG; exact nofun)
  | succ n0 =>
   unfold eG at h;obtain ⟨x18,hx18,h⟩:=dM h;refine aJ (cCm M hx18<|aI ?_);refine bG<|bE h M (fun h=>?_) (fun h=>?_)
   ·
    refine bS<|aT<|bG<|bT ?_;obtain ⟨x20,hx20,x21,hx21,h⟩:=eoo h;refine aJ (aE M (qL (eRef 0) M M (lb M) underlying248 sN (sv (d:=.osl _ _ _) M) M (svI M) hx20)<|aE M (pQ (eRef 0) (d:=.ref _ _) M M (lb M) underlying250 ag250 sN (by decide) (svR M) M hx21 (nle M) M)<|aE M (dK M M (lb M) (svR M))<|aI ?_);obtain ⟨x22,hx22,x23,hx23,h⟩:=eoo h;refine bN (cMv (.gsl _ _ _) M<|aE M (mvR M M M M)<|aE M (aS M M (lb M) (svR M))<|aE M (aEg M M (lb M) underlying3 ag3 ti3 (svR M) M hx22)<|aE M (zD (eInt .i64) ([x22]:(List Int)) 24 M M (lb M) underlying149 ti3 M (.cons (svI M) .nil) M M (by decide))<|aE M (wA (eInt .i64) 25 M M (lb M) underlying149 ti3 M M M M (svg M) hx23)<|cAs (.gsl _ _ _) M<|dJ ?_);refine cV<|aT ?_;obtain ⟨x24,hx24,h⟩:=dM h;refine bN (aE M (cT M M (lb M) (svI M) (sv (d:=.int _ 1) M) M hx24)<|cI M<|dJ ?_);refine aT ⟨(n0,x23,x24),(fun i=>if i=23 then 25 else i),⟨(.sames M M),(.cons (.blk M M M) (.cons (.tail M) (.cons (Dj M M) .nil))),dF [0,25,1] M (by decide),(fun i hi=>by first | rfl | (show (if _ then _ else _)=_; (repeat' split) <;> omega))⟩,?_,?_⟩;exact h;exact BH _
   ·
    refine dW<|aY<|aY<|eB<|aT<|bG<|aJ (cFa 8 underlying81 M ti55 M<|aE M (lrL la55 M M M M M (nle M) M)<|aE M (qK cP (l:=a0.au) M M (lb M) underlying55 (svL M))<|cMv (.int _ 0) M<|aI ?_);refine bT<|lX (α:=Nat×(List Int)×Int) (fun z=>⟨[(1,.ref 0 0),(3,.gsl 23 (eInt .i64).sz (z.2.1.map (eInt .i64).d)),(24,.slice false (a0.au.map cP.d)),(25,.int .i64 (a0.au.length:Int)),(26,.int .i64 z.2.2)],[(0,.blk 81 (tv0 a0)),(23,.tail 3 (eInt .i64).sz z.2.1.length)]⟩) (fun z=>eF a0 z.1 z.2.1 z.2.2=some r) (fun z=>z.1) (fuel,v9,0) (fun i=>i) ⟨(.sames M M),(.cons (.blk M M M) (.cons (.tail M) .nil)),dF [0,23] M (by decide),fun _ _=>M⟩ ?_ ?_
    ·exact h
    ·
     rintro ⟨n1,v30,v31⟩ h
     cases n1 with
     | zero=>exact AP h (by unfold eF; exact nofun)
     | succ n1 =>
      unfold eF at h;obtain ⟨x37,hx37,h⟩:=dM h;refine aJ (cCm M hx37<|aI ?_);refine bG<|bE h M (fun h=>?_) (fun h=>?_)
      ·
       refine bS<|aT<|bG<|bT ?_;obtain ⟨x39,hx39,h⟩:=eC h;refine aJ (aE M (aAK cP (cs:=q14) M M (lb M) underlying55 aFL (svL M) (svI M) hx39 M M)<|aE M (aBt (cs:=q14) M M (lb M) underlying175 ag175 aFL (by decide) (sv (d:=.fptr q14) M) (nle M) M)<|aE M (fA (cs:=q14) (cs':=[.int .i64 0,.int .i64 0]) 24 M M (lb M) M aFL M M (.all _))<|cSt q14 q14 aFL M<|aI ?_);obtain ⟨x40,hx40,h⟩:=eC h;refine bN (cMv (.gsl _ _ _) M<|cFa 0 underlying175 M ti3 M<|cLd (d:=.int _ _) underlying3 ag3 ti3 M<|cFa 1 underlying175 M ti3 M<|cLd (d:=.int _ _) underlying3 ag3 ti3 M<|aE M (zD (eInt .i64) ([x39.ID,x39.ce]:(List Int)) 25 M M (lb M) underlying149 ti3 M (.cons (svI M) (.cons (svI M) .nil)) M M (by decide))<|aE M (wA (eInt .i64) 26 M M (lb M) underlying149 ti3 M M M M (svg M) hx40)<|cAs (.gsl _ _ _) M<|dJ ?_);refine cV<|aT ?_;obtain ⟨x41,hx41,h⟩:=dM h;refine bN (aE M (cT M M (lb M) (svI M) (sv (d:=.int _ 1) M) M hx41)<|cI M<|dJ ?_);refine aT ⟨(n1,x40,x41),(fun i=>if i=23 then 26 else i),⟨(.sames M M),(.cons (.blk M M M) (.cons (.tail M) .nil)),dF [0,26] M (by decide),(fun i hi=>by first | rfl | (show (if _ then _ else _)=_; (repeat' split) <;> omega))⟩,?_,?_⟩;exact h;exact BH _
      ·
       refine dW<|aY<|aY<|eB<|aT ?_;obtain ⟨x42,hx42,h⟩:=eC h;refine aJ (cMv (.gsl _ _ _) M<|aE M (eZ (r:=.tuple q13) M M (lb M) cl167 (.cons (svg M) .nil) M (aDI _ _ hx42))<|cMv (.tuple q13) M<|cEx (d:=.slice _ _) (cs:=q13) M<|cEx (d:=.int _ _) (cs:=q13) M<|aE M (dK M M (lb M) (svL M))<|cAI M<|aI ?_);obtain ⟨x43,hx43,h⟩:=eC h;refine aJ (aE M (mvL M M M M)<|aE M (aAO (l:=x42.1) M M (lb M) underlying195 underlying5 underlying9 (svL M))<|cFa 9 underlying81 M ti9 M<|cLd (d:=.str _) underlying9 ag9 ti9 M<|aE M (aDh M M (lb M) (sv (d:=.str _) M) (sv (d:=.str _) M) hx43)<|cAs (.str _) M<|aI ?_);refine bJ ?_;obtain rfl:=sj_ h;refine ⟨.inr M,(.cons (sv M) .nil)⟩
def s61:CS tEl:=⟨[.agg 2],[.one .str],fun z=>iE z.1⟩
theorem o61:CsOk Ik tCod 108 s61:=FI cl108 (fun z r h=>⟨_,_,wX z.1 r h,by kernel_rfl,by kernel_rfl⟩)
theorem tZ (a0:(List Ai)) (r:(List Ai)) (h:eN a0=some r):FnH Ik 169 [.slice false (a0.map rC.d)] [] (.osl 0 rC.sz r.length) [(0,.blk 5 (Al (r.map rC.d)))]:=by
 refine pS (rs:=[.osl 0 rC.sz r.length]) func169 M ntmps169 (nle M) fun O hO=>?_
 show IWP _ _ _ _ ⟨[(0,.slice false (a0.map rC.d))],[]⟩ _
 unfold eN at h;refine aJ (cAs (.nils) M<|aI ?_);refine bG<|aJ (aE M (mvL M M M M)<|aAP M M M (by decide) underlying195 (svL M) M<|fun bn1 hbn1 =>
  aI ?_)
 refine oG (b:=_) M (fun hc2=>?_) (fun hc2=>?_)
 ·
  replace h:=aDv h (mapE (hbn1 hc2));refine aJ (cAs (.nils) M<|aI ?_);refine bJ<|cN ?_;obtain rfl:=sj_ h;refine ⟨.inr M,(fun i=>if i=0 then 50 else i),⟨.nil,(.cons (.nilb M) .nil),dF [50] M (by decide),(fun i hi=>by first | rfl | (show (if _ then _ else _)=_; (repeat' split) <;> omega))⟩,(.cons (svno M) .nil),M⟩
 ·
  replace h:=aDw h;refine bS<|aT ?_;obtain ⟨x3,hx3,h⟩:=eC h;refine aJ (aE M (qM rC.toEnc0 ([]:(List Ai)) 0 M M (lb M) underlying195 ti5 M .nil M M (by decide))<|aE M (mvL M M M M)<|aE M (wB rC.toEnc0 1 M M (lb M) underlying195 ti5 M M M M M (aFO rC (ys:=a0) (svL M)) hx3)<|cAs (.osl _ _ _) M<|aI ?_);refine bJ ?_;obtain rfl:=sj_ h;refine ⟨.inr M,(fun i=>if i=0 then 1 else i),⟨.nil,(.cons (Cd M) .nil),dF [1] M (by decide),(fun i hi=>by first | rfl | (show (if _ then _ else _)=_; (repeat' split) <;> omega))⟩,(.cons (sv M) .nil),M⟩
def s62:HS tEl:=⟨[.sl 0 (.one (.sl 0))],1,0,[.vf 0 .one [.os 0 5 0]],1,1,(List Ai),fun y=>y.1.1,fun z r=>(((r:List _),()),()),fun z=>eN z.1⟩
theorem o62:HsOk tCod Ik 169 s62:=HK cl169 (by kernel_rfl) (fun z r h=>⟨_,_,_,_,tZ z.1 r h,by kernel_rfl,by kernel_rfl,by kernel_rfl,by kernel_rfl⟩)
def s63:CS tEl:=⟨[kI,kI],[kB],fun z=>wH z.1 z.2.1⟩
def X63:=cX0 []
theorem o63:CsOk Ik tCod 170 s63:=aV (X63 Ik) trivial trivial func170 rfl
def s64:CS tEl:=⟨[.one (.sl 0),kI,kI],[.one (.sl 0)],fun z=>vI z.1 z.2.1 z.2.2.1⟩
def X64:=cX1 (fun t=>Aj t 5||Aj t 6||Aj t 298||Aj t 299) [(170,s63)] [(169,s62)]
theorem h64:FsOk (X64 Ik):=Bk (C:=(X64 Ik)) ⟨o63,trivial⟩ ⟨o62,trivial⟩
def W64 (P:An) (f:Func):Fw (X64 P):=⟨f,s64.acx,s64.rs⟩
abbrev aL1 (m0:Nat):Ct (X64 Ik) (Bb tEl s64.rs):=⟨[0,1,0,1,1,1],[.vf 7 .one [.os 0 5 0],.sl 1 kI,.sl 2 kI,.sl 16 kI,.sl 17 kI],fun z=>(z.1,z.2.1,z.2.2.1,(z.2.2.1:Int),z.2.2.2.2.1,()),1,fun z=>sU z.2.1 z.2.2.1 m0 z.1.1 z.2.2.2.2.1⟩
theorem t64_0 {O:aR} {r:Bb tEl s64.rs}:∀ m0,SndW (W64 Ik f110) O r (aL1 m0):=bH (W:=(W64 Ik f110)) h64 (fun m0=>aL1 m0) (fun m0=>[aL1 m0]) (fun m0 e0=>⟨e0,trivial⟩)
theorem o64:CsOk Ik tCod 110 s64:=bR (W:=(W64 Ik f110)) h64 func110 rfl [aL1 fuel] (fun O r _=>⟨(t64_0 fuel),trivial⟩)
def s65:CS tEl:=⟨[.agg 2],[kS,kI],fun z=>aAS z.1⟩
def X65:=cX0 [(107,s53),(108,s61),(109,s58),(110,s64)]
theorem h65:FsOk (X65 Ik):=Bk (C:=(X65 Ik)) ⟨o53,o61,o58,o64,trivial⟩ trivial
def W65 (P:An) (f:Func):Fw (X65 P):=⟨f,s65.acx,s65.rs⟩
abbrev c65_0:Ct (X65 Ik) (Bb tEl s65.rs):=⟨[1,1,1,1],[.vf 1 .one [.rf 0 0],.sl 5 kI,.bc 0 81 2],fun z=>z,1,fun z=>rT z.2.2.1 z.2.1⟩
theorem t65_0 {O:aR} {r:Bb tEl s65.rs}:SndW (W65 Ik f56) O r (c65_0):=fF (W:=(W65 Ik f56)) h65 (c65_0) [] trivial
theorem o65:CsOk Ik tCod 56 s65:=bR (W:=(W65 Ik f56)) h65 func56 rfl [c65_0] (fun O r _=>⟨(t65_0),trivial⟩)
def s66:CS tEl:=⟨[.agg 6],[kI],fun z=>wU z.1⟩
def X66:=cX1 (fun t=>Aj t 72||Aj t 73||Aj t 76) [] []
theorem o66:CsOk Ik tCod 57 s66:=aV (X66 Ik) trivial trivial func57 rfl
theorem pJ (a0:(List aC)) (r:(List aC)) (h:cO a0=some r):eL Ik 148 [.slice false (a0.map aO.d)] (.slice false (r.map aO.d)):=by
 refine pI (rs:=[.slice false (r.map aO.d)]) func148 M ntmps148 (nle M) M fun O hO=>?_
 show IWP _ _ _ _ ⟨[(0,.slice false (a0.map aO.d))],[]⟩ _
 unfold cO at h;refine aJ (cAs (.nils) M<|aI ?_);refine bG<|aJ (aE M (mvL M M M M)<|aAP M M M (by decide) underlying27 (svL M) M<|fun bn1 hbn1 =>
  aI ?_)
 refine oG (b:=_) M (fun hc2=>?_) (fun hc2=>?_)
 ·
  replace h:=aDv h (mapE (hbn1 hc2));refine aJ (cAs (.nils) M<|aI ?_);refine bJ<|cN ?_;obtain rfl:=sj_ h;refine ⟨.inr M,(.cons (aIQ M M) .nil)⟩
 ·
  replace h:=aDw h;refine bS<|aT ?_;obtain ⟨x3,hx3,h⟩:=eC h;refine aJ (aE M (zD aO ([]:(List aC)) 0 M M (lb M) underlying27 uW M .nil M M (by decide))<|aE M (mvL M M M M)<|aE M (wA aO 1 M M (lb M) underlying27 uW M M M M (svL M) hx3)<|cAs (.gsl _ _ _) M<|aI ?_);refine bJ ?_;obtain rfl:=sj_ h;refine ⟨.inr M,(.cons (aIR M M) .nil)⟩
def s67:CS tEl:=⟨[.one (.sl 5)],[.one (.sl 5)],fun z=>cO z.1⟩
theorem o67:CsOk Ik tCod 148 s67:=FI cl148 (fun z r h=>⟨_,_,pJ z.1 r h,by kernel_rfl,by kernel_rfl⟩)
def s68:HS tEl:=⟨[.sl 0 (.agg 6)],1,0,[.vf 0 .agg [.pl kI,.pl kS,.pl kI,.os 0 73 4,.pl (.one (.sl 5)),.pl kB,.pl kB,.pl kB,.pl kB]],1,1,(Int×(List Ai)×Int×(List aD)×(List aC)×Bool×Bool×Bool×Bool),fun y=>(y.1.1,y.1.2.1,y.1.2.2.1,y.1.2.2.2.1,y.1.2.2.2.2.1,y.1.2.2.2.2.2.1,y.1.2.2.2.2.2.2.1,y.1.2.2.2.2.2.2.2.1,y.1.2.2.2.2.2.2.2.2.1),fun z r=>(((r.1:Int),(r.2.1:List Ai),(r.2.2.1:Int),(r.2.2.2.1:List _),(r.2.2.2.2.1:List _),(r.2.2.2.2.2.1:Bool),(r.2.2.2.2.2.2.1:Bool),(r.2.2.2.2.2.2.2.1:Bool),(r.2.2.2.2.2.2.2.2:Bool),()),()),fun z=>gM z.1⟩
def X68:=cX1 (fun t=>Aj t 72||Aj t 73||Aj t 76) [(148,s67)] []
theorem h68:FsOk (X68 Ik):=Bk (C:=(X68 Ik)) ⟨o67,trivial⟩ trivial
def W68 (P:An) (f:Func):Fh (X68 P):=⟨f,s68⟩
theorem o68:HsOk tCod Ik 89 s68:=uP (C:=(X68 Ik)) (W:=(W68 Ik f89)) (by kernel_rfl) (fun _ _=>rfl) h68 func89 rfl rfl rfl (fun z0=>[]) (fun z=>by kernel_rfl) (fun h hf z=>by kernel_rfl) (fun z0 O r _=>trivial)
theorem zZ (a0:aF) (r:(Int×(List Ai)×Int×(List aD)×(List aC)×Bool×Bool×Bool×Bool)) (h:gM a0=some r):FnH Ik 89 [.agg [.int .i64 a0.ag,.str a0.aj,.int .i64 a0.ak,.slice false (a0.ah.map aB.d),.slice false (a0.ay.map aO.d),.bool a0.aw,.bool a0.az,.bool a0.ax,.bool a0.ba]] [] (.agg [.int .i64 r.1,.str r.2.1,.int .i64 r.2.2.1,.osl 0 aB.sz r.2.2.2.1.length,.slice false (r.2.2.2.2.1.map aO.d),.bool r.2.2.2.2.2.1,.bool r.2.2.2.2.2.2.1,.bool r.2.2.2.2.2.2.2.1,.bool r.2.2.2.2.2.2.2.2]) [(0,.blk 73 (Al (r.2.2.2.1.map aB.d)))]:=HsOk.to o68 (a0,()) r h (by kernel_rfl) (by kernel_rfl) (by kernel_rfl) (by kernel_rfl)
def s69:CS tEl:=⟨[.agg 6,kS],[.agg 6,kI],fun z=>xM z.1 z.2.1⟩
def X69:=cX1 (fun t=>Aj t 72||Aj t 73||Aj t 76) [(66,s26),(57,s66),(90,s24)] [(89,s68)]
theorem o69:CsOk Ik tCod 58 s69:=aV (X69 Ik) ⟨o26,o66,o24,trivial⟩ ⟨o68,trivial⟩ func58 rfl
def s70:CS tEl:=⟨[.agg 10,.agg 2],[.agg 10,kI],fun z=>mE z.1 z.2.1⟩
def X70:=cX0 [(22,s56),(38,s57),(56,s65),(57,s66),(58,s69)]
theorem o70:CsOk Ik tCod 18 s70:=aV (X70 Ik) ⟨o56,o57,o65,o66,o69,trivial⟩ trivial func18 rfl
def s71:CS tEl:=⟨[.agg 6],[kB],fun z=>oP z.1⟩
def X71:=cX1 (fun t=>Aj t 72||Aj t 73||Aj t 76) [] []
theorem o71:CsOk Ik tCod 99 s71:=aV (X71 Ik) trivial trivial func99 rfl
def s72:CS tEl:=⟨[.agg 6,kI,kI],[.agg 4,kB],fun z=>nI z.1 z.2.1 z.2.2.1⟩
def X72:=cX1 (fun t=>Aj t 72||Aj t 73||Aj t 76) [(90,s24),(99,s71)] []
theorem o72:CsOk Ik tCod 97 s72:=aV (X72 Ik) ⟨o24,o71,trivial⟩ trivial func97 rfl
def s73:CS tEl:=⟨[.agg 4,.ptr 4],[kB],fun z=>qE z.1 z.2.1⟩
def X73:=cX1 (fun t=>Aj t 72||Aj t 73||Aj t 76) [] []
theorem o73:CsOk Ik tCod 159 s73:=aV (X73 Ik) trivial trivial func159 rfl
def s74:CS tEl:=⟨[.one (.sl 4),.fn1 159 (.ptr 4)],[kI],fun z=>cL z.1 z.2.1⟩
def X74:=cX1 (fun t=>Aj t 72||Aj t 73||Aj t 76) [(159,s73)] []
theorem h74:FsOk (X74 Ik):=Bk (C:=(X74 Ik)) ⟨o73,trivial⟩ trivial
def W74 (P:An) (f:Func):Fw (X74 P):=⟨f,s74.acx,s74.rs⟩
abbrev aL0 (m0:Nat):Ct (X74 Ik) (Bb tEl s74.rs):=⟨[0,1,0,1],[.sl 0 (.one (.sl 4)),.sl 1 (.fn1 159 (.ptr 4)),.sl 7 kI,.sl 8 kI],fun z=>(z.1,z.2.1,((z.1.length:Int):Int),z.2.2.2.1,()),0,fun z=>bC z.1 z.2.1 m0 z.2.2.2.1⟩
theorem t74_0 {O:aR} {r:Bb tEl s74.rs}:∀ m0,SndW (W74 Ik f149) O r (aL0 m0):=bH (W:=(W74 Ik f149)) h74 (fun m0=>aL0 m0) (fun m0=>[aL0 m0]) (fun m0 e0=>⟨e0,trivial⟩)
theorem o74:CsOk Ik tCod 149 s74:=bR (W:=(W74 Ik f149)) h74 func149 rfl [aL0 fuel] (fun O r _=>⟨(t74_0 fuel),trivial⟩)
theorem lA (a0:(List aD)) (a1:aD) (r:Int) (h:cL a0 a1=some r):eL Ik 149 [.slice false (a0.map aB.d),.fn 159 [.fptr [.int .i64 a1.aa,.int .i64 a1.To,.int .i64 a1.bu,.bool a1.bx]]] (.int .i64 r):=Dl o74 (a0,a1,()) r h (by kernel_rfl) (by kernel_rfl)
theorem zY (a0:aF) (a1:aD) (r:Int) (h:kJ a0 a1=some r):eL Ik 101 [.agg (tv1 a0),.agg (tv2 a1)] (.int .i64 r):=by
 refine pI (rs:=[.int .i64 r]) func101 M ntmps101 (nle M) M fun O hO=>?_
 show IWP _ _ _ _ ⟨[(0,.agg (tv1 a0)),(1,.agg (tv2 a1))],[]⟩ _
 unfold kJ at h;refine aJ (cBx (cs:=q7) q7 0 M<|cBx (cs:=q10) q10 1 M<|cAs (.int _ 0) M<|aI ?_);obtain ⟨x1,hx1,x2,hx2,x3,hx3,h⟩:=eooo h;obtain ⟨x4,hx4,x5,hx5,x6,hx6,h⟩:=edoo h;refine lY M [nd1 [2] 5 (.ref 0 3),nd2 [5] [0] 6 (.slice false (a0.ah.map aB.d)),nd1 [2] 7 (.ref 0 3),nd2 [7] [0] 8 (.slice false (a0.ah.map aB.d)),nd1 [8] 9 (.int .i64 (a0.ah.length:Int)),nd1 [2] 10 (.ref 0 3),nd2 [10] [0] 11 (.slice false (a0.ah.map aB.d)),nd1 [11] 12 (.int .i64 (a0.ah.length:Int)),nd1 [6,9,12] 13 (.slice true (x1.map aB.d)),nd2 [2] [0] 14 (.agg (tv1 a0)),nd1 [14] 15 (.int .i64 x2),nd2 [2] [0] 16 (.agg (tv1 a0)),nd1 [16] 17 (.int .i64 x3),nd1 [17] 18 (.int .i64 x4),nd1 [15,18] 19 (.agg (w20 x2 x4 0 false)),⟨[19],[2],[(20,.osl 2 aB.sz (([(⟨x2,x4,0,false⟩:aD)]:(List aD)).length))],[(2,.blk 73 (Al ((([(⟨x2,x4,0,false⟩:aD)]:(List aD))).map aB.d)))]⟩,⟨[13,20],[2,3],[(21,.osl 3 aB.sz x5.length)],[(3,.blk 73 (Al (x5.map aB.d)))]⟩,nd1 [3] 22 (.fn 159 [.ref 1 0]),nd2 [21,22] [1,3] 23 (.int .i64 x6),nd1 [23] 4 (.int .i64 x6)] M ?_ (by kernel_rfl) ?_
 ·refine .cons (dFa 3 underlying29 M ti25 M)<|.cons (dLd underlying25 ag25 ti25 M)<|.cons (dFa 3 underlying29 M ti25 M)<|.cons (dLd underlying25 ag25 ti25 M)<|.cons (lop M M fun S hA=>(qK aB (l:=a0.ah) M M (lb M) underlying25 (svaL hA M M)))<|.cons (dFa 3 underlying29 M ti25 M)<|.cons (dLd underlying25 ag25 ti25 M)<|.cons (lop M M fun S hA=>(qK aB (l:=a0.ah) M M (lb M) underlying25 (svaL hA M M)))<|.cons (lop M M fun S hA=>(aEi aB M M (lb M) underlying25 ti73 (svaL hA M M) (svaI hA M M) (svaI hA M M) hx1))<|.cons (dLa underlying29 ag29 ti29 M)<|.cons (lop M M fun S hA=>(eZ (r:=.int _ _) M M (lb M) cl90 (.cons (svaA q7 hA M M) .nil) M (sF _ _ hx2)))<|.cons (dLa underlying29 ag29 ti29 M)<|.cons (lop M M fun S hA=>(eZ (r:=.int _ _) M M (lb M) cl90 (.cons (svaA q7 hA M M) .nil) M (sF _ _ hx3)))<|.cons (lop M M fun S hA=>(cT M M (lb M) (svaI hA M M) (sv (d:=.int _ 1) M) M hx4))<|.cons (lop M M fun S hA=>(gO (cs:=q10) M M (lb M) underlying73 ti73 pl73 M (.cons (svaI hA M M) (.cons (svaI hA M M) .nil)) M))<|.cons (lop M M fun S hA=>(qM aB.toEnc0 ([(⟨x2,x4,0,false⟩:aD)]:(List aD)) 2 M M (lb M) underlying25 ti73 (agi hA M M) (.cons (svaA q10 hA M M) .nil) M M (by decide)))<|.cons (lop M M fun S hA=>(aGU aB.toEnc0 3 M M (lb M) underlying25 ti73 M (svaL hA M M) (agi hA M M) (aAf aB.toEnc0 (agr hA M M) M (agi hA M M)) (by simp) hx5))<|.cons (lop M M fun S hA=>(uF M M (lb M) (.cons (svaR hA M M) .nil)))<|.cons (lop M M fun S hA=>(aAN (r:=.int .i64 x6) M M (lb M) cl149 (.cons (sv (d:=.osl _ _ _) (agr hA M M)) (.cons (sv (d:=.fn 159 [.ref _ _]) (agr hA M M)) .nil)) (.cons (FDT aB (agi hA M M) M) (.cons (.fn (.cons (.ref (agi hA M M) M (aAT _) M) .nil)) .nil)) M M (lA _ _ _ hx6)))<|.cons (lop M M fun S hA=>(dK M M (lb M) (svaI hA M M))) ?_
  exact .nil
 refine bJ ?_;obtain rfl:=sj_ h;refine ⟨.inr M,(.cons (sv M) .nil)⟩
def s75:CS tEl:=⟨[.agg 6,.agg 4],[.one (.int .i64)],fun z=>kJ z.1 z.2.1⟩
theorem o75:CsOk Ik tCod 101 s75:=FI cl101 (fun z r h=>⟨_,_,zY z.1 z.2.1 r h,by kernel_rfl,by kernel_rfl⟩)
set_option maxRecDepth 8000 in
set_option maxHeartbeats 4000000 in
theorem nM (a0:Int) (a1:List aD) (a2:List aD) (r:List aD) (h:dN a0 a1 a2=some r):FnH Ik 100 [.osl 1000 aB.sz a2.length,.int .i64 a0,.slice false (a1.map aB.d)] [(1000,.blk 73 (Al (a2.map aB.d)))] (.osl 0 aB.sz r.length) [(0,.blk 73 (Al (r.map aB.d)))]:=by
 replace h:insS 32 a2 a0 a1=some r:=h;obtain ⟨i,rfl,hi,hm,hb,hr⟩:=insS_e h
 have hX:=aB.toEnc0.flat_len a2
 have hV:=aB.toEnc0.flat_len a1
 have hp:=aB.pos
 have hvt:∀ k,a1.length≤k→(Al (a1.map aB.d)).take (min a1.length k*aB.sz)=Al (a1.map aB.d):=fun k hk=>by
  rw [BT hk,←hV,AM]
 refine pS (rs:=[.osl 0 aB.sz r.length]) func100 M ntmps100 (nle M) fun O hO=>?_
 show IWP _ _ _ _ ⟨[(0,.osl 1000 aB.sz a2.length),(1,.int .i64 (i:Int)),(2,.slice false (a1.map aB.d))],[(1000,.blk 73 (Al (a2.map aB.d)))]⟩ _
 refine aDU 0 (id:=1000) (sz:=aB.sz) (n:=a2.length) M M hX (fun hn=>?_) (fun c hc hcm=>?_)
 ·
  obtain rfl:=Bh.1 hn;obtain rfl:i=0:=by simpa using hi
  refine aJ (cAs (.nils) M<|aI ?_);refine aJ (cMv (.nils) M<|cI M<|aE M (aGT aB (s:=[]) (r:=[]) (b:=false) M M (lb M) underlying25 ti73 (svn M) ⟨_,(svI M)⟩ M M)<|aI ?_);refine aJ (aE M (mvL M M M M)<|aE M (qK aB (l:=a1) M M (lb M) underlying25 (svL M))<|cAI M<|aI ?_);refine bG<|aJ (cI M<|cCm (b:=0) M M<|aI ?_);refine oG (b:=_) M (fun h1=>?_) (fun h1=>?_)
  ·have h2:=of_decide_eq_true h1
   obtain rfl:=Bh.1 (show a1.length=0 by omega)
   have hr':[]=r:=by simpa using hr
   subst hr';refine aJ (cMv (.nils) M<|cAs (.nils) M<|aI ?_);refine bJ<|cN ?_;refine ⟨.inr M,(fun i=>if i=0 then 50 else i),⟨.nil,(.cons (.nilb M) .nil),dF [50] M (by decide),(fun i hi=>by first | rfl | (show (if _ then _ else _)=_; (repeat' split) <;> omega))⟩,(.cons (svno M) .nil),M⟩
  ·refine bS<|aT<|aJ (cMv (.nils) M<|aE M (qK aB (l:=[]) (b:=false) M M (lb M) underlying25 (svn M))<|cAI M<|aI ?_)
   refine bG<|aJ (cI M<|cI M<|cCm M M<|aI ?_);refine vC M M ?_
   have ha:app 32 ([]:List aD) a1=some r:=by
    rw [←hr]; unfold maxLen at hm; simpa using dU hm hb
   refine aJ (cMv (.nils) M<|aE M (mvL M M M M)<|aE M (oR aB.toEnc0 0 M M (lb M) underlying25 ti73 M M M (aFO aB (ys:=a1) (svL M)) ha)<|cAs (.osl _ _ _) M<|aI ?_);refine bJ<|cN ?_;refine ⟨.inr M,(fun i=>i),⟨.nil,(.cons (Cd M) .nil),dF [0] M (by decide),fun _ _=>M⟩,(.cons (sv M) .nil),M⟩
 ·refine aJ (cAs (.nils) M<|aI ?_)
  refine aJ (cMv (.rsl _ _ _ _ _) M<|cI M<|aE M (dX (sz:=aB.sz) (l:=(i:Int)) (h:=(a2.length:Int)) (m:=(c:Int)) M M (lb M) underlying25 ti73 (sv (d:=.rsl _ _ _ _ _) M) ⟨_,(svI M)⟩ M M (by simp) (by omega) (by omega) (by omega) (by omega) M)<|aI ?_);refine aJ (aE M (mvL M M M M)<|aE M (qK aB (l:=a1) M M (lb M) underlying25 (svL M))<|cAI M<|aI ?_);refine bG<|aJ (cI M<|cCm (b:=0) M M<|aI ?_);refine oG (b:=_) M (fun h1=>?_) (fun h1=>?_)
  ·have h2:=of_decide_eq_true h1
   obtain rfl:=Bh.1 (show a1.length=0 by omega)
   have hr':a2=r:=by simpa using hr
   subst hr';refine aJ (cMv (.rsl _ _ _ _ _) M<|cAs (.rsl _ _ _ _ _) M<|aI ?_);refine xB 6 (id:=1000) M M hX<|bJ<|cN ?_;refine ⟨.inr M,(fun i=>if i=0 then 1000 else i),⟨.nil,(.cons (Cd M) .nil),dF [1000] M (by decide),(fun i hi=>by first | rfl | (show (if _ then _ else _)=_; (repeat' split) <;> omega))⟩,(.cons (sv M) .nil),M⟩
  ·have h2:=of_decide_eq_false h1
   have hm0:0<a1.length:=by omega
   refine bS<|aT<|aJ (cMv (.rsl _ _ _ _ _) M<|aE M (vX M M (lb M) underlying25 (sv (d:=.rsl _ _ _ _ _) M) M)<|cAI M<|aI ?_);refine bG<|aJ (cI M<|cI M<|cCm M M<|aI ?_);refine oG (b:=_) M (fun h3=>?_) (fun h3=>?_)
   ·have h4:=of_decide_eq_true h3
    obtain rfl:i=a2.length:=by omega
    have hr':a2++a1=r:=by simpa using hr
    have ha:app 32 a2 a1=some r:=by
     rw [←hr']; unfold maxLen at hm; exact dU hm hb
    refine aJ (cMv (.rsl _ _ _ _ _) M<|aE M (mvL M M M M)<|aJg 23 (id:=1000) M M hX<|aE M (wB aB.toEnc0 0 M M (lb M) underlying25 ti73 M M M M M (aFO aB (ys:=a1) (svL M)) ha)<|cAs (.osl _ _ _) M<|aI ?_);refine bJ<|cN ?_;refine ⟨.inr M,(fun i=>i),⟨.nil,(.cons (Cd M) .nil),dF [0] M (by decide),fun _ _=>M⟩,(.cons (sv M) .nil),M⟩
   ·have h4:=of_decide_eq_false h3
    have hin:i<a2.length:=by omega
    have hXt:(Al ((a2.take i).map aB.d)).length=i*aB.sz:=by rw [aB.toEnc0.flat_len,Aw,BT hi]
    have hXd:(Al ((a2.drop i).map aB.d)).length=(a2.length-i)*aB.sz:=by rw [aB.toEnc0.flat_len,AA]
    have hXs:Al (a2.map aB.d)=Al ((a2.take i).map aB.d)++Al ((a2.drop i).map aB.d):=by
     rw [aB.toEnc0.flat_append,AO]
    have hR:Al (r.map aB.d)=Al ((a2.take i).map aB.d)++Al (a1.map aB.d)++Al ((a2.drop i).map aB.d):=by
     rw [←hr,aB.toEnc0.flat_append,aB.toEnc0.flat_append]
    have hRl:(Al (r.map aB.d)).length=r.length*aB.sz:=aB.toEnc0.flat_len r
    have hrl:r.length=a2.length+a1.length:=by rw [←hr]; simp; omega
    refine bS<|aT<|bG<|aJ (cI M<|cI M<|aE M (cT M M (lb M) (svI M) (svI M) M (wN hm))<|cMv (.rsl _ _ _ _ _) M<|aE M (aFh M M (lb M) underlying25 (sv (d:=.rsl _ _ _ _ _) M) M)<|cCm M M<|aI ?_);refine oG (b:=_) M (fun h5=>?_) (fun h5=>?_)
    ·have h6:=of_decide_eq_true h5
     have hcn:c<a2.length+a1.length:=by omega
     obtain ⟨K,hK⟩:∃ K,K=a2.length+a1.length-i:=⟨_,rfl⟩
     have hKm:i+K=a2.length+a1.length:=by omega
     have w1:Ab .i64 (((a2.length+a1.length:Nat):Int)-(i:Int))=(K:Int):=by rw [hK]; exact wS (by omega) hm
     have hD0:i*aB.sz≤(Al (a2.map aB.d)++Ay ((c-a2.length)*aB.sz) D.dead).length:=by
      rw [Ae,hX]; exact Cb (AS _ hi) (Da _ _)
     have hT0:(Al (a2.map aB.d)++Ay ((c-a2.length)*aB.sz) D.dead).take (i*aB.sz)=Al ((a2.take i).map aB.d):=by
      rw [AC (by rw [hX]; exact AS _ hi),aB.toEnc0.flat_take]
     refine aJ (cMv (.rsl _ _ _ _ _) M<|cI M<|aE M (dX (sz:=aB.sz) (l:=0) (h:=(i:Int)) (m:=(c:Int)) (d:=.rsl 1000 aB.sz 0 i c) M M (lb M) underlying25 ti73 (sv (d:=.rsl _ _ _ _ _) M) M ⟨_,(svI M)⟩ M (by simp) (by omega) (by omega) (by omega) (by omega) (by simp only [Au,Df,CW,Bl,DA]))<|cI M<|cI M<|aE M (cT M M (lb M) (svI M) (svI M) M (wN hm))<|cI M<|aE M (cT M M (lb M) (svI M) (svI M) M w1)<|aE M (aEn (sz:=aB.sz) (k:=K) 0 M M (lb M) underlying25 underlying3 ti73 M (sv (d:=.rsl _ _ _ _ _) M) M M (svI M) M (by omega) hD0 (by omega) (by rw [hKm]; exact hm) (by rw [hKm]; exact hb))<|cAs (.osl _ _ _) M<|aI ?_)
     have hY0:((Al (a2.map aB.d)++Ay ((c-a2.length)*aB.sz) D.dead).take (i*aB.sz)++Ay (K*aB.sz) D.dead).length=(i+K)*aB.sz:=by
      rw [Ae,Aw,BG,BT hD0,Bp]
     refine aDU 9 (id:=0) M M hY0 (fun h0=>AP h0 (by omega)) (fun c1 hc1 hcm1=>?_);rw [hT0];rw [hT0] at hY0
     have w2:Ab .i64 ((i:Int)+(a1.length:Int))=((i+a1.length:Nat):Int):=wN (by omega)
     have hKs:(K-a1.length)*aB.sz=(a2.length-i)*aB.sz:=by congr 1; omega
     obtain ⟨J,hJ⟩:∃ J,J=Ay ((c1-(i+K))*aB.sz) D.dead:=⟨_,rfl⟩;obtain ⟨Z,hZ⟩:∃ Z,Z=Ay (K*aB.sz) D.dead:=⟨_,rfl⟩
     have hZl:Z.length=K*aB.sz:=by rw [hZ,BG]
     have hKsp:K*aB.sz=a1.length*aB.sz+(a2.length-i)*aB.sz:=by rw [←Bp]; congr 1; omega
     rw [←hJ,←hZ]
     have hYl:(Al ((a2.take i).map aB.d)++Z++J).length=i*aB.sz+K*aB.sz+J.length:=by simp only [Ae,hXt,hZl]
     refine aJ (cMv (.rsl _ _ _ _ _) M<|cI M<|aE M (dX (sz:=aB.sz) (l:=(i:Int)) (h:=((i+K:Nat):Int)) (m:=(c1:Int)) (d:=.rsl 0 aB.sz (i*aB.sz) K (c1-i)) M M (lb M) underlying25 ti73 (sv (d:=.rsl _ _ _ _ _) M) ⟨_,(svI M)⟩ M M (by simp) (by omega) (by omega) (by omega) (by omega) (by simp only [Au,Bl]; congr 1; omega))<|aE M (mvL M M M M)<|aE M (uG (sz:=aB.sz) (ds':=eH (Al ((a2.take i).map aB.d)++Z++J) (i*aB.sz) (Al (a1.map aB.d))) M M (lb M) underlying25 ti73 (sv (d:=.rsl _ _ _ _ _) M) M (aFO aB (ys:=a1) (svL M)) hV (aAZ (aB.toEnc0.one a1) _) (by rw [hYl]; omega) M (by rw [hvt _ (by omega)]))<|aI ?_)
     have e1:eH (Al ((a2.take i).map aB.d)++Z++J) (i*aB.sz) (Al (a1.map aB.d))=Al ((a2.take i).map aB.d)++Al (a1.map aB.d)++(Z.drop (a1.length*aB.sz)++J):=by
      have e2:Al ((a2.take i).map aB.d)++Z++J=Al ((a2.take i).map aB.d)++Z.take (a1.length*aB.sz)++(Z.drop (a1.length*aB.sz)++J):=by
       rw [Ax (Al ((a2.take i).map aB.d)),Ax (Al ((a2.take i).map aB.d)),←Ax (Z.take _),AO]
      rw [e2]; exact wP hXt (by rw [Aw,hZl,hV]; omega)
     have hres:=ins_new (J:=J) (Y:=Al ((a2.drop i).map aB.d)) hXt hV (show Z.length=a1.length*aB.sz+(Al ((a2.drop i).map aB.d)).length by rw [hZl,hXd,hKsp])
     have hlen1:(eH (Al ((a2.take i).map aB.d)++Z++J) (i*aB.sz) (Al (a1.map aB.d))).length=i*aB.sz+K*aB.sz+J.length:=by
      rw [e1]; simp only [Ae,hXt,hV,AA,hZl]; omega
     obtain ⟨Y1,hY1⟩:∃ Y1,Y1=eH (Al ((a2.take i).map aB.d)++Z++J) (i*aB.sz) (Al (a1.map aB.d)):=⟨_,rfl⟩;rw [←hY1] at hlen1 hres ⊢;obtain ⟨es,hes⟩:∃ es,es=((Al (a2.map aB.d)++Ay ((c-a2.length)*aB.sz) D.dead).drop (i*aB.sz)).take ((a2.length-i)*aB.sz):=⟨_,rfl⟩
     have hes':es=Al ((a2.drop i).map aB.d):=by
      rw [hes,Bi (by rw [hX]; exact AS _ hi),aB.toEnc0.flat_drop,AC (by rw [hXd]; exact AJ _),←hXd,AM]
     have hfit2:i*aB.sz+(a2.length-i)*aB.sz≤(Al (a2.map aB.d)++Ay ((c-a2.length)*aB.sz) D.dead).length:=by
      rw [Ae,hX,←Bp,show i+(a2.length-i)=a2.length by omega]; exact Da _ _
     have him:(i+a1.length)*aB.sz=i*aB.sz+a1.length*aB.sz:=Bp _ _ _
     refine lY M [nd1 [9] 46 (.rsl 0 aB.sz 0 (i+K) c1),nd1 [1] 47 (.int .i64 (i:Int)),nd1 [7] 48 (.int .i64 (a1.length:Int)),nd1 [47,48] 49 (.int .i64 ((i+a1.length:Nat):Int)),nd1 [46,49] 50 (.rsl 0 aB.sz ((i+a1.length)*aB.sz) (K-a1.length) (c1-(i+a1.length))),nd1 [0] 51 (.rsl 1000 aB.sz 0 a2.length c),nd1 [1] 52 (.int .i64 (i:Int)),nd1 [51,52] 53 (.rsl 1000 aB.sz (i*aB.sz) (a2.length-i) (c-i)),⟨[50,53],[0,1000],[(54,.int .i64 ((min (a2.length-i) (K-a1.length):Nat):Int))],[(0,.blk 73 (eH Y1 ((i+a1.length)*aB.sz) es))]⟩] M ?_ (by kernel_rfl) ?_
     ·refine .cons (lop M M fun S hA=>(eK M M (lb M) (sv (d:=.rsl _ _ _ _ _) (agr hA M M))))<|.cons (dMv M)<|.cons (dMv M)<|.cons (lop M M fun S hA=>(cT M M (lb M) (svaI hA M M) (svaI hA M M) M w2))<|.cons (lop M M fun S hA=>(dX (sz:=aB.sz) (l:=((i+a1.length:Nat):Int)) (h:=((i+K:Nat):Int)) (m:=(c1:Int)) (d:=.rsl 0 aB.sz ((i+a1.length)*aB.sz) (K-a1.length) (c1-(i+a1.length))) M M (lb M) underlying25 ti73 (sv (d:=.rsl _ _ _ _ _) (agr hA M M)) ⟨_,(svaI hA M M)⟩ M M (by simp) (by omega) (by omega) (by omega) (by omega) (by simp only [Au,Bl]; congr 1; omega)))<|.cons (lop M M fun S hA=>(eK M M (lb M) (sv (d:=.rsl _ _ _ _ _) (agr hA M M))))<|.cons (dMv M)<|.cons (lop M M fun S hA=>(dX (sz:=aB.sz) (l:=(i:Int)) (h:=(a2.length:Int)) (m:=(c:Int)) (d:=.rsl 1000 aB.sz (i*aB.sz) (a2.length-i) (c-i)) M M (lb M) underlying25 ti73 (sv (d:=.rsl _ _ _ _ _) (agr hA M M)) ⟨_,(svaI hA M M)⟩ M M (by simp) (by omega) (by omega) (by omega) (by omega) (by simp only [Au,Bl])))<|.cons (lop M M fun S hA=>(uG (sz:=aB.sz) (es:=es) (ds':=eH Y1 ((i+a1.length)*aB.sz) es) M M (lb M) underlying25 ti73 (sv (d:=.rsl _ _ _ _ _) (agr hA M M)) (agi hA M M) (hes ▸ aFN (sv (d:=.rsl _ _ _ _ _) (agr hA M M)) (agi hA M M) hfit2) (by rw [hes',hXd]) (aAZ (by rw [hes']; exact aB.toEnc0.one _) _) (by rw [hlen1,him,hKs]; omega) M (by rw [show min (a2.length-i) (K-a1.length)=a2.length-i by omega,hes',←hXd,AM]))) ?_
      exact .nil
     ·rw [hes',him,hres,←hR]
      refine aJ (cMv (.rsl _ _ _ _ _) M<|cAs (.rsl _ _ _ _ _) M<|aI ?_);refine xB 6 (id:=0) M M (show (Al (r.map aB.d)).length=(i+K)*aB.sz by rw [hRl,hrl,hKm])<|bJ<|cN ?_;refine ⟨.inr M,(fun i=>i),⟨.nil,(.cons (Cd M) .nil),dF [0] M (by decide),fun _ _=>M⟩,(.cons (sv (Bv (D.osl _ _) (show i+K=r.length by omega))) .nil),M⟩
    ·have h6:=of_decide_eq_false h5
     have hcn:a2.length+a1.length≤c:=by omega
     have w2:Ab .i64 ((i:Int)+(a1.length:Int))=((i+a1.length:Nat):Int):=wN (by omega)
     have him:(i+a1.length)*aB.sz=i*aB.sz+a1.length*aB.sz:=Bp _ _ _
     obtain ⟨J,hJ⟩:∃ J,J=Ay ((c-a2.length)*aB.sz) D.dead:=⟨_,rfl⟩
     have hJl:J.length=(c-a2.length)*aB.sz:=by rw [hJ,BG]
     have hJm:a1.length*aB.sz≤J.length:=by rw [hJl]; exact AS _ (by omega)
     have hni:a2.length*aB.sz=i*aB.sz+(a2.length-i)*aB.sz:=by rw [←Bp]; congr 1; omega
     have hnm:(a2.length+a1.length-i)*aB.sz=(a2.length-i)*aB.sz+a1.length*aB.sz:=by rw [←Bp]; congr 1; omega
     have hnm2:(a2.length+a1.length-(i+a1.length))*aB.sz=(a2.length-i)*aB.sz:=by congr 1; omega
     rw [←hJ]
     have hD0:(Al (a2.map aB.d)++J).length=i*aB.sz+(a2.length-i)*aB.sz+J.length:=by rw [Ae,hX,hni]
     refine bS<|aT<|aJ (cMv (.rsl _ _ _ _ _) M<|cI M<|cI M<|aE M (cT M M (lb M) (svI M) (svI M) M (wN hm))<|aE M (dX (sz:=aB.sz) (l:=0) (h:=((a2.length+a1.length:Nat):Int)) (m:=(c:Int)) (d:=.rsl 1000 aB.sz 0 (a2.length+a1.length) c) M M (lb M) underlying25 ti73 (sv (d:=.rsl _ _ _ _ _) M) M ⟨_,(svI M)⟩ M (by simp) (by omega) (by omega) (by omega) (by omega) (by simp only [Au,Df,CW,Bl,DA]))<|cAs (.rsl _ _ _ _ _) M<|aI ?_);refine bG<|aJ (aE M (mvL M M M M)<|cMv (.rsl _ _ _ _ _) M<|cI M<|cI M<|aE M (cT M M (lb M) (svI M) (svI M) M w2)<|aE M (dX (sz:=aB.sz) (l:=((i+a1.length:Nat):Int)) (h:=((a2.length+a1.length:Nat):Int)) (m:=(c:Int)) M M (lb M) underlying25 ti73 (sv (d:=.rsl _ _ _ _ _) M) ⟨_,(svI M)⟩ M M (by simp) (by omega) (by omega) (by omega) (by omega) M)<|aE M (aEf M M (lb M) ex157 underlying25 ti73 (svL M) (by intro e; have e9:=Bv DH e; rw [Bf,Bj] at e9; omega) (sv (d:=.rsl _ _ _ _ _) M) M (by intro e; have:=Bv DH e; rw [hD0] at this; simp only [Bj] at this; have h9:0<(a2.length-i)*aB.sz:=Nat.mul_pos (Nat.sub_pos_of_lt hin) hp; clear hnm hnm2 him; omega))<|aE M (qJ M M (lb M) (svB M))<|aI ?_);refine vC M M ?_;obtain ⟨es,hes⟩:∃ es,es=((Al (a2.map aB.d)++J).drop (i*aB.sz)).take ((a2.length+a1.length-i)*aB.sz):=⟨_,rfl⟩
     have hes':es.take ((a2.length-i)*aB.sz)=Al ((a2.drop i).map aB.d):=by
      rw [hes,List.take_take,BT (by omega),Bi (by omega),aB.toEnc0.flat_drop,AC (by rw [hXd]; exact AJ _),←hXd,AM]
     have hesl:es.length=(a2.length+a1.length-i)*aB.sz:=by
      rw [hes,Aw,AA,hD0]; omega
     have hres:=aJc (J:=J) (Y:=Al ((a2.drop i).map aB.d)) hXt hV hJm
     rw [←hXs] at hres;refine lY M [nd1 [0] 69 (.rsl 1000 aB.sz 0 (a2.length+a1.length) c),nd1 [1] 70 (.int .i64 (i:Int)),nd1 [7] 71 (.int .i64 (a1.length:Int)),nd1 [70,71] 72 (.int .i64 ((i+a1.length:Nat):Int)),nd1 [69,72] 73 (.rsl 1000 aB.sz ((i+a1.length)*aB.sz) (a2.length+a1.length-(i+a1.length)) (c-(i+a1.length))),nd1 [0] 74 (.rsl 1000 aB.sz 0 (a2.length+a1.length) c),nd1 [1] 75 (.int .i64 (i:Int)),nd1 [74,75] 76 (.rsl 1000 aB.sz (i*aB.sz) (a2.length+a1.length-i) (c-i)),⟨[73,76],[1000],[(77,.int .i64 ((min (a2.length+a1.length-i) (a2.length+a1.length-(i+a1.length)):Nat):Int))],[(1000,.blk 73 (eH (Al (a2.map aB.d)++J) (i*aB.sz+a1.length*aB.sz) (Al ((a2.drop i).map aB.d))))]⟩] M ?_ (by kernel_rfl) ?_
     ·refine .cons (lop M M fun S hA=>(eK M M (lb M) (sv (d:=.rsl _ _ _ _ _) (agr hA M M))))<|.cons (dMv M)<|.cons (dMv M)<|.cons (lop M M fun S hA=>(cT M M (lb M) (svaI hA M M) (svaI hA M M) M w2))<|.cons (lop M M fun S hA=>(dX (sz:=aB.sz) (l:=((i+a1.length:Nat):Int)) (h:=((a2.length+a1.length:Nat):Int)) (m:=(c:Int)) (d:=.rsl 1000 aB.sz ((i+a1.length)*aB.sz) (a2.length+a1.length-(i+a1.length)) (c-(i+a1.length))) M M (lb M) underlying25 ti73 (sv (d:=.rsl _ _ _ _ _) (agr hA M M)) ⟨_,(svaI hA M M)⟩ M M (by simp) (by omega) (by omega) (by omega) (by omega) (by simp only [Au,Bl])))<|.cons (lop M M fun S hA=>(eK M M (lb M) (sv (d:=.rsl _ _ _ _ _) (agr hA M M))))<|.cons (dMv M)<|.cons (lop M M fun S hA=>(dX (sz:=aB.sz) (l:=(i:Int)) (h:=((a2.length+a1.length:Nat):Int)) (m:=(c:Int)) (d:=.rsl 1000 aB.sz (i*aB.sz) (a2.length+a1.length-i) (c-i)) M M (lb M) underlying25 ti73 (sv (d:=.rsl _ _ _ _ _) (agr hA M M)) ⟨_,(svaI hA M M)⟩ M M (by simp) (by omega) (by omega) (by omega) (by omega) (by simp only [Au,Bl])))<|.cons (lop M M fun S hA=>(uG (sz:=aB.sz) (es:=es) (ds':=eH (Al (a2.map aB.d)++J) (i*aB.sz+a1.length*aB.sz) (Al ((a2.drop i).map aB.d))) M M (lb M) underlying25 ti73 (sv (d:=.rsl _ _ _ _ _) (agr hA M M)) (agi hA M M) (hes ▸ aFN (sv (d:=.rsl _ _ _ _ _) (agr hA M M)) (agi hA M M) (by rw [hD0]; omega)) hesl (by rw [show min (a2.length+a1.length-i) (a2.length+a1.length-(i+a1.length))=a2.length-i by omega,hes']; exact aB.toEnc0.one _) (by rw [hD0,him,hnm2]; omega) M (by rw [show min (a2.length+a1.length-i) (a2.length+a1.length-(i+a1.length))=a2.length-i by omega,hes',him]))) ?_
      exact .nil
     ·refine aJ (cMv (.rsl _ _ _ _ _) M<|cI M<|aE M (dX (sz:=aB.sz) (l:=(i:Int)) (h:=((a2.length+a1.length:Nat):Int)) (m:=(c:Int)) (d:=.rsl 1000 aB.sz (i*aB.sz) (a2.length+a1.length-i) (c-i)) M M (lb M) underlying25 ti73 (sv (d:=.rsl _ _ _ _ _) M) ⟨_,(svI M)⟩ M M (by simp) (by omega) (by omega) (by omega) (by omega) (by simp only [Au,Bl]))<|aE M (mvL M M M M)<|aE M (uG (sz:=aB.sz) (ds':=Al (r.map aB.d)++J.drop (a1.length*aB.sz)) M M (lb M) underlying25 ti73 (sv (d:=.rsl _ _ _ _ _) M) M (aFO aB (ys:=a1) (svL M)) hV (aAZ (aB.toEnc0.one a1) _) (by rw [yM,hD0]; omega; rw [hD0,hXd]; omega) M (by rw [hvt _ (by omega),hres,hR]))<|aI ?_)
      refine aJ (cMv (.rsl _ _ _ _ _) M<|cAs (.rsl _ _ _ _ _) M<|aI ?_);refine xB 6 (id:=1000) M M (show (Al (r.map aB.d)).length=(a2.length+a1.length)*aB.sz by rw [hRl,hrl])<|bJ<|cN ?_;refine ⟨.inr M,(fun i=>if i=0 then 1000 else i),⟨.nil,(.cons (Cd M) .nil),dF [1000] M (by decide),(fun i hi=>by first | rfl | (show (if _ then _ else _)=_; (repeat' split) <;> omega))⟩,(.cons (sv (Bv (D.osl _ _) hrl.symm)) .nil),M⟩
def s76:HS tEl:=⟨[.vf 0 .one [.os 1000 73 4],.sl 1 (.one (.int .i64)),.sl 2 (.one (.sl 4))],3,1,[.vf 0 .one [.os 0 73 4]],1,1,(List aD),fun y=>y.1.1,fun z r=>(((r:List _),()),()),fun z=>dN z.2.1 z.2.2.1 z.1.1⟩
theorem o76:HsOk tCod Ik 100 s76:=HK cl100 (by kernel_rfl) (fun z r h=>⟨_,_,_,_,nM z.2.1 z.2.2.1 z.1.1 r h,by kernel_rfl,by kernel_rfl,by kernel_rfl,by kernel_rfl⟩)
def s77:CS tEl:=⟨[.agg 6,kI,kI,kI],[.agg 6,.agg 4,kS,kB],fun z=>lT z.1 z.2.1 z.2.2.1 z.2.2.2.1⟩
def X77:=cX1 (fun t=>Aj t 72||Aj t 73||Aj t 76) [(96,s16),(66,s26),(97,s72),(98,s17),(93,s19),(90,s24),(99,s71),(101,s75)] [(89,s68),(100,s76)]
theorem h77:FsOk (X77 Ik):=Bk (C:=(X77 Ik)) ⟨o16,o26,o72,o17,o19,o24,o71,o75,trivial⟩ ⟨o68,o76,trivial⟩
def W77 (P:An) (f:Func):Fw (X77 P):=⟨f,s77.acx,s77.rs⟩
abbrev c77_0:Ct (X77 Ik) (Bb tEl s77.rs):=⟨[1,1,1,1,1,1,1,1],[.vf 4 .one [.rf 0 0],.vf 8 .one [.rf 1 0],.vf 9 .one [.rf 2 0],.vf 12 .one [.rf 4 0],.vf 13 .one [.rf 5 0],.bc 0 29 6,.bk 1 29 [.pl kI,.pl kS,.pl kI,.pl (.one (.sl 4)),.pl (.one (.sl 5)),.pl kB,.pl kB,.pl kB,.pl kB],.bk 2 73 [.pl kI,.pl kI,.pl kI,.pl kB],.bk 4 29 [.pl kI,.pl kS,.pl kI,.os 3 73 4,.pl (.one (.sl 5)),.pl kB,.pl kB,.pl kB,.pl kB],.bk 5 73 [.pl kI,.pl kI,.pl kI,.pl kB]],fun z=>(z.1,z.2.1,z.2.2.1,z.2.2.2.1,z.2.2.2.2.1,z.2.2.2.2.2.1,((0:Int),([]:List Ai),(0:Int),([]:List _),([]:List _),(false:Bool),(false:Bool),(false:Bool),(false:Bool),()),((0:Int),(0:Int),(0:Int),(false:Bool),()),z.2.2.2.2.2.2.2.2.1,z.2.2.2.2.2.2.2.2.2.1,()),6,fun z=>rK z.2.2.2.2.2.1 z.2.2.2.2.2.2.2.2.2.1.2.2.1 (z.2.2.2.2.2.2.2.2.1.1,z.2.2.2.2.2.2.2.2.1.2.1,default,z.2.2.2.2.2.2.2.2.1.2.2.2.1,default,z.2.2.2.2.2.2.2.2.1.2.2.2.2.2.1,z.2.2.2.2.2.2.2.2.1.2.2.2.2.2.2.1,z.2.2.2.2.2.2.2.2.1.2.2.2.2.2.2.2.1,z.2.2.2.2.2.2.2.2.1.2.2.2.2.2.2.2.2.1) ((⟨z.2.2.2.2.2.2.2.2.2.1.1,z.2.2.2.2.2.2.2.2.2.1.2.1,default,z.2.2.2.2.2.2.2.2.2.1.2.2.2.1⟩:aD),default) z.2.2.2.2.2.2.2.2.1.2.2.1 z.2.2.2.2.2.2.2.2.1.2.2.2.2.1⟩
abbrev aLz:Ct (X77 Ik) (Bb tEl s77.rs):=⟨[1,1,1,1,1,1,1,1,1],[.vf 4 .one [.rf 0 0],.vf 8 .one [.rf 1 0],.vf 9 .one [.rf 2 0],.vf 12 .one [.rf 4 0],.vf 13 .one [.rf 5 0],.bc 0 29 6,.bk 1 29 [.pl kI,.pl kS,.pl kI,.pl (.one (.sl 4)),.pl (.one (.sl 5)),.pl kB,.pl kB,.pl kB,.pl kB],.bk 2 73 [.pl kI,.pl kI,.pl kI,.pl kB],.bk 4 29 [.pl kI,.pl kS,.pl kI,.os 3 73 4,.pl (.one (.sl 5)),.pl kB,.pl kB,.pl kB,.pl kB],.bk 5 73 [.pl kI,.pl kI,.pl kI,.pl kB]],fun z=>(z.1,z.2.1,z.2.2.1,z.2.2.2.1,z.2.2.2.2.1,z.2.2.2.2.2.1,((0:Int),([]:List Ai),(0:Int),([]:List _),([]:List _),(false:Bool),(false:Bool),(false:Bool),(false:Bool),()),((0:Int),(0:Int),(0:Int),(false:Bool),()),z.2.2.2.2.2.2.2.2.1,z.2.2.2.2.2.2.2.2.2.1,()),6,fun z=>nJ z.2.2.2.2.2.1 z.2.2.2.2.2.2.2.2.2.1.2.2.1 (z.2.2.2.2.2.2.2.2.1.1,z.2.2.2.2.2.2.2.2.1.2.1,default,z.2.2.2.2.2.2.2.2.1.2.2.2.1,default,z.2.2.2.2.2.2.2.2.1.2.2.2.2.2.1,default,default,z.2.2.2.2.2.2.2.2.1.2.2.2.2.2.2.2.2.1) ((⟨z.2.2.2.2.2.2.2.2.2.1.1,z.2.2.2.2.2.2.2.2.2.1.2.1,default,default⟩:aD),default) z.2.2.2.2.2.2.2.2.1.2.2.1 z.2.2.2.2.2.2.2.2.1.2.2.2.2.1 z.2.2.2.2.2.2.2.2.1.2.2.2.2.2.2.1 z.2.2.2.2.2.2.2.2.1.2.2.2.2.2.2.2.1 z.2.2.2.2.2.2.2.2.2.1.2.2.2.1⟩
theorem t77_1 {O:aR} {r:Bb tEl s77.rs}:SndW (W77 Ik f51) O r (aLz):=fF (W:=(W77 Ik f51)) h77 (aLz) [] trivial
theorem t77_0 {O:aR} {r:Bb tEl s77.rs}:SndW (W77 Ik f51) O r (c77_0):=fF (W:=(W77 Ik f51)) h77 (c77_0) [aLz] ⟨(t77_1),trivial⟩
theorem o77:CsOk Ik tCod 51 s77:=bR (W:=(W77 Ik f51)) h77 func51 rfl [c77_0,aLz] (fun O r _=>⟨(t77_0),(t77_1),trivial⟩)
def s78:HS tEl:=⟨[.sl 0 (.agg 6),.vf 1 .one [.rf 1000 0],.vf 2 .one [.rf 1001 0],.vf 3 .one [.rf 1002 0],.vf 4 .one [.rf 1003 0],.vf 5 .one [.rf 1004 0],.bk 1000 3 [.pl kI],.bk 1001 3 [.pl kI],.bc 1002 73 4,.bk 1003 9 [.pl kS],.bk 1004 4 [.pl kB]],6,5,[.bk 1000 3 [.pl kI],.bk 1001 3 [.pl kI],.bc 1002 73 4,.bk 1003 9 [.pl kS],.bk 1004 4 [.pl kB],.sl 0 (.agg 6)],1,0,(aF×aD×(List Ai)×Bool),fun y=>(y.2.2.2.2.2.1,y.2.2.1,y.2.2.2.1.1,y.2.2.2.2.1.1),fun z r=>(((z.2.2.2.2.2.2.1.1:Int),()),((z.2.2.2.2.2.2.2.1.1:Int),()),(r.2.1),((r.2.2.1:List Ai),()),((r.2.2.2:Bool),()),(r.1),()),fun z=>sI z.1 z.2.2.2.2.2.2.1.1 z.2.2.2.2.2.2.2.1.1 z.2.2.2.2.2.2.2.2.1 z.2.2.2.2.2.2.2.2.2.1.1 z.2.2.2.2.2.2.2.2.2.2.1.1⟩
def X78:=cX0 [(51,s77)]
theorem h78:FsOk (X78 Ik):=Bk (C:=(X78 Ik)) ⟨o77,trivial⟩ trivial
def W78 (P:An) (f:Func):Fh (X78 P):=⟨f,s78⟩
theorem o78:HsOk tCod Ik 50 s78:=uP (C:=(X78 Ik)) (W:=(W78 Ik f50)) (by kernel_rfl) (fun _ _=>rfl) h78 func50 rfl rfl rfl (fun z0=>[]) (fun z=>by kernel_rfl) (fun h hf z=>by kernel_rfl) (fun z0 O r _=>trivial)
def s79:HS tEl:=⟨[.sl 0 (.agg 10),.vf 1 (.fn 50) [.rf 1000 0,.rf 1001 0,.rf 1002 0,.rf 1003 0,.rf 1004 0],.bk 1000 3 [.pl kI],.bk 1001 3 [.pl kI],.bc 1002 73 4,.bk 1003 9 [.pl kS],.bk 1004 4 [.pl kB]],2,5,[.bk 1000 3 [.pl kI],.bk 1001 3 [.pl kI],.bc 1002 73 4,.bk 1003 9 [.pl kS],.bk 1004 4 [.pl kB],.sl 0 (.agg 10)],1,0,(aG×aD×(List Ai)×Bool),fun y=>(y.2.2.2.2.2.1,y.2.2.1,y.2.2.2.1.1,y.2.2.2.2.1.1),fun z r=>(((z.2.2.1.1:Int),()),((z.2.2.2.1.1:Int),()),(r.2.1),((r.2.2.1:List Ai),()),((r.2.2.2:Bool),()),(r.1),()),fun z=>kC z.1 z.2.2.1.1 z.2.2.2.1.1 z.2.2.2.2.1 z.2.2.2.2.2.1.1 z.2.2.2.2.2.2.1.1⟩
def X79:=cX1 (fun _=>false) [(22,s56)] [(50,s78)]
theorem h79:FsOk (X79 Ik):=Bk (C:=(X79 Ik)) ⟨o56,trivial⟩ ⟨o78,trivial⟩
def W79 (P:An) (f:Func):Fh (X79 P):=⟨f,s79⟩
theorem o79:HsOk tCod Ik 46 s79:=uP (C:=(X79 Ik)) (W:=(W79 Ik f46)) (by kernel_rfl) (fun _ _=>rfl) h79 func46 rfl rfl rfl (fun z0=>[]) (fun z=>by kernel_rfl) (fun h hf z=>by kernel_rfl) (fun z0 O r _=>trivial)
def s80:CS tEl:=⟨[.agg 10,kI,kI],[.agg 10,.agg 4,kS,kB],fun z=>lJ z.1 z.2.1 z.2.2.1⟩
def X80:=cX1 (fun _=>false) [] [(46,s79)]
theorem o80:CsOk Ik tCod 14 s80:=aV (X80 Ik) trivial ⟨o79,trivial⟩ func14 rfl
def s81:CS tEl:=⟨[.agg 11],[kB],fun z=>lW z.1⟩
def X81:=cX0 []
theorem o81:CsOk Ik tCod 133 s81:=aV (X81 Ik) trivial trivial func133 rfl
def s82:CS tEl:=⟨[.agg 11,kI,kB],[kB],fun z=>nB z.1 z.2.1 z.2.2.1⟩
def X82:=cX0 [(133,s81),(134,s31)]
theorem o82:CsOk Ik tCod 78 s82:=aV (X82 Ik) ⟨o81,o31,trivial⟩ trivial func78 rfl
theorem oQ (a0:(List aL)) (r:(List aL)) (h:bX a0=some r):eL Ik 135 [.slice false (a0.map aP.d)] (.slice false (r.map aP.d)):=by
 refine pI (rs:=[.slice false (r.map aP.d)]) func135 M ntmps135 (nle M) M fun O hO=>?_
 show IWP _ _ _ _ ⟨[(0,.slice false (a0.map aP.d))],[]⟩ _
 unfold bX at h;refine aJ (cAs (.nils) M<|aI ?_);refine bG<|aJ (aE M (mvL M M M M)<|aAP M M M (by decide) underlying30 (svL M) M<|fun bn1 hbn1 =>
  aI ?_)
 refine oG (b:=_) M (fun hc2=>?_) (fun hc2=>?_)
 ·
  replace h:=aDv h (mapE (hbn1 hc2));refine aJ (cAs (.nils) M<|aI ?_);refine bJ<|cN ?_;obtain rfl:=sj_ h;refine ⟨.inr M,(.cons (aIQ M M) .nil)⟩
 ·
  replace h:=aDw h;refine bS<|aT ?_;obtain ⟨x3,hx3,h⟩:=eC h;refine aJ (aE M (zD aP ([]:(List aL)) 0 M M (lb M) underlying30 aCv M .nil M M (by decide))<|aE M (mvL M M M M)<|aE M (wA aP 1 M M (lb M) underlying30 aCv M M M M (svL M) hx3)<|cAs (.gsl _ _ _) M<|aI ?_);refine bJ ?_;obtain rfl:=sj_ h;refine ⟨.inr M,(.cons (aIR M M) .nil)⟩
def s83:CS tEl:=⟨[.one (.sl 7)],[.one (.sl 7)],fun z=>bX z.1⟩
theorem o83:CsOk Ik tCod 135 s83:=FI cl135 (fun z r h=>⟨_,_,oQ z.1 r h,by kernel_rfl,by kernel_rfl⟩)
def s84:CS tEl:=⟨[.agg 8],[kI],fun z=>uY z.1⟩
def X84:=cX0 []
theorem h84:FsOk (X84 Ik):=Bk (C:=(X84 Ik)) trivial trivial
def W84 (P:An) (f:Func):Fw (X84 P):=⟨f,s84.acx,s84.rs⟩
abbrev aLy (m0:Nat):Ct (X84 Ik) (Bb tEl s84.rs):=⟨[0,1,0,1,1],[.sl 0 (.agg 8),.sl 3 kI,.sl 10 (.one (.sl 7)),.sl 11 kI,.sl 12 kI],fun z=>(z.1,z.2.1,(z.1.ao:List _),((z.1.ao.length:Int):Int),z.2.2.2.2.1,()),0,fun z=>oF z.1 m0 z.2.1 z.2.2.2.2.1⟩
theorem t84_0 {O:aR} {r:Bb tEl s84.rs}:∀ m0,SndW (W84 Ik f137) O r (aLy m0):=bH (W:=(W84 Ik f137)) h84 (fun m0=>aLy m0) (fun m0=>[aLy m0]) (fun m0 e0=>⟨e0,trivial⟩)
theorem o84:CsOk Ik tCod 137 s84:=bR (W:=(W84 Ik f137)) h84 func137 rfl [aLy fuel] (fun O r _=>⟨(t84_0 fuel),trivial⟩)
def s85:HS tEl:=⟨[.sl 0 (.one (.sl 7)),.sl 1 (.agg 7)],2,0,[.vf 0 .one [.os 0 221 7]],1,1,(List aL),fun y=>y.1.1,fun z r=>(((r:List _),()),()),fun z=>rM z.1 z.2.1⟩
def X85:=cX1 (fun t=>Aj t 220||Aj t 221||Aj t 226) [(139,s28)] []
theorem h85:FsOk (X85 Ik):=Bk (C:=(X85 Ik)) ⟨o28,trivial⟩ trivial
def W85 (P:An) (f:Func):Fh (X85 P):=⟨f,s85⟩
abbrev aLx (z0:BN tEl s85.l) (m0:Nat):Ct (X85 Ik) s85.R:=⟨[0,0,1,1,0,1],[.vf 3 .one [.rf 0 0],.vf 5 .one [.os 22 221 7],.sl 0 (.one (.sl 7)),.sl 6 kI,.bc 0 221 7],fun z=>(z.1,z.2.1,(z0.1:List _),z.2.2.2.1,(z0.2.1),()),23,fun z=>lV z0.1 z0.2.1 m0 z.2.1.1 z.2.2.2.1⟩
abbrev aKK (z0:BN tEl s85.l) (m1:Nat):Ct (X85 Ik) s85.R:=⟨[0,0,1,1,1,1,0,1],[.vf 3 .one [.rf 0 0],.vf 5 .one [.os 22 221 7],.sl 0 (.one (.sl 7)),.sl 6 kI,.bk 0 221 [.pl kI,.pl kS]],fun z=>(z.1,z.2.1,(z0.1:List _),z.2.2.2.1,z.2.2.2.2.1,()),23,fun z=>jW z0.1 z.2.1.1 m1 z.2.2.2.1 z.2.2.2.2.1.1 z.2.2.2.2.1.2.1⟩
abbrev aKJ (z0:BN tEl s85.l):Ct (X85 Ik) s85.R:=⟨[1,1,1,1,1,0,1],[.vf 3 .one [.rf 0 0],.vf 5 .one [.os 22 221 7],.sl 0 (.one (.sl 7)),.sl 6 kI,.bk 0 221 [.pl kI,.pl kS]],fun z=>(z.1,z.2.1,(z0.1:List _),z.2.2.2.1,z.2.2.2.2.1,()),23,fun z=>nL z0.1 z.2.1.1 z.2.2.2.1 z.2.2.2.2.1.1 z.2.2.2.2.1.2.1⟩
theorem t85_2 {O:aR} {r:s85.R} {z0:BN tEl s85.l}:SndH (W85 Ik f138) z0 O r (aKJ z0):=aKE (W:=(W85 Ik f138)) (by kernel_rfl) (fun _=>rfl) h85 (aKJ z0) [] rfl (fun z=>by kernel_rfl) (fun h hf z=>by kernel_rfl) trivial
theorem t85_1 {O:aR} {r:s85.R} {z0:BN tEl s85.l}:∀ m1,SndH (W85 Ik f138) z0 O r (aKK z0 m1):=aE6 (W:=(W85 Ik f138)) (by kernel_rfl) (fun _=>rfl) h85 (fun m1=>aKK z0 m1) (fun m1=>[aKK z0 m1,aKJ z0]) (fun _=>rfl) (fun _=>rfl) (fun m1 z=>by kernel_rfl) (fun m1 h hf z=>by kernel_rfl) (fun m1 e1=>⟨e1,(t85_2),trivial⟩)
theorem t85_0 {O:aR} {r:s85.R} {z0:BN tEl s85.l}:∀ m0,SndH (W85 Ik f138) z0 O r (aLx z0 m0):=aE6 (W:=(W85 Ik f138)) (by kernel_rfl) (fun _=>rfl) h85 (fun m0=>aLx z0 m0) (fun m0=>[aLx z0 m0,aKK z0 fuel,aKJ z0]) (fun _=>rfl) (fun _=>rfl) (fun m0 z=>by kernel_rfl) (fun m0 h hf z=>by kernel_rfl) (fun m0 e0=>⟨e0,(t85_1 fuel),(t85_2),trivial⟩)
theorem o85:HsOk tCod Ik 138 s85:=uP (C:=(X85 Ik)) (W:=(W85 Ik f138)) (by kernel_rfl) (fun _ _=>rfl) h85 func138 rfl rfl rfl (fun z0=>[aLx z0 fuel,aKK z0 fuel,aKJ z0]) (fun z=>by kernel_rfl) (fun h hf z=>by kernel_rfl) (fun z0 O r _=>⟨(t85_0 fuel),(t85_1 fuel),(t85_2),trivial⟩)
set_option maxRecDepth 8000 in
set_option maxHeartbeats 4000000 in
theorem nN (a0:Int) (a1:Int) (a2:List aL) (r:List aL) (h:cR a0 a1 a2=some r):FnH Ik 140 [.osl 1000 aP.sz a2.length,.int .i64 a0,.int .i64 a1] [(1000,.blk 221 (Al (a2.map aP.d)))] (.osl 0 aP.sz r.length) [(0,.blk 221 (Al (r.map aP.d)))]:=by
 replace h:delS a2 a0 a1=some r:=h;obtain ⟨i,j,rfl,rfl,hij,hj,hr⟩:=delS_e h
 have hX:=aP.toEnc0.flat_len a2
 refine pS (rs:=[.osl 0 aP.sz r.length]) func140 M ntmps140 (nle M) fun O hO=>?_
 show IWP _ _ _ _ ⟨[(0,.osl 1000 aP.sz a2.length),(1,.int .i64 (i:Int)),(2,.int .i64 (j:Int))],[(1000,.blk 221 (Al (a2.map aP.d)))]⟩ _
 refine aDU 0 (id:=1000) (sz:=aP.sz) (n:=a2.length) M M hX (fun hn=>?_) (fun c hc hcm=>?_)
 ·obtain rfl:=Bh.1 hn
  obtain rfl:j=0:=by simpa using hj
  obtain rfl:i=0:=by omega
  refine aJ (cAs (.nils) M<|aI ?_);refine aJ (cMv (.nils) M<|cI M<|cI M<|cMv (.nils) M<|aE M (qK aP (l:=[]) (b:=false) M M (lb M) underlying30 (svn M))<|aE M (aBr M M (lb M) underlying30 aCv (sv (d:=.nils) M) (svI M) (svI M) (svI M))<|aI ?_);refine bG<|aJ (cI M<|cI M<|cCm M M<|aI ?_);refine vC M M ?_
  have hr':[]=r:=by simpa using hr
  subst hr';refine aJ (cMv (.nils) M<|cAs (.nils) M<|aI ?_);refine bJ<|cN ?_;refine ⟨.inr M,(fun i=>if i=0 then 50 else i),⟨.nil,(.cons (.nilb M) .nil),dF [50] M (by decide),(fun i hi=>by first | rfl | (show (if _ then _ else _)=_; (repeat' split) <;> omega))⟩,(.cons (svno M) .nil),M⟩
 ·refine aJ (cAs (.nils) M<|aI ?_)
  refine aJ (cMv (.rsl _ _ _ _ _) M<|cI M<|cI M<|cMv (.rsl _ _ _ _ _) M<|aE M (vX M M (lb M) underlying30 (sv (d:=.rsl _ _ _ _ _) M) M)<|aE M (dX (sz:=aP.sz) (l:=(i:Int)) (h:=(j:Int)) (m:=(a2.length:Int)) M M (lb M) underlying30 aCv (sv (d:=.rsl _ _ _ _ _) M) ⟨_,(svI M)⟩ ⟨_,(svI M)⟩ ⟨_,(svI M)⟩ (by simp) (by omega) (by omega) (by omega) (by omega) M)<|aI ?_);refine bG<|aJ (cI M<|cI M<|cCm M M<|aI ?_);refine oG (b:=_) M (fun h1=>?_) (fun h1=>?_)
  ·have h2:=of_decide_eq_true h1
   obtain rfl:i=j:=by omega
   have hr':a2=r:=by simpa using hr
   subst hr';refine aJ (cMv (.rsl _ _ _ _ _) M<|cAs (.rsl _ _ _ _ _) M<|aI ?_);refine xB 6 (id:=1000) M M hX<|bJ<|cN ?_;refine ⟨.inr M,(fun i=>if i=0 then 1000 else i),⟨.nil,(.cons (Cd M) .nil),dF [1000] M (by decide),(fun i hi=>by first | rfl | (show (if _ then _ else _)=_; (repeat' split) <;> omega))⟩,(.cons (sv M) .nil),M⟩
  ·have h2:=of_decide_eq_false h1
   have hlt:i<j:=by omega
   obtain ⟨J,hJ⟩:∃ J,J=Ay ((c-a2.length)*aP.sz) D.dead:=⟨_,rfl⟩
   have hXd:(Al ((a2.drop j).map aP.d)).length=(a2.length-j)*aP.sz:=by rw [aP.toEnc0.flat_len,AA]
   have hXt:(Al ((a2.take i).map aP.d)).length=i*aP.sz:=by rw [aP.toEnc0.flat_len,Aw,BT (by omega)]
   have hrl:r.length=i+(a2.length-j):=by rw [←hr,Ae,Aw,AA,BT (by omega)]
   have hR:Al (r.map aP.d)=Al ((a2.take i).map aP.d)++Al ((a2.drop j).map aP.d):=by rw [←hr,aP.toEnc0.flat_append]
   have hRl:(Al (r.map aP.d)).length=(i+(a2.length-j))*aP.sz:=by rw [aP.toEnc0.flat_len,hrl]
   have hfitj:j*aP.sz+(a2.length-j)*aP.sz=a2.length*aP.sz:=by rw [←Bp]; congr 1; omega
   have hfiti:(i+(a2.length-j))*aP.sz≤a2.length*aP.sz:=AS _ (by omega)
   rw [←hJ]
   have hD0:(Al (a2.map aP.d)++J).length=a2.length*aP.sz+J.length:=by rw [Ae,hX]
   obtain ⟨es,hes⟩:∃ es,es=((Al (a2.map aP.d)++J).drop (j*aP.sz)).take ((a2.length-j)*aP.sz):=⟨_,rfl⟩
   have hes':es=Al ((a2.drop j).map aP.d):=by
    rw [hes,Bi (by rw [hX]; exact AS _ hj),aP.toEnc0.flat_drop,AC (by rw [hXd]; exact AJ _),←hXd,AM]
   obtain ⟨Z,hZ⟩:∃ Z,eH (Al (a2.map aP.d)++J) (i*aP.sz) es=Al (r.map aP.d)++Z:=by
    refine ⟨(Al ((a2.drop i).map aP.d)++J).drop es.length,?_⟩;rw [xY aP.toEnc0 a2 i,Ax,aCS hXt,hR,hes',Ax]
   have hZl:(Al (r.map aP.d)++Z).length=a2.length*aP.sz+J.length:=by
    rw [←hZ,yM (by rw [hD0,hes',hXd,←Bp]; omega),hD0]
   refine bS<|aT<|aJ (cMv (.rsl _ _ _ _ _) M<|aE M (vX M M (lb M) underlying30 (sv (d:=.rsl _ _ _ _ _) M) M)<|cAI M<|aI ?_);refine lY M [nd1 [0] 20 (.rsl 1000 aP.sz 0 a2.length c),nd1 [1] 21 (.int .i64 (i:Int)),nd1 [20,21] 22 (.rsl 1000 aP.sz 0 i c),nd1 [0] 23 (.rsl 1000 aP.sz 0 a2.length c),nd1 [2] 24 (.int .i64 (j:Int)),nd1 [23,24] 25 (.rsl 1000 aP.sz (j*aP.sz) (a2.length-j) (c-j)),⟨[22,25],[1000],[(26,.rsl 1000 aP.sz 0 (i+(a2.length-j)) c)],[(1000,.blk 221 (Al (r.map aP.d)++Z))]⟩,nd1 [26] 0 (.rsl 1000 aP.sz 0 (i+(a2.length-j)) c)] M ?_ (by kernel_rfl) ?_
   ·refine .cons (lop M M fun S hA=>(eK M M (lb M) (sv (d:=.rsl _ _ _ _ _) (agr hA M M))))<|.cons (dMv M)<|.cons (lop M M fun S hA=>(dX (sz:=aP.sz) (l:=0) (h:=(i:Int)) (m:=(c:Int)) (d:=.rsl 1000 aP.sz 0 i c) M M (lb M) underlying30 aCv (sv (d:=.rsl _ _ _ _ _) (agr hA M M)) M ⟨_,(svaI hA M M)⟩ M (by simp) (by omega) (by omega) (by omega) (by omega) (by simp only [Au,Df,CW,Bl,DA])))<|.cons (lop M M fun S hA=>(eK M M (lb M) (sv (d:=.rsl _ _ _ _ _) (agr hA M M))))<|.cons (dMv M)<|.cons (lop M M fun S hA=>(dX (sz:=aP.sz) (l:=(j:Int)) (h:=(a2.length:Int)) (m:=(c:Int)) (d:=.rsl 1000 aP.sz (j*aP.sz) (a2.length-j) (c-j)) M M (lb M) underlying30 aCv (sv (d:=.rsl _ _ _ _ _) (agr hA M M)) ⟨_,(svaI hA M M)⟩ M M (by simp) (by omega) (by omega) (by omega) (by omega) (by simp only [Au,Bl])))<|.cons (lop M M fun S hA=>(aEm (sz:=aP.sz) (m:=a2.length-j) (es:=es) (ds':=Al (r.map aP.d)++Z) (d:=.rsl 1000 aP.sz 0 (i+(a2.length-j)) c) M M (lb M) underlying30 aCv (sv (d:=.rsl _ _ _ _ _) (agr hA M M)) (agi hA M M) (hes ▸ aFN (sv (d:=.rsl _ _ _ _ _) (agr hA M M)) (agi hA M M) (by rw [hD0,hfitj]; exact Da _ _)) (by rw [hes',hXd]) (by rw [hes']; exact aP.toEnc0.one _) (by omega) (by rw [hD0]; exact Cb hfiti (Da _ _)) hZ M))<|.cons (lop M M fun S hA=>(dK M M (lb M) (sv (d:=.rsl _ _ _ _ _) (agr hA M M)))) ?_
    exact .nil
   ·refine aJ (cMv (.rsl _ _ _ _ _) M<|cMv (.rsl _ _ _ _ _) M<|aE M (vX M M (lb M) underlying30 (sv (d:=.rsl _ _ _ _ _) M) M)<|cI M<|aE M (dX (sz:=aP.sz) (l:=((i+(a2.length-j):Nat):Int)) (h:=(a2.length:Int)) (m:=(c:Int)) (d:=.rsl 1000 aP.sz ((i+(a2.length-j))*aP.sz) (a2.length-(i+(a2.length-j))) (c-(i+(a2.length-j)))) M M (lb M) underlying30 aCv (sv (d:=.rsl _ _ _ _ _) M) ⟨_,(svI M)⟩ ⟨_,(svI M)⟩ M (by simp) (by omega) (by omega) (by omega) (by omega) (by simp only [Au,Bl]))<|aE M (aAM (sz:=aP.sz) M M underlying30 aCv M M (sv (d:=.rsl _ _ _ _ _) M) M (by rw [hZl,←Bp,show i+(a2.length-j)+(a2.length-(i+(a2.length-j)))=a2.length by omega]; exact Da _ _) (aCS hRl))<|aI ?_)
    refine aJ (cMv (.rsl _ _ _ _ _) M<|cAs (.rsl _ _ _ _ _) M<|aI ?_);refine xB 6 (id:=1000) M M hRl<|bJ ?_;refine ⟨.inr M,(fun i=>if i=0 then 1000 else i),⟨.nil,(.cons (Cd M) .nil),dF [1000] M (by decide),(fun i hi=>by first | rfl | (show (if _ then _ else _)=_; (repeat' split) <;> omega))⟩,(.cons (sv (Bv (D.osl _ _) hrl.symm)) .nil),M⟩
def s86:HS tEl:=⟨[.vf 0 .one [.os 1000 221 7],.sl 1 (.one (.int .i64)),.sl 2 (.one (.int .i64))],3,1,[.vf 0 .one [.os 0 221 7]],1,1,(List aL),fun y=>y.1.1,fun z r=>(((r:List _),()),()),fun z=>cR z.2.1 z.2.2.1 z.1.1⟩
theorem o86:HsOk tCod Ik 140 s86:=HK cl140 (by kernel_rfl) (fun z r h=>⟨_,_,_,_,nN z.2.1 z.2.2.1 z.1.1 r h,by kernel_rfl,by kernel_rfl,by kernel_rfl,by kernel_rfl⟩)
def s87:CS tEl:=⟨[.agg 8,kI,kS],[.agg 8,kI],fun z=>rO z.1 z.2.1 z.2.2.1⟩
def X87:=cX1 (fun t=>Aj t 220||Aj t 221||Aj t 226) [(135,s83),(122,s29),(136,s27),(137,s84),(139,s28)] [(138,s85),(140,s86)]
theorem h87:FsOk (X87 Ik):=Bk (C:=(X87 Ik)) ⟨o83,o29,o27,o84,o28,trivial⟩ ⟨o85,o86,trivial⟩
def W87 (P:An) (f:Func):Fw (X87 P):=⟨f,s87.acx,s87.rs⟩
abbrev c87_0:Ct (X87 Ik) (Bb tEl s87.rs):=⟨[1,1,1,1,1,1,1],[.vf 3 .one [.rf 0 0],.vf 6 .one [.rf 1 0],.sl 0 (.agg 8),.sl 1 kI,.sl 2 kS,.bk 0 32 [.pl kI,.pl kS,.pl (.one (.sl 7))],.bk 1 32 [.pl kI,.pl kS,.pl (.one (.sl 7))]],fun z=>(z.1,z.2.1,z.2.2.1,z.2.2.2.1,z.2.2.2.2.1,((z.2.2.1.ag:Int),(z.2.2.1.ap:List Ai),z.2.2.2.2.2.1.2.2.1,()),((0:Int),([]:List Ai),([]:List _),()),()),2,fun z=>iZ z.2.2.1 z.2.2.2.2.2.1.2.2.1 z.2.2.2.1 z.2.2.2.2.1⟩
abbrev aLw:Ct (X87 Ik) (Bb tEl s87.rs):=⟨[1,1,1,1,1,1,1,1,1,1,1],[.vf 3 .one [.rf 0 0],.vf 6 .one [.rf 1 0],.sl 9 kI,.bk 0 32 [.pl kI,.pl kS,.os 4 221 7],.bk 1 32 [.pl kI,.pl kS,.pl (.one (.sl 7))]],fun z=>(z.1,z.2.1,z.2.2.1,z.2.2.2.1,((0:Int),([]:List Ai),([]:List _),()),()),5,fun z=>rN z.2.2.1 z.2.2.2.1.1 z.2.2.2.1.2.1 z.2.2.2.1.2.2.1⟩
theorem t87_1 {O:aR} {r:Bb tEl s87.rs}:SndW (W87 Ik f79) O r (aLw):=fF (W:=(W87 Ik f79)) h87 (aLw) [] trivial
theorem t87_0 {O:aR} {r:Bb tEl s87.rs}:SndW (W87 Ik f79) O r (c87_0):=fF (W:=(W87 Ik f79)) h87 (c87_0) [aLw] ⟨(t87_1),trivial⟩
theorem o87:CsOk Ik tCod 79 s87:=bR (W:=(W87 Ik f79)) h87 func79 rfl [c87_0,aLw] (fun O r _=>⟨(t87_0),(t87_1),trivial⟩)
def s88:CS tEl:=⟨[.agg 9,kI,kS,kB],[.agg 9,kI,.one (.int .u32)],fun z=>xT z.1 z.2.1 z.2.2.1 z.2.2.2.1⟩
def X88:=cX0 [(67,s33),(77,s30),(78,s82),(79,s87)]
theorem h88:FsOk (X88 Ik):=Bk (C:=(X88 Ik)) ⟨o33,o30,o82,o87,trivial⟩ trivial
def W88 (P:An) (f:Func):Fw (X88 P):=⟨f,s88.acx,s88.rs⟩
abbrev c88_0:Ct (X88 Ik) (Bb tEl s88.rs):=⟨[1,1,1,1,1,1,1],[.vf 4 .one [.rf 0 0],.vf 8 .one [.rf 1 0],.sl 13 kI,.bk 0 34 [.pl kI,.pl kS,.pl (.one (.sl 7)),.pl kI],.bk 1 34 [.pl kI,.pl kS,.pl (.one (.sl 7)),.pl kI]],fun z=>(z.1,z.2.1,z.2.2.1,z.2.2.2.1,((0:Int),([]:List Ai),([]:List _),(0:Int),()),()),2,fun z=>yZ ((⟨z.2.2.2.1.1,z.2.2.2.1.2.1,z.2.2.2.1.2.2.1⟩:aH),z.2.2.1) z.2.2.2.1.2.2.2.1⟩
theorem t88_0 {O:aR} {r:Bb tEl s88.rs}:SndW (W88 Ik f33) O r (c88_0):=fF (W:=(W88 Ik f33)) h88 (c88_0) [] trivial
theorem o88:CsOk Ik tCod 33 s88:=bR (W:=(W88 Ik f33)) h88 func33 rfl [c88_0] (fun O r _=>⟨(t88_0),trivial⟩)
def s89:CS tEl:=⟨[.agg 8,kI],[.agg 8,kS],fun z=>xP z.1 z.2.1⟩
def X89:=cX0 [(135,s83),(122,s29)]
theorem o89:CsOk Ik tCod 80 s89:=aV (X89 Ik) ⟨o83,o29,trivial⟩ trivial func80 rfl
def s90:CS tEl:=⟨[.agg 9],[kB],fun z=>xS z.1⟩
def X90:=cX0 [(77,s30),(133,s81),(67,s33)]
theorem o90:CsOk Ik tCod 141 s90:=aV (X90 Ik) ⟨o30,o81,o33,trivial⟩ trivial func141 rfl
def s91:CS tEl:=⟨[.agg 9],[kB],fun z=>xU z.1⟩
def X91:=cX0 [(141,s90)]
theorem o91:CsOk Ik tCod 81 s91:=aV (X91 Ik) ⟨o90,trivial⟩ trivial func81 rfl
def s92:CS tEl:=⟨[.agg 9,kI],[.agg 9,kS,kB],fun z=>zU z.1 z.2.1⟩
def X92:=cX0 [(80,s89),(81,s91)]
theorem o92:CsOk Ik tCod 34 s92:=aV (X92 Ik) ⟨o89,o91,trivial⟩ trivial func34 rfl
end Go.Proofs.YtpommoochmmmmaaGreat
