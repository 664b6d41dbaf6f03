/-
  A part of the proof: rules and plain facts. No condition.
-/
import Derived.Test.YtbacpjjiklkgfaaGreatProg
import Derived.KernelRfl
import Derived.Test.YtbacpjjiklkgfaaGreatIlA20D
import Derived.Test.YtbacpjjiklkgfaaGreatIlIt20
import Derived.Test.YtbacpjjiklkgfaaGreatIlDx
set_option linter.all false
open _root_.Array renaming mapM → CO
open Go.IL.D renaming flat → Ac
open Go.IL.Ent renaming ren → Bh
open Go.Proofs.Tryz renaming prog → FY
open List renaming forall_mem_cons → Aa,forall_mem_nil → Ab,map_cons → Ai,map_nil → Aq
open Nat renaming le_trans → BG,lt_succ_self → Ah
open _root_ renaming absurd → Ay,congrArg → AH
set_option maxRecDepth 8000
set_option maxHeartbeats 2000000
open Go Go.IL Go.Fn Go.Proofs
open Go.Proofs.Tryz
namespace Go.Proofs.YtbacpjjiklkgfaaGreat
theorem ktq{p:Prop}(h:p:=by unfold TI; kernel_rfl):p:=h
theorem kkq{p:Prop}(h:p:=by kernel_rfl):p:=h
theorem ti3:TI FY 3 (some (.int .i64 0)) 1 8:=ktq
theorem ti4:TI FY 4 (some (.bool false)) 1 1:=ktq
theorem ti33:TI FY 33 (some (.pointer none)) 1 8:=ktq
theorem ti37:TI FY 37 (some (.slice none 0 0)) 1 24:=ktq
theorem ti78:TI FY 78 (some (.slice none 0 0)) 1 24:=ktq
theorem ti80:TI FY 80 (some (.agg #[.slice none 0 0,.int .i64 0,.int .i64 0])) 3 40:=ktq
theorem ti83:TI FY 83 (some (.agg #[.int .i64 0,.int .i64 0,.int .i64 0,.int .i64 0,.int .i64 0,.bool false])) 6 48:=ktq
theorem ti84:TI FY 84 (some (.agg #[.int .i64 0,.int .i64 0,.int .i64 0,.int .i64 0,.int .i64 0,.bool false,.int .i64 0,.int .i64 0,.int .i64 0,.int .i64 0,.int .i64 0,.bool false,.int .i64 0,.int .i64 0,.int .i64 0,.int .i64 0,.int .i64 0,.bool false,.int .i64 0,.int .i64 0,.int .i64 0,.int .i64 0,.int .i64 0,.bool false,.int .i64 0,.int .i64 0,.int .i64 0,.int .i64 0,.int .i64 0,.bool false,.int .i64 0,.int .i64 0,.int .i64 0,.int .i64 0,.int .i64 0,.bool false,.int .i64 0,.int .i64 0,.int .i64 0,.int .i64 0,.int .i64 0,.bool false,.int .i64 0,.int .i64 0,.int .i64 0,.int .i64 0,.int .i64 0,.bool false,.int .i64 0,.int .i64 0,.int .i64 0,.int .i64 0,.int .i64 0,.bool false,.int .i64 0,.int .i64 0,.int .i64 0,.int .i64 0,.int .i64 0,.bool false,.int .i64 0,.int .i64 0,.int .i64 0,.int .i64 0,.int .i64 0,.bool false,.int .i64 0,.int .i64 0,.int .i64 0,.int .i64 0,.int .i64 0,.bool false,.int .i64 0,.int .i64 0,.int .i64 0,.int .i64 0,.int .i64 0,.bool false,.int .i64 0,.int .i64 0,.int .i64 0,.int .i64 0,.int .i64 0,.bool false,.int .i64 0,.int .i64 0,.int .i64 0,.int .i64 0,.int .i64 0,.bool false,.int .i64 0,.int .i64 0,.int .i64 0,.int .i64 0,.int .i64 0,.bool false,.int .i64 0,.int .i64 0,.int .i64 0,.int .i64 0,.int .i64 0,.bool false,.int .i64 0,.int .i64 0,.int .i64 0,.int .i64 0,.int .i64 0,.bool false,.int .i64 0,.int .i64 0,.int .i64 0,.int .i64 0,.int .i64 0,.bool false,.int .i64 0,.int .i64 0,.int .i64 0,.int .i64 0,.int .i64 0,.bool false,.int .i64 0,.int .i64 0,.int .i64 0,.int .i64 0,.int .i64 0,.bool false,.int .i64 0,.int .i64 0,.int .i64 0,.int .i64 0,.int .i64 0,.bool false,.int .i64 0,.int .i64 0,.int .i64 0,.int .i64 0,.int .i64 0,.bool false,.int .i64 0,.int .i64 0,.int .i64 0,.int .i64 0,.int .i64 0,.bool false,.int .i64 0,.int .i64 0,.int .i64 0,.int .i64 0,.int .i64 0,.bool false,.int .i64 0,.int .i64 0,.int .i64 0,.int .i64 0,.int .i64 0,.bool false,.int .i64 0,.int .i64 0,.int .i64 0,.int .i64 0,.int .i64 0,.bool false,.int .i64 0,.int .i64 0,.int .i64 0,.int .i64 0,.int .i64 0,.bool false,.int .i64 0,.int .i64 0,.int .i64 0,.int .i64 0,.int .i64 0,.bool false,.int .i64 0,.int .i64 0,.int .i64 0,.int .i64 0,.int .i64 0,.bool false,.int .i64 0,.int .i64 0,.int .i64 0,.int .i64 0,.int .i64 0,.bool false,.int .i64 0,.int .i64 0,.int .i64 0,.int .i64 0,.int .i64 0,.bool false,.int .i64 0,.int .i64 0,.int .i64 0,.int .i64 0,.int .i64 0,.bool false,.int .i64 0,.int .i64 0,.int .i64 0,.int .i64 0,.int .i64 0,.bool false,.int .i64 0,.int .i64 0,.int .i64 0,.int .i64 0,.int .i64 0,.bool false,.int .i64 0,.int .i64 0,.int .i64 0,.int .i64 0,.int .i64 0,.bool false,.int .i64 0,.int .i64 0,.int .i64 0,.int .i64 0,.int .i64 0,.bool false,.int .i64 0,.int .i64 0,.int .i64 0,.int .i64 0,.int .i64 0,.bool false,.int .i64 0,.int .i64 0,.int .i64 0,.int .i64 0,.int .i64 0,.bool false,.int .i64 0,.int .i64 0,.int .i64 0,.int .i64 0,.int .i64 0,.bool false,.int .i64 0,.int .i64 0,.int .i64 0,.int .i64 0,.int .i64 0,.bool false,.int .i64 0,.int .i64 0,.int .i64 0,.int .i64 0,.int .i64 0,.bool false,.int .i64 0,.int .i64 0,.int .i64 0,.int .i64 0,.int .i64 0,.bool false,.int .i64 0,.int .i64 0,.int .i64 0,.int .i64 0,.int .i64 0,.bool false,.int .i64 0,.int .i64 0,.int .i64 0,.int .i64 0,.int .i64 0,.bool false,.int .i64 0,.int .i64 0,.int .i64 0,.int .i64 0,.int .i64 0,.bool false,.int .i64 0,.int .i64 0,.int .i64 0,.int .i64 0,.int .i64 0,.bool false,.int .i64 0,.int .i64 0,.int .i64 0,.int .i64 0,.int .i64 0,.bool false,.int .i64 0,.int .i64 0,.int .i64 0,.int .i64 0,.int .i64 0,.bool false,.int .i64 0,.int .i64 0,.int .i64 0,.int .i64 0,.int .i64 0,.bool false,.int .i64 0,.int .i64 0,.int .i64 0,.int .i64 0,.int .i64 0,.bool false,.int .i64 0,.int .i64 0,.int .i64 0,.int .i64 0,.int .i64 0,.bool false,.int .i64 0,.int .i64 0,.int .i64 0,.int .i64 0,.int .i64 0,.bool false,.int .i64 0,.int .i64 0,.int .i64 0,.int .i64 0,.int .i64 0,.bool false,.int .i64 0,.int .i64 0,.int .i64 0,.int .i64 0,.int .i64 0,.bool false,.int .i64 0,.int .i64 0,.int .i64 0,.int .i64 0,.int .i64 0,.bool false,.int .i64 0,.int .i64 0,.int .i64 0,.int .i64 0,.int .i64 0,.bool false,.int .i64 0,.int .i64 0,.int .i64 0,.int .i64 0,.int .i64 0,.bool false,.int .i64 0,.int .i64 0,.int .i64 0,.int .i64 0,.int .i64 0,.bool false,.int .i64 0,.int .i64 0,.int .i64 0,.int .i64 0,.int .i64 0,.bool false,.int .i64 0,.int .i64 0,.int .i64 0,.int .i64 0,.int .i64 0,.bool false,.int .i64 0,.int .i64 0,.int .i64 0,.int .i64 0,.int .i64 0,.bool false,.int .i64 0,.int .i64 0,.int .i64 0,.int .i64 0,.int .i64 0,.bool false,.int .i64 0,.int .i64 0,.int .i64 0,.int .i64 0,.int .i64 0,.bool false])) 384 3072:=ktq
theorem qY:TI FY 161 (some (.agg #[.bool false,.int .i64 0,.int .i64 0])) 3 24:=ktq
theorem ag3:kT FY 3=false:=kkq
theorem ag4:kT FY 4=false:=kkq
theorem ag33:kT FY 33=false:=kkq
theorem ag37:kT FY 37=false:=kkq
theorem ag78:kT FY 78=false:=kkq
theorem ag80:kT FY 80=true:=kkq
theorem aID:kT FY 161=true:=kkq
theorem pl161:∀ w,(CO (m:=Sem) (fun (f:Field)=>Functor.map (Prod.mk f.offset) (sizeOf f.type)) (fieldsOf FY 161)).run FY w = .ok #[(0,1),(1,1),(2,1)] w:=fun w=>by kernel_rfl
theorem pl80:∀ w,(CO (m:=Sem) (fun (f:Field)=>Functor.map (Prod.mk f.offset) (sizeOf f.type)) (fieldsOf FY 80)).run FY w = .ok #[(0,1),(1,1),(2,1)] w:=fun w=>by kernel_rfl
theorem cl30:bB FY 30:=⟨_,func30,rfl,rfl⟩
theorem cl31:bB FY 31:=⟨_,func31,rfl,rfl⟩
theorem cl32:bB FY 32:=⟨_,func32,rfl,rfl⟩
theorem cl78:bB FY 78:=⟨_,func78,rfl,rfl⟩
theorem cl82:bB FY 82:=⟨_,func82,rfl,rfl⟩
theorem cl91:bB FY 91:=⟨_,func91,rfl,rfl⟩
theorem cl106:bB FY 106:=⟨_,func106,rfl,rfl⟩
theorem aJE:bB FY 107:=⟨f107,func107,rfl,rfl⟩
theorem cl108:bB FY 108:=⟨_,func108,rfl,rfl⟩
theorem aGJ:bB FY 109:=⟨f109,func109,rfl,rfl⟩
theorem cl110:bB FY 110:=⟨_,func110,rfl,rfl⟩
theorem cl111:bB FY 111:=⟨_,func111,rfl,rfl⟩
theorem cl112:bB FY 112:=⟨_,func112,rfl,rfl⟩
theorem cl113:bB FY 113:=⟨_,func113,rfl,rfl⟩
theorem cl114:bB FY 114:=⟨_,func114,rfl,rfl⟩
theorem aGI:bB FY 115:=⟨f115,func115,rfl,rfl⟩
theorem cl119:bB FY 119:=⟨_,func119,rfl,rfl⟩
theorem cl134:bB FY 134:=⟨_,func134,rfl,rfl⟩
theorem cl135:bB FY 135:=⟨_,func135,rfl,rfl⟩
theorem cl136:bB FY 136:=⟨_,func136,rfl,rfl⟩
theorem cl137:bB FY 137:=⟨_,func137,rfl,rfl⟩
theorem cl138:bB FY 138:=⟨_,func138,rfl,rfl⟩
theorem aJD:bB FY 139:=⟨f139,func139,rfl,rfl⟩
theorem cl140:bB FY 140:=⟨_,func140,rfl,rfl⟩
theorem cl141:bB FY 141:=⟨_,func141,rfl,rfl⟩
theorem cl142:bB FY 142:=⟨_,func142,rfl,rfl⟩
theorem cl143:bB FY 143:=⟨_,func143,rfl,rfl⟩
theorem cl159:bB FY 159:=⟨_,func159,rfl,rfl⟩
def la78:=LA.mk underlying78 ag78 ti78 (by decide)
def la80:=LA.mk underlying80 ag80 ti80 (by decide)
abbrev tv0(x:aM):List D:=[.int .i64 x.aj,.int .i64 x.ak,.slice false (x.L.map aO.d),.slice false (x.af.map (eInt .i64).d)]
abbrev tv1(x:dB):List D:=[.int .u8 x.am,.int .i64 x.ID,.int .i64 x.aq,.int .i64 x.ae,.bool x.ao]
abbrev tv2(x:bQ):List D:=[.slice false (x.Cells.map aX.d),.int .i64 x.Free,.int .i64 x.Used]
abbrev tv3(x:aW):List D:=[.int .i64 x.ID,.int .i64 x.aa,.int .i64 x.ae,.bool x.af]
abbrev tv4(x:aL):List D:=[.int .i64 x.ID,.int .i64 x.ae,.int .i64 x.ag]
abbrev tv5(x:aK):List D:=[.bool x.ah,.int .i64 x.au,.int .i64 x.ap]
abbrev tv6(x:jE):List D:=[.int .i64 x.dep,.int .i64 x.weight,.bool x.only]
abbrev q8:List D:=dd_ 165 []
abbrev q9{a1:IntKind}{a2:Int}{a3:IntKind}{a4:Int}{a5:IntKind}{a6:Int}{a7:IntKind}{a8:Int}{a9:IntKind}{a10:Int}{a11:Bool}:List D:=[.int a1 a2,.int a3 a4,.int a5 a6,.int a7 a8,.int a9 a10,.bool a11]
abbrev q10{a1:IntKind}{a2:Int}{a3:IntKind}{a4:Int}{a5:Bool}{a6:List D}{a7:IntKind}{a8:Int}{a9:IntKind}{a10:Int}:List D:=[.int a1 a2,.int a3 a4,.slice a5 a6,.int a7 a8,.int a9 a10]
abbrev q11{a1:IntKind}{a2:Int}{a3:IntKind}{a4:Int}{a5:IntKind}{a6:Int}{a7:IntKind}{a8:Int}{a9:Bool}:List D:=[.int a1 a2,.int a3 a4,.int a5 a6,.int a7 a8,.bool a9]
abbrev q12{a1:IntKind}{a2:Int}{a3:IntKind}{a4:Int}{a5:Bool}{a6:List D}{a7:Bool}{a8:List D}:List D:=[.int a1 a2,.int a3 a4,.slice a5 a6,.slice a7 a8]
abbrev q13{a1:IntKind}{a2:Int}{a3:IntKind}{a4:Int}{a5:Nat}{a6:Nat}{a7:Nat}{a8:Bool}{a9:List D}:List D:=[.int a1 a2,.int a3 a4,.osl a5 a6 a7,.slice a8 a9]
abbrev q14{a1:IntKind}{a2:Int}{a3:IntKind}{a4:Int}{a5:IntKind}{a6:Int}{a7:Bool}:List D:=[.int a1 a2,.int a3 a4,.int a5 a6,.bool a7]
abbrev q15{a1:IntKind}{a2:Int}{a3:IntKind}{a4:Int}:List D:=[.int a1 a2,.int a3 a4,.nils,.nils]
abbrev q16{a1:Bool}{a2:List D}{a3:IntKind}{a4:Int}{a5:IntKind}{a6:Int}:List D:=[.slice a1 a2,.int a3 a4,.int a5 a6]
abbrev q17{a1:Nat}{a2:Nat}{a3:Nat}{a4:IntKind}{a5:Int}{a6:IntKind}{a7:Int}:List D:=[.osl a1 a2 a3,.int a4 a5,.int a6 a7]
abbrev q18{a1:IntKind}{a2:Int}{a3:IntKind}{a4:Int}{a5:IntKind}{a6:Int}:List D:=[.int a1 a2,.int a3 a4,.int a5 a6]
abbrev q19{a1:IntKind}{a2:Int}{a3:IntKind}{a4:Int}{a5:Bool}:List D:=[.int a1 a2,.int a3 a4,.bool a5]
abbrev q20{a1:Bool}{a2:IntKind}{a3:Int}{a4:IntKind}{a5:Int}:List D:=[.bool a1,.int a2 a3,.int a4 a5]
abbrev q21  : List D:=[.dead,.dead,.dead,.nilp]
abbrev q22{a1:IntKind}{a2:Int}{a3:IntKind}{a4:Int}:List D:=[.nils,.int a1 a2,.int a3 a4]
abbrev q23{a1:IntKind}{a2:Int}{a3:Nat}{a4:Nat}{a5:Nat}:List D:=[.int a1 a2,.osl a3 a4 a5]
abbrev q24{a1:IntKind}{a2:Int}{a3:Bool}{a4:List D}:List D:=[.int a1 a2,.slice a3 a4]
abbrev q25{a1:IntKind}{a2:Int}{a3:Nat}{a4:Nat}{a5:List D}:List D:=[.int a1 a2,.gsl a3 a4 a5]
abbrev q26{a1:Bool}{a2:List D}{a3:IntKind}{a4:Int}:List D:=[.slice a1 a2,.int a3 a4]
abbrev q27{a1:IntKind}{a2:Int}{a3:IntKind}{a4:Int}:List D:=[.int a1 a2,.int a3 a4]
abbrev q28{a1:Nat}{a2:Nat}{a3:Nat}{a4:Nat}:List D:=[.ref a1 a2,.ref a3 a4]
abbrev q29{a1:Nat}{a2:Nat}{a3:IntKind}{a4:Int}:List D:=[.ref a1 a2,.int a3 a4]
abbrev q30{a1:IntKind}{a2:Int}{a3:Bool}:List D:=[.int a1 a2,.bool a3]
abbrev q31{a1:Bool}{a2:List D}{a3:IntKind}{a4:Int}{a5:IntKind}{a6:Int}{a7:IntKind}{a8:Int}{a9:IntKind}{a10:Int}:List D:=[.agg [.slice a1 a2,.int a3 a4,.int a5 a6],.int a7 a8,.int a9 a10]
abbrev q32{a1:Bool}{a2:List D}{a3:IntKind}{a4:Int}{a5:IntKind}{a6:Int}{a7:IntKind}{a8:Int}:List D:=[.agg [.slice a1 a2,.int a3 a4,.int a5 a6],.int a7 a8]
abbrev q33{a1:IntKind}{a2:Int}{a3:IntKind}{a4:Int}{a5:Bool}{a6:List D}{a7:Bool}{a8:List D}{a9:IntKind}{a10:Int}:List D:=[.agg [.int a1 a2,.int a3 a4,.slice a5 a6,.slice a7 a8],.int a9 a10]
abbrev w34(a0 a1:Int)(a2:List aW)(a3:List Int):List D:=[.int .i64 a0,.int .i64 a1,.slice false (a2.map aO.d),.slice false (a3.map (eInt .i64).d)]
variable{p:Prop}
abbrev D7:=fun a b c d e=>([.int .i64 a,.int .i64 b,.slice false ((List.map aX.d c)),.int .i64 d,.int .i64 e]:List D)
abbrev w35(a0 a1:Int)(a2:List aK)(a3 a4:Int):List D:=(D7 a0 a1 a2 a3 a4)
abbrev w36(a0 a1 a2:Int)(a3:Bool):List D:=[.int .i64 a0,.int .i64 a1,.int .i64 a2,.bool a3]
abbrev zs0:List D:=w34 0 0 ([]:List aW) ([]:List Int)
def un3:=@underlying3
def un4:=@underlying4
def un5:=@underlying5
def un23:=@underlying23
def un26:=@underlying26
def un27:=@underlying27
def un31:=@underlying31
def un33:=@underlying33
def un37:=@underlying37
def un40:=@underlying40
def un44:=@underlying44
def un46:=@underlying46
def un48:=@underlying48
def un49:=@underlying49
def un50:=@underlying50
def un52:=@underlying52
def un54:=@underlying54
def un59:=@underlying59
def un78:=@underlying78
def un80:=@underlying80
def un83:=@underlying83
def un84:=@underlying84
def un86:=@underlying86
def un88:=@underlying88
def un92:=@underlying92
def un94:=@underlying94
def aFm:=@underlying102
def aAe:=@underlying103
def zT:=@underlying105
def aA4:=@underlying109
def aFl:=@underlying124
def oV:=@underlying129
def vS:=@underlying161


abbrev N8:=fun a b c=>([.int .i64 a,.int .i64 b,.int .i64 c]:List D)
theorem B5(h:p:=by exact nle M):p:=h
abbrev D3:=fun a=>((1,.int .i64 a):Nat×D)
abbrev H7:=fun a=>((2,.int .i64 a):Nat×D)
abbrev u9:=fun a b c=>(⟨[(0,.int .i64 a),D3 b,H7 c],[]⟩:St)
theorem E8(h:p:=by exact fun hb=>(tI M)):p:=h
theorem V6(h:p:=by exact fun hb=>(tCh M hb k2)):p:=h
theorem B0(h:p:=by exact .cons (sv M) .nil):p:=h
theorem nI(a0 a1 a2:Int)(r:Bool)(h:oQ a0 a1 a2=some r):dH FY 30 (N8 a0 a1 a2) (.bool r):=by
 refine bK (rs:=[.bool r]) func30 M ntmps30 B5 M fun O hO=>sta (u9 a0 a1 a2) ?_;unfold oQ at h;refine aF (cAs (.bool false) M<|aD ?_);obtain ⟨x1,k1,x2,k2,x3,k3,h⟩:=eddd h;refine aF (cI M<|cI M<|cCm M k1<|cB M<|gG M E8<|gG M E8<|gG M V6<|cAn M k3<|cAB M<|aD ?_);refine aU ?_;obtain rfl:=sj_ h;refine ⟨.inr M,B0⟩

abbrev I2:=fun a=>((3,.int .i64 a):Nat×D)
theorem A9(h:p:=by exact lb M):p:=h
theorem L9(h:p:=by exact .cons (svi 1 M) (.cons (svi 256 M) .nil)):p:=h
theorem E6(h:p:=by exact fun hb=>(tLc (d:=.int _ _) un3 ag3 ti3 M hb)):p:=h
theorem u3(h:p:=by exact fun hb=>(bA (r:=.bool _) M M A9 cl30 (.cons (svcI M hb) L9) M (nI _ _ _ _ (gd_t k2 hb)))):p:=h
theorem V1(h:p:=by exact fun hb=>(tFa 2 un26 M ti3 M)):p:=h
theorem J1(h:p:=by exact .cons (svcI M hb) (.cons (svi 0 M) (.cons (svi 1099511627776 M) .nil))):p:=h
theorem Y6(h:p:=by exact fun hb=>(eP M M A9 (svcB M hb))):p:=h
theorem A7(h:p:=by decide):p:=h
theorem I3(h:p:=by exact .cons (svcI M hb) .nil):p:=h
theorem o8(h:p:=by exact .cons (svcI M hb) (.cons (svi 0 M) I3)):p:=h
theorem aAW(a0 a1:aL)(a2:zQ)(a3:Int)(r:Bool)(h:wJ a0 a1 a2 a3=some r):dH FY 7 [.agg (tv4 a0),.agg (tv4 a1),.agg [.int .i64 a2.c0,.int .i64 a2.c1],.int .i64 a3] (.bool r):=by
 refine bK (rs:=[.bool r]) func7 M ntmps7 B5 M fun O hO=>sta ⟨[(0,.agg (tv4 a0)),(1,.agg (tv4 a1)),(2,.agg [.int .i64 a2.c0,.int .i64 a2.c1]),I2 a3],[]⟩ ?_;unfold wJ at h;refine aF (cBx (cs:=q18) q18 0 M<|cBx (cs:=q18) q18 1 M<|cBx (cs:=q27) q27 2 M<|cAs (.bool false) M<|aD ?_);obtain ⟨x1,k1,x2,k2,x3,k3,h⟩:=eood h;refine aF (cFa 1 un26 M ti3 M<|cLd (d:=.int _ _) un3 ag3 ti3 M<|aA M (bA (r:=.bool _) M M A9 cl30 (.cons (svI M) L9) M (nI _ _ _ _ k1))<|cB M<|gG M (fun hb=>(tFa 1 un26 M ti3 M))<|gG M E6<|gG M u3<|cAn M k3<|cAB M<|aD ?_);obtain ⟨x4,k4,x5,k5,x6,k6,h⟩:=eood h;obtain ⟨x7,k7,x8,k8,h⟩:=eod h;refine aF (cFa 2 un26 M ti3 M<|cLd (d:=.int _ _) un3 ag3 ti3 M<|aA M (bA (r:=.bool _) M M A9 cl30 (.cons (svI M) (.cons (svi 0 M) (.cons (svi 1099511627776 M) .nil))) M (nI _ _ _ _ k4))<|cB M<|gG M V1<|gG M E6<|gG M (fun hb=>(bA (r:=.bool _) M M A9 cl30 J1 M (nI _ _ _ _ (gd_t k5 hb))))<|cAn M k6<|cB M<|gG M E8<|gG M (fun hb=>(bA (r:=.bool _) M M A9 cl30 J1 M (nI _ _ _ _ (gd_t k7 hb))))<|cAn M k8<|cAB M<|aD ?_);refine aQ ?_;obtain ⟨x9,k9,x10,k10,x11,k11,h⟩:=edod h;obtain ⟨x12,k12,x13,k13,h⟩:=eod h;refine aF (cB M<|aA M (eP M M A9 (svB M))<|cB M<|gG M (fun hb=>(tB M))<|gG M Y6<|cOr M k9<|cB M<|gG M (fun hb=>(rJ M M A9 un27 ti3 (svR M) (svi 0 M) A7 A7 (off':=0) M))<|gG M E6<|gG M V1<|gG M E6<|gG M (fun hb=>(bA (r:=.bool _) M M A9 cl30 o8 M (nI _ _ _ _ (gd_t k10 hb))))<|gG M Y6<|cOr M k11<|cB M<|gG M (fun hb=>(rJ M M A9 un27 ti3 (svR M) (svi 1 M) A7 A7 (off':=1) M))<|gG M E6<|gG M V1<|gG M E6<|gG M (fun hb=>(bA (r:=.bool _) M M A9 cl30 o8 M (nI _ _ _ _ (gd_t k12 hb))))<|gG M Y6<|cOr M k13<|aD ?_);refine aP h M ?_ ?_<;>intro h
 ·refine aF (cAs (.bool false) M<|aD ?_);refine aU<|aY ?_;obtain rfl:=sj_ h;refine ⟨.inr M,B0⟩
 ·refine aR<|aI ?_;obtain ⟨x15,k15,x16,k16,x17,k17,h⟩:=eddd h;obtain ⟨x18,k18,x19,k19,h⟩:=edd h;refine aF (cFa 2 un26 M ti3 M<|cLd (d:=.int _ _) un3 ag3 ti3 M<|aA M (rJ M M A9 un27 ti3 (svR M) (svi 0 M) A7 A7 (off':=0) M)<|cLd (d:=.int _ _) un3 ag3 ti3 M<|aA M (bD M M A9 (svI M) (svI M) M k15)<|cFa 1 un26 M ti3 M<|cLd (d:=.int _ _) un3 ag3 ti3 M<|aA M (bD M M A9 (svI M) (svI M) M k16)<|cFa 2 un26 M ti3 M<|cLd (d:=.int _ _) un3 ag3 ti3 M<|aA M (rJ M M A9 un27 ti3 (svR M) (svi 1 M) A7 A7 (off':=1) M)<|cLd (d:=.int _ _) un3 ag3 ti3 M<|aA M (bD M M A9 (svI M) (svI M) M k17)<|cFa 1 un26 M ti3 M<|cLd (d:=.int _ _) un3 ag3 ti3 M<|aA M (bD M M A9 (svI M) (svI M) M k18)<|aA M (bD M M A9 (svI M) (svI M) M k19)<|cAI M<|aD ?_);obtain ⟨x20,k20,x21,k21,x22,k22,h⟩:=eddd h;obtain ⟨x23,k23,x24,k24,h⟩:=edd h;refine aF (cI M<|cI M<|aA M (iop_neg M M A9 (svI M) k20)<|aA M (aAs M M A9 (svI M) (svI M) k21)<|cI M<|cFa 1 un26 M ti3 M<|cLd (d:=.int _ _) un3 ag3 ti3 M<|cFa 1 un26 M ti3 M<|cLd (d:=.int _ _) un3 ag3 ti3 M<|aA M (bD M M A9 (svI M) (svI M) M k22)<|aA M (bD M M A9 (svI M) (svI M) M k23)<|cCm M k24<|cAB M<|aD ?_);refine aU ?_;obtain rfl:=sj_ h;refine ⟨.inr M,B0⟩

theorem pC(a0 a1 a2:Int)(r:Bool)(h:jR a0 a1 a2=some r):dH FY 31 (N8 a0 a1 a2) (.bool r):=by
 refine bK (rs:=[.bool r]) func31 M ntmps31 B5 M fun O hO=>sta (u9 a0 a1 a2) ?_;unfold jR at h;refine aF (cAs (.bool false) M<|aD ?_);obtain ⟨x1,k1,x2,k2,x3,k3,h⟩:=eddd h;refine aF (cI M<|cI M<|cCm M k1<|cB M<|gG M E8<|gG M E8<|gG M V6<|cAn M k3<|cAB M<|aD ?_);refine aU ?_;obtain rfl:=sj_ h;refine ⟨.inr M,B0⟩

theorem rT(a0 a1 a2:Int)(r:Bool)(h:rD a0 a1 a2=some r):dH FY 32 (N8 a0 a1 a2) (.bool r):=by
 refine bK (rs:=[.bool r]) func32 M ntmps32 B5 M fun O hO=>sta (u9 a0 a1 a2) ?_;unfold rD at h;refine aF (cAs (.bool false) M<|aD ?_);obtain ⟨x1,k1,x2,k2,x3,k3,h⟩:=eddd h;refine aF (cI M<|cI M<|cCm M k1<|cB M<|gG M E8<|gG M E8<|gG M V6<|cAn M k3<|cAB M<|aD ?_);refine aU ?_;obtain rfl:=sj_ h;refine ⟨.inr M,B0⟩

abbrev G4:=([.slice false (([]:List aK).map aX.d),.int .i64 0,.int .i64 0]:List D)
theorem L4(h:p:=by exact .cons (.nils _) (.all _)):p:=h
theorem T9(h:p:=by exact .cons (svi (-1) M) .nil):p:=h
theorem aBR(r:bQ)(h:zN=some r):dH FY 33 [] (.agg (tv2 r)):=by
 refine bK (rs:=[.agg (tv2 r)]) func33 M ntmps33 B5 M fun O hO=>sta ⟨[],[]⟩ ?_;unfold zN at h;refine aF (aA M (cF (cs:=q22) (cs':=G4) 0 M M A9 M ti80 M M L4)<|aD ?_);refine aF (aA M (aC1 (d':=.agg [.slice false (([]:List aK).map aX.d),.int .i64 (-1),.int .i64 0]) (cZ (cs:=q22) M M A9 un80 ti80 pl80 M T9 M) (.agg L4))<|aA M (dA (ds':=[.slice false (([]:List aK).map aX.d),.int _ _,.int _ _]) M M ti80 (svR M) M (svA q16 M) M M M B5 M)<|aD ?_);refine aU ?_;obtain rfl:=sj_ h;refine ⟨.inr M,(.cons (rva la80 M M B5 M) .nil)⟩

theorem K6(h:p:=by exact .cons (svi 1048576 M) .nil):p:=h
theorem tY(a0:jE)(a1:Int)(r:Int)(h:nH a0 a1=some r):dH FY 34 [.agg (tv6 a0),.int .i64 a1] (.int .i64 r):=by
 refine bK (rs:=[.int .i64 r]) func34 M ntmps34 B5 M fun O hO=>sta ⟨[(0,.agg (tv6 a0)),D3 a1],[]⟩ ?_;unfold nH at h;refine aF (cBx (cs:=q19) q19 0 M<|cAs (.int _ 0) M<|aD ?_);refine aQ<|aT<|nY (α:=Bool) (fun z=>⟨[D3 a1,(2,.ref 0 0),(5,.bool z)],[(0,.blk 88 (tv6 a0))]⟩) (fun z=>lB a0 a1 z=some r) ?_ ?_
 ·obtain ⟨x10,k10,h⟩:=bS h;refine aF (cI M<|aA M (bA (r:=.bool _) M M A9 cl32 (.cons (svI M) (.cons (svi 1 M) K6)) M (rT _ _ _ _ k10))<|aA M (eP M M A9 (svB M))<|cAB M<|aD ?_);refine aP h M ?_ ?_<;>intro h
  ·refine aR<|aI ⟨(!x10),(fun i=>i),wkU,?_⟩;exact h
  ·obtain ⟨x12,k12,h⟩:=bS h;refine aF (cFa 0 un88 M ti3 M<|cLd (d:=.int _ _) un3 ag3 ti3 M<|aA M (bA (r:=.bool _) M M A9 cl32 (.cons (svI M) (.cons (svi 0 M) K6)) M (rT _ _ _ _ k12))<|aA M (eP M M A9 (svB M))<|cAB M<|aD ?_);refine aP h M ?_ ?_<;>intro h
   ·refine aR<|aI ⟨(!x12),(fun i=>i),wkU,?_⟩;exact h
   ·obtain ⟨x14,k14,h⟩:=bS h;refine aS (cFa 1 un88 M ti3 M<|cLd (d:=.int _ _) un3 ag3 ti3 M<|aA M (bA (r:=.bool _) M M A9 cl32 (.cons (svI M) L9) M (rT _ _ _ _ k14))<|aA M (eP M M A9 (svB M))<|cAB M<|bE ?_);refine aI ⟨(!x14),(fun i=>i),wkU,?_⟩;exact h
 ·rintro v6 h;unfold lB at h;refine aP h M ?_ ?_<;>intro h
  ·refine aF (cAs (.int _ 8) M<|aD ?_);refine aU<|bU<|aY ?_;obtain rfl:=sj_ h;refine ⟨.inr M,B0⟩
  ·obtain ⟨x8,k8,h⟩:=bN h;refine aF (cI M<|cFa 0 un88 M ti3 M<|cLd (d:=.int _ _) un3 ag3 ti3 M<|cCm M k8<|cAB M<|aD ?_);refine aP h M ?_ ?_<;>intro h
   ·refine aF (cAs (.int _ 4) M<|aD ?_);refine aU<|bU<|aY ?_;obtain rfl:=sj_ h;refine ⟨.inr M,B0⟩
   ·refine aR<|bI<|aI<|aF (cAs (.int _ 0) M<|aD ?_);refine aU ?_;obtain rfl:=sj_ h;refine ⟨.inr M,B0⟩

abbrev L0:=fun a b=>([.agg (tv2 a),.int .i64 b]:List D)
abbrev U5:=fun a=>((0,.agg (tv2 a)):Nat×D)
theorem U4(h:p:=by exact fun hb=>(tFa 0 un80 M ti78 M)):p:=h
theorem M6(h:p:=by exact fun hb=>(tLc (d:=.slice _ _) un78 ag78 ti78 M hb)):p:=h
theorem p9(h:p:=by exact fun hb=>(bT aX (l:=a0.Cells) M M A9 un78 (svcL M hb))):p:=h
theorem tN(a0:bQ)(a1:Int)(r:Bool)(h:lH a0 a1=some r):dH FY 134 (L0 a0 a1) (.bool r):=by
 refine bK (rs:=[.bool r]) func134 M ntmps134 B5 M fun O hO=>sta ⟨[U5 a0,D3 a1],[]⟩ ?_;unfold lH at h;refine aF (cBx (cs:=q16) q16 0 M<|cAs (.bool false) M<|aD ?_);obtain ⟨x1,k1,x2,k2,x3,k3,h⟩:=eddd h;refine aF (cI M<|aA M (fK M M A9 (svi (-1) M) (svI M) M k1)<|cB M<|gG M E8<|gG M U4<|gG M M6<|gG M p9<|gG M V6<|cAn M k3<|cAB M<|aD ?_);refine aU ?_;obtain rfl:=sj_ h;refine ⟨.inr M,B0⟩

theorem xB(a0:bQ)(a1:aK)(r:Bool)(h:nQ a0 a1=some r):dH FY 136 [.agg (tv2 a0),.agg (tv5 a1)] (.bool r):=by
 refine bK (rs:=[.bool r]) func136 M ntmps136 B5 M fun O hO=>sta ⟨[U5 a0,(1,.agg (tv5 a1))],[]⟩ ?_;unfold nQ at h;refine aF (cBx (cs:=q16) q16 0 M<|cBx (cs:=q20) q20 1 M<|cAs (.bool false) M<|aD ?_);obtain ⟨x1,k1,x2,k2,h⟩:=eod h;refine aF (cFa 0 vS M ti4 M<|cLd (d:=.bool _) un4 ag4 ti4 M<|aA M (eP M M A9 (svB M))<|cB M<|gG M (fun hb=>(tLr q16 la80 M))<|gG M (fun hb=>(tFa 2 vS M ti3 M))<|gG M E6<|gG M (fun hb=>(bA (r:=.bool _) M M A9 cl134 (.cons (svcA (tv2 a0) M hb) I3) M (tN _ _ _ (gd_t k1 hb))))<|gG M Y6<|cAn M k2<|cAB M<|aD ?_);refine aU ?_;obtain rfl:=sj_ h;refine ⟨.inr M,B0⟩

abbrev M8:=fun a=>((0,.slice false ((List.map aX.d a))):Nat×D)
abbrev K2:=fun a=>((7,.int .i64 (a:Int)):Nat×D)
abbrev L7:=fun a=>((8,.int .i64 a):Nat×D)
theorem nV(a0:List aK)(a1:bQ)(r:Int)(h:eQ a0 a1=some r):dH FY 159 [.slice false (a0.map aX.d),.mv 136 [.agg (tv2 a1)]] (.int .i64 r):=by
 refine bK (rs:=[.int .i64 r]) func159 M ntmps159 B5 M fun O hO=>sta ⟨[M8 a0,(1,.mv 136 [.agg (tv2 a1)])],[]⟩ ?_;unfold eQ at h;refine aF (cAs (.int _ 0) M<|aD ?_);refine aQ<|aF (aA M (mvL M M M M)<|aA M (bT aX (l:=a0) M M A9 un78 (svL M))<|cMv (.int _ 0) M<|aD ?_);refine aT<|bR (α:=Nat×Int) (fun z=>⟨[M8 a0,(1,.mv 136 [.agg (tv2 a1)]),K2 a0.length,L7 z.2],[]⟩) (fun z=>cG a0 a1 z.1 z.2=some r) (fun z=>z.1) (fuel,0) (fun i=>i) wkU ?_ ?_
 ·exact h
 ·rintro ⟨n0,v7⟩ h
  cases n0 with
  | zero=>exact Ay h (by unfold cG; exact nofun)
  | succ n0 =>
   unfold cG at h;obtain ⟨x14,k14,h⟩:=bN h;refine aF (cCm M k14<|aD ?_);refine aQ<|aP h M ?_ ?_<;>intro h
   ·refine aR<|aI<|aQ<|aT<|aF (cI M<|cAI M<|aD ?_);obtain ⟨x16,k16,x17,k17,h⟩:=eoo h;refine aF (cMv (.mv 136 [.agg q16]) M<|aA M (mvL M M M M)<|cI M<|aA M (bL aX (cs:=q20) M M A9 un78 qY (svL M) (svI M) k16 M M)<|aA M (cP (cs:=q20) M M A9 vS aID qY A7 (svf q20 M) B5 M)<|aA M (aHR (r:=.bool _) M M A9 cl136 (sv (d:=.mv 136 [.agg q16]) M) (.cons (svA q20 M) .nil) M (xB _ _ _ k17))<|aD ?_);refine aP h M ?_ ?_<;>intro h
    ·refine aF (cI M<|cAI M<|aD ?_);refine aU<|bU<|aY<|aY<|bU<|aY ?_;obtain rfl:=sj_ h;refine ⟨.inr M,B0⟩
    ·refine aR<|bI<|aI ?_;obtain ⟨x19,k19,h⟩:=bN h;refine aS (aA M (bD M M A9 (svI M) (svi 1 M) M k19)<|cI M<|bE ?_);refine aI ⟨(n0,x19),(fun i=>i),wkU,?_,?_⟩;exact h;exact Ah _
   ·refine cD<|bC<|bC<|cE<|aI<|aF (cAs (.int _ (-1)) M<|aD ?_);refine aU ?_;obtain rfl:=sj_ h;refine ⟨.inr M,B0⟩

theorem nB(a0:List aK)(a1:bQ)(r:Bool)(h:eD a0 a1=some r):dH FY 135 [.slice false (a0.map aX.d),.mv 136 [.agg (tv2 a1)]] (.bool r):=by
 refine bK (rs:=[.bool r]) func135 M ntmps135 B5 M fun O hO=>sta ⟨[M8 a0,(1,.mv 136 [.agg (tv2 a1)])],[]⟩ ?_;unfold eD at h;refine aF (cAs (.bool false) M<|aD ?_);obtain ⟨x1,k1,x2,k2,h⟩:=eod h;refine aF (aA M (mvL M M M M)<|cMv (.mv 136 [.agg q16]) M<|aA M (bA (r:=.int _ _) M M A9 cl159 (.cons (svL M) (.cons (sv (d:=.mv 136 [.agg q16]) M) .nil)) M (nV _ _ _ k1))<|cCm (b:=0) M k2<|cAB M<|aD ?_);refine aU ?_;obtain rfl:=sj_ h;refine ⟨.inr M,B0⟩

theorem aEL(a0:aK)(r:Bool)(h:wH a0=some r):dH FY 137 [.agg (tv5 a0)] (.bool r):=by
 refine bK (rs:=[.bool r]) func137 M ntmps137 B5 M fun O hO=>sta ⟨[(0,.agg (tv5 a0))],[]⟩ ?_;unfold wH at h;refine aF (cBx (cs:=q20) q20 0 M<|cAs (.bool false) M<|aD ?_);refine aQ<|aF (cFa 0 vS M ti4 M<|cLd (d:=.bool _) un4 ag4 ti4 M<|aD ?_);refine aP h M ?_ ?_<;>intro h
 ·obtain ⟨x2,k2,h⟩:=bN h;refine aF (cFa 2 vS M ti3 M<|cLd (d:=.int _ _) un3 ag3 ti3 M<|cCm (b:=0) M k2<|cAB M<|aD ?_);refine aU<|aY ?_;obtain rfl:=sj_ h;refine ⟨.inr M,B0⟩
 ·refine aR<|aI ?_;obtain ⟨x3,k3,h⟩:=bN h;refine aF (cFa 1 vS M ti3 M<|cLd (d:=.int _ _) un3 ag3 ti3 M<|cCm (b:=0) M k3<|cAB M<|aD ?_);refine aU ?_;obtain rfl:=sj_ h;refine ⟨.inr M,B0⟩

theorem oM(a0:List aK)(r:Int)(h:fH a0=some r):dH FY 159 [.slice false (a0.map aX.d),.fn 137 []] (.int .i64 r):=by
 refine bK (rs:=[.int .i64 r]) func159 M ntmps159 B5 M fun O hO=>sta ⟨[M8 a0,(1,.fn 137 [])],[]⟩ ?_;unfold fH at h;refine aF (cAs (.int _ 0) M<|aD ?_);refine aQ<|aF (aA M (mvL M M M M)<|aA M (bT aX (l:=a0) M M A9 un78 (svL M))<|cMv (.int _ 0) M<|aD ?_);refine aT<|bR (α:=Nat×Int) (fun z=>⟨[M8 a0,(1,.fn 137 []),K2 a0.length,L7 z.2],[]⟩) (fun z=>cM a0 z.1 z.2=some r) (fun z=>z.1) (fuel,0) (fun i=>i) wkU ?_ ?_
 ·exact h
 ·rintro ⟨n0,v7⟩ h
  cases n0 with
  | zero=>exact Ay h (by unfold cM; exact nofun)
  | succ n0 =>
   unfold cM at h;obtain ⟨x14,k14,h⟩:=bN h;refine aF (cCm M k14<|aD ?_);refine aQ<|aP h M ?_ ?_<;>intro h
   ·refine aR<|aI<|aQ<|aT<|aF (cI M<|cAI M<|aD ?_);obtain ⟨x16,k16,x17,k17,h⟩:=eoo h;refine aF (cMv (.fn 137 []) M<|aA M (mvL M M M M)<|cI M<|aA M (bL aX (cs:=q20) M M A9 un78 qY (svL M) (svI M) k16 M M)<|aA M (cP (cs:=q20) M M A9 vS aID qY A7 (svf q20 M) B5 M)<|aA M (pR (r:=.bool _) M M A9 cl137 (sv (d:=.fn 137 []) M) (.cons (svA q20 M) .nil) M (aEL _ _ k17))<|aD ?_);refine aP h M ?_ ?_<;>intro h
    ·refine aF (cI M<|cAI M<|aD ?_);refine aU<|bU<|aY<|aY<|bU<|aY ?_;obtain rfl:=sj_ h;refine ⟨.inr M,B0⟩
    ·refine aR<|bI<|aI ?_;obtain ⟨x19,k19,h⟩:=bN h;refine aS (aA M (bD M M A9 (svI M) (svi 1 M) M k19)<|cI M<|bE ?_);refine aI ⟨(n0,x19),(fun i=>i),wkU,?_,?_⟩;exact h;exact Ah _
   ·refine cD<|bC<|bC<|cE<|aI<|aF (cAs (.int _ (-1)) M<|aD ?_);refine aU ?_;obtain rfl:=sj_ h;refine ⟨.inr M,B0⟩

theorem nW(a0:List aK)(r:Bool)(h:eR a0=some r):dH FY 135 [.slice false (a0.map aX.d),.fn 137 []] (.bool r):=by
 refine bK (rs:=[.bool r]) func135 M ntmps135 B5 M fun O hO=>sta ⟨[M8 a0,(1,.fn 137 [])],[]⟩ ?_;unfold eR at h;refine aF (cAs (.bool false) M<|aD ?_);obtain ⟨x1,k1,x2,k2,h⟩:=eod h;refine aF (aA M (mvL M M M M)<|cMv (.fn 137 []) M<|aA M (bA (r:=.int _ _) M M A9 cl159 (.cons (svL M) (.cons (sv (d:=.fn 137 []) M) .nil)) M (oM _ _ k1))<|cCm (b:=0) M k2<|cAB M<|aD ?_);refine aU ?_;obtain rfl:=sj_ h;refine ⟨.inr M,B0⟩

abbrev P2:=fun a b=>([.slice false ((List.map (eInt .i64).d a)),.int .i64 b]:List D)
abbrev I0:=fun a=>((0,.slice false ((List.map (eInt .i64).d a))):Nat×D)
theorem vP(a0:List Int)(a1:Int)(r:Int)(h:lW a0 a1=some r):dH FY 119 (P2 a0 a1) (.int .i64 r):=by
 refine bK (rs:=[.int .i64 r]) func119 M ntmps119 B5 M fun O hO=>sta ⟨[I0 a0,D3 a1],[]⟩ ?_;unfold lW at h;refine aF (cAs (.int _ 0) M<|aD ?_);refine aQ<|aF (aA M (mvL M M M M)<|aA M (bT (eInt .i64) (l:=a0) M M A9 un37 (svL M))<|cMv (.int _ 0) M<|aD ?_);refine aT<|bR (α:=Nat×Int) (fun z=>⟨[I0 a0,D3 a1,K2 a0.length,L7 z.2],[]⟩) (fun z=>eJ a0 a1 z.1 z.2=some r) (fun z=>z.1) (fuel,0) (fun i=>i) wkU ?_ ?_
 ·exact h
 ·rintro ⟨n0,v7⟩ h
  cases n0 with
  | zero=>exact Ay h (by unfold eJ; exact nofun)
  | succ n0 =>
   unfold eJ at h;obtain ⟨x14,k14,h⟩:=bN h;refine aF (cCm M k14<|aD ?_);refine aQ<|aP h M ?_ ?_<;>intro h
   ·refine aR<|aI<|aQ<|aT<|aF (cI M<|cAI M<|aD ?_);obtain ⟨x16,k16,x17,k17,h⟩:=eod h;refine aF (cI M<|aA M (mvL M M M M)<|cI M<|aA M (bL (eInt .i64) (cs:=[.int _ _]) M M A9 un37 ti3 (svL M) (svI M) k16 M M)<|aA M (bG M M A9 un3 ag3 ti3 A7 (svf [.int _ _] M) B5)<|cCm M k17<|aD ?_);refine aP h M ?_ ?_<;>intro h
    ·refine aF (cI M<|cAI M<|aD ?_);refine aU<|bU<|aY<|aY<|bU<|aY ?_;obtain rfl:=sj_ h;refine ⟨.inr M,B0⟩
    ·refine aR<|bI<|aI ?_;obtain ⟨x19,k19,h⟩:=bN h;refine aS (aA M (bD M M A9 (svI M) (svi 1 M) M k19)<|cI M<|bE ?_);refine aI ⟨(n0,x19),(fun i=>i),wkU,?_,?_⟩;exact h;exact Ah _
   ·refine cD<|bC<|bC<|cE<|aI<|aF (cAs (.int _ (-1)) M<|aD ?_);refine aU ?_;obtain rfl:=sj_ h;refine ⟨.inr M,B0⟩

theorem B9(h:p:=by exact .cons (svI M) .nil):p:=h
theorem j3(h:p:=by exact .cons (svL M) B9):p:=h
theorem qC(a0:List Int)(a1:Int)(r:Bool)(h:dJ a0 a1=some r):dH FY 91 (P2 a0 a1) (.bool r):=by
 refine bK (rs:=[.bool r]) func91 M ntmps91 B5 M fun O hO=>sta ⟨[I0 a0,D3 a1],[]⟩ ?_;unfold dJ at h;refine aF (cAs (.bool false) M<|aD ?_);obtain ⟨x1,k1,x2,k2,h⟩:=eod h;refine aF (aA M (mvL M M M M)<|cI M<|aA M (bA (r:=.int _ _) M M A9 cl119 j3 M (vP _ _ _ k1))<|cCm (b:=0) M k2<|cAB M<|aD ?_);refine aU ?_;obtain rfl:=sj_ h;refine ⟨.inr M,B0⟩

abbrev N5:=fun a=>((5,.int .i64 a):Nat×D)
theorem Z2(h:p:=by exact .cons (sv M) B0):p:=h
theorem xV(a0:bQ)(r:(List Int)×Bool)(h:pW a0=some r):dH FY 138 [.agg (tv2 a0)] (retD [.slice false (r.1.map (eInt .i64).d),.bool r.2]):=by
 refine nM (rs:=[.slice false (r.1.map (eInt .i64).d),.bool r.2]) func138 M ntmps138 B5 M fun O hO=>sta ⟨[U5 a0],[]⟩ ?_;unfold pW at h;refine aF (cBx (cs:=q16) q16 0 M<|cAs (.nils) M<|cAs (.bool false) M<|aD ?_);refine aB5 (α:=Nat×(List Int)×Int) 0 (fun z=>⟨[(1,.ref 0 0),(4,.osl 22 (eInt .i64).sz z.2.1.length),N5 z.2.2],[(0,.blk 80 (tv2 a0)),(22,.blk 3 (Ac (z.2.1.map (eInt .i64).d)))]⟩) (fun z=>iN a0 z.1 z.2.1 z.2.2=some r) (fun z=>z.1) M ?_ ?_
 ·rintro ⟨n0,v9,v10⟩ h
  cases n0 with
  | zero=>exact Ay h (by unfold iN; exact nofun)
  | succ n0 =>
   unfold iN at h;refine aQ ?_;obtain ⟨x19,k19,h⟩:=bN h;refine aF (cI M<|cCm (b:=(-1)) M k19<|aD ?_);refine aP h M ?_ ?_<;>intro h
   ·refine aF (cMv (.osl _ _ _) M<|cAs (.osl _ _ _) M<|cAs (.bool true) M<|aD ?_);refine aU<|aY<|aHg ?_;obtain rfl:=sj_ h;refine ⟨.inr M,_,Z2,(.cons (FDT (eInt .i64) M M) (.all _))⟩
   ·refine aR<|aI<|aQ ?_;obtain ⟨x21,k21,x22,k22,x23,k23,h⟩:=eood h;refine aF (cFa 0 un80 M ti78 M<|aA M (lrL la78 M M M M M B5 M)<|cI M<|aA M (bL aX (cs:=q20) M M A9 un78 qY (svL M) (svI M) k21 M M)<|aA M (aZ (cs':=[.bool _]) M M A9 vS M ti4 A7 (svf q20 M) M)<|aA M (bG M M A9 un4 ag4 ti4 A7 (svf [.bool _] M) B5)<|cB M<|gG M (fun hb=>(tMv (.osl _ _ _) M))<|gG M E8<|gG M (fun hb=>(sK (r:=.bool x22) M M A9 cl91 (.cons (svc (d:=.osl _ _ _) M hb) I3) (.cons (FDT (eInt .i64) M M) (.all _)) M M (qC _ _ _ (gd_t k22 hb))))<|cOr M k23<|aD ?_);refine aP h M ?_ ?_<;>intro h
    ·refine aF (cMv (.osl _ _ _) M<|cAs (.osl _ _ _) M<|cAs (.bool false) M<|aD ?_);refine aU<|aY<|aHg ?_;obtain rfl:=sj_ h;refine ⟨.inr M,_,Z2,(.cons (FDT (eInt .i64) M M) (.all _))⟩
    ·refine aR<|aI ?_;obtain ⟨x25,k25,h⟩:=bS h;refine aF (cMv (.osl _ _ _) M<|cI M<|aA M (oT (eInt .i64).toEnc0 ([v10]:(List Int)) 23 M M A9 un37 ti3 M B9 M M A7)<|aA M (lK (eInt .i64).toEnc0 24 M M A9 un37 ti3 M M M M M (vT (eInt .i64).toEnc0 M M M) k25)<|cAs (.osl _ _ _) M<|aD ?_);obtain ⟨x26,k26,h⟩:=bS h;refine aF (cFa 0 un80 M ti78 M<|aA M (lrL la78 M M M M M B5 M)<|cI M<|aA M (bL aX (cs:=q20) M M A9 un78 qY (svL M) (svI M) k26 M M)<|aA M (aZ (cs':=[.int _ _]) M M A9 vS M ti3 A7 (svf q20 M) M)<|aA M (bG M M A9 un3 ag3 ti3 A7 (svf [.int _ _] M) B5)<|cAI M<|aD ?_);refine aIr ?_;refine ⟨M,(n0,x25,x26.ap),(fun i=>if i=22 then 24 else i),wkU,?_,?_⟩;exact h;exact Ah _
 ·intro hgo;refine aF (cAs (.nils) M<|aD ?_);refine aF (cFa 1 un80 M ti3 M<|cLd (d:=.int _ _) un3 ag3 ti3 M<|cAI M<|aD ?_);refine aQ (aHI ?_);exact hgo _ ⟨(fuel,([]:(List Int)),a0.Free),(fun i=>if i=22 then 73 else i),wkU,h⟩

theorem K8(h:p:=by exact .cons (svA q16 M) .nil):p:=h
abbrev U1:=([.bool false,.int .i64 0,.int .i64 0]:List D)
theorem G8(h:p:=by exact fun hb=>(mvL M M M M)):p:=h
theorem vC(a0:bQ)(r:Int)(h:qR a0=some r):dH FY 106 [.agg (tv2 a0)] (.int .i64 r):=by
 refine bK (rs:=[.int .i64 r]) func106 M ntmps106 B5 M fun O hO=>sta ⟨[U5 a0],[]⟩ ?_;unfold qR at h;refine aF (cBx (cs:=q16) q16 0 M<|cAs (.int _ 0) M<|aD ?_);refine aQ<|aT ?_;obtain ⟨x1,k1,h⟩:=bN h;refine aF (cFa 0 un80 M ti78 M<|aA M (lrL la78 M M M M M B5 M)<|aA M (bT aX (l:=a0.Cells) M M A9 un78 (svL M))<|cCm (b:=64) M k1<|cAB M<|aD ?_);refine aP h M ?_ ?_<;>intro h
 ·refine aF (cAs (.int _ 5) M<|aD ?_);refine aU<|bU<|aY ?_;obtain rfl:=sj_ h;refine ⟨.inr M,B0⟩
 ·refine nY (α:=Bool) (fun z=>⟨[(1,.ref 0 0),(13,.bool z)],[(0,.blk 80 (tv2 a0))]⟩) (fun z=>qF a0 z=some r) ?_ ?_
  ·obtain ⟨x40,k40,h⟩:=bS h;refine aF (cLr q16 la80 M<|cFa 1 un80 M ti3 M<|cLd (d:=.int _ _) un3 ag3 ti3 M<|aA M (bA (r:=.bool _) M M A9 cl134 (.cons (svA q16 M) B9) M (tN _ _ _ k40))<|aA M (eP M M A9 (svB M))<|cAB M<|aD ?_);refine aP h M ?_ ?_<;>intro h
   ·refine aR<|aI ⟨(!x40),(fun i=>i),wkU,?_⟩;exact h
   ·obtain ⟨x42,k42,h⟩:=bS h;refine aS (cFa 0 un80 M ti78 M<|aA M (lrL la78 M M M M M B5 M)<|cLr q16 la80 M<|aA M (aF2 M M A9 K8)<|aA M (bA (r:=.bool _) M M A9 cl135 (.cons (svL M) (.cons (sv (d:=.mv 136 [.agg q16]) M) .nil)) M (nB _ _ _ k42))<|cAB M<|bE ?_);refine aI ⟨x42,(fun i=>i),wkU,?_⟩;exact h
  ·rintro v6 h;unfold qF at h;refine aP h M ?_ ?_<;>intro h
   ·refine aF (cAs (.int _ 8) M<|aD ?_);refine aU<|bU<|aY ?_;obtain rfl:=sj_ h;refine ⟨.inr M,B0⟩
   ·obtain ⟨x8,k8,h⟩:=bS h;refine aF (cFa 0 un80 M ti78 M<|aA M (lrL la78 M M M M M B5 M)<|aA M (bA (r:=.bool _) M M A9 cl135 (.cons (svL M) (.cons (sv (d:=.fn 137 []) M) .nil)) M (nW _ _ k8))<|cAB M<|aD ?_);refine aP h M ?_ ?_<;>intro h
    ·refine aF (cAs (.int _ 4) M<|aD ?_);refine aU<|bU<|aY ?_;obtain rfl:=sj_ h;refine ⟨.inr M,B0⟩
    ·refine aR<|bI<|aI<|aF (cAs (.int _ 0) M<|aD ?_);refine aQ<|aF (cFa 0 un80 M ti78 M<|aA M (lrL la78 M M M M M B5 M)<|aA M (bT aX (l:=a0.Cells) M M A9 un78 (svL M))<|cMv (.int _ 0) M<|aD ?_);refine aT<|bR (α:=Nat×Int×Int) (fun z=>⟨[(1,.ref 0 0),I2 z.2.1,(29,.slice false (a0.Cells.map aX.d)),(30,.int .i64 (a0.Cells.length:Int)),(31,.int .i64 z.2.2)],[(0,.blk 80 (tv2 a0))]⟩) (fun z=>lM a0 z.1 z.2.1 z.2.2=some r) (fun z=>z.1) (fuel,0,0) (fun i=>i) wkU ?_ ?_
     ·exact h
     ·rintro ⟨n1,v17,v18⟩ h
      cases n1 with
      | zero=>exact Ay h (by unfold lM; exact nofun)
      | succ n1 =>
       unfold lM at h;obtain ⟨x26,k26,h⟩:=bN h;refine aF (cCm M k26<|aD ?_);refine aQ<|aP h M ?_ ?_<;>intro h
       ·refine aR<|aI<|aQ<|aT ?_;obtain ⟨x28,k28,h⟩:=bS h;refine aF (aA M (bL aX (cs:=q20) M M A9 un78 qY (svL M) (svI M) k28 M M)<|aA M (cP (cs:=q20) M M A9 vS aID qY A7 (svf q20 M) B5 M)<|aA M (cF (cs:=q20) (cs':=U1) 1 M M A9 M qY M M (.all _))<|cSt q20 q20 qY M<|aD ?_);refine aF (cFa 0 vS M ti4 M<|cLd (d:=.bool _) un4 ag4 ti4 M<|aD ?_);refine aP h M ?_ ?_<;>intro h
        ·obtain ⟨x30,k30,h⟩:=bN h;refine aS (cI M<|aA M (bD M M A9 (svI M) (svi 1 M) M k30)<|cAI M<|bE ?_);refine bI<|aI ?_;obtain ⟨x31,k31,h⟩:=bN h;refine aS (aA M (bD M M A9 (svI M) (svi 1 M) M k31)<|cI M<|bE ?_);refine aI ⟨(n1,x30,x31),(fun i=>i),wkU,?_,?_⟩;exact h;exact Ah _
        ·refine aR<|bI<|aI ?_;obtain ⟨x32,k32,h⟩:=bN h;refine aS (aA M (bD M M A9 (svI M) (svi 1 M) M k32)<|cI M<|bE ?_);refine aI ⟨(n1,v17,x32),(fun i=>i),wkU,?_,?_⟩;exact h;exact Ah _
       ·refine cD<|bC<|bC<|cE<|aI ?_;obtain ⟨x33,k33,h⟩:=bS h;refine aF (cLr q16 la80 M<|aA M (bA (r:=.tuple [.slice _ _,.bool _]) M M A9 cl138 K8 M (xV _ _ k33))<|cMv (.tuple [.slice _ _,.bool _]) M<|aA M (fV (d:=.slice _ _) M M A9 (sv (d:=.tuple [.slice _ _,.bool _]) M) M)<|aA M (fV (d:=.bool _) M M A9 (sv (d:=.tuple [.slice _ _,.bool _]) M) M)<|aA M (bH M M A9 (svL M))<|cAB M<|aD ?_);refine aQ ?_;obtain ⟨x34,k34,x35,k35,x36,k36,h⟩:=eddd h;obtain ⟨x37,k37,x38,k38,h⟩:=edd h;refine aF (cB M<|aA M (eP M M A9 (svB M))<|cB M<|gG M E8<|gG M (fun hb=>(tFa 2 un80 M ti3 M))<|gG M E6<|gG M (fun hb=>(tCh M hb k34))<|cOr M k35<|cB M<|gG M E8<|gG M G8<|gG M (fun hb=>(bT (eInt .i64) (l:=x33.1) M M A9 un37 (svcL M hb)))<|gG M (fun hb=>(bD M M A9 (svcI M hb) (svcI M hb) M k36))<|gG M U4<|gG M M6<|gG M p9<|gG M (fun hb=>(tCh M hb k37))<|cOr M k38<|aD ?_);refine aP h M ?_ ?_<;>intro h
        ·refine aF (cAs (.int _ 10) M<|aD ?_);refine aU<|aY ?_;obtain rfl:=sj_ h;refine ⟨.inr M,B0⟩
        ·refine aR<|aI<|aF (cAs (.int _ 0) M<|aD ?_);refine aU ?_;obtain rfl:=sj_ h;refine ⟨.inr M,B0⟩

abbrev G3:=fun a=>((.slice false ((List.map (eInt .i64).d a))):D)
abbrev I8:=fun a=>([.slice false ((List.map (eInt .i64).d a))]:List D)
theorem G1(h:p:=by exact .cons (.nils _) .nil):p:=h
theorem aAX(a0:bQ)(r:List Int)(h:tH a0=some r):dH FY 78 [.agg (tv2 a0)] (G3 r):=by
 refine nM (rs:=I8 r) func78 M ntmps78 B5 M fun O hO=>sta ⟨[U5 a0],[]⟩ ?_;unfold tH at h;refine aF (cBx (cs:=q16) q16 0 M<|cAs (.nils) M<|aD ?_);refine aQ ?_;obtain ⟨x1,k1,x2,k2,h⟩:=eod h;refine aF (cLr q16 la80 M<|aA M (bA (r:=.int _ _) M M A9 cl106 K8 M (vC _ _ k1))<|cCm (b:=0) M k2<|aD ?_);refine aP h M ?_ ?_<;>intro h
 ·refine aF (cAs (.nils) M<|aD ?_);refine aU<|aY ?_;obtain rfl:=sj_ h;refine ⟨.inr M,_,B0,G1⟩
 ·refine aR<|aI<|aF (cAs (.nils) M<|aD ?_);refine aQ<|aF (cFa 0 un80 M ti78 M<|aA M (lrL la78 M M M M M B5 M)<|aA M (bT aX (l:=a0.Cells) M M A9 un78 (svL M))<|cMv (.int _ 0) M<|aD ?_);refine aT<|bR (α:=Nat×(List Int)×Int) (fun z=>⟨[(3,.osl 21 (eInt .i64).sz z.2.1.length),(10,.slice false (a0.Cells.map aX.d)),(11,.int .i64 (a0.Cells.length:Int)),(12,.int .i64 z.2.2)],[(21,.blk 3 (Ac (z.2.1.map (eInt .i64).d)))]⟩) (fun z=>mG a0 z.1 z.2.1 z.2.2=some r) (fun z=>z.1) (fuel,([]:(List Int)),0) (fun i=>if i=21 then 72 else i) wkU ?_ ?_
  ·exact h
  ·rintro ⟨n0,v11,v12⟩ h
   cases n0 with
   | zero=>exact Ay h (by unfold mG; exact nofun)
   | succ n0 =>
    unfold mG at h;obtain ⟨x20,k20,h⟩:=bN h;refine aF (cCm M k20<|aD ?_);refine aQ<|aP h M ?_ ?_<;>intro h
    ·refine aR<|aI<|aQ<|aT ?_;obtain ⟨x22,k22,h⟩:=bS h;refine aF (cI M<|aA M (bL aX (cs:=q20) M M A9 un78 qY (svL M) (svI M) k22 M M)<|aA M (cP (cs:=q20) M M A9 vS aID qY A7 (svf q20 M) B5 M)<|aA M (cF (cs:=q20) (cs':=U1) 22 M M A9 M qY M M (.all _))<|cAI M<|cSt q20 q20 qY M<|aD ?_);refine aF (cFa 0 vS M ti4 M<|cLd (d:=.bool _) un4 ag4 ti4 M<|aD ?_);refine aP h M ?_ ?_<;>intro h
     ·obtain ⟨x24,k24,h⟩:=bS h;refine aS (cMv (.osl _ _ _) M<|cI M<|aA M (oT (eInt .i64).toEnc0 ([v12]:(List Int)) 23 M M A9 un37 ti3 M B9 M M A7)<|aA M (lK (eInt .i64).toEnc0 24 M M A9 un37 ti3 M M M M M (vT (eInt .i64).toEnc0 M M M) k24)<|cAs (.osl _ _ _) M<|bE ?_);refine bI<|aI ?_;obtain ⟨x25,k25,h⟩:=bN h;refine aS (aA M (bD M M A9 (svI M) (svi 1 M) M k25)<|cI M<|bE ?_);refine aI ⟨(n0,x24,x25),(fun i=>if i=21 then 24 else i),wkU,?_,?_⟩;exact h;exact Ah _
     ·refine aR<|bI<|aI ?_;obtain ⟨x26,k26,h⟩:=bN h;refine aS (aA M (bD M M A9 (svI M) (svi 1 M) M k26)<|cI M<|bE ?_);refine aI ⟨(n0,v11,x26),(fun i=>i),wkU,?_,?_⟩;exact h;exact Ah _
    ·refine cD<|bC<|bC<|cE<|aI<|aF (cMv (.osl _ _ _) M<|cAs (.osl _ _ _) M<|aD ?_);refine aU ?_;obtain rfl:=sj_ h;refine ⟨.inr M,_,B0,(.cons (FDT (eInt .i64) M M) .nil)⟩

abbrev L6:=fun a=>([.ref 1000 0,.int .i64 a]:List D)
abbrev A0:=fun a b c d e f g i=>((1000,.blk 86 (mixD aC.toEnc0 (w35 a b c d e) f [.int .i64 g,.osl 1001 (eInt .i64).sz i])):Nat×Ent)
abbrev A5:=fun a=>((1001,.blk 3 (Ac ((List.map (eInt .i64).d a)))):Nat×Ent)
abbrev X0:=fun a b c d e f g i=>([A0 a b c d e f g (List.length i),A5 i]:List (Nat×Ent))
abbrev D0:=((0,.ref 1000 0):Nat×D)
theorem I4(h:p:=by rfl):p:=h
theorem Y4(h:p:=by exact ⟨.inr M,(fun i=>i),wkU,B0,M⟩):p:=h
theorem jC(a0 a1 a2:Int)(a3:List aK)(a4 a5:Int)(a6:List aJ)(a7:Int)(a8:List Int)(r:Int)(h:dZ a0 a1 a2 a3 a4 a5 a6 a7 a8=some r):FnH FY 35 (L6 a0) (X0 a1 a2 a3 a4 a5 a6 a7 a8) (.int .i64 r) (X0 a1 a2 a3 a4 a5 a6 a7 a8):=by
 refine dX (rs:=[.int .i64 r]) func35 M ntmps35 B5 fun O hO=>sta ⟨[D0,D3 a0],X0 a1 a2 a3 a4 a5 a6 a7 a8⟩ ?_;unfold dZ at h;refine aF (cAs (.int _ 0) M<|aD ?_);refine aQ ?_;obtain ⟨x1,k1,h⟩:=bS h;refine aF (aA M (mvR M M M M)<|aA M (aN M M A9 (svR M))<|cFa 2 un86 M ti80 M<|aA M (tP aC.toEnc0 (cs:=q16) M M A9 un80 ag80 ti80 A7 (svR M) M B5 I4)<|aA M (bA (r:=.slice _ _) M M A9 cl78 K8 M (aAX _ _ k1))<|aA M (bT (eInt .i64) (l:=x1) M M A9 un37 (svL M))<|cMv (.int _ 0) M<|aD ?_);refine aT<|bR (α:=Nat×Int) (fun z=>⟨[D0,D3 a0,(11,.slice false (x1.map (eInt .i64).d)),(12,.int .i64 (x1.length:Int)),(13,.int .i64 z.2)],X0 a1 a2 a3 a4 a5 a6 a7 a8⟩) (fun z=>iH a0 a6 x1 z.1 z.2=some r) (fun z=>z.1) (fuel,0) (fun i=>i) wkU ?_ ?_
 ·exact h
 ·rintro ⟨n0,v11⟩ h
  cases n0 with
  | zero=>exact Ay h (by unfold iH; exact nofun)
  | succ n0 =>
   unfold iH at h;obtain ⟨x21,k21,h⟩:=bN h;refine aF (cCm M k21<|aD ?_);refine aQ<|aP h M ?_ ?_<;>intro h
   ·refine aR<|aI<|aQ<|aT ?_;obtain ⟨x23,k23,h⟩:=bS h;refine aF (aA M (bL (eInt .i64) (cs:=[.int _ _]) M M A9 un37 ti3 (svL M) (svI M) k23 M M)<|aA M (bG M M A9 un3 ag3 ti3 A7 (svf [.int _ _] M) B5)<|cAI M<|aD ?_);obtain ⟨x24,k24,h⟩:=bS h;obtain ⟨hk25,h⟩:=rO h;obtain ⟨x26,k26,x27,k27,h⟩:=eod h;refine aF (aA M (mvR M M M M)<|cI M<|aA M (aN M M A9 (svR M))<|cFa 5 un86 M ti84 M<|aA M (dS aC.toEnc0 M M A9 un84 ti83 (svR M) hk25 (svI M) k24)<|aA M (cL M M A9 un83 M ti3 A7 (svR M) (k':=0) M)<|aA M (cW aC.toEnc0 (b:=5) (k:=0) (d:=.int _ _) M M A9 un3 ag3 ti3 A7 (svR M) M M k26 B5 M)<|cI M<|cCm M k27<|aD ?_);refine aP h M ?_ ?_<;>intro h
    ·refine aF (cI M<|cAI M<|aD ?_);refine aU<|bU<|aY<|aY<|bU<|aY ?_;obtain rfl:=sj_ h;refine Y4
    ·refine aR<|bI<|aI ?_;obtain ⟨x29,k29,h⟩:=bN h;refine aS (aA M (bD M M A9 (svI M) (svi 1 M) M k29)<|cI M<|bE ?_);refine aI ⟨(n0,x29),(fun i=>i),wkU,?_,?_⟩;exact h;exact Ah _
   ·refine cD<|bC<|bC<|cE<|aI<|aF (cAs (.int _ (-1)) M<|aD ?_);refine aU ?_;obtain rfl:=sj_ h;refine Y4

theorem yU(a0 a1:Int)(a2:List aK)(a3 a4:Int)(a5:List aJ)(a6:Int)(a7:List Int)(r:Int)(h:qI a0 a1 a2 a3 a4 a5 a6 a7=some r):FnH FY 79 [.ref 1000 0] (X0 a0 a1 a2 a3 a4 a5 a6 a7) (.int .i64 r) (X0 a0 a1 a2 a3 a4 a5 a6 a7):=by
 refine dX (rs:=[.int .i64 r]) func79 M ntmps79 B5 fun O hO=>sta ⟨[D0],X0 a0 a1 a2 a3 a4 a5 a6 a7⟩ ?_;unfold qI at h;refine aF (cAs (.int _ 0) M<|aD ?_);refine aQ<|aF (aA M (mvR M M M M)<|aA M (tQ M M A9 un33 (svR M) (sv (d:=.nilp) M))<|aD ?_);refine kF M M<|aR<|aI<|aF (aA M (mvR M M M M)<|aA M (aN M M A9 (svR M))<|cFa 2 un86 M ti80 M<|cFa 4 un80 M ti3 M<|aA M (xZ aC.toEnc0 (d:=.int _ _) M M A9 un3 ag3 ti3 A7 (svR M) M B5 I4)<|cAI M<|aD ?_);refine aU ?_;obtain rfl:=sj_ h;refine Y4

abbrev C2:=fun a b c d e f g i=>([(1000,.blk 86 (mixD aC.toEnc0 (w35 a b c d e) f [.int .i64 g,.osl 0 (eInt .i64).sz (List.length i)])),(0,.blk 3 (Ac ((List.map (eInt .i64).d i))))]:List (Nat×Ent))
theorem Y5(h:p:=by exact .cons (svR M) B9):p:=h
abbrev D4:=fun a=>((.int .i64 a):D)
abbrev F2:=fun a=>((.ref 1000 (5+(((a:Int).toNat)*aC.sz+0))):D)
abbrev Q5:=fun a=>((.ref 1000 (5+(((a:Int).toNat)*aC.sz+3))):D)
theorem D6(h:p:=by kernel_rfl):p:=h
theorem W8(h:p:=by exact lop M M fun S hA=>(aN M M A9 (svaR hA M M))):p:=h
theorem Z0(h:p:=by exact lop M M fun S hA=>(cL M M A9 un83 M ti3 A7 (svaR hA M M) (k':=3) M)):p:=h
theorem l8(h:p:=by exact lop M M fun S hA=>(bH M M A9 (svaR hA M M))):p:=h
theorem H9(h:p:=by exact ⟨.inl M,(fun i=>if i=0 then 1001 else i),wkU,.nil,M⟩):p:=h
theorem pP(a0 a1 a2:Int)(a3:List aK)(a4 a5:Int)(a6:List aJ)(a7:Int)(a8:List Int)(r:Int×Int×(List aK)×Int×Int×(List aJ)×Int×(List Int))(h:jX a0 a1 a2 a3 a4 a5 a6 a7 a8=some r):FnH FY 110 (L6 a0) (X0 a1 a2 a3 a4 a5 a6 a7 a8) (retD []) (C2 r.1 r.2.1 r.2.2.1 r.2.2.2.1 r.2.2.2.2.1 r.2.2.2.2.2.1 r.2.2.2.2.2.2.1 r.2.2.2.2.2.2.2):=by
 refine dX (rs:=[]) func110 M ntmps110 B5 fun O hO=>sta ⟨[D0,D3 a0],X0 a1 a2 a3 a4 a5 a6 a7 a8⟩ ?_;unfold jX at h;obtain ⟨x1,k1,h⟩:=bS h;obtain ⟨hk2,h⟩:=rO h;obtain ⟨x3,k3,h⟩:=bS h;refine aF (aA M (mvR M M M M)<|aA M (mvR M M M M)<|cI M<|aA M (aN M M A9 (svR M))<|cFa 5 un86 M ti84 M<|aA M (dS aC.toEnc0 M M A9 un84 ti83 (svR M) hk2 (svI M) k1)<|aA M (cL M M A9 un83 M ti3 A7 (svR M) (k':=1) M)<|aA M (cW aC.toEnc0 (b:=5) (k:=1) (d:=.int _ _) M M A9 un3 ag3 ti3 A7 (svR M) M M k3 B5 M) <|?_);refine iS (S':=⟨[D0,D3 a0,(5,.ref 1000 0),(12,.int .i64 x3.up)],X0 a1 a2 a3 a4 a5 a6 a7 a8⟩) (fun i=>i) wkU<|mY 1 0 M M M A7 aGI func115 M Y5 ntmps115 B5 M hO.semiL fun O1 hO1=>sta ⟨[D0,(1,.int .i64 x3.up)],[(0,.kept 1 (kp_ 36 [D0,D3 a0,(5,.ref 1000 0),(12,.int .i64 x3.up)])),A0 a1 a2 a3 a4 a5 a6 a7 a8.length,A5 a8]⟩ ?_
 refine aF (cAs (.nilp) M<|aD ?_);refine aQ ?_;obtain ⟨x4,k4,h⟩:=bN h;refine aF (cI M<|cCm (b:=(-1)) M k4<|aD ?_);refine aP h M ?_ ?_<;>intro h
 ·refine aF (aA M (mvR M M M M)<|aA M (aN M M A9 (svR M))<|cFa 389 un86 M ti3 M<|aA M (bH M M A9 (svR M))<|aD ?_);refine aU<|aY ?_;refine ⟨.inr M,0,_,[.ref 1000 389],B0,M,M,⟨[D0,D3 a0,(13,.ref 1000 389)],X0 a1 a2 a3 a4 a5 a6 a7 a8⟩,(fun i=>i),wkU,?_⟩;refine aA M (bH M M A9 (svR M))<|aD ?_;refine aQ<|aT<|aBb (aFI ?_);refine aQ ?_;obtain ⟨x6,k6,h⟩:=bN h;refine aF (aA M (mvR M M M M)<|aA M (aN M M A9 (svR M))<|aA M (kR aC.toEnc0 (d:=.int _ _) (n:=64) (k:=0) M M A9 un3 ag3 ti3 A7 (svR M) M hk2 I4 B5 I4)<|cI M<|cCm M k6<|aD ?_);refine aP h M ?_ ?_<;>intro h
  ·refine aR<|aI<|aT ?_;obtain ⟨x8,k8,h⟩:=bS h;refine jL M [nd1 [0] 19 (.ref 1000 0),nd1 [4] 20 (.ref 1000 389),nd1 [20] 21 (.ref 1000 389),nd2 [21] [1000] 22 (D4 a7),nd1 [19] 23 (.ref 1000 0),nd1 [23] 24 (.ref 1000 5),nd1 [22,24] 25 (F2 a7),nd1 [25] 26 (Q5 a7),nd1 [26] 4 (Q5 a7)] M ?_ D6 ?_
   ·refine .cons (dMv M)<|.cons (dMv M)<|.cons W8<|.cons (lop M M fun S hA=>(kR aC.toEnc0 (d:=.int _ _) (n:=64) (k:=0) M M A9 un3 ag3 ti3 A7 (svaR hA M M) (agi hA M M) hk2 I4 B5 I4))<|.cons W8<|.cons (dFa 5 un86 M ti84 M)<|.cons (lop M M fun S hA=>(dS aC.toEnc0 M M A9 un84 ti83 (svaR hA M M) hk2 (svaI hA M M) k8))<|.cons Z0<|.cons l8 ?_
    exact .nil
   refine bI<|aI<|aFJ (α:=Nat×Nat) (fun z=>⟨[D0,D3 a0,(4,.ref 1000 (5+(z.2*aC.sz+3)))],X0 a1 a2 a3 a4 a5 a6 a7 a8⟩) (fun z=>fY a0 a1 a2 a3 a4 a5 a6 a7 a8 z.1 z.2=some r) (fun z=>z.1) (fuel,(a7:Int).toNat) (fun i=>i) wkU ?_ ?_
   ·exact h
   ·rintro ⟨n0,v14⟩ h
    cases n0 with
    | zero=>exact Ay h (by unfold fY; exact nofun)
    | succ n0 =>
     unfold fY at h;refine aQ ?_;obtain ⟨x20,k20,x21,k21,h⟩:=eod h;refine aF (aA M (mvR M M M M)<|aA M (aN M M A9 (svR M))<|aA M (cW aC.toEnc0 (b:=5) (k:=3) (d:=.int _ _) M M A9 un3 ag3 ti3 A7 (svR M) M M k20 B5 M)<|cI M<|cCm M k21<|aD ?_);refine aP h M ?_ ?_<;>intro h
     ·refine aR<|aI<|aT ?_;obtain ⟨x23,k23,x24,k24,h⟩:=eoo h;refine jL M [nd1 [0] 19 (.ref 1000 0),nd1 [4] 20 (.ref 1000 (5+(v14*aC.sz+3))),nd1 [20] 21 (.ref 1000 (5+(v14*aC.sz+3))),nd2 [21] [1000] 22 (.int .i64 x23.next),nd1 [19] 23 (.ref 1000 0),nd1 [23] 24 (.ref 1000 5),nd1 [22,24] 25 (.ref 1000 (5+(((x23.next:Int).toNat)*aC.sz+0))),nd1 [25] 26 (.ref 1000 (5+(((x23.next:Int).toNat)*aC.sz+3))),nd1 [26] 4 (.ref 1000 (5+(((x23.next:Int).toNat)*aC.sz+3)))] M ?_ D6 ?_
      ·refine .cons (dMv M)<|.cons (dMv M)<|.cons W8<|.cons (lop M M fun S hA=>(cW aC.toEnc0 (b:=5) (k:=3) (d:=.int _ _) M M A9 un3 ag3 ti3 A7 (svaR hA M M) (agi hA M M) M k23 B5 M))<|.cons W8<|.cons (dFa 5 un86 M ti84 M)<|.cons (lop M M fun S hA=>(dS aC.toEnc0 M M A9 un84 ti83 (svaR hA M M) hk2 (svaI hA M M) k24))<|.cons Z0<|.cons l8 ?_
       exact .nil
      refine bI<|aI ⟨(n0,(x23.next:Int).toNat),(fun i=>i),wkU,?_,?_⟩;exact h;exact Ah _
     ·refine cD<|bC<|bC<|cE<|aI ?_;obtain ⟨x25,k25,x26,k26,x27,k27,h⟩:=eooo h;obtain ⟨x28,k28,h⟩:=bN h;refine aS (aA M (mvR M M M M)<|aA M (mvR M M M M)<|cI M<|aA M (aN M M A9 (svR M))<|cFa 5 un86 M ti84 M<|aA M (dS aC.toEnc0 M M A9 un84 ti83 (svR M) hk2 (svI M) k25)<|aA M (cL M M A9 un83 M ti3 A7 (svR M) (k':=3) M)<|aA M (cW aC.toEnc0 (b:=5) (k:=3) (d:=.int _ _) M M A9 un3 ag3 ti3 A7 (svR M) M M k26 B5 M)<|aA M (aN M M A9 (svR M))<|aA M (mO aC.toEnc0 (b:=5) (k:=3) (a':=(⟨x27.id,x27.up,x27.first,x26.next,x27.weight,x27.closed⟩:aJ)) M M ti3 (svR M) M (svI M) M M M M k27 B5 M k28)<|bE ?_);obtain rfl:=sj_ h;refine H9
  ·refine cD<|bC<|bC<|cE<|aI ?_;obtain ⟨x29,k29,x30,k30,h⟩:=eoo h;refine aS (aA M (mvR M M M M)<|aA M (mvR M M M M)<|cI M<|aA M (aN M M A9 (svR M))<|cFa 5 un86 M ti84 M<|aA M (dS aC.toEnc0 M M A9 un84 ti83 (svR M) hk2 (svI M) k29)<|aA M (cL M M A9 un83 M ti3 A7 (svR M) (k':=3) M)<|aA M (cW aC.toEnc0 (b:=5) (k:=3) (d:=.int _ _) M M A9 un3 ag3 ti3 A7 (svR M) M M k30 B5 M)<|aA M (aN M M A9 (svR M))<|aA M (uT aC.toEnc0 (post:=q23) (post':=q23) (n:=64) (k:=0) M M ti3 (svR M) M (svI M) M M M hk2 I4 B5 I4)<|bE ?_);obtain rfl:=sj_ h;refine H9
 ·refine aR<|aI ?_;obtain ⟨x31,k31,h⟩:=bS h;refine aF (aA M (mvR M M M M)<|cI M<|aA M (aN M M A9 (svR M))<|cFa 5 un86 M ti84 M<|aA M (dS aC.toEnc0 M M A9 un84 ti83 (svR M) hk2 (svI M) k31)<|aA M (cL M M A9 un83 M ti3 A7 (svR M) (k':=2) M)<|aA M (bH M M A9 (svR M))<|aD ?_);refine aU ?_;refine ⟨.inr M,0,_,[.ref 1000 (5+(((x3.up:Int).toNat)*aC.sz+2))],B0,M,M,⟨[D0,D3 a0,(13,.ref 1000 (5+(((x3.up:Int).toNat)*aC.sz+2)))],X0 a1 a2 a3 a4 a5 a6 a7 a8⟩,(fun i=>i),wkU,?_⟩;refine aA M (bH M M A9 (svR M))<|aD ?_;refine aQ<|aT<|aBb (aFI ?_);refine aQ ?_;obtain ⟨x32,k32,x33,k33,h⟩:=eod h;refine aF (aA M (mvR M M M M)<|aA M (aN M M A9 (svR M))<|aA M (cW aC.toEnc0 (b:=5) (k:=2) (d:=.int _ _) M M A9 un3 ag3 ti3 A7 (svR M) M M k32 B5 M)<|cI M<|cCm M k33<|aD ?_);refine aP h M ?_ ?_<;>intro h
  ·refine aR<|aI<|aT ?_;obtain ⟨x35,k35,x36,k36,h⟩:=eoo h;refine jL M [nd1 [0] 19 (.ref 1000 0),nd1 [4] 20 (.ref 1000 (5+(((x3.up:Int).toNat)*aC.sz+2))),nd1 [20] 21 (.ref 1000 (5+(((x3.up:Int).toNat)*aC.sz+2))),nd2 [21] [1000] 22 (.int .i64 x35.first),nd1 [19] 23 (.ref 1000 0),nd1 [23] 24 (.ref 1000 5),nd1 [22,24] 25 (.ref 1000 (5+(((x35.first:Int).toNat)*aC.sz+0))),nd1 [25] 26 (.ref 1000 (5+(((x35.first:Int).toNat)*aC.sz+3))),nd1 [26] 4 (.ref 1000 (5+(((x35.first:Int).toNat)*aC.sz+3)))] M ?_ D6 ?_
   ·refine .cons (dMv M)<|.cons (dMv M)<|.cons W8<|.cons (lop M M fun S hA=>(cW aC.toEnc0 (b:=5) (k:=2) (d:=.int _ _) M M A9 un3 ag3 ti3 A7 (svaR hA M M) (agi hA M M) M k35 B5 M))<|.cons W8<|.cons (dFa 5 un86 M ti84 M)<|.cons (lop M M fun S hA=>(dS aC.toEnc0 M M A9 un84 ti83 (svaR hA M M) hk2 (svaI hA M M) k36))<|.cons Z0<|.cons l8 ?_
    exact .nil
   refine bI<|aI<|aFJ (α:=Nat×Nat) (fun z=>⟨[D0,D3 a0,(4,.ref 1000 (5+(z.2*aC.sz+3)))],X0 a1 a2 a3 a4 a5 a6 a7 a8⟩) (fun z=>fX a0 a1 a2 a3 a4 a5 a6 a7 a8 z.1 z.2=some r) (fun z=>z.1) (fuel,(x35.first:Int).toNat) (fun i=>i) wkU ?_ ?_
   ·exact h
   ·rintro ⟨n1,v42⟩ h
    cases n1 with
    | zero=>exact Ay h (by unfold fX; exact nofun)
    | succ n1 =>
     unfold fX at h;refine aQ ?_;obtain ⟨x48,k48,x49,k49,h⟩:=eod h;refine aF (aA M (mvR M M M M)<|aA M (aN M M A9 (svR M))<|aA M (cW aC.toEnc0 (b:=5) (k:=3) (d:=.int _ _) M M A9 un3 ag3 ti3 A7 (svR M) M M k48 B5 M)<|cI M<|cCm M k49<|aD ?_);refine aP h M ?_ ?_<;>intro h
     ·refine aR<|aI<|aT ?_;obtain ⟨x51,k51,x52,k52,h⟩:=eoo h;refine jL M [nd1 [0] 19 (.ref 1000 0),nd1 [4] 20 (.ref 1000 (5+(v42*aC.sz+3))),nd1 [20] 21 (.ref 1000 (5+(v42*aC.sz+3))),nd2 [21] [1000] 22 (.int .i64 x51.next),nd1 [19] 23 (.ref 1000 0),nd1 [23] 24 (.ref 1000 5),nd1 [22,24] 25 (.ref 1000 (5+(((x51.next:Int).toNat)*aC.sz+0))),nd1 [25] 26 (.ref 1000 (5+(((x51.next:Int).toNat)*aC.sz+3))),nd1 [26] 4 (.ref 1000 (5+(((x51.next:Int).toNat)*aC.sz+3)))] M ?_ D6 ?_
      ·refine .cons (dMv M)<|.cons (dMv M)<|.cons W8<|.cons (lop M M fun S hA=>(cW aC.toEnc0 (b:=5) (k:=3) (d:=.int _ _) M M A9 un3 ag3 ti3 A7 (svaR hA M M) (agi hA M M) M k51 B5 M))<|.cons W8<|.cons (dFa 5 un86 M ti84 M)<|.cons (lop M M fun S hA=>(dS aC.toEnc0 M M A9 un84 ti83 (svaR hA M M) hk2 (svaI hA M M) k52))<|.cons Z0<|.cons l8 ?_
       exact .nil
      refine bI<|aI ⟨(n1,(x51.next:Int).toNat),(fun i=>i),wkU,?_,?_⟩;exact h;exact Ah _
     ·refine cD<|bC<|bC<|cE<|aI ?_;obtain ⟨x53,k53,x54,k54,x55,k55,h⟩:=eooo h;obtain ⟨x56,k56,h⟩:=bN h;refine aS (aA M (mvR M M M M)<|aA M (mvR M M M M)<|cI M<|aA M (aN M M A9 (svR M))<|cFa 5 un86 M ti84 M<|aA M (dS aC.toEnc0 M M A9 un84 ti83 (svR M) hk2 (svI M) k53)<|aA M (cL M M A9 un83 M ti3 A7 (svR M) (k':=3) M)<|aA M (cW aC.toEnc0 (b:=5) (k:=3) (d:=.int _ _) M M A9 un3 ag3 ti3 A7 (svR M) M M k54 B5 M)<|aA M (aN M M A9 (svR M))<|aA M (mO aC.toEnc0 (b:=5) (k:=3) (a':=(⟨x55.id,x55.up,x55.first,x54.next,x55.weight,x55.closed⟩:aJ)) M M ti3 (svR M) M (svI M) M M M M k55 B5 M k56)<|bE ?_);obtain rfl:=sj_ h;refine H9
  ·refine cD<|bC<|bC<|cE<|aI ?_;obtain ⟨x57,k57,x58,k58,x59,k59,h⟩:=eooo h;obtain ⟨x60,k60,h⟩:=bN h;refine aS (aA M (mvR M M M M)<|aA M (mvR M M M M)<|cI M<|aA M (aN M M A9 (svR M))<|cFa 5 un86 M ti84 M<|aA M (dS aC.toEnc0 M M A9 un84 ti83 (svR M) hk2 (svI M) k57)<|aA M (cL M M A9 un83 M ti3 A7 (svR M) (k':=3) M)<|aA M (cW aC.toEnc0 (b:=5) (k:=3) (d:=.int _ _) M M A9 un3 ag3 ti3 A7 (svR M) M M k58 B5 M)<|aA M (aN M M A9 (svR M))<|aA M (mO aC.toEnc0 (b:=5) (k:=2) (a':=(⟨x59.id,x59.up,x58.next,x59.next,x59.weight,x59.closed⟩:aJ)) M M ti3 (svR M) M (svI M) M M M M k59 B5 M k60)<|bE ?_);obtain rfl:=sj_ h;refine H9

abbrev Q6:=fun a=>((.ref 1000 (5+(((a:Int).toNat)*aC.sz+1))):D)
theorem d9(h:p:=by exact lop M M fun S hA=>(cL M M A9 un83 M ti3 A7 (svaR hA M M) (k':=1) M)):p:=h
abbrev M1:=fun a=>([.ref 1000 (5+(((a:Int).toNat)*aC.sz+2))]:List D)
theorem tM(a0 a1 a2 a3:Int)(a4:List aK)(a5 a6:Int)(a7:List aJ)(a8:Int)(a9:List Int)(r:Int×Int×(List aK)×Int×Int×(List aJ)×Int×(List Int))(h:jJ a0 a1 a2 a3 a4 a5 a6 a7 a8 a9=some r):FnH FY 82 [.ref 1000 0,.int .i64 a0,.int .i64 a1] (X0 a2 a3 a4 a5 a6 a7 a8 a9) (retD []) (C2 r.1 r.2.1 r.2.2.1 r.2.2.2.1 r.2.2.2.2.1 r.2.2.2.2.2.1 r.2.2.2.2.2.2.1 r.2.2.2.2.2.2.2):=by
 refine dX (rs:=[]) func82 M ntmps82 B5 fun O hO=>sta ⟨[D0,D3 a0,H7 a1],X0 a2 a3 a4 a5 a6 a7 a8 a9⟩ ?_;unfold jJ at h;refine aF (aA M (mvR M M M M)<|cI M <|?_);refine iS (S':=⟨[D0,D3 a0,H7 a1,(7,.ref 1000 0),L7 a1],X0 a2 a3 a4 a5 a6 a7 a8 a9⟩) (fun i=>i) wkU<|mY 1 0 M M M A7 aGI func115 M Y5 ntmps115 B5 M hO.semiL fun O1 hO1=>sta ⟨[D0,D3 a1],[(0,.kept 1 (kp_ 29 [D0,D3 a0,H7 a1,(7,.ref 1000 0),L7 a1])),A0 a2 a3 a4 a5 a6 a7 a8 a9.length,A5 a9]⟩ ?_
 refine aF (cAs (.nilp) M<|aD ?_);refine aQ ?_;obtain ⟨x1,k1,h⟩:=bN h;refine aF (cI M<|cCm (b:=(-1)) M k1<|aD ?_);refine aP h M ?_ ?_<;>intro h
 ·refine aF (aA M (mvR M M M M)<|aA M (aN M M A9 (svR M))<|cFa 389 un86 M ti3 M<|aA M (bH M M A9 (svR M))<|aD ?_);refine aU<|aY ?_;refine ⟨.inr M,0,_,[.ref 1000 389],B0,M,M,⟨[D0,D3 a0,H7 a1,(9,.ref 1000 389)],X0 a2 a3 a4 a5 a6 a7 a8 a9⟩,(fun i=>i),wkU,?_⟩;refine aA M (bH M M A9 (svR M))<|aD ?_;obtain ⟨hk3,h⟩:=rO h;obtain ⟨x4,k4,x5,k5,x6,k6,h⟩:=eood h;obtain ⟨x7,k7,x8,k8,x9,k9,h⟩:=eood h;refine jN M [nd1 [0] 10 (.ref 1000 0),nd1 [1] 11 (D4 a0),nd1 [0] 12 (.ref 1000 0),nd1 [1] 13 (D4 a0),nd1 [2] 14 (D4 a1),nd1 [6] 15 (.ref 1000 389),nd1 [15] 16 (.ref 1000 389),nd2 [16] [1000] 17 (D4 a8),nd1 [10] 18 (.ref 1000 0),nd1 [18] 19 (.ref 1000 5),nd1 [11,19] 20 (F2 a0),nd1 [20] 21 (Q6 a0),⟨[14,21],[1000],[],[A0 a2 a3 a4 a5 a6 x6 a8 a9.length]⟩,nd1 [12] 22 (.ref 1000 0),nd1 [22] 23 (.ref 1000 5),nd1 [13,23] 24 (F2 a0),nd1 [24] 25 (Q5 a0),⟨[17,25],[1000],[],[A0 a2 a3 a4 a5 a6 x9 a8 a9.length]⟩] M ?_ D6 ?_
  ·refine .cons (dMv M)<|.cons (dMv M)<|.cons (dMv M)<|.cons (dMv M)<|.cons (dMv M)<|.cons (dMv M)<|.cons W8<|.cons (lop M M fun S hA=>(kR aC.toEnc0 (d:=.int _ _) (n:=64) (k:=0) M M A9 un3 ag3 ti3 A7 (svaR hA M M) (agi hA M M) hk3 I4 B5 I4))<|.cons W8<|.cons (dFa 5 un86 M ti84 M)<|.cons (lop M M fun S hA=>(dS aC.toEnc0 M M A9 un84 ti83 (svaR hA M M) hk3 (svaI hA M M) k4))<|.cons d9<|.cons (lop M M fun S hA=>(mO aC.toEnc0 (b:=5) (k:=1) (a':=(⟨x5.id,a1,x5.first,x5.next,x5.weight,x5.closed⟩:aJ)) M M ti3 (svaR hA M M) (agi hA M M) (svaI hA M M) M M M M k5 B5 M k6))<|.cons W8<|.cons (dFa 5 un86 M ti84 M)<|.cons (lop M M fun S hA=>(dS aC.toEnc0 M M A9 un84 ti83 (svaR hA M M) (lQ k6 hk3) (svaI hA M M) k7))<|.cons Z0<|.cons (lop M M fun S hA=>(mO aC.toEnc0 (b:=5) (k:=3) (a':=(⟨x8.id,x8.up,x8.first,a8,x8.weight,x8.closed⟩:aJ)) M M ti3 (svaR hA M M) (agi hA M M) (svaI hA M M) M M M M k8 B5 M k9)) ?_
   exact .nil
  refine aS (aA M (mvR M M M M)<|cI M<|aA M (aN M M A9 (svR M))<|aA M (uT aC.toEnc0 (post:=q23) (post':=q23) (n:=64) (k:=0) M M ti3 (svR M) M (svI M) M M M (lQ k9 (lQ k6 hk3)) I4 B5 I4)<|bE ?_);obtain rfl:=sj_ h;refine H9
 ·refine aR<|aI ?_;obtain ⟨x10,k10,h⟩:=bS h;obtain ⟨hk11,h⟩:=rO h;refine aF (aA M (mvR M M M M)<|cI M<|aA M (aN M M A9 (svR M))<|cFa 5 un86 M ti84 M<|aA M (dS aC.toEnc0 M M A9 un84 ti83 (svR M) hk11 (svI M) k10)<|aA M (cL M M A9 un83 M ti3 A7 (svR M) (k':=2) M)<|aA M (bH M M A9 (svR M))<|aD ?_);refine aU ?_;refine ⟨.inr M,0,_,M1 a1,B0,M,M,⟨[D0,D3 a0,H7 a1,(9,.ref 1000 (5+(((a1:Int).toNat)*aC.sz+2)))],X0 a2 a3 a4 a5 a6 a7 a8 a9⟩,(fun i=>i),wkU,?_⟩;refine aA M (bH M M A9 (svR M))<|aD ?_;obtain ⟨x12,k12,x13,k13,x14,k14,h⟩:=eooo h;obtain ⟨x15,k15,x16,k16,x17,k17,h⟩:=edoo h;obtain ⟨x18,k18,h⟩:=bN h;refine jN M [nd1 [0] 10 (.ref 1000 0),nd1 [1] 11 (D4 a0),nd1 [0] 12 (.ref 1000 0),nd1 [1] 13 (D4 a0),nd1 [2] 14 (D4 a1),nd1 [6] 15 (.ref 1000 (5+(((a1:Int).toNat)*aC.sz+2))),nd1 [15] 16 (.ref 1000 (5+(((a1:Int).toNat)*aC.sz+2))),nd2 [16] [1000] 17 (.int .i64 x12.first),nd1 [10] 18 (.ref 1000 0),nd1 [18] 19 (.ref 1000 5),nd1 [11,19] 20 (F2 a0),nd1 [20] 21 (Q6 a0),⟨[14,21],[1000],[],[A0 a2 a3 a4 a5 a6 x15 a8 a9.length]⟩,nd1 [12] 22 (.ref 1000 0),nd1 [22] 23 (.ref 1000 5),nd1 [13,23] 24 (F2 a0),nd1 [24] 25 (Q5 a0),⟨[17,25],[1000],[],[A0 a2 a3 a4 a5 a6 x18 a8 a9.length]⟩] M ?_ D6 ?_
  ·refine .cons (dMv M)<|.cons (dMv M)<|.cons (dMv M)<|.cons (dMv M)<|.cons (dMv M)<|.cons (dMv M)<|.cons W8<|.cons (lop M M fun S hA=>(cW aC.toEnc0 (b:=5) (k:=2) (d:=.int _ _) M M A9 un3 ag3 ti3 A7 (svaR hA M M) (agi hA M M) M k12 B5 M))<|.cons W8<|.cons (dFa 5 un86 M ti84 M)<|.cons (lop M M fun S hA=>(dS aC.toEnc0 M M A9 un84 ti83 (svaR hA M M) hk11 (svaI hA M M) k13))<|.cons d9<|.cons (lop M M fun S hA=>(mO aC.toEnc0 (b:=5) (k:=1) (a':=(⟨x14.id,a1,x14.first,x14.next,x14.weight,x14.closed⟩:aJ)) M M ti3 (svaR hA M M) (agi hA M M) (svaI hA M M) M M M M k14 B5 M k15))<|.cons W8<|.cons (dFa 5 un86 M ti84 M)<|.cons (lop M M fun S hA=>(dS aC.toEnc0 M M A9 un84 ti83 (svaR hA M M) (lQ k15 hk11) (svaI hA M M) k16))<|.cons Z0<|.cons (lop M M fun S hA=>(mO aC.toEnc0 (b:=5) (k:=3) (a':=(⟨x17.id,x17.up,x17.first,x12.first,x17.weight,x17.closed⟩:aJ)) M M ti3 (svaR hA M M) (agi hA M M) (svaI hA M M) M M M M k17 B5 M k18)) ?_
   exact .nil
  obtain ⟨x19,k19,x20,k20,h⟩:=eod h;refine aS (aA M (mvR M M M M)<|cI M<|aA M (aN M M A9 (svR M))<|aA M (mO aC.toEnc0 (b:=5) (k:=2) (a':=(⟨x19.id,x19.up,a0,x19.next,x19.weight,x19.closed⟩:aJ)) M M ti3 (svR M) M (svI M) M M M M k19 B5 M k20)<|bE ?_);obtain rfl:=sj_ h;refine H9

theorem A8(h:p:=by exact ⟨⟨M,M,(kS aC M M M),(cR aC M M)⟩,Aa.2 ⟨⟨M,M,(jP (eInt .i64) M),(cC (eInt .i64))⟩,Ab _⟩⟩):p:=h
theorem X6(h:p:=by exact ⟨M,M,by decide,M,Aa.2 A8⟩):p:=h
theorem B1(h:p:=by exact Aa.2 ⟨⟨M,(cR aC M M)⟩,Aa.2 ⟨⟨M,(cC (eInt .i64))⟩,Ab _⟩⟩):p:=h
theorem B7(h:p:=by simp only [Ai,Aq,Bh,bX,cO,dD]; rfl):p:=h
abbrev C6:=fun a b c d e f g i=>([(1000,.blk 86 (mixD aC.toEnc0 (w35 a b c d e) f [.int .i64 g,.osl 1 (eInt .i64).sz (List.length i)])),(1,.blk 3 (Ac ((List.map (eInt .i64).d i))))]:List (Nat×Ent))
theorem j4(h:p:=by exact .cons (svI M) B9):p:=h
theorem lF(a0 a1 a2 a3:Int)(a4:List aK)(a5 a6:Int)(a7:List aJ)(a8:Int)(a9:List Int)(r:Int×Int×(List aK)×Int×Int×(List aJ)×Int×(List Int))(h:fP a0 a1 a2 a3 a4 a5 a6 a7 a8 a9=some r):FnH FY 109 [.ref 1000 0,.int .i64 a0,.int .i64 a1] (X0 a2 a3 a4 a5 a6 a7 a8 a9) (retD []) (C2 r.1 r.2.1 r.2.2.1 r.2.2.2.1 r.2.2.2.2.1 r.2.2.2.2.2.1 r.2.2.2.2.2.2.1 r.2.2.2.2.2.2.2):=by
 refine dX (rs:=[]) func109 M ntmps109 B5 fun O hO=>sta ⟨[D0,D3 a0,H7 a1],X0 a2 a3 a4 a5 a6 a7 a8 a9⟩ ?_;unfold fP at h;obtain ⟨x1,k1,h⟩:=bS h;refine aF (aA M (mvR M M M M)<|cI M<|aA M (dQ (r':=.tuple []) (H1':=C2 x1.1 x1.2.1 x1.2.2.1 x1.2.2.2.1 x1.2.2.2.2.1 x1.2.2.2.2.2.1 x1.2.2.2.2.2.2.1 x1.2.2.2.2.2.2.2) 0 [1000,1001] M M A9 cl110 Y5 M M X6 (pP _ _ _ _ _ _ _ _ _ _ k1) M M B1 B7)<|aD ?_);obtain ⟨x2,k2,h⟩:=bS h;refine aS (aA M (mvR M M M M)<|cI M<|cI M<|aA M (dQ (r':=.tuple []) (H1':=C6 x2.1 x2.2.1 x2.2.2.1 x2.2.2.2.1 x2.2.2.2.2.1 x2.2.2.2.2.2.1 x2.2.2.2.2.2.2.1 x2.2.2.2.2.2.2.2) 1 [1000,0] M M A9 cl82 (.cons (svR M) j4) M M X6 (tM _ _ _ _ _ _ _ _ _ _ _ k2) M M B1 B7)<|bE ?_);obtain rfl:=sj_ h;refine ⟨.inl M,(fun i=>if i=0 then 1 else i),wkU,.nil,M⟩

theorem N7(h:p:=by exact ⟨.inr M,(fun i=>if i=0 then 50 else i),wkU,(.cons (svno M) .nil),M⟩):p:=h
theorem X9(h:p:=by exact ⟨.inr M,(fun i=>if i=0 then 1 else i),wkU,B0,M⟩):p:=h
theorem pV(a0 r:List aK)(h:fB a0=some r):FnH FY 143 [.slice false (a0.map aX.d)] [] (.osl 0 aX.sz r.length) [(0,.blk 161 (Ac (r.map aX.d)))]:=by
 refine dX (rs:=[.osl 0 aX.sz r.length]) func143 M ntmps143 B5 fun O hO=>sta ⟨[M8 a0],[]⟩ ?_;unfold fB at h;refine aF (cAs (.nils) M<|aD ?_);refine aQ<|aF (aA M (mvL M M M M)<|aBm M M M A7 un78 (svL M) M<|fun bn1 hbn1 =>
  aD ?_)
 refine mX (b:=_) M (fun hc2=>?_) (fun hc2=>?_)
 ·replace h:=aEk h (mapE (hbn1 hc2));refine aF (cAs (.nils) M<|aD ?_);refine aU<|aY ?_;obtain rfl:=sj_ h;refine N7
 ·replace h:=aEl h;refine aR<|aI ?_;obtain ⟨x3,k3,h⟩:=bS h;refine aF (aA M (oT aX.toEnc0 ([]:(List aK)) 0 M M A9 un78 qY M .nil M M A7)<|aA M (mvL M M M M)<|aA M (lK aX.toEnc0 1 M M A9 un78 qY M M M M M (aAg aX (ys:=a0) (svL M)) k3)<|cAs (.osl _ _ _) M<|aD ?_);refine aU ?_;obtain rfl:=sj_ h;refine X9

theorem I1(h:p:=by exact .cons (svL M) .nil):p:=h
theorem Q4(h:p:=by exact ⟨M,M,by decide,M,Ab _⟩):p:=h
theorem F8(h:p:=by simp only [Ai,Aq,Bh,bX,cO]; rfl):p:=h
theorem tO(a0:bQ)(r:(List aK)×Int×Int)(h:mP a0=some r):FnH FY 114 [.agg (tv2 a0)] [] (.agg [.osl 0 aX.sz r.1.length,.int .i64 r.2.1,.int .i64 r.2.2]) [(0,.blk 161 (Ac (r.1.map aX.d)))]:=by
 refine dX (rs:=[.agg [.osl 0 aX.sz r.1.length,.int .i64 r.2.1,.int .i64 r.2.2]]) func114 M ntmps114 B5 fun O hO=>sta ⟨[U5 a0],[]⟩ ?_;unfold mP at h;refine aF (cBx (cs:=q16) q16 0 M<|aA M (cF (cs:=q22) (cs':=G4) 1 M M A9 M ti80 M M L4)<|aD ?_);obtain ⟨x1,k1,h⟩:=bS h;refine aF (cFa 0 un80 M ti78 M<|aA M (lrL la78 M M M M M B5 M)<|aA M (dQ (r':=.osl 2 aX.sz x1.length) (H1':=[(2,.blk 161 (Ac (x1.map aX.d)))]) 2 [] M M A9 cl143 I1 M M Q4 (pV _ _ k1) M M (Aa.2 ⟨⟨M,(cC aX)⟩,Ab _⟩) F8)<|cFa 0 un80 M ti78 M<|aA M (dA (ds':=q17) M M ti78 (svR M) M (svo M) M M M B5 M)<|aD ?_);refine aF (cLr q17 la80 M<|cSt q17 q17 ti80 M<|aD ?_);refine aU ?_;obtain rfl:=sj_ h;refine ⟨.inr M,(fun i=>if i=0 then 2 else i),wkU,(.cons (rva la80 M M B5 M) .nil),M⟩

theorem yV(a0:bQ)(a1:Int)(r:Bool)(h:pD a0 a1=some r):dH FY 141 (L0 a0 a1) (.bool r):=by
 refine bK (rs:=[.bool r]) func141 M ntmps141 B5 M fun O hO=>sta ⟨[U5 a0,D3 a1],[]⟩ ?_;unfold pD at h;refine aF (cBx (cs:=q16) q16 0 M<|cAs (.bool false) M<|aD ?_);obtain ⟨x1,k1,x2,k2,x3,k3,h⟩:=eddd h;obtain ⟨x4,k4,x5,k5,h⟩:=eod h;refine aF (cI M<|cCm (b:=0) M k1<|cB M<|gG M E8<|gG M U4<|gG M M6<|gG M p9<|gG M V6<|cAn M k3<|cB M<|gG M U4<|gG M M6<|gG M E8<|gG M (fun hb=>(bL aX (cs:=q20) M M A9 un78 qY (svcL M hb) (svcI M hb) (gd_t k4 hb) M M))<|gG M (fun hb=>(aZ (cs':=[.bool _]) M M A9 vS M ti4 A7 (svc (d:=.fptr q20) M hb) M))<|gG M (fun hb=>(bG M M A9 un4 ag4 ti4 A7 (svc (d:=.fptr [.bool _]) M hb) B5))<|cAn M k5<|cAB M<|aD ?_);refine aU ?_;obtain rfl:=sj_ h;refine ⟨.inr M,B0⟩

theorem J5(h:p:=by exact .cons (.agg (.cons (FDT aX M M) (.all _))) (.all _)):p:=h
theorem aAY(a0:bQ)(a1:Int)(r:bQ×Int)(h:rY a0 a1=some r):dH FY 111 (L0 a0 a1) (retD (L0 r.1 r.2)):=by
 refine nM (rs:=L0 r.1 r.2) func111 M ntmps111 B5 M fun O hO=>sta ⟨[U5 a0,D3 a1],[]⟩ ?_;unfold rY at h;refine aF (cBx (cs:=q16) q16 0 M<|aA M (cF (cs:=q22) (cs':=G4) 1 M M A9 M ti80 M M L4)<|cAs (.int _ 0) M<|aD ?_);obtain ⟨x1,k1,h⟩:=bS h;refine aF (cLr q16 la80 M<|aA M (dQ (r':=.agg [.osl 2 aX.sz x1.1.length,.int .i64 x1.2.1,.int .i64 x1.2.2]) (H1':=[(2,.blk 161 (Ac (x1.1.map aX.d)))]) 2 [] M M A9 cl114 K8 M M Q4 (tO _ _ k1) M M (Aa.2 ⟨⟨M,(cC aX)⟩,Ab _⟩) F8)<|aA M (cF (cs:=q22) (cs':=G4) 3 M M A9 M ti80 M M L4)<|cSt q17 q17 ti80 M<|aD ?_);refine aQ ?_;obtain ⟨x2,k2,h⟩:=bS h;refine aF (cLr q16 la80 M<|aA M (bA (r:=.int _ _) M M A9 cl106 K8 M (vC _ _ k2))<|cAI M<|aD ?_);obtain ⟨x3,k3,h⟩:=bN h;refine aF (cI M<|cCm (b:=0) M k3<|aD ?_);refine aP h M ?_ ?_<;>intro h
 ·refine aF (cLr q17 la80 M<|cI M<|cSt q17 q17 ti80 M<|cAI M<|aD ?_);refine aU<|aY ?_;obtain rfl:=sj_ h;refine ⟨.inr M,_,(.cons (rva la80 M M B5 M) B0),J5⟩
 ·refine aR<|aI<|aQ ?_;obtain ⟨x5,k5,h⟩:=bS h;refine aF (cLr q16 la80 M<|cI M<|aA M (bA (r:=.bool _) M M A9 cl141 (.cons (svA q16 M) B9) M (yV _ _ _ k5))<|aA M (eP M M A9 (svB M))<|aD ?_);refine aP h M ?_ ?_<;>intro h
  ·refine aF (cLr q17 la80 M<|cSt q17 q17 ti80 M<|cAs (.int _ 6) M<|aD ?_);refine aU<|aY ?_;obtain rfl:=sj_ h;refine ⟨.inr M,_,(.cons (rva la80 M M B5 M) B0),J5⟩
  ·refine aR<|aI ?_;obtain ⟨x7,k7,x8,k8,x9,k9,h⟩:=eood h;refine aF (cFa 0 un80 M ti78 M<|cLd (d:=.osl _ _ _) un78 ag78 ti78 M<|cI M<|cFa 1 un80 M ti3 M<|cLd (d:=.int _ _) un3 ag3 ti3 M<|aA M (cZ (cs:=q20) M M A9 vS qY pl161 M B9 M)<|aA M (fS aX.toEnc0 M M A9 un78 qY (svo M) M (svI M) k7)<|aA M (lG aX.toEnc0 (a':=(⟨false,0,x1.2.1⟩:aK)) M M qY (svR M) M (svA q20 M) M M M k8 B5 M k9)<|aD ?_);refine aF (cI M<|cFa 1 un80 M ti3 M<|aA M (dA (ds':=q17) M M ti3 (svR M) M (svI M) M M M B5 M)<|aD ?_);obtain ⟨x10,k10,h⟩:=bN h;refine aF (cFa 2 un80 M ti3 M<|cLd (d:=.int _ _) un3 ag3 ti3 M<|aA M (bD M M A9 (svI M) (svi 1 M) M k10)<|cFa 2 un80 M ti3 M<|aA M (dA (ds':=q17) M M ti3 (svR M) M (svI M) M M M B5 M)<|aD ?_);refine aF (cLr q17 la80 M<|cSt q17 q17 ti80 M<|cAs (.int _ 0) M<|aD ?_);refine aU ?_;obtain rfl:=sj_ h;refine ⟨.inr M,_,(.cons (rva la80 M M B5 M) B0),(.cons (.agg (.cons (FDT aX M (lQ k9 M)) (.all _))) (.all _))⟩

abbrev C4:=fun a=>([.int .i64 a]:List D)
theorem tZ(a0 a1:Int)(r:Bool)(h:pB a0 a1=some r):dH FY 113 [.int .i64 a0,.fptr (C4 a1)] (.bool r):=by
 refine bK (rs:=[.bool r]) func113 M ntmps113 B5 M fun O hO=>sta ⟨[(0,.int .i64 a0),(1,.fptr (C4 a1))],[]⟩ ?_;unfold pB at h;refine aF (cAs (.bool false) M<|aD ?_);obtain ⟨x1,k1,h⟩:=bN h;refine aF (cI M<|aA M (bG M M A9 un3 ag3 ti3 A7 (svf [.int _ _] M) B5)<|cCm M k1<|cAB M<|aD ?_);refine aU ?_;obtain rfl:=sj_ h;refine ⟨.inr M,B0⟩

abbrev u1:=fun a=>([.fptr (C4 a)]:List D)
theorem qW(a0:List Int)(a1:Int)(r:Int)(h:kU a0 a1=some r):dH FY 142 [.slice false (a0.map (eInt .i64).d),.fn 113 (u1 a1)] (.int .i64 r):=by
 refine bK (rs:=[.int .i64 r]) func142 M ntmps142 B5 M fun O hO=>sta ⟨[I0 a0,(1,.fn 113 (u1 a1))],[]⟩ ?_;unfold kU at h;refine aF (cAs (.int _ 0) M<|aD ?_);refine aQ<|aF (aA M (mvL M M M M)<|aA M (bT (eInt .i64) (l:=a0) M M A9 un37 (svL M))<|cMv (.int _ 0) M<|aD ?_);refine aT<|bR (α:=Nat×Int) (fun z=>⟨[I0 a0,(1,.fn 113 (u1 a1)),K2 a0.length,L7 z.2],[]⟩) (fun z=>eE a0 a1 z.1 z.2=some r) (fun z=>z.1) (fuel,0) (fun i=>i) wkU ?_ ?_
 ·exact h
 ·rintro ⟨n0,v7⟩ h
  cases n0 with
  | zero=>exact Ay h (by unfold eE; exact nofun)
  | succ n0 =>
   unfold eE at h;obtain ⟨x14,k14,h⟩:=bN h;refine aF (cCm M k14<|aD ?_);refine aQ<|aP h M ?_ ?_<;>intro h
   ·refine aR<|aI<|aQ<|aT<|aF (cI M<|cAI M<|aD ?_);obtain ⟨x16,k16,x17,k17,h⟩:=eoo h;refine aF (cMv (.fn 113 [.fptr [.int _ _]]) M<|aA M (mvL M M M M)<|cI M<|aA M (bL (eInt .i64) (cs:=[.int _ _]) M M A9 un37 ti3 (svL M) (svI M) k16 M M)<|aA M (bG M M A9 un3 ag3 ti3 A7 (svf [.int _ _] M) B5)<|aA M (pR (r:=.bool _) M M A9 cl113 (sv (d:=.fn 113 [.fptr [.int _ _]]) M) B9 M (tZ _ _ _ k17))<|aD ?_);refine aP h M ?_ ?_<;>intro h
    ·refine aF (cI M<|cAI M<|aD ?_);refine aU<|bU<|aY<|aY<|bU<|aY ?_;obtain rfl:=sj_ h;refine ⟨.inr M,B0⟩
    ·refine aR<|bI<|aI ?_;obtain ⟨x19,k19,h⟩:=bN h;refine aS (aA M (bD M M A9 (svI M) (svi 1 M) M k19)<|cI M<|bE ?_);refine aI ⟨(n0,x19),(fun i=>i),wkU,?_,?_⟩;exact h;exact Ah _
   ·refine cD<|bC<|bC<|cE<|aI<|aF (cAs (.int _ (-1)) M<|aD ?_);refine aU ?_;obtain rfl:=sj_ h;refine ⟨.inr M,B0⟩

abbrev M7:=fun a=>((1000,.blk 3 (Ac ((List.map (eInt .i64).d a)))):Nat×Ent)
theorem M9(h:p:=by exact .cons (.fn (.cons (.ref M M (uC _) M) .nil)) .nil):p:=h
theorem b7(h:p:=by exact ⟨.inr M,(fun i=>if i=0 then 1000 else i),wkU,B0,M⟩):p:=h
abbrev N3:=fun a=>((6,.int .i64 a):Nat×D)
theorem T7(h:p:=by exact ⟨(.cons (.same (AH (D.osl _ _) (lQ k40 M).symm) M) (.sames M M)),wkA,nd_r M,fun _ _=>M⟩):p:=h
theorem mC(a0:List Int)(a1:Int)(r:List Int)(h:eF a0 a1=some r):FnH FY 112 [.osl 1000 (eInt .i64).sz a0.length,.fn 113 [.ref 1001 0]] [M7 a0,(1001,.blk 3 (C4 a1))] (.osl 0 (eInt .i64).sz r.length) [(1001,.blk 3 (C4 a1)),(0,.blk 3 (Ac (r.map (eInt .i64).d)))]:=by
 refine dX (rs:=[.osl 0 (eInt .i64).sz r.length]) func112 M ntmps112 B5 fun O hO=>sta ⟨[(0,.osl 1000 (eInt .i64).sz a0.length),(1,.fn 113 [.ref 1001 0])],[M7 a0,(1001,.blk 3 (C4 a1))]⟩ ?_;unfold eF at h;refine aF (cAs (.nils) M<|aD ?_);obtain ⟨x1,k1,h⟩:=bS h;refine aF (cMv (.osl _ _ _) M<|cMv (.fn 113 [.ref _ _]) M<|aA M (sK (r:=.int .i64 x1) M M A9 cl142 (.cons (svo M) (.cons (sv (d:=.fn 113 [.ref _ _]) M) .nil)) (.cons (FDT (eInt .i64) M M) M9) M M (qW _ _ _ k1))<|cAI M<|aD ?_);refine aQ ?_;obtain ⟨x2,k2,h⟩:=bN h;refine aF (cI M<|cCm (b:=(-1)) M k2<|aD ?_);refine aP h M ?_ ?_<;>intro h
 ·refine aF (cMv (.osl _ _ _) M<|cAs (.osl _ _ _) M<|aD ?_);refine aU<|aY ?_;obtain rfl:=sj_ h;refine b7
 ·refine aR<|aI<|aQ ?_;obtain ⟨x4,k4,h⟩:=bN h;refine aF (cI M<|aA M (bD M M A9 (svI M) (svi 1 M) M k4)<|cAI M<|aD ?_);refine aT<|bR (α:=Nat×(List Int)×Int×Int) (fun z=>⟨[(0,.osl 1000 (eInt .i64).sz z.2.1.length),(1,.fn 113 [.ref 1001 0]),N5 z.2.2.1,N3 z.2.2.2],[M7 z.2.1,(1001,.blk 3 (C4 a1))]⟩) (fun z=>dI a1 z.1 z.2.1 z.2.2.1 z.2.2.2=some r) (fun z=>z.1) (fuel,a0,x1,x4) (fun i=>i) wkU ?_ ?_
  ·exact h
  ·rintro ⟨n0,v17,v18,v19⟩ h
   cases n0 with
   | zero=>exact Ay h (by unfold dI; exact nofun)
   | succ n0 =>
    unfold dI at h;refine aQ ?_;obtain ⟨x32,k32,h⟩:=bN h;refine aF (cI M<|cMv (.osl _ _ _) M<|aA M (oS M M A9 un37 (svo M))<|cCm M k32<|aD ?_);refine aP h M ?_ ?_<;>intro h
    ·refine aR<|aI<|aQ<|aT ?_;obtain ⟨x34,k34,x35,k35,h⟩:=eoo h;refine aF (cMv (.osl _ _ _) M<|cI M<|aA M (fS (eInt .i64).toEnc0 M M A9 un37 ti3 (svo M) M (svI M) k34)<|aA M (iR (eInt .i64).toEnc0 (d:=.int _ _) M M A9 un3 ag3 ti3 A7 (svR M) M k35 B5 M)<|cAI M<|aD ?_);obtain ⟨x36,k36,h⟩:=bS h;refine aF (cMv (.fn 113 [.ref _ _]) M<|cI M<|aA M (aF5 (r:=.bool x36) M M A9 cl113 (sv (d:=.fn 113 [.ref _ _]) M) B9 (.k (.cons (.ref M M (uC _) M) .nil)) M M (tZ _ _ _ k36))<|aA M (eP M M A9 (svB M))<|aD ?_);refine aP h M ?_ ?_<;>intro h
     ·obtain ⟨x38,k38,x39,k39,x40,k40,h⟩:=eood h;refine aF (cMv (.osl _ _ _) M<|cI M<|cI M<|aA M (fS (eInt .i64).toEnc0 M M A9 un37 ti3 (svo M) M (svI M) k38)<|aA M (lG (eInt .i64).toEnc0 (a':=x35) M M ti3 (svR M) M (svI M) M M M k39 B5 M k40)<|aD ?_);obtain ⟨x41,k41,h⟩:=bN h;refine aS (cI M<|aA M (bD M M A9 (svI M) (svi 1 M) M k41)<|cAI M<|bE ?_);refine bI<|aI ?_;obtain ⟨x42,k42,h⟩:=bN h;refine aS (cI M<|aA M (bD M M A9 (svI M) (svi 1 M) M k42)<|cAI M<|bE ?_);refine aI ⟨(n0,x40,x41,x42),(fun i=>i),T7,?_,?_⟩;exact h;exact Ah _
     ·refine aR<|bI<|aI ?_;obtain ⟨x43,k43,h⟩:=bN h;refine aS (cI M<|aA M (bD M M A9 (svI M) (svi 1 M) M k43)<|cAI M<|bE ?_);refine aI ⟨(n0,v17,v18,x43),(fun i=>i),wkU,?_,?_⟩;exact h;exact Ah _
    ·refine cD<|bC<|bC<|cE<|aI ?_;obtain ⟨x44,k44,h⟩:=bS h;refine aF (cMv (.osl _ _ _) M<|cI M<|aBn (eInt .i64).toEnc0 M M M M A7 M M un37 ti3 M M M M M (fun S1 h9=>sv ((h9 37 A7).trans M)) k44<|aD ?_);obtain ⟨x45,k45,h⟩:=bS h;refine aF (cMv (.osl _ _ _) M<|cI M<|aA M (aCO (eInt .i64).toEnc0 M M A9 un37 ti3 (svo M) M (BG (aJp k44) (Nat.le_of_eq M)) (svI M) k45)<|cAs (.osl _ _ _) M<|aD ?_);refine aU ?_;obtain rfl:=sj_ h;refine b7

abbrev T3:=([(2,.ref 0 0),(3,.ref 1 0),(4,.ref 2 0)]:List (Nat×D))
abbrev C1:=((0,.blk 33 [.ref 1000 0]):Nat×Ent)
abbrev X7:=fun a=>((1,.blk 3 (C4 a)):Nat×Ent)
abbrev R6:=fun a=>((10,.int .i64 a):Nat×D)
abbrev K1:=((2,.blk 3 [.int .i64 0]):Nat×Ent)
theorem R7(h:p:=by exact .cons (svR M) .nil):p:=h
abbrev B3:=([.ref 4 0,.ref 5 0]:List D)
abbrev W5:=([(2,.ref 0 0),(3,.ref 1 0),(4,.ref 2 0),(11,.fn 139 B3)]:List (Nat×D))
abbrev C3:=((4,.blk 33 [.ref 1000 0]):Nat×Ent)
abbrev X4:=fun a=>((5,.blk 3 (C4 a)):Nat×Ent)
abbrev y5:=((7,.kept 1 (kp_ 91 W5)):Nat×Ent)
abbrev y4:=((6,.loop 1 (kp_ 91 W5) .ready none):Nat×Ent)
abbrev L8:=fun a=>((7,.int .i64 a):Nat×D)
abbrev Q3:=fun a=>((4,.int .i64 a):Nat×D)
abbrev Y3:=fun a=>((2,.blk 3 (C4 a)):Nat×Ent)
abbrev I6:=fun a=>((21,.int .i64 a):Nat×D)
abbrev z6:=fun a b c d e f g i j k=>([C1,X7 a,Y3 b,C3,X4 a,y4,y5,A0 c d e f g i j (List.length k),A5 k]:List (Nat×Ent))
abbrev H6:=fun a=>((.ref 1000 (5+(((a:Int).toNat)*aC.sz+4))):D)
theorem Y0(h:p:=by exact lop M M fun S hA=>(cL M M A9 un83 M ti3 A7 (svaR hA M M) (k':=4) M)):p:=h
theorem s0(h:p:=by exact lop M M fun S hA=>(dA (ds':=[.int _ _]) M M ti3 (svaR hA M M) (agi hA M M) (svaI hA M M) M M M B5 M)):p:=h
abbrev R8:=((22,.bool true):Nat×D)
theorem R5(h:p:=by simp):p:=h
abbrev P8:=fun a=>((8,.ref 1000 (5+(((a:Int).toNat)*aC.sz+2))):Nat×D)
abbrev V9:=fun a=>([(2,.ref 0 0),(3,.ref 1 0),(4,.ref 2 0),(22,.ref 1000 0),(23,.int .i64 a)]:List (Nat×D))
theorem S6(h:p:=by exact .cons (sv (d:=.fn 139 q28) M) .nil):p:=h
abbrev W6:=((6,.kept 1 (kp_ 91 [(2,.ref 0 0),(3,.ref 1 0),(4,.ref 2 0),(24,.fn 139 B3)])):Nat×Ent)
abbrev W4:=((7,.kept 2 [.dead,.dead,.dead,.fn 139 B3,.dead]):Nat×Ent)
abbrev W7:=([(2,.ref 8 0),(6,.fn 139 B3)]:List (Nat×D))
abbrev J7:=((8,.blk 37 [.nils]):Nat×Ent)
abbrev y3:=((10,.kept 3 (kp_ 13 W7)):Nat×Ent)
abbrev y0:=((9,.loop 3 (kp_ 13 W7) .ready none):Nat×Ent)
abbrev L1:=fun a=>([(0,.yld 9),(1,.ref 4 0),(6,.ref 1000 0),(7,.int .i64 a)]:List (Nat×D))
abbrev w5:=fun a=>([(0,.yld 9),(1,.ref 4 0),Q3 a]:List (Nat×D))
abbrev E7:=fun a=>((8,.blk 37 [.osl 32 (eInt .i64).sz a]):Nat×Ent)
abbrev D2:=fun a=>((32,.blk 3 (Ac ((List.map (eInt .i64).d a)))):Nat×Ent)
abbrev y6:=((9,.loop 3 (kp_ 13 W7) .busy none):Nat×Ent)
abbrev R0:=fun a=>((8,.blk 37 [.osl 35 (eInt .i64).sz a]):Nat×Ent)
abbrev R2:=fun a=>((35,.blk 3 (Ac ((List.map (eInt .i64).d a)))):Nat×Ent)
abbrev F1:=fun a=>([.osl 32 (eInt .i64).sz a]:List D)
abbrev V0:=fun a=>([(4,.osl 32 (eInt .i64).sz a)]:List (Nat×D))
abbrev y9:=fun a b c d e f g i j k l=>(⟨[(2,.ref 0 0),(3,.ref 1 0),(4,.ref 2 0),(25,.osl 32 (eInt .i64).sz (List.length a))],[C1,X7 b,Y3 c,D2 a,A0 d e f g i j k (List.length l),A5 l]⟩:St)
abbrev P1:=fun a b=>([(2,.ref 0 0),(3,.ref 1 0),(4,.ref 2 0),(26,.osl 32 (eInt .i64).sz a),(27,.int .i64 (a:Int)),(28,.int .i64 b)]:List (Nat×D))
abbrev J9:=fun a b c d e f g i=>((1000,.blk 86 (mixD aC.toEnc0 (w35 a b c d e) f [.int .i64 g,.osl 54 (eInt .i64).sz i])):Nat×Ent)
abbrev F6:=fun a b c d e f g i=>([(1000,.blk 86 (mixD aC.toEnc0 (w35 a b c d e) f [.int .i64 g,.osl 55 (eInt .i64).sz (List.length i)])),(55,.blk 3 (Ac ((List.map (eInt .i64).d i)))),(1000,.none),(54,.none)]:List (Nat×Ent))
theorem F0(h:p:=by exact .cons (svaI hA M M) .nil):p:=h
theorem u6(h:p:=by exact .cons (svaR hA M M) (.cons (svaI hA M M) F0)):p:=h
theorem V2(h:p:=by exact Aa.2 ⟨(agi hA M M),Ab _⟩):p:=h
theorem D5(h:p:=by exact ⟨by decide,M,Aa.2 ⟨⟨M,M,(kS aC (agi hA M M) M M),(cR aC M M)⟩,Aa.2 ⟨⟨M,M,(jP (eInt .i64) (agi hA M M)),(cC (eInt .i64))⟩,Ab _⟩⟩⟩):p:=h
abbrev I9:=fun a b=>([.int .i64 a,.osl 55 (eInt .i64).sz b]:List D)
abbrev q7:=fun a b c d e f g i=>([(1000,.blk 86 (mixD aC.toEnc0 (w35 a b c d e) f (I9 g (List.length i)))),(55,.blk 3 (Ac ((List.map (eInt .i64).d i))))]:List (Nat×Ent))
theorem r9(h:p:=by exact lop M M fun S hA=>(tP aC.toEnc0 (cs:=q16) M M A9 un80 ag80 ti80 A7 (svaR hA M M) (agi hA M M) B5 I4)):p:=h
theorem w9(h:p:=by exact lop M M fun S hA=>(fV (d:=.agg q16) M M A9 (sv (d:=.tuple q32) (agr hA M M)) M)):p:=h
theorem w7(h:p:=by exact lop M M fun S hA=>(fV (d:=.int _ _) M M A9 (sv (d:=.tuple q32) (agr hA M M)) M)):p:=h
theorem o5(h:p:=by exact lop M M fun S hA=>(aAI aC.toEnc0 (pre:=q10) (pre':=q10) M M ti80 (svaR hA M M) (agi hA M M) (svaA q16 hA M M) M M M B5 M)):p:=h
abbrev R1:=fun a=>((56,.blk 3 (Ac ((List.map (eInt .i64).d a)))):Nat×Ent)
abbrev z1:=fun a b=>([X7 a,R1 b,(55,.none),(1,.none)]:List (Nat×Ent))
theorem T1(h:p:=by exact .cons (sv (d:=.osl _ _ _) (agr hA M M)) (.cons (sv (d:=.fn 113 [.ref _ _]) (agr hA M M)) .nil)):p:=h
theorem P3(h:p:=by exact ⟨by decide,M,Aa.2 ⟨⟨M,M,(jP (eInt .i64) (agi hA M M)),(cC (eInt .i64))⟩,Aa.2 ⟨⟨M,M,(agi hA M M),M⟩,Ab _⟩⟩⟩):p:=h
theorem B8(h:p:=by exact ⟨⟨M,(cC (eInt .i64))⟩,Ab _⟩):p:=h
theorem rI(a0 a1 a2:Int)(a3:List aK)(a4 a5:Int)(a6:List aJ)(a7:Int)(a8:List Int)(r:Int×Int×(List aK)×Int×Int×(List aJ)×Int×(List Int))(h:hD a0 a1 a2 a3 a4 a5 a6 a7 a8=some r):FnH FY 80 (L6 a0) (X0 a1 a2 a3 a4 a5 a6 a7 a8) (retD []) (C2 r.1 r.2.1 r.2.2.1 r.2.2.2.1 r.2.2.2.2.1 r.2.2.2.2.2.1 r.2.2.2.2.2.2.1 r.2.2.2.2.2.2.2):=by
 refine dX (rs:=[]) func80 M ntmps80 B5 fun O hO=>sta ⟨[D0,D3 a0],X0 a1 a2 a3 a4 a5 a6 a7 a8⟩ ?_;unfold hD at h;refine aF (aA M (lU (cs:=[.ref _ _]) 0 M M A9 M (svR M) M M)<|aA M (lU (cs:=[.int _ _]) 1 M M A9 M (svI M) M M)<|aD ?_);refine aF (aA M (cF (cs:=[.int _ _]) (cs':=[.int .i64 0]) 2 M M A9 M ti3 M M (.all _))<|aA M (dA (ds':=[.int _ _]) M M ti3 (svR M) M (svi 0 M) M M M B5 M)<|aD ?_);refine nY (α:=Int) (fun z=>⟨T3,[C1,X7 a0,(2,.blk 3 [.int .i64 z]),A0 a1 a2 a3 a4 a5 a6 a7 a8.length,A5 a8]⟩) (fun z=>lC a0 a1 a2 a3 a4 a5 a6 a7 a8 z=some r) ?_ ?_
 ·refine aF (cLd (d:=.ref _ _) un33 ag33 ti33 M<|cLd (d:=.int _ _) un3 ag3 ti3 M <|?_);refine iS (S':=⟨[(2,.ref 0 0),(3,.ref 1 0),(4,.ref 2 0),(9,.ref 1000 0),R6 a0],[C1,X7 a0,K1,A0 a1 a2 a3 a4 a5 a6 a7 a8.length,A5 a8]⟩) (fun i=>i) wkU<|mY 1 3 M M M A7 aJE func107 M Y5 ntmps107 B5 M hO.semiL fun O1 hO1=>sta ⟨[D0,D3 a0],[(3,.kept 1 (kp_ 91 [(2,.ref 0 0),(3,.ref 1 0),(4,.ref 2 0),(9,.ref 1000 0),R6 a0])),C1,X7 a0,K1,A0 a1 a2 a3 a4 a5 a6 a7 a8.length,A5 a8]⟩ ?_
  refine aF (aA M (lU (cs:=[.ref _ _]) 4 M M A9 M (svR M) M M)<|aA M (lU (cs:=[.int _ _]) 5 M M A9 M (svI M) M M)<|cAs (.nilf) M<|aD ?_);refine aF (aA M (mH M M A9 (.cons (svR M) R7))<|cAs (.fn 139 q28) M<|aD ?_);refine aU ?_;refine ⟨.inr M,3,_,[.fn 139 B3],B0,M,M,⟨W5,[C1,X7 a0,K1,C3,X4 a0,A0 a1 a2 a3 a4 a5 a6 a7 a8.length,A5 a8]⟩,(fun i=>i),wkU,?_⟩;refine aD<|aT<|vI (S':=⟨W5,[C1,X7 a0,K1,C3,X4 a0,A0 a1 a2 a3 a4 a5 a6 a7 a8.length,A5 a8]⟩) (fun i=>i) wkU<|wO 1 6 7 (sv (d:=.fn 139 q28) M) aJD func139 M M ntmps139 B5 M M hO.semiL (Ab _) fun O1 hO1 hlc1=>sta ⟨[(0,.yld 6),(1,.ref 4 0),(2,.ref 5 0)],[y5,y4,C1,X7 a0,K1,C3,X4 a0,A0 a1 a2 a3 a4 a5 a6 a7 a8.length,A5 a8]⟩ ?_
  refine aF (cLd (d:=.ref _ _) un33 ag33 ti33 M<|cLd (d:=.int _ _) un3 ag3 ti3 M <|?_);refine iS (S':=⟨[(0,.yld 6),(1,.ref 4 0),(6,.ref 1000 0),L8 a0],[C1,X7 a0,K1,C3,X4 a0,y4,y5,A0 a1 a2 a3 a4 a5 a6 a7 a8.length,A5 a8]⟩) (fun i=>i) wkU<|mY 2 8 M M M A7 aGI func115 M Y5 ntmps115 B5 M hO1 fun O2 hO2=>sta ⟨[D0,D3 a0],[(8,.kept 2 (kp_ 25 [(0,.yld 6),(1,.ref 4 0),(6,.ref 1000 0),L8 a0])),C1,X7 a0,K1,C3,X4 a0,y4,y5,A0 a1 a2 a3 a4 a5 a6 a7 a8.length,A5 a8]⟩ ?_
  refine aF (cAs (.nilp) M<|aD ?_);refine aQ ?_;obtain ⟨x232,k232,h⟩:=bN h;refine aF (cI M<|cCm (b:=(-1)) M k232<|aD ?_);refine aP h M ?_ ?_<;>intro h
  ·refine aF (aA M (mvR M M M M)<|aA M (aN M M A9 (svR M))<|cFa 389 un86 M ti3 M<|aA M (bH M M A9 (svR M))<|aD ?_);refine aU<|aY ?_;refine ⟨.inr M,8,_,[.ref 1000 389],B0,M,M,⟨[(0,.yld 6),(1,.ref 4 0),(8,.ref 1000 389)],[C1,X7 a0,K1,C3,X4 a0,y4,y5,A0 a1 a2 a3 a4 a5 a6 a7 a8.length,A5 a8]⟩,(fun i=>i),wkU,?_⟩;obtain ⟨hk234,h⟩:=rO h;refine aA M (aN M M A9 (svR M))<|aA M (kR aC.toEnc0 (d:=.int _ _) (n:=64) (k:=0) M M A9 un3 ag3 ti3 A7 (svR M) M hk234 I4 B5 I4)<|cAI M<|aD ?_;refine aT<|bR (α:=Nat×Int×Int) (fun z=>⟨[(0,.yld 6),(1,.ref 4 0),Q3 z.2.1],[y4,C3,y5,A0 a1 a2 a3 a4 a5 a6 a7 a8.length,A5 a8,C1,X7 a0,Y3 z.2.2,X4 a0]⟩) (fun z=>mS a0 a1 a2 a3 a4 a5 a6 a7 a8 z.1 z.2.1 z.2.2=some r) (fun z=>z.1) (fuel,a7,0) (fun i=>i) wkU ?_ ?_
   ·exact h
   ·rintro ⟨n7,v242,v243⟩ h
    cases n7 with
    | zero=>exact Ay h (by unfold mS; exact nofun)
    | succ n7 =>
     unfold mS at h;refine aQ ?_;obtain ⟨x251,k251,h⟩:=bN h;refine aF (cI M<|cCm (b:=(-1)) M k251<|aD ?_);refine aP h M ?_ ?_<;>intro h
     ·refine aR<|aI<|aT ?_;obtain ⟨x253,k253,x254,k254,h⟩:=eoo h;refine aF (cLd (d:=.ref _ _) un33 ag33 ti33 M<|cI M<|aA M (aN M M A9 (svR M))<|cFa 5 un86 M ti84 M<|aA M (dS aC.toEnc0 M M A9 un84 ti83 (svR M) hk234 (svI M) k253)<|aA M (cL M M A9 un83 M ti3 A7 (svR M) (k':=3) M)<|aA M (cW aC.toEnc0 (b:=5) (k:=3) (d:=.int _ _) M M A9 un3 ag3 ti3 A7 (svR M) M M k254 B5 M)<|cAI M<|aD ?_);refine aQ<|aF (cMv (.yld _) M<|cI M <|?_);refine iS (S':=⟨[(0,.yld 6),(1,.ref 4 0),(5,.int .i64 x254.next),(20,.yld 6),I6 v242],z6 a0 v243 a1 a2 a3 a4 a5 a6 a7 a8⟩) (fun i=>i) wkU<|sL 2 6 8 M M M A7 M B9 M M M M M M hO1.round hlc1 ⟨[(12,.int .i64 v242),(2,.ref 0 0),(4,.ref 2 0)],[C1,X7 a0,Y3 v243,C3,X4 a0,y4,y5,(8,.kept 2 (kp_ 25 [(0,.yld 6),(1,.ref 4 0),(5,.int .i64 x254.next),(20,.yld 6),I6 v242])),A0 a1 a2 a3 a4 a5 a6 a7 a8.length,A5 a8]⟩ (fun i=>i) wkU fun O2=>?_
      refine aS (cAI M<|bE ?_);refine ⟨M,6,_,M,⟨[(2,.ref 0 0),(4,.ref 2 0),N5 v242],[C1,X7 a0,Y3 v243,C3,X4 a0,(6,.loop 1 (kp_ 91 W5) .busy none),y5,(8,.kept 2 (kp_ 25 [(0,.yld 6),(1,.ref 4 0),(5,.int .i64 x254.next),(20,.yld 6),I6 v242])),A0 a1 a2 a3 a4 a5 a6 a7 a8.length,A5 a8]⟩,(fun i=>i),wkU,?_⟩;refine aT ?_;obtain ⟨x255,k255,x256,k256,x257,k257,h⟩:=eood h;refine jL M [nd2 [4] [2] 13 (D4 v243),nd2 [2] [0] 14 (.ref 1000 0),nd1 [5] 15 (D4 v242),nd1 [14] 16 (.ref 1000 0),nd1 [16] 17 (.ref 1000 5),nd1 [15,17] 18 (F2 v242),nd1 [18] 19 (H6 v242),nd2 [19] [1000] 20 (.int .i64 x256.weight),nd1 [13,20] 21 (D4 x257),⟨[4,21],[2],[],[Y3 x257]⟩] M ?_ D6 ?_
      ·refine .cons (dLd un3 ag3 ti3 M)<|.cons (dLd un33 ag33 ti33 M)<|.cons (dMv M)<|.cons W8<|.cons (dFa 5 un86 M ti84 M)<|.cons (lop M M fun S hA=>(dS aC.toEnc0 M M A9 un84 ti83 (svaR hA M M) hk234 (svaI hA M M) k255))<|.cons Y0<|.cons (lop M M fun S hA=>(cW aC.toEnc0 (b:=5) (k:=4) (d:=.int _ _) M M A9 un3 ag3 ti3 A7 (svaR hA M M) (agi hA M M) M k256 B5 M))<|.cons (lop M M fun S hA=>(bD M M A9 (svaI hA M M) (svaI hA M M) M k257))<|.cons s0 ?_
       exact .nil
      refine bI ?_;refine ⟨6,8,_,_,none,M,M,M,M,A7,⟨[(0,.yld 6),(1,.ref 4 0),(5,.int .i64 x254.next),R8],z6 a0 x257 a1 a2 a3 a4 a5 a6 a7 a8⟩,(fun i=>i),wkU,?_⟩;refine aA M (eP M M A9 (svB M))<|aD ?_;refine kF M M<|aR<|aI<|aS (cI M<|cAI M<|bE ?_);refine bI<|aI ⟨(n7,x254.next,x257),(fun i=>i),wkU,?_,?_⟩;exact h;exact Ah _
     ·refine cD<|bC<|bC<|cE ?_;refine ⟨.inl M,6,7,_,_,_,_,M,R5,M,M,⟨T3,[C1,X7 a0,Y3 v243,A0 a1 a2 a3 a4 a5 a6 a7 a8.length,A5 a8]⟩,(fun i=>i),wkU,?_⟩;refine bI<|aI ⟨v243,(fun i=>i),wkU,?_⟩;exact h
  ·refine aR<|aI ?_;obtain ⟨x258,k258,h⟩:=bS h;obtain ⟨hk259,h⟩:=rO h;refine aF (aA M (mvR M M M M)<|cI M<|aA M (aN M M A9 (svR M))<|cFa 5 un86 M ti84 M<|aA M (dS aC.toEnc0 M M A9 un84 ti83 (svR M) hk259 (svI M) k258)<|aA M (cL M M A9 un83 M ti3 A7 (svR M) (k':=2) M)<|aA M (bH M M A9 (svR M))<|aD ?_);refine aU ?_;refine ⟨.inr M,8,_,M1 a0,B0,M,M,⟨[(0,.yld 6),(1,.ref 4 0),P8 a0],[C1,X7 a0,K1,C3,X4 a0,y4,y5,A0 a1 a2 a3 a4 a5 a6 a7 a8.length,A5 a8]⟩,(fun i=>i),wkU,?_⟩;obtain ⟨x260,k260,h⟩:=bS h;refine aA M (aN M M A9 (svR M))<|aA M (cW aC.toEnc0 (b:=5) (k:=2) (d:=.int _ _) M M A9 un3 ag3 ti3 A7 (svR M) M M k260 B5 M)<|cAI M<|aD ?_;refine aT<|bR (α:=Nat×Int×Int) (fun z=>⟨[(0,.yld 6),(1,.ref 4 0),Q3 z.2.1],[y4,C3,y5,A0 a1 a2 a3 a4 a5 a6 a7 a8.length,A5 a8,C1,X7 a0,Y3 z.2.2,X4 a0]⟩) (fun z=>iY a0 a1 a2 a3 a4 a5 a6 a7 a8 z.1 z.2.1 z.2.2=some r) (fun z=>z.1) (fuel,x260.first,0) (fun i=>i) wkU ?_ ?_
   ·exact h
   ·rintro ⟨n8,v268,v269⟩ h
    cases n8 with
    | zero=>exact Ay h (by unfold iY; exact nofun)
    | succ n8 =>
     unfold iY at h;refine aQ ?_;obtain ⟨x277,k277,h⟩:=bN h;refine aF (cI M<|cCm (b:=(-1)) M k277<|aD ?_);refine aP h M ?_ ?_<;>intro h
     ·refine aR<|aI<|aT ?_;obtain ⟨x279,k279,x280,k280,h⟩:=eoo h;refine aF (cLd (d:=.ref _ _) un33 ag33 ti33 M<|cI M<|aA M (aN M M A9 (svR M))<|cFa 5 un86 M ti84 M<|aA M (dS aC.toEnc0 M M A9 un84 ti83 (svR M) hk259 (svI M) k279)<|aA M (cL M M A9 un83 M ti3 A7 (svR M) (k':=3) M)<|aA M (cW aC.toEnc0 (b:=5) (k:=3) (d:=.int _ _) M M A9 un3 ag3 ti3 A7 (svR M) M M k280 B5 M)<|cAI M<|aD ?_);refine aQ<|aF (cMv (.yld _) M<|cI M <|?_);refine iS (S':=⟨[(0,.yld 6),(1,.ref 4 0),(5,.int .i64 x280.next),(20,.yld 6),I6 v268],z6 a0 v269 a1 a2 a3 a4 a5 a6 a7 a8⟩) (fun i=>i) wkU<|sL 2 6 8 M M M A7 M B9 M M M M M M hO1.round hlc1 ⟨[(12,.int .i64 v268),(2,.ref 0 0),(4,.ref 2 0)],[C1,X7 a0,Y3 v269,C3,X4 a0,y4,y5,(8,.kept 2 (kp_ 25 [(0,.yld 6),(1,.ref 4 0),(5,.int .i64 x280.next),(20,.yld 6),I6 v268])),A0 a1 a2 a3 a4 a5 a6 a7 a8.length,A5 a8]⟩ (fun i=>i) wkU fun O2=>?_
      refine aS (cAI M<|bE ?_);refine ⟨M,6,_,M,⟨[(2,.ref 0 0),(4,.ref 2 0),N5 v268],[C1,X7 a0,Y3 v269,C3,X4 a0,(6,.loop 1 (kp_ 91 W5) .busy none),y5,(8,.kept 2 (kp_ 25 [(0,.yld 6),(1,.ref 4 0),(5,.int .i64 x280.next),(20,.yld 6),I6 v268])),A0 a1 a2 a3 a4 a5 a6 a7 a8.length,A5 a8]⟩,(fun i=>i),wkU,?_⟩;refine aT ?_;obtain ⟨x281,k281,x282,k282,x283,k283,h⟩:=eood h;refine jL M [nd2 [4] [2] 13 (D4 v269),nd2 [2] [0] 14 (.ref 1000 0),nd1 [5] 15 (D4 v268),nd1 [14] 16 (.ref 1000 0),nd1 [16] 17 (.ref 1000 5),nd1 [15,17] 18 (F2 v268),nd1 [18] 19 (H6 v268),nd2 [19] [1000] 20 (.int .i64 x282.weight),nd1 [13,20] 21 (D4 x283),⟨[4,21],[2],[],[Y3 x283]⟩] M ?_ D6 ?_
      ·refine .cons (dLd un3 ag3 ti3 M)<|.cons (dLd un33 ag33 ti33 M)<|.cons (dMv M)<|.cons W8<|.cons (dFa 5 un86 M ti84 M)<|.cons (lop M M fun S hA=>(dS aC.toEnc0 M M A9 un84 ti83 (svaR hA M M) hk259 (svaI hA M M) k281))<|.cons Y0<|.cons (lop M M fun S hA=>(cW aC.toEnc0 (b:=5) (k:=4) (d:=.int _ _) M M A9 un3 ag3 ti3 A7 (svaR hA M M) (agi hA M M) M k282 B5 M))<|.cons (lop M M fun S hA=>(bD M M A9 (svaI hA M M) (svaI hA M M) M k283))<|.cons s0 ?_
       exact .nil
      refine bI ?_;refine ⟨6,8,_,_,none,M,M,M,M,A7,⟨[(0,.yld 6),(1,.ref 4 0),(5,.int .i64 x280.next),R8],z6 a0 x283 a1 a2 a3 a4 a5 a6 a7 a8⟩,(fun i=>i),wkU,?_⟩;refine aA M (eP M M A9 (svB M))<|aD ?_;refine kF M M<|aR<|aI<|aS (cI M<|cAI M<|bE ?_);refine bI<|aI ⟨(n8,x280.next,x283),(fun i=>i),wkU,?_,?_⟩;exact h;exact Ah _
     ·refine cD<|bC<|bC<|cE ?_;refine ⟨.inl M,6,7,_,_,_,_,M,R5,M,M,⟨T3,[C1,X7 a0,Y3 v269,A0 a1 a2 a3 a4 a5 a6 a7 a8.length,A5 a8]⟩,(fun i=>i),wkU,?_⟩;refine bI<|aI ⟨v269,(fun i=>i),wkU,?_⟩;exact h
 ·rintro v53 h;unfold lC at h;refine aF (cLd (d:=.ref _ _) un33 ag33 ti33 M<|cLd (d:=.int _ _) un3 ag3 ti3 M <|?_);refine iS (S':=⟨V9 a0,[C1,X7 a0,Y3 v53,A0 a1 a2 a3 a4 a5 a6 a7 a8.length,A5 a8]⟩) (fun i=>i) wkU<|mY 1 3 M M M A7 aJE func107 M Y5 ntmps107 B5 M hO.semiL fun O1 hO1=>sta ⟨[D0,D3 a0],[(3,.kept 1 (kp_ 91 (V9 a0))),C1,X7 a0,Y3 v53,A0 a1 a2 a3 a4 a5 a6 a7 a8.length,A5 a8]⟩ ?_
  refine aF (aA M (lU (cs:=[.ref _ _]) 4 M M A9 M (svR M) M M)<|aA M (lU (cs:=[.int _ _]) 5 M M A9 M (svI M) M M)<|cAs (.nilf) M<|aD ?_);refine aF (aA M (mH M M A9 (.cons (svR M) R7))<|cAs (.fn 139 q28) M<|aD ?_);refine aU ?_;refine ⟨.inr M,3,_,[.fn 139 B3],B0,M,M,⟨[(2,.ref 0 0),(3,.ref 1 0),(4,.ref 2 0),(24,.fn 139 B3)],[C1,X7 a0,Y3 v53,C3,X4 a0,A0 a1 a2 a3 a4 a5 a6 a7 a8.length,A5 a8]⟩,(fun i=>i),wkU,?_⟩;refine iS (S':=⟨[(2,.ref 0 0),(3,.ref 1 0),(4,.ref 2 0),(24,.fn 139 B3)],[C1,X7 a0,Y3 v53,C3,X4 a0,A0 a1 a2 a3 a4 a5 a6 a7 a8.length,A5 a8]⟩) (fun i=>i) wkU<|mY 1 6 M M M A7 cl108 func108 M S6 ntmps108 B5 M hO.semiL fun O1 hO1=>sta ⟨[(0,.fn 139 B3)],[W6,C1,X7 a0,Y3 v53,C3,X4 a0,A0 a1 a2 a3 a4 a5 a6 a7 a8.length,A5 a8]⟩ ?_
  refine aF (cAs (.nils) M<|aD ?_);refine aF (cMv (.fn 139 q28) M <|?_);refine iS (S':=⟨[(3,.fn 139 B3)],[C1,X7 a0,Y3 v53,C3,X4 a0,W6,A0 a1 a2 a3 a4 a5 a6 a7 a8.length,A5 a8]⟩) (fun i=>i) wkU<|mY 2 7 M M M A7 cl140 func140 M (.cons (sv (d:=.nils) M) S6) ntmps140 B5 M hO1 fun O2 hO2=>sta ⟨[(0,.nils),(1,.fn 139 B3)],[W4,C1,X7 a0,Y3 v53,C3,X4 a0,W6,A0 a1 a2 a3 a4 a5 a6 a7 a8.length,A5 a8]⟩ ?_
  refine aF (aA M (lU (cs:=[.nils]) 8 M M A9 M (sv (d:=.nils) M) M M)<|cAs (.nils) M<|aD ?_);refine aQ<|aF (cMv (.fn 139 q28) M<|aD ?_);refine aT<|vI (S':=⟨W7,[C1,X7 a0,Y3 v53,C3,X4 a0,W6,W4,J7,A0 a1 a2 a3 a4 a5 a6 a7 a8.length,A5 a8]⟩) (fun i=>i) wkU<|wO 3 9 10 (sv (d:=.fn 139 q28) M) aJD func139 M M ntmps139 B5 M M hO2 (Aa.2 ⟨⟨7,_,M⟩,Aa.2 ⟨⟨6,_,M⟩,Ab _⟩⟩) fun O3 hO3 hlc3=>sta ⟨[(0,.yld 9),(1,.ref 4 0),(2,.ref 5 0)],[y3,y0,C1,X7 a0,Y3 v53,C3,X4 a0,W6,W4,J7,A0 a1 a2 a3 a4 a5 a6 a7 a8.length,A5 a8]⟩ ?_
  refine aF (cLd (d:=.ref _ _) un33 ag33 ti33 M<|cLd (d:=.int _ _) un3 ag3 ti3 M <|?_);refine iS (S':=⟨L1 a0,[C1,X7 a0,Y3 v53,C3,X4 a0,W6,W4,J7,y0,y3,A0 a1 a2 a3 a4 a5 a6 a7 a8.length,A5 a8]⟩) (fun i=>i) wkU<|mY 4 11 M M M A7 aGI func115 M Y5 ntmps115 B5 M hO3 fun O4 hO4=>sta ⟨[D0,D3 a0],[(11,.kept 4 (kp_ 25 (L1 a0))),C1,X7 a0,Y3 v53,C3,X4 a0,W6,W4,J7,y0,y3,A0 a1 a2 a3 a4 a5 a6 a7 a8.length,A5 a8]⟩ ?_
  refine aF (cAs (.nilp) M<|aD ?_);refine aQ ?_;obtain ⟨x54,k54,h⟩:=bN h;refine aF (cI M<|cCm (b:=(-1)) M k54<|aD ?_);refine aP h M ?_ ?_<;>intro h
  ·refine aF (aA M (mvR M M M M)<|aA M (aN M M A9 (svR M))<|cFa 389 un86 M ti3 M<|aA M (bH M M A9 (svR M))<|aD ?_);refine aU<|aY ?_;refine ⟨.inr M,11,_,[.ref 1000 389],B0,M,M,⟨[(0,.yld 9),(1,.ref 4 0),(8,.ref 1000 389)],[C1,X7 a0,Y3 v53,C3,X4 a0,W6,W4,J7,y0,y3,A0 a1 a2 a3 a4 a5 a6 a7 a8.length,A5 a8]⟩,(fun i=>i),wkU,?_⟩;obtain ⟨hk56,h⟩:=rO h;refine aA M (aN M M A9 (svR M))<|aA M (kR aC.toEnc0 (d:=.int _ _) (n:=64) (k:=0) M M A9 un3 ag3 ti3 A7 (svR M) M hk56 I4 B5 I4)<|cAI M<|aD ?_;refine aT<|bR (α:=Nat×Int×(List Int)) (fun z=>⟨w5 z.2.1,[y0,C3,W6,W4,y3,A0 a1 a2 a3 a4 a5 a6 a7 a8.length,A5 a8,E7 z.2.2.length,X4 a0,C1,X7 a0,Y3 v53,D2 z.2.2]⟩) (fun z=>mU a0 a1 a2 a3 a4 a5 a6 a7 a8 v53 z.1 z.2.1 z.2.2=some r) (fun z=>z.1) (fuel,a7,([]:(List Int))) (fun i=>if i=32 then 94 else i) wkU ?_ ?_
   ·exact h
   ·rintro ⟨n3,v62,v63⟩ h
    cases n3 with
    | zero=>exact Ay h (by unfold mU; exact nofun)
    | succ n3 =>
     unfold mU at h;refine aQ ?_;obtain ⟨x69,k69,h⟩:=bN h;refine aF (cI M<|cCm (b:=(-1)) M k69<|aD ?_);refine aP h M ?_ ?_<;>intro h
     ·refine aR<|aI<|aT ?_;obtain ⟨x71,k71,x72,k72,h⟩:=eoo h;refine aF (cLd (d:=.ref _ _) un33 ag33 ti33 M<|cI M<|aA M (aN M M A9 (svR M))<|cFa 5 un86 M ti84 M<|aA M (dS aC.toEnc0 M M A9 un84 ti83 (svR M) hk56 (svI M) k71)<|aA M (cL M M A9 un83 M ti3 A7 (svR M) (k':=3) M)<|aA M (cW aC.toEnc0 (b:=5) (k:=3) (d:=.int _ _) M M A9 un3 ag3 ti3 A7 (svR M) M M k72 B5 M)<|cAI M<|aD ?_);refine aQ<|aF (cMv (.yld _) M<|cI M <|?_);refine iS (S':=⟨[(0,.yld 9),(1,.ref 4 0),(5,.int .i64 x72.next),(20,.yld 9),I6 v62],[C1,X7 a0,Y3 v53,C3,X4 a0,W6,W4,E7 v63.length,y0,y3,D2 v63,A0 a1 a2 a3 a4 a5 a6 a7 a8.length,A5 a8]⟩) (fun i=>i) wkU<|sL 4 9 33 M M M A7 M B9 M M M M M M hO3.round hlc3 ⟨[L8 v62,(2,.ref 8 0)],[C1,X7 a0,Y3 v53,C3,X4 a0,W6,W4,E7 v63.length,y0,y3,D2 v63,(33,.kept 4 (kp_ 25 [(0,.yld 9),(1,.ref 4 0),(5,.int .i64 x72.next),(20,.yld 9),I6 v62])),A0 a1 a2 a3 a4 a5 a6 a7 a8.length,A5 a8]⟩ (fun i=>i) wkU fun O4=>?_
      refine aS (cAI M<|bE ?_);refine ⟨M,9,_,M,⟨[(2,.ref 8 0),N5 v62],[C1,X7 a0,Y3 v53,C3,X4 a0,W6,W4,E7 v63.length,y6,y3,D2 v63,(33,.kept 4 (kp_ 25 [(0,.yld 9),(1,.ref 4 0),(5,.int .i64 x72.next),(20,.yld 9),I6 v62])),A0 a1 a2 a3 a4 a5 a6 a7 a8.length,A5 a8]⟩,(fun i=>i),wkU,?_⟩;refine aT ?_;obtain ⟨x73,k73,h⟩:=bS h;refine aS (cLd (d:=.osl _ _ _) un37 ag37 ti37 M<|cI M<|aA M (oT (eInt .i64).toEnc0 ([v62]:(List Int)) 34 M M A9 un37 ti3 M B9 M M A7)<|aA M (lK (eInt .i64).toEnc0 35 M M A9 un37 ti3 M M M M M (vT (eInt .i64).toEnc0 M M M) k73)<|aA M (dA (ds':=[.osl _ _ _]) M M ti37 (svR M) M (svo M) M M M B5 M)<|bE ?_);refine bI ?_;refine ⟨9,33,_,_,none,M,M,M,M,A7,⟨[(0,.yld 9),(1,.ref 4 0),(5,.int .i64 x72.next),R8],[C1,X7 a0,Y3 v53,C3,X4 a0,W6,W4,R0 x73.length,y0,y3,R2 x73,A0 a1 a2 a3 a4 a5 a6 a7 a8.length,A5 a8]⟩,(fun i=>i),wkU,?_⟩;refine aA M (eP M M A9 (svB M))<|aD ?_;refine kF M M<|aR<|aI<|aS (cI M<|cAI M<|bE ?_);refine bI<|aI ⟨(n3,x72.next,x73),(fun i=>if i=32 then 35 else i),wkU,?_,?_⟩;exact h;exact Ah _
     ·refine cD<|bC<|bC<|cE ?_;refine ⟨.inl M,9,10,_,_,_,_,M,R5,M,M,⟨[(2,.ref 8 0)],[C1,X7 a0,Y3 v53,C3,X4 a0,W6,W4,E7 v63.length,D2 v63,A0 a1 a2 a3 a4 a5 a6 a7 a8.length,A5 a8]⟩,(fun i=>i),wkU,?_⟩;refine bI<|aI<|aF (cLd (d:=.osl _ _ _) un37 ag37 ti37 M<|cAs (.osl _ _ _) M<|aD ?_);refine aU ?_;refine ⟨.inr M,7,_,F1 v63.length,B0,M,M,⟨V0 v63.length,[C1,X7 a0,Y3 v53,C3,X4 a0,W6,D2 v63,A0 a1 a2 a3 a4 a5 a6 a7 a8.length,A5 a8]⟩,(fun i=>i),wkU,?_⟩;refine cAs (.osl _ _ _) M<|aD ?_;refine aU ?_;refine ⟨.inr M,6,_,F1 v63.length,B0,M,M,y9 v63 a0 v53 a1 a2 a3 a4 a5 a6 a7 a8,(fun i=>i),wkU,?_⟩;refine cAs (.osl _ _ _) M<|aD ?_;refine aQ<|aF (cMv (.osl _ _ _) M<|aA M (oS M M A9 un37 (svo M))<|cMv (.int _ 0) M<|aD ?_);refine aT<|bR (α:=Nat×Int×Int×Int×(List aK)×Int×Int×(List aJ)×Int×(List Int)) (fun z=>⟨P1 v63.length z.2.1,[C1,X7 a0,Y3 v53,D2 v63,J9 z.2.2.1 z.2.2.2.1 z.2.2.2.2.1 z.2.2.2.2.2.1 z.2.2.2.2.2.2.1 z.2.2.2.2.2.2.2.1 z.2.2.2.2.2.2.2.2.1 z.2.2.2.2.2.2.2.2.2.length,(54,.blk 3 (Ac (z.2.2.2.2.2.2.2.2.2.map (eInt .i64).d)))]⟩) (fun z=>mT a0 v53 v63 z.1 z.2.1 z.2.2.1 z.2.2.2.1 z.2.2.2.2.1 z.2.2.2.2.2.1 z.2.2.2.2.2.2.1 z.2.2.2.2.2.2.2.1 z.2.2.2.2.2.2.2.2.1 z.2.2.2.2.2.2.2.2.2=some r) (fun z=>z.1) (fuel,0,a1,a2,a3,a4,a5,a6,a7,a8) (fun i=>if i=54 then 1001 else i) wkU ?_ ?_
      ·exact h
      ·rintro ⟨n4,v92,v93,v94,v95,v96,v97,v98,v99,v100⟩ h
       cases n4 with
       | zero=>exact Ay h (by unfold mT; exact nofun)
       | succ n4 =>
        unfold mT at h;obtain ⟨x120,k120,h⟩:=bN h;refine aF (cCm M k120<|aD ?_);refine aQ<|aP h M ?_ ?_<;>intro h
        ·refine aR<|aI<|aQ<|aT ?_;obtain ⟨x122,k122,x123,k123,h⟩:=eoo h;refine aF (aA M (fS (eInt .i64).toEnc0 M M A9 un37 ti3 (svo M) M (svI M) k122)<|aA M (iR (eInt .i64).toEnc0 (d:=.int _ _) M M A9 un3 ag3 ti3 A7 (svR M) M k123 B5 M)<|cAI M<|aD ?_);obtain ⟨x124,k124,h⟩:=bS h;obtain ⟨hk125,h⟩:=rO h;obtain ⟨x126,k126,x127,k127,x128,k128,h⟩:=eooo h;obtain ⟨x129,k129,x130,k130,x131,k131,h⟩:=edod h;obtain ⟨x132,k132,x133,k133,x134,k134,h⟩:=eood h;refine zC M [nd2 [2] [0] 32 (.ref 1000 0),nd1 [8] 33 (D4 x123),nd2 [2] [0] 34 (.ref 1000 0),nd2 [3] [1] 35 (D4 a0),nd1 [34] 36 (.ref 1000 0),nd1 [36] 37 (.ref 1000 5),nd1 [35,37] 38 (F2 a0),nd1 [38] 39 (H6 a0),nd2 [39] [1000] 40 (.int .i64 x126.weight),nd2 [2] [0] 41 (.ref 1000 0),nd1 [8] 42 (D4 x123),nd1 [41] 43 (.ref 1000 0),nd1 [43] 44 (.ref 1000 5),nd1 [42,44] 45 (F2 x123),nd1 [45] 46 (H6 x123),nd2 [46] [1000] 47 (.int .i64 x128.weight),nd1 [40,47] 48 (D4 x129),nd2 [4] [2] 49 (D4 v53),nd1 [48,49] 50 (D4 x130),nd1 [50] 51 (D4 x131),nd1 [32] 52 (.ref 1000 0),nd1 [52] 53 (.ref 1000 5),nd1 [33,53] 54 (F2 x123),nd1 [54] 55 (H6 x123),⟨[51,55],[1000],[],[J9 v93 v94 v95 v96 v97 x134 v99 v100.length]⟩] M ?_ D6 ?_
         ·refine .cons (dLd un33 ag33 ti33 M)<|.cons (dMv M)<|.cons (dLd un33 ag33 ti33 M)<|.cons (dLd un3 ag3 ti3 M)<|.cons W8<|.cons (dFa 5 un86 M ti84 M)<|.cons (lop M M fun S hA=>(dS aC.toEnc0 M M A9 un84 ti83 (svaR hA M M) hk125 (svaI hA M M) k124))<|.cons Y0<|.cons (lop M M fun S hA=>(cW aC.toEnc0 (b:=5) (k:=4) (d:=.int _ _) M M A9 un3 ag3 ti3 A7 (svaR hA M M) (agi hA M M) M k126 B5 M))<|.cons (dLd un33 ag33 ti33 M)<|.cons (dMv M)<|.cons W8<|.cons (dFa 5 un86 M ti84 M)<|.cons (lop M M fun S hA=>(dS aC.toEnc0 M M A9 un84 ti83 (svaR hA M M) hk125 (svaI hA M M) k127))<|.cons Y0<|.cons (lop M M fun S hA=>(cW aC.toEnc0 (b:=5) (k:=4) (d:=.int _ _) M M A9 un3 ag3 ti3 A7 (svaR hA M M) (agi hA M M) M k128 B5 M))<|.cons (lop M M fun S hA=>(bD M M A9 (svaI hA M M) (svaI hA M M) M k129))<|.cons (dLd un3 ag3 ti3 M)<|.cons (lop M M fun S hA=>(aC4 M M A9 (svaI hA M M) (svaI hA M M) k130))<|.cons (lop M M fun S hA=>(aAs M M A9 (svaI hA M M) (svi 1 M) k131))<|.cons W8<|.cons (dFa 5 un86 M ti84 M)<|.cons (lop M M fun S hA=>(dS aC.toEnc0 M M A9 un84 ti83 (svaR hA M M) hk125 (svaI hA M M) k132))<|.cons Y0<|.cons (lop M M fun S hA=>(mO aC.toEnc0 (b:=5) (k:=4) (a':=(⟨x133.id,x133.up,x133.first,x133.next,x131,x133.closed⟩:aJ)) M M ti3 (svaR hA M M) (agi hA M M) (svaI hA M M) M M M M k133 B5 M k134)) ?_
          exact .nil
         obtain ⟨x135,k135,x136,k136,x137,k137,h⟩:=eooo h;refine jL M [nd2 [2] [0] 56 (.ref 1000 0),nd1 [8] 57 (D4 x123),nd2 [2] [0] 58 (.ref 1000 0),nd2 [3] [1] 59 (D4 a0),nd1 [58] 60 (.ref 1000 0),nd1 [60] 61 (.ref 1000 5),nd1 [59,61] 62 (F2 a0),nd1 [62] 63 (Q6 a0),nd2 [63] [1000] 64 (.int .i64 x136.up),⟨[56,57,64],[54,55,1000],[(65,.tuple [])],F6 x137.1 x137.2.1 x137.2.2.1 x137.2.2.2.1 x137.2.2.2.2.1 x137.2.2.2.2.2.1 x137.2.2.2.2.2.2.1 x137.2.2.2.2.2.2.2⟩] M ?_ D6 ?_
         ·refine .cons (dLd un33 ag33 ti33 M)<|.cons (dMv M)<|.cons (dLd un33 ag33 ti33 M)<|.cons (dLd un3 ag3 ti3 M)<|.cons W8<|.cons (dFa 5 un86 M ti84 M)<|.cons (lop M M fun S hA=>(dS aC.toEnc0 M M A9 un84 ti83 (svaR hA M M) (lQ k134 hk125) (svaI hA M M) k135))<|.cons d9<|.cons (lop M M fun S hA=>(cW aC.toEnc0 (b:=5) (k:=1) (d:=.int _ _) M M A9 un3 ag3 ti3 A7 (svaR hA M M) (agi hA M M) M k136 B5 M))<|.cons (lop M M fun S hA=>(tR (r':=.tuple []) (U:=F6 x137.1 x137.2.1 x137.2.2.1 x137.2.2.2.1 x137.2.2.2.2.1 x137.2.2.2.2.2.1 x137.2.2.2.2.2.2.1 x137.2.2.2.2.2.2.2) 55 1 [1000,54] M M A9 aGJ u6 M M M V2 D5 (lF _ _ _ _ _ _ _ _ _ _ _ k137) M M B1 B7)) ?_
          exact .nil
         refine bI<|aI ?_;obtain ⟨x138,k138,h⟩:=bN h;refine aS (aA M (bD M M A9 (svI M) (svi 1 M) M k138)<|cI M<|bE ?_);refine aI ⟨(n4,x138,x137.1,x137.2.1,x137.2.2.1,x137.2.2.2.1,x137.2.2.2.2.1,x137.2.2.2.2.2.1,x137.2.2.2.2.2.2.1,x137.2.2.2.2.2.2.2),(fun i=>if i=54 then 55 else i),wkU,?_,?_⟩;exact h;exact Ah _
        ·refine cD<|bC<|bC<|cE<|aI ?_;obtain ⟨x139,k139,h⟩:=bS h;refine aF (cLd (d:=.ref _ _) un33 ag33 ti33 M<|cLd (d:=.int _ _) un3 ag3 ti3 M<|aA M (dQ (r':=.tuple []) (H1':=q7 x139.1 x139.2.1 x139.2.2.1 x139.2.2.2.1 x139.2.2.2.2.1 x139.2.2.2.2.2.1 x139.2.2.2.2.2.2.1 x139.2.2.2.2.2.2.2) 55 [1000,54] M M A9 cl110 Y5 M M X6 (pP _ _ _ _ _ _ _ _ _ _ k139) M M B1 B7)<|aD ?_);obtain ⟨x140,k140,h⟩:=bS h;refine jN M [nd2 [2] [0] 71 (.ref 1000 0),nd2 [2] [0] 72 (.ref 1000 0),nd1 [72] 73 (.ref 1000 0),nd1 [73] 74 (.ref 1000 2),nd2 [74] [1000] 75 (.agg [.slice false (x139.2.2.1.map aX.d),.int .i64 x139.2.2.2.1,.int .i64 x139.2.2.2.2.1]),nd2 [3] [1] 76 (D4 a0),nd1 [75,76] 77 (.tuple (L0 x140.1 x140.2)),nd1 [77] 70 (.tuple (L0 x140.1 x140.2)),nd1 [70] 78 (.agg (tv2 x140.1)),nd1 [70] 79 (D4 x140.2),nd1 [71] 80 (.ref 1000 0),nd1 [80] 81 (.ref 1000 2),⟨[78,81],[1000],[],[(1000,.blk 86 (mixD aC.toEnc0 (w35 x139.1 x139.2.1 x140.1.Cells x140.1.Free x140.1.Used) x139.2.2.2.2.2.1 (I9 x139.2.2.2.2.2.2.1 x139.2.2.2.2.2.2.2.length)))]⟩] M ?_ D6 ?_
         ·refine .cons (dLd un33 ag33 ti33 M)<|.cons (dLd un33 ag33 ti33 M)<|.cons W8<|.cons (dFa 2 un86 M ti80 M)<|.cons r9<|.cons (dLd un3 ag3 ti3 M)<|.cons (lop M M fun S hA=>(bA (r:=.tuple q32) M M A9 cl111 (.cons (svaA q16 hA M M) F0) M (aAY _ _ _ k140)))<|.cons (lop M M fun S hA=>(bM M M A9 (sv (d:=.tuple q32) (agr hA M M))))<|.cons w9<|.cons w7<|.cons W8<|.cons (dFa 2 un86 M ti80 M)<|.cons o5 ?_
          exact .nil
         obtain ⟨hk141,h⟩:=rO h;obtain ⟨x142,k142,h⟩:=bS h;refine jL M [nd2 [2] [0] 82 (.ref 1000 0),nd2 [2] [0] 83 (.ref 1000 0),nd1 [83] 84 (.ref 1000 0),nd1 [84] 85 (.ref 1000 390),nd2 [85] [1000] 86 (.osl 55 (eInt .i64).sz x139.2.2.2.2.2.2.2.length),nd1 [3] 87 (.fn 113 [.ref 1 0]),⟨[86,87],[1,55,56],[(88,.osl 56 (eInt .i64).sz x142.length)],z1 a0 x142⟩,nd1 [82] 89 (.ref 1000 0),nd1 [89] 90 (.ref 1000 390),⟨[88,90],[1000],[],[(1000,.blk 86 (mixD aC.toEnc0 (w35 x139.1 x139.2.1 x140.1.Cells x140.1.Free x140.1.Used) x139.2.2.2.2.2.1 [.int .i64 x139.2.2.2.2.2.2.1,.osl 56 (eInt .i64).sz x142.length]))]⟩] M ?_ D6 ?_
         ·refine .cons (dLd un33 ag33 ti33 M)<|.cons (dLd un33 ag33 ti33 M)<|.cons W8<|.cons (dFa 390 un86 M ti37 M)<|.cons (lop M M fun S hA=>(kR aC.toEnc0 (d:=.osl _ _ _) (n:=64) (k:=1) M M A9 un37 ag37 ti37 A7 (svaR hA M M) (agi hA M M) hk141 I4 B5 I4))<|.cons (lop M M fun S hA=>(mH M M A9 (.cons (svaR hA M M) .nil)))<|.cons (lop M M fun S hA=>(tR (r':=.osl 56 (eInt .i64).sz x142.length) (U:=z1 a0 x142) 56 1 [55,1] M M A9 cl112 T1 M M M V2 P3 (mC _ _ _ k142) M M (Aa.2 ⟨⟨M,M⟩,Aa.2 B8⟩) F8))<|.cons W8<|.cons (dFa 390 un86 M ti37 M)<|.cons (lop M M fun S hA=>(uT aC.toEnc0 (post:=q23) (post':=q23) (n:=64) (k:=1) M M ti37 (svaR hA M M) (agi hA M M) (sv (d:=.osl _ _ _) (agr hA M M)) M M M hk141 I4 B5 I4)) ?_
          exact .nil
         obtain rfl:=sj_ h;refine ⟨.inl M,(fun i=>if i=0 then 56 else i),wkU,.nil,M⟩
  ·refine aR<|aI ?_;obtain ⟨x143,k143,h⟩:=bS h;obtain ⟨hk144,h⟩:=rO h;refine aF (aA M (mvR M M M M)<|cI M<|aA M (aN M M A9 (svR M))<|cFa 5 un86 M ti84 M<|aA M (dS aC.toEnc0 M M A9 un84 ti83 (svR M) hk144 (svI M) k143)<|aA M (cL M M A9 un83 M ti3 A7 (svR M) (k':=2) M)<|aA M (bH M M A9 (svR M))<|aD ?_);refine aU ?_;refine ⟨.inr M,11,_,M1 a0,B0,M,M,⟨[(0,.yld 9),(1,.ref 4 0),P8 a0],[C1,X7 a0,Y3 v53,C3,X4 a0,W6,W4,J7,y0,y3,A0 a1 a2 a3 a4 a5 a6 a7 a8.length,A5 a8]⟩,(fun i=>i),wkU,?_⟩;obtain ⟨x145,k145,h⟩:=bS h;refine aA M (aN M M A9 (svR M))<|aA M (cW aC.toEnc0 (b:=5) (k:=2) (d:=.int _ _) M M A9 un3 ag3 ti3 A7 (svR M) M M k145 B5 M)<|cAI M<|aD ?_;refine aT<|bR (α:=Nat×Int×(List Int)) (fun z=>⟨w5 z.2.1,[y0,C3,W6,W4,y3,A0 a1 a2 a3 a4 a5 a6 a7 a8.length,A5 a8,E7 z.2.2.length,X4 a0,C1,X7 a0,Y3 v53,D2 z.2.2]⟩) (fun z=>iZ a0 a1 a2 a3 a4 a5 a6 a7 a8 v53 z.1 z.2.1 z.2.2=some r) (fun z=>z.1) (fuel,x145.first,([]:(List Int))) (fun i=>if i=32 then 94 else i) wkU ?_ ?_
   ·exact h
   ·rintro ⟨n5,v151,v152⟩ h
    cases n5 with
    | zero=>exact Ay h (by unfold iZ; exact nofun)
    | succ n5 =>
     unfold iZ at h;refine aQ ?_;obtain ⟨x158,k158,h⟩:=bN h;refine aF (cI M<|cCm (b:=(-1)) M k158<|aD ?_);refine aP h M ?_ ?_<;>intro h
     ·refine aR<|aI<|aT ?_;obtain ⟨x160,k160,x161,k161,h⟩:=eoo h;refine aF (cLd (d:=.ref _ _) un33 ag33 ti33 M<|cI M<|aA M (aN M M A9 (svR M))<|cFa 5 un86 M ti84 M<|aA M (dS aC.toEnc0 M M A9 un84 ti83 (svR M) hk144 (svI M) k160)<|aA M (cL M M A9 un83 M ti3 A7 (svR M) (k':=3) M)<|aA M (cW aC.toEnc0 (b:=5) (k:=3) (d:=.int _ _) M M A9 un3 ag3 ti3 A7 (svR M) M M k161 B5 M)<|cAI M<|aD ?_);refine aQ<|aF (cMv (.yld _) M<|cI M <|?_);refine iS (S':=⟨[(0,.yld 9),(1,.ref 4 0),(5,.int .i64 x161.next),(20,.yld 9),I6 v151],[C1,X7 a0,Y3 v53,C3,X4 a0,W6,W4,E7 v152.length,y0,y3,D2 v152,A0 a1 a2 a3 a4 a5 a6 a7 a8.length,A5 a8]⟩) (fun i=>i) wkU<|sL 4 9 33 M M M A7 M B9 M M M M M M hO3.round hlc3 ⟨[L8 v151,(2,.ref 8 0)],[C1,X7 a0,Y3 v53,C3,X4 a0,W6,W4,E7 v152.length,y0,y3,D2 v152,(33,.kept 4 (kp_ 25 [(0,.yld 9),(1,.ref 4 0),(5,.int .i64 x161.next),(20,.yld 9),I6 v151])),A0 a1 a2 a3 a4 a5 a6 a7 a8.length,A5 a8]⟩ (fun i=>i) wkU fun O4=>?_
      refine aS (cAI M<|bE ?_);refine ⟨M,9,_,M,⟨[(2,.ref 8 0),N5 v151],[C1,X7 a0,Y3 v53,C3,X4 a0,W6,W4,E7 v152.length,y6,y3,D2 v152,(33,.kept 4 (kp_ 25 [(0,.yld 9),(1,.ref 4 0),(5,.int .i64 x161.next),(20,.yld 9),I6 v151])),A0 a1 a2 a3 a4 a5 a6 a7 a8.length,A5 a8]⟩,(fun i=>i),wkU,?_⟩;refine aT ?_;obtain ⟨x162,k162,h⟩:=bS h;refine aS (cLd (d:=.osl _ _ _) un37 ag37 ti37 M<|cI M<|aA M (oT (eInt .i64).toEnc0 ([v151]:(List Int)) 34 M M A9 un37 ti3 M B9 M M A7)<|aA M (lK (eInt .i64).toEnc0 35 M M A9 un37 ti3 M M M M M (vT (eInt .i64).toEnc0 M M M) k162)<|aA M (dA (ds':=[.osl _ _ _]) M M ti37 (svR M) M (svo M) M M M B5 M)<|bE ?_);refine bI ?_;refine ⟨9,33,_,_,none,M,M,M,M,A7,⟨[(0,.yld 9),(1,.ref 4 0),(5,.int .i64 x161.next),R8],[C1,X7 a0,Y3 v53,C3,X4 a0,W6,W4,R0 x162.length,y0,y3,R2 x162,A0 a1 a2 a3 a4 a5 a6 a7 a8.length,A5 a8]⟩,(fun i=>i),wkU,?_⟩;refine aA M (eP M M A9 (svB M))<|aD ?_;refine kF M M<|aR<|aI<|aS (cI M<|cAI M<|bE ?_);refine bI<|aI ⟨(n5,x161.next,x162),(fun i=>if i=32 then 35 else i),wkU,?_,?_⟩;exact h;exact Ah _
     ·refine cD<|bC<|bC<|cE ?_;refine ⟨.inl M,9,10,_,_,_,_,M,R5,M,M,⟨[(2,.ref 8 0)],[C1,X7 a0,Y3 v53,C3,X4 a0,W6,W4,E7 v152.length,D2 v152,A0 a1 a2 a3 a4 a5 a6 a7 a8.length,A5 a8]⟩,(fun i=>i),wkU,?_⟩;refine bI<|aI<|aF (cLd (d:=.osl _ _ _) un37 ag37 ti37 M<|cAs (.osl _ _ _) M<|aD ?_);refine aU ?_;refine ⟨.inr M,7,_,F1 v152.length,B0,M,M,⟨V0 v152.length,[C1,X7 a0,Y3 v53,C3,X4 a0,W6,D2 v152,A0 a1 a2 a3 a4 a5 a6 a7 a8.length,A5 a8]⟩,(fun i=>i),wkU,?_⟩;refine cAs (.osl _ _ _) M<|aD ?_;refine aU ?_;refine ⟨.inr M,6,_,F1 v152.length,B0,M,M,y9 v152 a0 v53 a1 a2 a3 a4 a5 a6 a7 a8,(fun i=>i),wkU,?_⟩;refine cAs (.osl _ _ _) M<|aD ?_;refine aQ<|aF (cMv (.osl _ _ _) M<|aA M (oS M M A9 un37 (svo M))<|cMv (.int _ 0) M<|aD ?_);refine aT<|bR (α:=Nat×Int×Int×Int×(List aK)×Int×Int×(List aJ)×Int×(List Int)) (fun z=>⟨P1 v152.length z.2.1,[C1,X7 a0,Y3 v53,D2 v152,J9 z.2.2.1 z.2.2.2.1 z.2.2.2.2.1 z.2.2.2.2.2.1 z.2.2.2.2.2.2.1 z.2.2.2.2.2.2.2.1 z.2.2.2.2.2.2.2.2.1 z.2.2.2.2.2.2.2.2.2.length,(54,.blk 3 (Ac (z.2.2.2.2.2.2.2.2.2.map (eInt .i64).d)))]⟩) (fun z=>dY a0 v53 v152 z.1 z.2.1 z.2.2.1 z.2.2.2.1 z.2.2.2.2.1 z.2.2.2.2.2.1 z.2.2.2.2.2.2.1 z.2.2.2.2.2.2.2.1 z.2.2.2.2.2.2.2.2.1 z.2.2.2.2.2.2.2.2.2=some r) (fun z=>z.1) (fuel,0,a1,a2,a3,a4,a5,a6,a7,a8) (fun i=>if i=54 then 1001 else i) wkU ?_ ?_
      ·exact h
      ·rintro ⟨n6,v181,v182,v183,v184,v185,v186,v187,v188,v189⟩ h
       cases n6 with
       | zero=>exact Ay h (by unfold dY; exact nofun)
       | succ n6 =>
        unfold dY at h;obtain ⟨x209,k209,h⟩:=bN h;refine aF (cCm M k209<|aD ?_);refine aQ<|aP h M ?_ ?_<;>intro h
        ·refine aR<|aI<|aQ<|aT ?_;obtain ⟨x211,k211,x212,k212,h⟩:=eoo h;refine aF (aA M (fS (eInt .i64).toEnc0 M M A9 un37 ti3 (svo M) M (svI M) k211)<|aA M (iR (eInt .i64).toEnc0 (d:=.int _ _) M M A9 un3 ag3 ti3 A7 (svR M) M k212 B5 M)<|cAI M<|aD ?_);obtain ⟨x213,k213,h⟩:=bS h;obtain ⟨hk214,h⟩:=rO h;obtain ⟨x215,k215,x216,k216,x217,k217,h⟩:=eooo h;obtain ⟨x218,k218,x219,k219,x220,k220,h⟩:=edod h;obtain ⟨x221,k221,x222,k222,x223,k223,h⟩:=eood h;refine zC M [nd2 [2] [0] 32 (.ref 1000 0),nd1 [8] 33 (D4 x212),nd2 [2] [0] 34 (.ref 1000 0),nd2 [3] [1] 35 (D4 a0),nd1 [34] 36 (.ref 1000 0),nd1 [36] 37 (.ref 1000 5),nd1 [35,37] 38 (F2 a0),nd1 [38] 39 (H6 a0),nd2 [39] [1000] 40 (.int .i64 x215.weight),nd2 [2] [0] 41 (.ref 1000 0),nd1 [8] 42 (D4 x212),nd1 [41] 43 (.ref 1000 0),nd1 [43] 44 (.ref 1000 5),nd1 [42,44] 45 (F2 x212),nd1 [45] 46 (H6 x212),nd2 [46] [1000] 47 (.int .i64 x217.weight),nd1 [40,47] 48 (D4 x218),nd2 [4] [2] 49 (D4 v53),nd1 [48,49] 50 (D4 x219),nd1 [50] 51 (D4 x220),nd1 [32] 52 (.ref 1000 0),nd1 [52] 53 (.ref 1000 5),nd1 [33,53] 54 (F2 x212),nd1 [54] 55 (H6 x212),⟨[51,55],[1000],[],[J9 v182 v183 v184 v185 v186 x223 v188 v189.length]⟩] M ?_ D6 ?_
         ·refine .cons (dLd un33 ag33 ti33 M)<|.cons (dMv M)<|.cons (dLd un33 ag33 ti33 M)<|.cons (dLd un3 ag3 ti3 M)<|.cons W8<|.cons (dFa 5 un86 M ti84 M)<|.cons (lop M M fun S hA=>(dS aC.toEnc0 M M A9 un84 ti83 (svaR hA M M) hk214 (svaI hA M M) k213))<|.cons Y0<|.cons (lop M M fun S hA=>(cW aC.toEnc0 (b:=5) (k:=4) (d:=.int _ _) M M A9 un3 ag3 ti3 A7 (svaR hA M M) (agi hA M M) M k215 B5 M))<|.cons (dLd un33 ag33 ti33 M)<|.cons (dMv M)<|.cons W8<|.cons (dFa 5 un86 M ti84 M)<|.cons (lop M M fun S hA=>(dS aC.toEnc0 M M A9 un84 ti83 (svaR hA M M) hk214 (svaI hA M M) k216))<|.cons Y0<|.cons (lop M M fun S hA=>(cW aC.toEnc0 (b:=5) (k:=4) (d:=.int _ _) M M A9 un3 ag3 ti3 A7 (svaR hA M M) (agi hA M M) M k217 B5 M))<|.cons (lop M M fun S hA=>(bD M M A9 (svaI hA M M) (svaI hA M M) M k218))<|.cons (dLd un3 ag3 ti3 M)<|.cons (lop M M fun S hA=>(aC4 M M A9 (svaI hA M M) (svaI hA M M) k219))<|.cons (lop M M fun S hA=>(aAs M M A9 (svaI hA M M) (svi 1 M) k220))<|.cons W8<|.cons (dFa 5 un86 M ti84 M)<|.cons (lop M M fun S hA=>(dS aC.toEnc0 M M A9 un84 ti83 (svaR hA M M) hk214 (svaI hA M M) k221))<|.cons Y0<|.cons (lop M M fun S hA=>(mO aC.toEnc0 (b:=5) (k:=4) (a':=(⟨x222.id,x222.up,x222.first,x222.next,x220,x222.closed⟩:aJ)) M M ti3 (svaR hA M M) (agi hA M M) (svaI hA M M) M M M M k222 B5 M k223)) ?_
          exact .nil
         obtain ⟨x224,k224,x225,k225,x226,k226,h⟩:=eooo h;refine jL M [nd2 [2] [0] 56 (.ref 1000 0),nd1 [8] 57 (D4 x212),nd2 [2] [0] 58 (.ref 1000 0),nd2 [3] [1] 59 (D4 a0),nd1 [58] 60 (.ref 1000 0),nd1 [60] 61 (.ref 1000 5),nd1 [59,61] 62 (F2 a0),nd1 [62] 63 (Q6 a0),nd2 [63] [1000] 64 (.int .i64 x225.up),⟨[56,57,64],[54,55,1000],[(65,.tuple [])],F6 x226.1 x226.2.1 x226.2.2.1 x226.2.2.2.1 x226.2.2.2.2.1 x226.2.2.2.2.2.1 x226.2.2.2.2.2.2.1 x226.2.2.2.2.2.2.2⟩] M ?_ D6 ?_
         ·refine .cons (dLd un33 ag33 ti33 M)<|.cons (dMv M)<|.cons (dLd un33 ag33 ti33 M)<|.cons (dLd un3 ag3 ti3 M)<|.cons W8<|.cons (dFa 5 un86 M ti84 M)<|.cons (lop M M fun S hA=>(dS aC.toEnc0 M M A9 un84 ti83 (svaR hA M M) (lQ k223 hk214) (svaI hA M M) k224))<|.cons d9<|.cons (lop M M fun S hA=>(cW aC.toEnc0 (b:=5) (k:=1) (d:=.int _ _) M M A9 un3 ag3 ti3 A7 (svaR hA M M) (agi hA M M) M k225 B5 M))<|.cons (lop M M fun S hA=>(tR (r':=.tuple []) (U:=F6 x226.1 x226.2.1 x226.2.2.1 x226.2.2.2.1 x226.2.2.2.2.1 x226.2.2.2.2.2.1 x226.2.2.2.2.2.2.1 x226.2.2.2.2.2.2.2) 55 1 [1000,54] M M A9 aGJ u6 M M M V2 D5 (lF _ _ _ _ _ _ _ _ _ _ _ k226) M M B1 B7)) ?_
          exact .nil
         refine bI<|aI ?_;obtain ⟨x227,k227,h⟩:=bN h;refine aS (aA M (bD M M A9 (svI M) (svi 1 M) M k227)<|cI M<|bE ?_);refine aI ⟨(n6,x227,x226.1,x226.2.1,x226.2.2.1,x226.2.2.2.1,x226.2.2.2.2.1,x226.2.2.2.2.2.1,x226.2.2.2.2.2.2.1,x226.2.2.2.2.2.2.2),(fun i=>if i=54 then 55 else i),wkU,?_,?_⟩;exact h;exact Ah _
        ·refine cD<|bC<|bC<|cE<|aI ?_;obtain ⟨x228,k228,h⟩:=bS h;refine aF (cLd (d:=.ref _ _) un33 ag33 ti33 M<|cLd (d:=.int _ _) un3 ag3 ti3 M<|aA M (dQ (r':=.tuple []) (H1':=q7 x228.1 x228.2.1 x228.2.2.1 x228.2.2.2.1 x228.2.2.2.2.1 x228.2.2.2.2.2.1 x228.2.2.2.2.2.2.1 x228.2.2.2.2.2.2.2) 55 [1000,54] M M A9 cl110 Y5 M M X6 (pP _ _ _ _ _ _ _ _ _ _ k228) M M B1 B7)<|aD ?_);obtain ⟨x229,k229,h⟩:=bS h;refine jN M [nd2 [2] [0] 71 (.ref 1000 0),nd2 [2] [0] 72 (.ref 1000 0),nd1 [72] 73 (.ref 1000 0),nd1 [73] 74 (.ref 1000 2),nd2 [74] [1000] 75 (.agg [.slice false (x228.2.2.1.map aX.d),.int .i64 x228.2.2.2.1,.int .i64 x228.2.2.2.2.1]),nd2 [3] [1] 76 (D4 a0),nd1 [75,76] 77 (.tuple (L0 x229.1 x229.2)),nd1 [77] 70 (.tuple (L0 x229.1 x229.2)),nd1 [70] 78 (.agg (tv2 x229.1)),nd1 [70] 79 (D4 x229.2),nd1 [71] 80 (.ref 1000 0),nd1 [80] 81 (.ref 1000 2),⟨[78,81],[1000],[],[(1000,.blk 86 (mixD aC.toEnc0 (w35 x228.1 x228.2.1 x229.1.Cells x229.1.Free x229.1.Used) x228.2.2.2.2.2.1 (I9 x228.2.2.2.2.2.2.1 x228.2.2.2.2.2.2.2.length)))]⟩] M ?_ D6 ?_
         ·refine .cons (dLd un33 ag33 ti33 M)<|.cons (dLd un33 ag33 ti33 M)<|.cons W8<|.cons (dFa 2 un86 M ti80 M)<|.cons r9<|.cons (dLd un3 ag3 ti3 M)<|.cons (lop M M fun S hA=>(bA (r:=.tuple q32) M M A9 cl111 (.cons (svaA q16 hA M M) F0) M (aAY _ _ _ k229)))<|.cons (lop M M fun S hA=>(bM M M A9 (sv (d:=.tuple q32) (agr hA M M))))<|.cons w9<|.cons w7<|.cons W8<|.cons (dFa 2 un86 M ti80 M)<|.cons o5 ?_
          exact .nil
         obtain ⟨hk230,h⟩:=rO h;obtain ⟨x231,k231,h⟩:=bS h;refine jL M [nd2 [2] [0] 82 (.ref 1000 0),nd2 [2] [0] 83 (.ref 1000 0),nd1 [83] 84 (.ref 1000 0),nd1 [84] 85 (.ref 1000 390),nd2 [85] [1000] 86 (.osl 55 (eInt .i64).sz x228.2.2.2.2.2.2.2.length),nd1 [3] 87 (.fn 113 [.ref 1 0]),⟨[86,87],[1,55,56],[(88,.osl 56 (eInt .i64).sz x231.length)],z1 a0 x231⟩,nd1 [82] 89 (.ref 1000 0),nd1 [89] 90 (.ref 1000 390),⟨[88,90],[1000],[],[(1000,.blk 86 (mixD aC.toEnc0 (w35 x228.1 x228.2.1 x229.1.Cells x229.1.Free x229.1.Used) x228.2.2.2.2.2.1 [.int .i64 x228.2.2.2.2.2.2.1,.osl 56 (eInt .i64).sz x231.length]))]⟩] M ?_ D6 ?_
         ·refine .cons (dLd un33 ag33 ti33 M)<|.cons (dLd un33 ag33 ti33 M)<|.cons W8<|.cons (dFa 390 un86 M ti37 M)<|.cons (lop M M fun S hA=>(kR aC.toEnc0 (d:=.osl _ _ _) (n:=64) (k:=1) M M A9 un37 ag37 ti37 A7 (svaR hA M M) (agi hA M M) hk230 I4 B5 I4))<|.cons (lop M M fun S hA=>(mH M M A9 (.cons (svaR hA M M) .nil)))<|.cons (lop M M fun S hA=>(tR (r':=.osl 56 (eInt .i64).sz x231.length) (U:=z1 a0 x231) 56 1 [55,1] M M A9 cl112 T1 M M M V2 P3 (mC _ _ _ k231) M M (Aa.2 ⟨⟨M,M⟩,Aa.2 B8⟩) F8))<|.cons W8<|.cons (dFa 390 un86 M ti37 M)<|.cons (lop M M fun S hA=>(uT aC.toEnc0 (post:=q23) (post':=q23) (n:=64) (k:=1) M M ti37 (svaR hA M M) (agi hA M M) (sv (d:=.osl _ _ _) (agr hA M M)) M M M hk230 I4 B5 I4)) ?_
          exact .nil
         obtain rfl:=sj_ h;refine ⟨.inl M,(fun i=>if i=0 then 56 else i),wkU,.nil,M⟩
end Go.Proofs.YtbacpjjiklkgfaaGreat
open Go.IntKind renaming wrap → Af
open Int renaming toNat_natCast → As
open List renaming append_assoc → AA,drop_append_of_le_length → Bn,length → Em,length_append → AO,length_drop → BV,length_eq_zero_iff → AV,length_map → An,length_nil → Cj,length_replicate → CC,length_take → Bm,replicate → AK,take_append_drop → AX,take_append_of_le_length → AT,take_length → Cx
open Nat renaming add_mul → Bw,le_add_right → Db,le_refl → AP,min_eq_left → Cg,mul_le_mul_right → AU,sub_zero → DW,zero_add → Bj,zero_mul → CY
set_option maxRecDepth 8000
set_option maxHeartbeats 2000000
open Go Go.IL Go.Fn Go.Proofs
open Go.Proofs.Tryz
namespace Go.Proofs.YtbacpjjiklkgfaaGreat
theorem ti26:TI FY 26 (some (.agg #[.int .i64 0,.int .i64 0,.int .i64 0])) 3 24:=ktq
theorem ti44:TI FY 44 (some (.slice none 0 0)) 1 24:=ktq
theorem ti46:TI FY 46 (some (.agg #[.int .i64 0,.slice none 0 0])) 2 32:=ktq
theorem ti88:TI FY 88 (some (.agg #[.int .i64 0,.int .i64 0,.bool false])) 3 24:=ktq
theorem aFn:TI FY 102 (some (.map none)) 1 8:=ktq
theorem yH:TI FY 109 (some (.agg #[.int .i64 0,.int .i64 0,.int .i64 0,.bool false])) 4 32:=ktq
theorem ag26:kT FY 26=true:=kkq
theorem ag44:kT FY 44=false:=kkq
theorem ag46:kT FY 46=true:=kkq
theorem ag83:kT FY 83=true:=kkq
theorem ag88:kT FY 88=true:=kkq
theorem ag102:kT FY 102=false:=kkq
theorem ex120:aDO FY 120 (Extern.SlicesOverlaps.overlaps #[39,39] #[4]):=⟨f120,func120,by kernel_rfl,by kernel_rfl,by kernel_rfl,by kernel_rfl⟩
theorem pl109:∀ w,(CO (m:=Sem) (fun (f:Field)=>Functor.map (Prod.mk f.offset) (sizeOf f.type)) (fieldsOf FY 109)).run FY w = .ok #[(0,1),(1,1),(2,1),(3,1)] w:=fun w=>by kernel_rfl
theorem pl46:∀ w,(CO (m:=Sem) (fun (f:Field)=>Functor.map (Prod.mk f.offset) (sizeOf f.type)) (fieldsOf FY 46)).run FY w = .ok #[(0,1),(1,1)] w:=fun w=>by kernel_rfl
theorem pl83:∀ w,(CO (m:=Sem) (fun (f:Field)=>Functor.map (Prod.mk f.offset) (sizeOf f.type)) (fieldsOf FY 83)).run FY w = .ok #[(0,1),(1,1),(2,1),(3,1),(4,1),(5,1)] w:=fun w=>by kernel_rfl
theorem pl88:∀ w,(CO (m:=Sem) (fun (f:Field)=>Functor.map (Prod.mk f.offset) (sizeOf f.type)) (fieldsOf FY 88)).run FY w = .ok #[(0,1),(1,1),(2,1)] w:=fun w=>by kernel_rfl
theorem cl34:bB FY 34:=⟨_,func34,rfl,rfl⟩
theorem cl35:bB FY 35:=⟨_,func35,rfl,rfl⟩
theorem cl36:bB FY 36:=⟨_,func36,rfl,rfl⟩
theorem cl44:bB FY 44:=⟨_,func44,rfl,rfl⟩
theorem cl45:bB FY 45:=⟨_,func45,rfl,rfl⟩
theorem cl46:bB FY 46:=⟨_,func46,rfl,rfl⟩
theorem cl47:bB FY 47:=⟨_,func47,rfl,rfl⟩
theorem cl48:bB FY 48:=⟨_,func48,rfl,rfl⟩
theorem cl49:bB FY 49:=⟨_,func49,rfl,rfl⟩
theorem cl50:bB FY 50:=⟨_,func50,rfl,rfl⟩
theorem cl54:bB FY 54:=⟨_,func54,rfl,rfl⟩
theorem cl76:bB FY 76:=⟨_,func76,rfl,rfl⟩
theorem cl77:bB FY 77:=⟨_,func77,rfl,rfl⟩
theorem cl79:bB FY 79:=⟨_,func79,rfl,rfl⟩
theorem cl80:bB FY 80:=⟨_,func80,rfl,rfl⟩
theorem cl81:bB FY 81:=⟨_,func81,rfl,rfl⟩
theorem cl83:bB FY 83:=⟨_,func83,rfl,rfl⟩
theorem cl88:bB FY 88:=⟨_,func88,rfl,rfl⟩
theorem cl89:bB FY 89:=⟨_,func89,rfl,rfl⟩
theorem cl90:bB FY 90:=⟨_,func90,rfl,rfl⟩
theorem cl95:bB FY 95:=⟨_,func95,rfl,rfl⟩
theorem cl96:bB FY 96:=⟨_,func96,rfl,rfl⟩
theorem cl101:bB FY 101:=⟨_,func101,rfl,rfl⟩
theorem cl116:bB FY 116:=⟨_,func116,rfl,rfl⟩
def la26:=LA.mk underlying26 ag26 ti26 (by decide)
def la44:=LA.mk underlying44 ag44 ti44 (by decide)
def la46:=LA.mk underlying46 ag46 ti46 (by decide)
def la88:=LA.mk underlying88 ag88 ti88 (by decide)
def la161:=LA.mk underlying161 aID qY (by decide)


variable{p:Prop}
theorem y7(h:p:=by exact ⟨.inr M,_,(.cons (rva la80 M M B5 M) Z2),J5⟩):p:=h
theorem j1(h:p:=by exact lop M M fun S hA=>(bH M M A9 (svaI hA M M))):p:=h
theorem aDd(a0:bQ)(a1:Int)(r:bQ×Int×Int)(h:rX a0 a1=some r):dH FY 81 (L0 a0 a1) (retD [.agg (tv2 r.1),.int .i64 r.2.1,.int .i64 r.2.2]):=by
 refine nM (rs:=[.agg (tv2 r.1),.int .i64 r.2.1,.int .i64 r.2.2]) func81 M ntmps81 B5 M fun O hO=>sta ⟨[U5 a0,D3 a1],[]⟩ ?_;unfold rX at h;refine aF (cBx (cs:=q16) q16 0 M<|aA M (cF (cs:=q22) (cs':=G4) 1 M M A9 M ti80 M M L4)<|cAs (.int _ 0) M<|cAs (.int _ 0) M<|aD ?_);obtain ⟨x1,k1,h⟩:=bS h;refine aF (cLr q16 la80 M<|aA M (dQ (r':=.agg [.osl 2 aX.sz x1.1.length,.int .i64 x1.2.1,.int .i64 x1.2.2]) (H1':=[(2,.blk 161 (Ac (x1.1.map aX.d)))]) 2 [] M M A9 cl114 K8 M M Q4 (tO _ _ k1) M M (Aa.2 ⟨⟨M,(cC aX)⟩,Ab _⟩) F8)<|aA M (cF (cs:=q22) (cs':=G4) 3 M M A9 M ti80 M M L4)<|cSt q17 q17 ti80 M<|aD ?_);refine aQ ?_;obtain ⟨x2,k2,h⟩:=bS h;refine aF (cLr q16 la80 M<|aA M (bA (r:=.int _ _) M M A9 cl106 K8 M (vC _ _ k2))<|cAI M<|aD ?_);obtain ⟨x3,k3,h⟩:=bN h;refine aF (cI M<|cCm (b:=0) M k3<|aD ?_);refine aP h M ?_ ?_<;>intro h
 ·refine aF (cLr q17 la80 M<|cI M<|cSt q17 q17 ti80 M<|cAs (.int _ 0) M<|cAI M<|aD ?_);refine aU<|aY ?_;obtain rfl:=sj_ h;refine y7
 ·refine aR<|aI<|aQ ?_;obtain ⟨x5,k5,h⟩:=bN h;refine aF (cFa 2 un80 M ti3 M<|cLd (d:=.int _ _) un3 ag3 ti3 M<|cCm (b:=64) M k5<|aD ?_);refine aP h M ?_ ?_<;>intro h
  ·refine aF (cLr q17 la80 M<|cSt q17 q17 ti80 M<|cAs (.int _ 0) M<|cAs (.int _ 7) M<|aD ?_);refine aU<|aY ?_;obtain rfl:=sj_ h;refine y7
  ·refine aR<|aI ?_;obtain ⟨x7,k7,h⟩:=bN h;refine aF (cFa 2 un80 M ti3 M<|cLd (d:=.int _ _) un3 ag3 ti3 M<|aA M (bD M M A9 (svI M) (svi 1 M) M k7)<|cFa 2 un80 M ti3 M<|aA M (dA (ds':=q17) M M ti3 (svR M) M (svI M) M M M B5 M)<|aD ?_);refine aF (cI M<|aA M (cZ (cs:=q20) M M A9 vS qY pl161 M (.cons (sv (d:=.bool true) M) B9) M)<|aA M (cF (cs:=q20) (cs':=U1) 4 M M A9 M qY M M (.all _))<|cSt q20 q20 qY M<|aD ?_);refine aF (cFa 1 un80 M ti3 M<|cLd (d:=.int _ _) un3 ag3 ti3 M<|cAI M<|aD ?_);refine aQ ?_;obtain ⟨x8,k8,h⟩:=bN h;refine aF (cI M<|cCm (b:=(-1)) M k8<|aD ?_);refine aP h M ?_ ?_<;>intro h
   ·obtain ⟨x10,k10,h⟩:=bS h;refine aF (cFa 0 un80 M ti78 M<|cLd (d:=.osl _ _ _) un78 ag78 ti78 M<|cLr q20 la161 M<|aA M (oT aX.toEnc0 ([(⟨true,a1,0⟩:aK)]:(List aK)) 5 M M A9 un78 qY M (.cons (svA q20 M) .nil) M M A7)<|aA M (lK aX.toEnc0 6 M M A9 un78 qY M M M M M (vT aX.toEnc0 M M M) k10)<|cFa 0 un80 M ti78 M<|aA M (dA (ds':=q17) M M ti78 (svR M) M (svo M) M M M B5 M)<|aD ?_);refine jN M [nd2 [7] [3] 39 (.agg [.osl 6 aX.sz x10.length,.int .i64 x1.2.1,.int .i64 x7]),nd1 [2] 40 (.ref 0 0),nd2 [40] [0] 41 (.slice false (a0.Cells.map aX.d)),nd1 [41] 42 (.int .i64 (a0.Cells.length:Int)),⟨[4,39],[1],[],[(1,.blk 80 [.osl 6 aX.sz x10.length,.int .i64 x1.2.1,.int .i64 x7])]⟩,nd1 [42] 5 (.int .i64 (a0.Cells.length:Int)),nd1 [] 6 (.int .i64 0)] M ?_ D6 ?_
    ·refine .cons (dLa un80 ag80 ti80 M)<|.cons (dFa 0 un80 M ti78 M)<|.cons (dLd un78 ag78 ti78 M)<|.cons (lop M M fun S hA=>(bT aX (l:=a0.Cells) M M A9 un78 (svaL hA M M)))<|.cons (dSt q17 ti80 M)<|.cons j1<|.cons (lop M M fun S hA=>(tAs (.int _ 0) M)) ?_
     exact .nil
    refine aU<|aY ?_;obtain rfl:=sj_ h;refine y7
   ·refine aR<|aI ?_;obtain ⟨x11,k11,x12,k12,h⟩:=eoo h;refine aF (cFa 0 un80 M ti78 M<|cLd (d:=.osl _ _ _) un78 ag78 ti78 M<|cI M<|aA M (fS aX.toEnc0 M M A9 un78 qY (svo M) M (svI M) k11)<|aA M (gY M M A9 vS M ti3 A7 (svR M) (k':=2) M)<|aA M (iR aX.toEnc0 (d:=.int _ _) M M A9 un3 ag3 ti3 A7 (svR M) M k12 B5 M)<|cFa 1 un80 M ti3 M<|aA M (dA (ds':=q17) M M ti3 (svR M) M (svI M) M M M B5 M)<|aD ?_);obtain ⟨x13,k13,x14,k14,x15,k15,h⟩:=eood h;refine aF (cFa 0 un80 M ti78 M<|cLd (d:=.osl _ _ _) un78 ag78 ti78 M<|cI M<|cLr q20 la161 M<|aA M (fS aX.toEnc0 M M A9 un78 qY (svo M) M (svI M) k13)<|aA M (lG aX.toEnc0 (a':=(⟨true,a1,0⟩:aK)) M M qY (svR M) M (svA q20 M) M M M k14 B5 M k15)<|aD ?_);refine aF (cLr q17 la80 M<|cI M<|cSt q17 q17 ti80 M<|cAI M<|cAs (.int _ 0) M<|aD ?_);refine aU ?_;obtain rfl:=sj_ h;refine ⟨.inr M,_,(.cons (rva la80 M M B5 M) Z2),(.cons (.agg (.cons (FDT aX M (lQ k15 M)) (.all _))) (.all _))⟩

theorem wZ(a0 a1 a2 a3:Int)(a4:List aK)(a5 a6:Int)(a7:List aJ)(a8:Int)(a9:List Int)(r:Bool)(h:nN a0 a1 a2 a3 a4 a5 a6 a7 a8 a9=some r):FnH FY 116 [.ref 1000 0,.int .i64 a0,.int .i64 a1] (X0 a2 a3 a4 a5 a6 a7 a8 a9) (.bool r) (X0 a2 a3 a4 a5 a6 a7 a8 a9):=by
 refine dX (rs:=[.bool r]) func116 M ntmps116 B5 fun O hO=>sta ⟨[D0,D3 a0,H7 a1],X0 a2 a3 a4 a5 a6 a7 a8 a9⟩ ?_;unfold nN at h;refine aF (cAs (.bool false) M<|aD ?_);refine aQ<|aT<|bR (α:=Nat×Int) (fun z=>⟨[D0,D3 z.2,H7 a1],X0 a2 a3 a4 a5 a6 a7 a8 a9⟩) (fun z=>fR a1 a7 z.1 z.2=some r) (fun z=>z.1) (fuel,a0) (fun i=>i) wkU ?_ ?_
 ·exact h
 ·rintro ⟨n0,v8⟩ h
  cases n0 with
  | zero=>exact Ay h (by unfold fR; exact nofun)
  | succ n0 =>
   unfold fR at h;refine aQ ?_;obtain ⟨x16,k16,h⟩:=bN h;refine aF (cI M<|cCm (b:=(-1)) M k16<|aD ?_);refine aP h M ?_ ?_<;>intro h
   ·refine aR<|aI<|aT ?_;obtain ⟨x18,k18,h⟩:=bS h;obtain ⟨hk19,h⟩:=rO h;obtain ⟨x20,k20,h⟩:=bS h;refine aF (aA M (mvR M M M M)<|cI M<|aA M (aN M M A9 (svR M))<|cFa 5 un86 M ti84 M<|aA M (dS aC.toEnc0 M M A9 un84 ti83 (svR M) hk19 (svI M) k18)<|aA M (cL M M A9 un83 M ti3 A7 (svR M) (k':=1) M)<|aA M (cW aC.toEnc0 (b:=5) (k:=1) (d:=.int _ _) M M A9 un3 ag3 ti3 A7 (svR M) M M k20 B5 M)<|cAI M<|aD ?_);obtain ⟨x21,k21,h⟩:=bN h;refine aF (cI M<|cI M<|cCm M k21<|aD ?_);refine aP h M ?_ ?_<;>intro h
    ·refine aF (cAs (.bool true) M<|aD ?_);refine aU<|bU<|aY<|bU<|aY ?_;obtain rfl:=sj_ h;refine Y4
    ·refine aR<|bI<|aI ⟨(n0,x20.up),(fun i=>i),wkU,?_,?_⟩;exact h;exact Ah _
   ·refine cD<|bC<|bC<|cE<|aI<|aF (cAs (.bool false) M<|aD ?_);refine aU ?_;obtain rfl:=sj_ h;refine Y4

theorem Y2(h:p:=by exact ⟨by decide,M,Aa.2 A8⟩):p:=h
theorem E0(h:p:=by exact Aa.2 ⟨M,Aa.2 ⟨M,Ab _⟩⟩):p:=h
theorem V7(h:p:=by exact fun hb=>(mvR M M M M)):p:=h
abbrev B4:=fun a b c d e f g i=>((1000,.blk 86 (mixD aC.toEnc0 (w35 a b c d e) f [.int .i64 g,.osl 2 (eInt .i64).sz i])):Nat×Ent)
abbrev C7:=fun a=>((2,.blk 3 (Ac ((List.map (eInt .i64).d a)))):Nat×Ent)
abbrev X1:=fun a=>((6,.kept 1 (kp_ 71 [D0,D3 a,(56,.fn 139 B3)])):Nat×Ent)
abbrev z2:=fun a b c d e f g i j k=>([C7 a,C3,X4 b,X1 c,W4,J7,y0,y3,B4 d e f g i j k (List.length a)]:List (Nat×Ent))
abbrev W3:=fun a=>((57,.osl 32 (eInt .i64).sz a):Nat×D)
abbrev u7:=fun a b c d e f g i j k l=>(⟨[D0,D3 a,W3 (List.length b),(58,.int .i64 ((List.length b):Int)),(59,.int .i64 c)],[B4 d e f g i j k (List.length l),D2 b,C7 l]⟩:St)
abbrev O7:=fun a b c d e f g i=>([(1000,.blk 86 (mixD aC.toEnc0 (w35 a b c d e) f [.int .i64 g,.osl 33 (eInt .i64).sz (List.length i)])),(33,.blk 3 (Ac ((List.map (eInt .i64).d i))))]:List (Nat×Ent))
theorem sW(a0:Int)(a1:jE)(a2 a3:Int)(a4:List aK)(a5 a6:Int)(a7:List aJ)(a8:Int)(a9:List Int)(r:Int×Int×(List aK)×Int×Int×(List aJ)×Int×(List Int))(h:jO a0 a1 a2 a3 a4 a5 a6 a7 a8 a9=some r):FnH FY 83 [.ref 1000 0,.int .i64 a0,.agg (tv6 a1)] (X0 a2 a3 a4 a5 a6 a7 a8 a9) (retD []) (C2 r.1 r.2.1 r.2.2.1 r.2.2.2.1 r.2.2.2.2.1 r.2.2.2.2.2.1 r.2.2.2.2.2.2.1 r.2.2.2.2.2.2.2):=by
 refine dX (rs:=[]) func83 M ntmps83 B5 fun O hO=>sta ⟨[D0,D3 a0,(2,.agg (tv6 a1))],X0 a2 a3 a4 a5 a6 a7 a8 a9⟩ ?_;unfold jO at h;refine aF (cBx (cs:=q19) q19 0 M<|aD ?_);obtain ⟨x1,k1,h⟩:=bS h;refine aF (aA M (mvR M M M M)<|cFa 0 un88 M ti3 M<|cLd (d:=.int _ _) un3 ag3 ti3 M<|aA M (fW (r':=.int .i64 x1) (V:=X0 a2 a3 a4 a5 a6 a7 a8 a9) 1 [1000,1001] M M A9 cl35 Y5 M M M Y2 (jC _ _ _ _ _ _ _ _ _ _ k1) M M B1 B7 E0 M)<|cAI M<|aD ?_);refine nY (α:=Int×Int×Bool) (fun z=>⟨[D0,D3 a0,(5,.ref 0 0),N3 x1],[A0 a2 a3 a4 a5 a6 a7 a8 a9.length,(0,.blk 88 [.int .i64 z.1,.int .i64 z.2.1,.bool z.2.2]),A5 a9]⟩) (fun z=>kD a0 a2 a3 a4 a5 a6 a7 a8 a9 x1 z.1 z.2.1 z.2.2=some r) ?_ ?_
 ·obtain ⟨x149,k149,x150,k150,x151,k151,h⟩:=eddd h;refine aF (cI M<|cCm (b:=(-1)) M k149<|cB M<|gG M (fun hb=>(tFa 0 un88 M ti3 M))<|gG M E6<|gG M (fun hb=>(tCg (b:=0) M hb k150))<|cAn M k151<|aD ?_);refine aP h M ?_ ?_<;>intro h
  ·refine aS (aA M (cZ (cs:=q19) M M A9 un88 ti88 pl88 M (.cons (svi 16 M) .nil) M)<|cSt q19 q19 ti88 M<|bE ?_);refine aI ⟨(0,16,false),(fun i=>i),wkU,?_⟩;exact h
  ·refine aR<|aI ⟨(a1.dep,a1.weight,a1.only),(fun i=>i),wkU,?_⟩;exact h
 ·rintro ⟨v6,v7,v8⟩ h;unfold kD at h;refine nY (α:=Int×Int×(List aK)×Int×Int×(List aJ)×Int×(List Int)) (fun z=>⟨[D0,D3 a0,(5,.ref 0 0),N3 x1],[(1000,.blk 86 (mixD aC.toEnc0 (w35 z.1 z.2.1 z.2.2.1 z.2.2.2.1 z.2.2.2.2.1) z.2.2.2.2.2.1 [.int .i64 z.2.2.2.2.2.2.1,.osl 1 (eInt .i64).sz z.2.2.2.2.2.2.2.length])),(0,.blk 88 [.int .i64 v6,.int .i64 v7,.bool v8]),(1,.blk 3 (Ac (z.2.2.2.2.2.2.2.map (eInt .i64).d)))]⟩) (fun z=>kC a0 x1 v7 v8 z.1 z.2.1 z.2.2.1 z.2.2.2.1 z.2.2.2.2.1 z.2.2.2.2.2.1 z.2.2.2.2.2.2.1 z.2.2.2.2.2.2.2=some r) ?_ ?_
  ·obtain ⟨x141,k141,x142,k142,x143,k143,h⟩:=edod h;refine aF (cI M<|cCm (b:=(-1)) M k141<|cB M<|gG M V7<|gG M E8<|gG M E8<|gG M (fun hb=>(fW (r':=.bool x142) (V:=X0 a2 a3 a4 a5 a6 a7 a8 a9) 1 [1000,1001] M M A9 cl116 (.cons (svcR M hb) (.cons (svcI M hb) I3)) M M M Y2 (wZ _ _ _ _ _ _ _ _ _ _ _ (gd_t k142 hb)) M M B1 B7 E0 M))<|cAn M k143<|aD ?_);refine aP h M ?_ ?_<;>intro h
   ·obtain ⟨x145,k145,h⟩:=bS h;obtain ⟨hk146,h⟩:=rO h;obtain ⟨x147,k147,x148,k148,h⟩:=eoo h;refine aS (aA M (mvR M M M M)<|cI M<|aA M (mvR M M M M)<|cI M<|aA M (aN M M A9 (svR M))<|cFa 5 un86 M ti84 M<|aA M (dS aC.toEnc0 M M A9 un84 ti83 (svR M) hk146 (svI M) k145)<|aA M (cL M M A9 un83 M ti3 A7 (svR M) (k':=1) M)<|aA M (cW aC.toEnc0 (b:=5) (k:=1) (d:=.int _ _) M M A9 un3 ag3 ti3 A7 (svR M) M M k147 B5 M)<|aA M (dQ (r':=.tuple []) (H1':=C6 x148.1 x148.2.1 x148.2.2.1 x148.2.2.2.1 x148.2.2.2.2.1 x148.2.2.2.2.2.1 x148.2.2.2.2.2.2.1 x148.2.2.2.2.2.2.2) 1 [1000,1001] M M A9 aGJ (.cons (svR M) j4) M M X6 (lF _ _ _ _ _ _ _ _ _ _ _ k148) M M B1 B7)<|bE ?_);refine aI ⟨(x148.1,x148.2.1,x148.2.2.1,x148.2.2.2.1,x148.2.2.2.2.1,x148.2.2.2.2.2.1,x148.2.2.2.2.2.2.1,x148.2.2.2.2.2.2.2),(fun i=>i),wkU,?_⟩;exact h
   ·refine aR<|aI ⟨(a2,a3,a4,a5,a6,a7,a8,a9),(fun i=>if i=1 then 1001 else i),wkU,?_⟩;exact h
  ·rintro ⟨v17,v18,v19,v20,v21,v22,v23,v24⟩ h;unfold kC at h;obtain ⟨x25,k25,h⟩:=bS h;refine aF (aA M (mvR M M M M)<|cI M<|cI M<|aA M (dQ (r':=.tuple []) (H1':=[B4 x25.1 x25.2.1 x25.2.2.1 x25.2.2.2.1 x25.2.2.2.2.1 x25.2.2.2.2.2.1 x25.2.2.2.2.2.2.1 x25.2.2.2.2.2.2.2.length,C7 x25.2.2.2.2.2.2.2]) 2 [1000,1] M M A9 aGJ (.cons (svR M) j4) M M X6 (lF _ _ _ _ _ _ _ _ _ _ _ k25) M M B1 B7)<|aD ?_);obtain ⟨x26,k26,h⟩:=bS h;obtain ⟨hk27,h⟩:=rO h;obtain ⟨x28,k28,x29,k29,h⟩:=eod h;refine jN M [nd1 [0] 43 (.ref 1000 0),nd1 [1] 44 (D4 a0),nd1 [5] 45 (.ref 0 1),nd2 [45] [0] 46 (D4 v7),nd1 [43] 47 (.ref 1000 0),nd1 [47] 48 (.ref 1000 5),nd1 [44,48] 49 (F2 a0),nd1 [49] 50 (H6 a0),⟨[46,50],[1000],[],[B4 x25.1 x25.2.1 x25.2.2.1 x25.2.2.2.1 x25.2.2.2.2.1 x29 x25.2.2.2.2.2.2.1 x25.2.2.2.2.2.2.2.length]⟩] M ?_ D6 ?_
   ·refine .cons (dMv M)<|.cons (dMv M)<|.cons (dFa 1 un88 M ti3 M)<|.cons (dLd un3 ag3 ti3 M)<|.cons W8<|.cons (dFa 5 un86 M ti84 M)<|.cons (lop M M fun S hA=>(dS aC.toEnc0 M M A9 un84 ti83 (svaR hA M M) hk27 (svaI hA M M) k26))<|.cons Y0<|.cons (lop M M fun S hA=>(mO aC.toEnc0 (b:=5) (k:=4) (a':=(⟨x28.id,x28.up,x28.first,x28.next,v7,x28.closed⟩:aJ)) M M ti3 (svaR hA M M) (agi hA M M) (svaI hA M M) M M M M k28 B5 M k29)) ?_
    exact .nil
   refine aQ<|aF (cFa 2 un88 M ti4 M<|cLd (d:=.bool _) un4 ag4 ti4 M<|aA M (eP M M A9 (svB M))<|aD ?_);refine aP h M ?_ ?_<;>intro h
   ·refine aU<|aY ?_;obtain rfl:=sj_ h;refine ⟨.inr M,(fun i=>if i=0 then 2 else i),wkU,.nil,M⟩
   ·refine aR<|aI<|aF (aA M (mvR M M M M)<|cI M <|?_);refine iS (S':=⟨[D0,D3 a0,(54,.ref 1000 0),(55,.int .i64 x1)],[C7 x25.2.2.2.2.2.2.2,B4 x25.1 x25.2.1 x25.2.2.1 x25.2.2.2.1 x25.2.2.2.2.1 x29 x25.2.2.2.2.2.2.1 x25.2.2.2.2.2.2.2.length]⟩) (fun i=>i) wkU<|mY 1 3 M M M A7 aJE func107 M Y5 ntmps107 B5 M hO.semiL fun O1 hO1=>sta ⟨[D0,D3 x1],[(3,.kept 1 (kp_ 71 [D0,D3 a0,(54,.ref 1000 0),(55,.int .i64 x1)])),C7 x25.2.2.2.2.2.2.2,B4 x25.1 x25.2.1 x25.2.2.1 x25.2.2.2.1 x25.2.2.2.2.1 x29 x25.2.2.2.2.2.2.1 x25.2.2.2.2.2.2.2.length]⟩ ?_
    refine aF (aA M (lU (cs:=[.ref _ _]) 4 M M A9 M (svR M) M M)<|aA M (lU (cs:=[.int _ _]) 5 M M A9 M (svI M) M M)<|cAs (.nilf) M<|aD ?_);refine aF (aA M (mH M M A9 (.cons (svR M) R7))<|cAs (.fn 139 q28) M<|aD ?_);refine aU ?_;refine ⟨.inr M,3,_,[.fn 139 B3],B0,M,M,⟨[D0,D3 a0,(56,.fn 139 B3)],[C7 x25.2.2.2.2.2.2.2,C3,X4 x1,B4 x25.1 x25.2.1 x25.2.2.1 x25.2.2.2.1 x25.2.2.2.2.1 x29 x25.2.2.2.2.2.2.1 x25.2.2.2.2.2.2.2.length]⟩,(fun i=>i),wkU,?_⟩;refine iS (S':=⟨[D0,D3 a0,(56,.fn 139 B3)],[C7 x25.2.2.2.2.2.2.2,C3,X4 x1,B4 x25.1 x25.2.1 x25.2.2.1 x25.2.2.2.1 x25.2.2.2.2.1 x29 x25.2.2.2.2.2.2.1 x25.2.2.2.2.2.2.2.length]⟩) (fun i=>i) wkU<|mY 1 6 M M M A7 cl108 func108 M S6 ntmps108 B5 M hO.semiL fun O1 hO1=>sta ⟨[(0,.fn 139 B3)],[X1 a0,C7 x25.2.2.2.2.2.2.2,C3,X4 x1,B4 x25.1 x25.2.1 x25.2.2.1 x25.2.2.2.1 x25.2.2.2.2.1 x29 x25.2.2.2.2.2.2.1 x25.2.2.2.2.2.2.2.length]⟩ ?_
    refine aF (cAs (.nils) M<|aD ?_);refine aF (cMv (.fn 139 q28) M <|?_);refine iS (S':=⟨[(3,.fn 139 B3)],[C7 x25.2.2.2.2.2.2.2,C3,X4 x1,X1 a0,B4 x25.1 x25.2.1 x25.2.2.1 x25.2.2.2.1 x25.2.2.2.2.1 x29 x25.2.2.2.2.2.2.1 x25.2.2.2.2.2.2.2.length]⟩) (fun i=>i) wkU<|mY 2 7 M M M A7 cl140 func140 M (.cons (sv (d:=.nils) M) S6) ntmps140 B5 M hO1 fun O2 hO2=>sta ⟨[(0,.nils),(1,.fn 139 B3)],[W4,C7 x25.2.2.2.2.2.2.2,C3,X4 x1,X1 a0,B4 x25.1 x25.2.1 x25.2.2.1 x25.2.2.2.1 x25.2.2.2.2.1 x29 x25.2.2.2.2.2.2.1 x25.2.2.2.2.2.2.2.length]⟩ ?_
    refine aF (aA M (lU (cs:=[.nils]) 8 M M A9 M (sv (d:=.nils) M) M M)<|cAs (.nils) M<|aD ?_);refine aQ<|aF (cMv (.fn 139 q28) M<|aD ?_);refine aT<|vI (S':=⟨W7,[C7 x25.2.2.2.2.2.2.2,C3,X4 x1,X1 a0,W4,J7,B4 x25.1 x25.2.1 x25.2.2.1 x25.2.2.2.1 x25.2.2.2.2.1 x29 x25.2.2.2.2.2.2.1 x25.2.2.2.2.2.2.2.length]⟩) (fun i=>i) wkU<|wO 3 9 10 (sv (d:=.fn 139 q28) M) aJD func139 M M ntmps139 B5 M M hO2 (Aa.2 ⟨⟨7,_,M⟩,Aa.2 ⟨⟨6,_,M⟩,Ab _⟩⟩) fun O3 hO3 hlc3=>sta ⟨[(0,.yld 9),(1,.ref 4 0),(2,.ref 5 0)],[y3,y0,C7 x25.2.2.2.2.2.2.2,C3,X4 x1,X1 a0,W4,J7,B4 x25.1 x25.2.1 x25.2.2.1 x25.2.2.2.1 x25.2.2.2.2.1 x29 x25.2.2.2.2.2.2.1 x25.2.2.2.2.2.2.2.length]⟩ ?_
    refine aF (cLd (d:=.ref _ _) un33 ag33 ti33 M<|cLd (d:=.int _ _) un3 ag3 ti3 M <|?_);refine iS (S':=⟨L1 x1,z2 x25.2.2.2.2.2.2.2 x1 a0 x25.1 x25.2.1 x25.2.2.1 x25.2.2.2.1 x25.2.2.2.2.1 x29 x25.2.2.2.2.2.2.1⟩) (fun i=>i) wkU<|mY 4 11 M M M A7 aGI func115 M Y5 ntmps115 B5 M hO3 fun O4 hO4=>sta ⟨[D0,D3 x1],[(11,.kept 4 (kp_ 25 (L1 x1))),C7 x25.2.2.2.2.2.2.2,C3,X4 x1,X1 a0,W4,J7,y0,y3,B4 x25.1 x25.2.1 x25.2.2.1 x25.2.2.2.1 x25.2.2.2.2.1 x29 x25.2.2.2.2.2.2.1 x25.2.2.2.2.2.2.2.length]⟩ ?_
    refine aF (cAs (.nilp) M<|aD ?_);refine aQ ?_;obtain ⟨x31,k31,h⟩:=bN h;refine aF (cI M<|cCm (b:=(-1)) M k31<|aD ?_);refine aP h M ?_ ?_<;>intro h
    ·refine aF (aA M (mvR M M M M)<|aA M (aN M M A9 (svR M))<|cFa 389 un86 M ti3 M<|aA M (bH M M A9 (svR M))<|aD ?_);refine aU<|aY ?_;refine ⟨.inr M,11,_,[.ref 1000 389],B0,M,M,⟨[(0,.yld 9),(1,.ref 4 0),(8,.ref 1000 389)],z2 x25.2.2.2.2.2.2.2 x1 a0 x25.1 x25.2.1 x25.2.2.1 x25.2.2.2.1 x25.2.2.2.2.1 x29 x25.2.2.2.2.2.2.1⟩,(fun i=>i),wkU,?_⟩;refine aA M (aN M M A9 (svR M))<|aA M (kR aC.toEnc0 (d:=.int _ _) (n:=64) (k:=0) M M A9 un3 ag3 ti3 A7 (svR M) M (lQ k29 hk27) I4 B5 I4)<|cAI M<|aD ?_;refine aT<|bR (α:=Nat×Int×(List Int)) (fun z=>⟨w5 z.2.1,[y0,C3,X1 a0,W4,y3,B4 x25.1 x25.2.1 x25.2.2.1 x25.2.2.2.1 x25.2.2.2.2.1 x29 x25.2.2.2.2.2.2.1 x25.2.2.2.2.2.2.2.length,E7 z.2.2.length,X4 x1,C7 x25.2.2.2.2.2.2.2,D2 z.2.2]⟩) (fun z=>gP a0 x25 x29 z.1 z.2.1 z.2.2=some r) (fun z=>z.1) (fuel,x25.2.2.2.2.2.2.1,([]:(List Int))) (fun i=>if i=32 then 94 else i) wkU ?_ ?_
     ·exact h
     ·rintro ⟨n2,v38,v39⟩ h
      cases n2 with
      | zero=>exact Ay h (by unfold gP; exact nofun)
      | succ n2 =>
       unfold gP at h;refine aQ ?_;obtain ⟨x45,k45,h⟩:=bN h;refine aF (cI M<|cCm (b:=(-1)) M k45<|aD ?_);refine aP h M ?_ ?_<;>intro h
       ·refine aR<|aI<|aT ?_;obtain ⟨x47,k47,x48,k48,h⟩:=eoo h;refine aF (cLd (d:=.ref _ _) un33 ag33 ti33 M<|cI M<|aA M (aN M M A9 (svR M))<|cFa 5 un86 M ti84 M<|aA M (dS aC.toEnc0 M M A9 un84 ti83 (svR M) (lQ k29 hk27) (svI M) k47)<|aA M (cL M M A9 un83 M ti3 A7 (svR M) (k':=3) M)<|aA M (cW aC.toEnc0 (b:=5) (k:=3) (d:=.int _ _) M M A9 un3 ag3 ti3 A7 (svR M) M M k48 B5 M)<|cAI M<|aD ?_);refine aQ<|aF (cMv (.yld _) M<|cI M <|?_);refine iS (S':=⟨[(0,.yld 9),(1,.ref 4 0),(5,.int .i64 x48.next),(20,.yld 9),I6 v38],[C7 x25.2.2.2.2.2.2.2,C3,X4 x1,X1 a0,W4,E7 v39.length,y0,y3,D2 v39,B4 x25.1 x25.2.1 x25.2.2.1 x25.2.2.2.1 x25.2.2.2.2.1 x29 x25.2.2.2.2.2.2.1 x25.2.2.2.2.2.2.2.length]⟩) (fun i=>i) wkU<|sL 4 9 33 M M M A7 M B9 M M M M M M hO3.round hlc3 ⟨[L8 v38,(2,.ref 8 0)],[C7 x25.2.2.2.2.2.2.2,C3,X4 x1,X1 a0,W4,E7 v39.length,y0,y3,D2 v39,(33,.kept 4 (kp_ 25 [(0,.yld 9),(1,.ref 4 0),(5,.int .i64 x48.next),(20,.yld 9),I6 v38])),B4 x25.1 x25.2.1 x25.2.2.1 x25.2.2.2.1 x25.2.2.2.2.1 x29 x25.2.2.2.2.2.2.1 x25.2.2.2.2.2.2.2.length]⟩ (fun i=>i) wkU fun O4=>?_
        refine aS (cAI M<|bE ?_);refine ⟨M,9,_,M,⟨[(2,.ref 8 0),N5 v38],[C7 x25.2.2.2.2.2.2.2,C3,X4 x1,X1 a0,W4,E7 v39.length,y6,y3,D2 v39,(33,.kept 4 (kp_ 25 [(0,.yld 9),(1,.ref 4 0),(5,.int .i64 x48.next),(20,.yld 9),I6 v38])),B4 x25.1 x25.2.1 x25.2.2.1 x25.2.2.2.1 x25.2.2.2.2.1 x29 x25.2.2.2.2.2.2.1 x25.2.2.2.2.2.2.2.length]⟩,(fun i=>i),wkU,?_⟩;refine aT ?_;obtain ⟨x49,k49,h⟩:=bS h;refine aS (cLd (d:=.osl _ _ _) un37 ag37 ti37 M<|cI M<|aA M (oT (eInt .i64).toEnc0 ([v38]:(List Int)) 34 M M A9 un37 ti3 M B9 M M A7)<|aA M (lK (eInt .i64).toEnc0 35 M M A9 un37 ti3 M M M M M (vT (eInt .i64).toEnc0 M M M) k49)<|aA M (dA (ds':=[.osl _ _ _]) M M ti37 (svR M) M (svo M) M M M B5 M)<|bE ?_);refine bI ?_;refine ⟨9,33,_,_,none,M,M,M,M,A7,⟨[(0,.yld 9),(1,.ref 4 0),(5,.int .i64 x48.next),R8],[C7 x25.2.2.2.2.2.2.2,C3,X4 x1,X1 a0,W4,R0 x49.length,y0,y3,R2 x49,B4 x25.1 x25.2.1 x25.2.2.1 x25.2.2.2.1 x25.2.2.2.2.1 x29 x25.2.2.2.2.2.2.1 x25.2.2.2.2.2.2.2.length]⟩,(fun i=>i),wkU,?_⟩;refine aA M (eP M M A9 (svB M))<|aD ?_;refine kF M M<|aR<|aI<|aS (cI M<|cAI M<|bE ?_);refine bI<|aI ⟨(n2,x48.next,x49),(fun i=>if i=32 then 35 else i),wkU,?_,?_⟩;exact h;exact Ah _
       ·refine cD<|bC<|bC<|cE ?_;refine ⟨.inl M,9,10,_,_,_,_,M,R5,M,M,⟨[(2,.ref 8 0)],[C7 x25.2.2.2.2.2.2.2,C3,X4 x1,X1 a0,W4,E7 v39.length,D2 v39,B4 x25.1 x25.2.1 x25.2.2.1 x25.2.2.2.1 x25.2.2.2.2.1 x29 x25.2.2.2.2.2.2.1 x25.2.2.2.2.2.2.2.length]⟩,(fun i=>i),wkU,?_⟩;refine bI<|aI<|aF (cLd (d:=.osl _ _ _) un37 ag37 ti37 M<|cAs (.osl _ _ _) M<|aD ?_);refine aU ?_;refine ⟨.inr M,7,_,F1 v39.length,B0,M,M,⟨V0 v39.length,[C7 x25.2.2.2.2.2.2.2,C3,X4 x1,X1 a0,D2 v39,B4 x25.1 x25.2.1 x25.2.2.1 x25.2.2.2.1 x25.2.2.2.2.1 x29 x25.2.2.2.2.2.2.1 x25.2.2.2.2.2.2.2.length]⟩,(fun i=>i),wkU,?_⟩;refine cAs (.osl _ _ _) M<|aD ?_;refine aU ?_;refine ⟨.inr M,6,_,F1 v39.length,B0,M,M,⟨[D0,D3 a0,W3 v39.length],[C7 x25.2.2.2.2.2.2.2,D2 v39,B4 x25.1 x25.2.1 x25.2.2.1 x25.2.2.2.1 x25.2.2.2.2.1 x29 x25.2.2.2.2.2.2.1 x25.2.2.2.2.2.2.2.length]⟩,(fun i=>i),wkU,?_⟩;refine aA M (oS M M A9 un37 (svo M))<|cMv (.int _ 0) M<|aD ?_;refine aT<|bR (α:=Nat×Int×Int×Int×(List aK)×Int×Int×(List aJ)×Int×(List Int)) (fun z=>(u7 a0 v39 z.2.1 z.2.2.1 z.2.2.2.1 z.2.2.2.2.1 z.2.2.2.2.2.1 z.2.2.2.2.2.2.1 z.2.2.2.2.2.2.2.1 z.2.2.2.2.2.2.2.2.1 z.2.2.2.2.2.2.2.2.2)) (fun z=>fF a0 v39 z.1 z.2.1 z.2.2.1 z.2.2.2.1 z.2.2.2.2.1 z.2.2.2.2.2.1 z.2.2.2.2.2.2.1 z.2.2.2.2.2.2.2.1 z.2.2.2.2.2.2.2.2.1 z.2.2.2.2.2.2.2.2.2=some r) (fun z=>z.1) (fuel,0,x25.1,x25.2.1,x25.2.2.1,x25.2.2.2.1,x25.2.2.2.2.1,x29,x25.2.2.2.2.2.2.1,x25.2.2.2.2.2.2.2) (fun i=>i) wkU ?_ ?_
        ·exact h
        ·rintro ⟨n3,v59,v60,v61,v62,v63,v64,v65,v66,v67⟩ h
         cases n3 with
         | zero=>exact Ay h (by unfold fF; exact nofun)
         | succ n3 =>
          unfold fF at h;obtain ⟨x77,k77,h⟩:=bN h;refine aF (cCm M k77<|aD ?_);refine aQ<|aP h M ?_ ?_<;>intro h
          ·refine aR<|aI<|aQ<|aT ?_;obtain ⟨x79,k79,x80,k80,h⟩:=eoo h;refine aF (aA M (fS (eInt .i64).toEnc0 M M A9 un37 ti3 (svo M) M (svI M) k79)<|aA M (iR (eInt .i64).toEnc0 (d:=.int _ _) M M A9 un3 ag3 ti3 A7 (svR M) M k80 B5 M)<|cAI M<|aD ?_);obtain ⟨x81,k81,h⟩:=bN h;refine aF (cI M<|cI M<|cCm M k81<|aD ?_);refine aP h M ?_ ?_<;>intro h
           ·obtain ⟨x83,k83,h⟩:=bS h;refine aS (aA M (mvR M M M M)<|cI M<|cI M<|aA M (dQ (r':=.tuple []) (H1':=O7 x83.1 x83.2.1 x83.2.2.1 x83.2.2.2.1 x83.2.2.2.2.1 x83.2.2.2.2.2.1 x83.2.2.2.2.2.2.1 x83.2.2.2.2.2.2.2) 33 [1000,2] M M A9 aGJ (.cons (svR M) j4) M M X6 (lF _ _ _ _ _ _ _ _ _ _ _ k83) M M B1 B7)<|bE ?_);refine bI<|aI ?_;obtain ⟨x84,k84,h⟩:=bN h;refine aS (aA M (bD M M A9 (svI M) (svi 1 M) M k84)<|cI M<|bE ?_);refine aI ⟨(n3,x84,x83.1,x83.2.1,x83.2.2.1,x83.2.2.2.1,x83.2.2.2.2.1,x83.2.2.2.2.2.1,x83.2.2.2.2.2.2.1,x83.2.2.2.2.2.2.2),(fun i=>if i=2 then 33 else i),wkU,?_,?_⟩;exact h;exact Ah _
           ·refine aR<|bI<|aI ?_;obtain ⟨x85,k85,h⟩:=bN h;refine aS (aA M (bD M M A9 (svI M) (svi 1 M) M k85)<|cI M<|bE ?_);refine aI ⟨(n3,x85,v60,v61,v62,v63,v64,v65,v66,v67),(fun i=>i),wkU,?_,?_⟩;exact h;exact Ah _
          ·refine cD<|bC<|bC<|cE ?_;obtain rfl:=sj_ h;refine ⟨.inl M,(fun i=>if i=0 then 2 else i),wkU,.nil,M⟩
    ·refine aR<|aI ?_;obtain ⟨x86,k86,h⟩:=bS h;refine aF (aA M (mvR M M M M)<|cI M<|aA M (aN M M A9 (svR M))<|cFa 5 un86 M ti84 M<|aA M (dS aC.toEnc0 M M A9 un84 ti83 (svR M) (lQ k29 hk27) (svI M) k86)<|aA M (cL M M A9 un83 M ti3 A7 (svR M) (k':=2) M)<|aA M (bH M M A9 (svR M))<|aD ?_);refine aU ?_;refine ⟨.inr M,11,_,M1 x1,B0,M,M,⟨[(0,.yld 9),(1,.ref 4 0),P8 x1],z2 x25.2.2.2.2.2.2.2 x1 a0 x25.1 x25.2.1 x25.2.2.1 x25.2.2.2.1 x25.2.2.2.2.1 x29 x25.2.2.2.2.2.2.1⟩,(fun i=>i),wkU,?_⟩;obtain ⟨x87,k87,h⟩:=bS h;refine aA M (aN M M A9 (svR M))<|aA M (cW aC.toEnc0 (b:=5) (k:=2) (d:=.int _ _) M M A9 un3 ag3 ti3 A7 (svR M) M M k87 B5 M)<|cAI M<|aD ?_;refine aT<|bR (α:=Nat×Int×(List Int)) (fun z=>⟨w5 z.2.1,[y0,C3,X1 a0,W4,y3,B4 x25.1 x25.2.1 x25.2.2.1 x25.2.2.2.1 x25.2.2.2.2.1 x29 x25.2.2.2.2.2.2.1 x25.2.2.2.2.2.2.2.length,E7 z.2.2.length,X4 x1,C7 x25.2.2.2.2.2.2.2,D2 z.2.2]⟩) (fun z=>gO a0 x25 x29 z.1 z.2.1 z.2.2=some r) (fun z=>z.1) (fuel,x87.first,([]:(List Int))) (fun i=>if i=32 then 94 else i) wkU ?_ ?_
     ·exact h
     ·rintro ⟨n4,v93,v94⟩ h
      cases n4 with
      | zero=>exact Ay h (by unfold gO; exact nofun)
      | succ n4 =>
       unfold gO at h;refine aQ ?_;obtain ⟨x100,k100,h⟩:=bN h;refine aF (cI M<|cCm (b:=(-1)) M k100<|aD ?_);refine aP h M ?_ ?_<;>intro h
       ·refine aR<|aI<|aT ?_;obtain ⟨x102,k102,x103,k103,h⟩:=eoo h;refine aF (cLd (d:=.ref _ _) un33 ag33 ti33 M<|cI M<|aA M (aN M M A9 (svR M))<|cFa 5 un86 M ti84 M<|aA M (dS aC.toEnc0 M M A9 un84 ti83 (svR M) (lQ k29 hk27) (svI M) k102)<|aA M (cL M M A9 un83 M ti3 A7 (svR M) (k':=3) M)<|aA M (cW aC.toEnc0 (b:=5) (k:=3) (d:=.int _ _) M M A9 un3 ag3 ti3 A7 (svR M) M M k103 B5 M)<|cAI M<|aD ?_);refine aQ<|aF (cMv (.yld _) M<|cI M <|?_);refine iS (S':=⟨[(0,.yld 9),(1,.ref 4 0),(5,.int .i64 x103.next),(20,.yld 9),I6 v93],[C7 x25.2.2.2.2.2.2.2,C3,X4 x1,X1 a0,W4,E7 v94.length,y0,y3,D2 v94,B4 x25.1 x25.2.1 x25.2.2.1 x25.2.2.2.1 x25.2.2.2.2.1 x29 x25.2.2.2.2.2.2.1 x25.2.2.2.2.2.2.2.length]⟩) (fun i=>i) wkU<|sL 4 9 33 M M M A7 M B9 M M M M M M hO3.round hlc3 ⟨[L8 v93,(2,.ref 8 0)],[C7 x25.2.2.2.2.2.2.2,C3,X4 x1,X1 a0,W4,E7 v94.length,y0,y3,D2 v94,(33,.kept 4 (kp_ 25 [(0,.yld 9),(1,.ref 4 0),(5,.int .i64 x103.next),(20,.yld 9),I6 v93])),B4 x25.1 x25.2.1 x25.2.2.1 x25.2.2.2.1 x25.2.2.2.2.1 x29 x25.2.2.2.2.2.2.1 x25.2.2.2.2.2.2.2.length]⟩ (fun i=>i) wkU fun O4=>?_
        refine aS (cAI M<|bE ?_);refine ⟨M,9,_,M,⟨[(2,.ref 8 0),N5 v93],[C7 x25.2.2.2.2.2.2.2,C3,X4 x1,X1 a0,W4,E7 v94.length,y6,y3,D2 v94,(33,.kept 4 (kp_ 25 [(0,.yld 9),(1,.ref 4 0),(5,.int .i64 x103.next),(20,.yld 9),I6 v93])),B4 x25.1 x25.2.1 x25.2.2.1 x25.2.2.2.1 x25.2.2.2.2.1 x29 x25.2.2.2.2.2.2.1 x25.2.2.2.2.2.2.2.length]⟩,(fun i=>i),wkU,?_⟩;refine aT ?_;obtain ⟨x104,k104,h⟩:=bS h;refine aS (cLd (d:=.osl _ _ _) un37 ag37 ti37 M<|cI M<|aA M (oT (eInt .i64).toEnc0 ([v93]:(List Int)) 34 M M A9 un37 ti3 M B9 M M A7)<|aA M (lK (eInt .i64).toEnc0 35 M M A9 un37 ti3 M M M M M (vT (eInt .i64).toEnc0 M M M) k104)<|aA M (dA (ds':=[.osl _ _ _]) M M ti37 (svR M) M (svo M) M M M B5 M)<|bE ?_);refine bI ?_;refine ⟨9,33,_,_,none,M,M,M,M,A7,⟨[(0,.yld 9),(1,.ref 4 0),(5,.int .i64 x103.next),R8],[C7 x25.2.2.2.2.2.2.2,C3,X4 x1,X1 a0,W4,R0 x104.length,y0,y3,R2 x104,B4 x25.1 x25.2.1 x25.2.2.1 x25.2.2.2.1 x25.2.2.2.2.1 x29 x25.2.2.2.2.2.2.1 x25.2.2.2.2.2.2.2.length]⟩,(fun i=>i),wkU,?_⟩;refine aA M (eP M M A9 (svB M))<|aD ?_;refine kF M M<|aR<|aI<|aS (cI M<|cAI M<|bE ?_);refine bI<|aI ⟨(n4,x103.next,x104),(fun i=>if i=32 then 35 else i),wkU,?_,?_⟩;exact h;exact Ah _
       ·refine cD<|bC<|bC<|cE ?_;refine ⟨.inl M,9,10,_,_,_,_,M,R5,M,M,⟨[(2,.ref 8 0)],[C7 x25.2.2.2.2.2.2.2,C3,X4 x1,X1 a0,W4,E7 v94.length,D2 v94,B4 x25.1 x25.2.1 x25.2.2.1 x25.2.2.2.1 x25.2.2.2.2.1 x29 x25.2.2.2.2.2.2.1 x25.2.2.2.2.2.2.2.length]⟩,(fun i=>i),wkU,?_⟩;refine bI<|aI<|aF (cLd (d:=.osl _ _ _) un37 ag37 ti37 M<|cAs (.osl _ _ _) M<|aD ?_);refine aU ?_;refine ⟨.inr M,7,_,F1 v94.length,B0,M,M,⟨V0 v94.length,[C7 x25.2.2.2.2.2.2.2,C3,X4 x1,X1 a0,D2 v94,B4 x25.1 x25.2.1 x25.2.2.1 x25.2.2.2.1 x25.2.2.2.2.1 x29 x25.2.2.2.2.2.2.1 x25.2.2.2.2.2.2.2.length]⟩,(fun i=>i),wkU,?_⟩;refine cAs (.osl _ _ _) M<|aD ?_;refine aU ?_;refine ⟨.inr M,6,_,F1 v94.length,B0,M,M,⟨[D0,D3 a0,W3 v94.length],[C7 x25.2.2.2.2.2.2.2,D2 v94,B4 x25.1 x25.2.1 x25.2.2.1 x25.2.2.2.1 x25.2.2.2.2.1 x29 x25.2.2.2.2.2.2.1 x25.2.2.2.2.2.2.2.length]⟩,(fun i=>i),wkU,?_⟩;refine aA M (oS M M A9 un37 (svo M))<|cMv (.int _ 0) M<|aD ?_;refine aT<|bR (α:=Nat×Int×Int×Int×(List aK)×Int×Int×(List aJ)×Int×(List Int)) (fun z=>(u7 a0 v94 z.2.1 z.2.2.1 z.2.2.2.1 z.2.2.2.2.1 z.2.2.2.2.2.1 z.2.2.2.2.2.2.1 z.2.2.2.2.2.2.2.1 z.2.2.2.2.2.2.2.2.1 z.2.2.2.2.2.2.2.2.2)) (fun z=>fE a0 v94 z.1 z.2.1 z.2.2.1 z.2.2.2.1 z.2.2.2.2.1 z.2.2.2.2.2.1 z.2.2.2.2.2.2.1 z.2.2.2.2.2.2.2.1 z.2.2.2.2.2.2.2.2.1 z.2.2.2.2.2.2.2.2.2=some r) (fun z=>z.1) (fuel,0,x25.1,x25.2.1,x25.2.2.1,x25.2.2.2.1,x25.2.2.2.2.1,x29,x25.2.2.2.2.2.2.1,x25.2.2.2.2.2.2.2) (fun i=>i) wkU ?_ ?_
        ·exact h
        ·rintro ⟨n5,v114,v115,v116,v117,v118,v119,v120,v121,v122⟩ h
         cases n5 with
         | zero=>exact Ay h (by unfold fE; exact nofun)
         | succ n5 =>
          unfold fE at h;obtain ⟨x132,k132,h⟩:=bN h;refine aF (cCm M k132<|aD ?_);refine aQ<|aP h M ?_ ?_<;>intro h
          ·refine aR<|aI<|aQ<|aT ?_;obtain ⟨x134,k134,x135,k135,h⟩:=eoo h;refine aF (aA M (fS (eInt .i64).toEnc0 M M A9 un37 ti3 (svo M) M (svI M) k134)<|aA M (iR (eInt .i64).toEnc0 (d:=.int _ _) M M A9 un3 ag3 ti3 A7 (svR M) M k135 B5 M)<|cAI M<|aD ?_);obtain ⟨x136,k136,h⟩:=bN h;refine aF (cI M<|cI M<|cCm M k136<|aD ?_);refine aP h M ?_ ?_<;>intro h
           ·obtain ⟨x138,k138,h⟩:=bS h;refine aS (aA M (mvR M M M M)<|cI M<|cI M<|aA M (dQ (r':=.tuple []) (H1':=O7 x138.1 x138.2.1 x138.2.2.1 x138.2.2.2.1 x138.2.2.2.2.1 x138.2.2.2.2.2.1 x138.2.2.2.2.2.2.1 x138.2.2.2.2.2.2.2) 33 [1000,2] M M A9 aGJ (.cons (svR M) j4) M M X6 (lF _ _ _ _ _ _ _ _ _ _ _ k138) M M B1 B7)<|bE ?_);refine bI<|aI ?_;obtain ⟨x139,k139,h⟩:=bN h;refine aS (aA M (bD M M A9 (svI M) (svi 1 M) M k139)<|cI M<|bE ?_);refine aI ⟨(n5,x139,x138.1,x138.2.1,x138.2.2.1,x138.2.2.2.1,x138.2.2.2.2.1,x138.2.2.2.2.2.1,x138.2.2.2.2.2.2.1,x138.2.2.2.2.2.2.2),(fun i=>if i=2 then 33 else i),wkU,?_,?_⟩;exact h;exact Ah _
           ·refine aR<|bI<|aI ?_;obtain ⟨x140,k140,h⟩:=bN h;refine aS (aA M (bD M M A9 (svI M) (svi 1 M) M k140)<|cI M<|bE ?_);refine aI ⟨(n5,x140,v115,v116,v117,v118,v119,v120,v121,v122),(fun i=>i),wkU,?_,?_⟩;exact h;exact Ah _
          ·refine cD<|bC<|bC<|cE ?_;obtain rfl:=sj_ h;refine ⟨.inl M,(fun i=>if i=0 then 2 else i),wkU,.nil,M⟩

theorem J3(h:p:=by exact Aa.2 ⟨(agi hA M M),Aa.2 ⟨(agi hA M M),Ab _⟩⟩):p:=h
theorem r8(h:p:=by exact lop M M fun S hA=>(xZ aC.toEnc0 (d:=.int _ _) M M A9 un3 ag3 ti3 A7 (svaR hA M M) (agi hA M M) B5 I4)):p:=h
theorem Z3(h:p:=by exact ⟨.inr M,(fun i=>if i=0 then 1001 else i),wkU,B0,M⟩):p:=h
theorem L5(h:p:=by exact .cons (svR M) (.cons (svI M) (.cons (svA q19 M) .nil))):p:=h
theorem sJ(a0:Int)(a1:jE)(a2 a3:Int)(a4:List aK)(a5 a6:Int)(a7:List aJ)(a8:Int)(a9:List Int)(r:Int×Int×Int×(List aK)×Int×Int×(List aJ)×Int×(List Int))(h:lD a0 a1 a2 a3 a4 a5 a6 a7 a8 a9=some r):FnH FY 36 [.ref 1000 0,.int .i64 a0,.agg (tv6 a1)] (X0 a2 a3 a4 a5 a6 a7 a8 a9) (D4 r.1) (C2 r.2.1 r.2.2.1 r.2.2.2.1 r.2.2.2.2.1 r.2.2.2.2.2.1 r.2.2.2.2.2.2.1 r.2.2.2.2.2.2.2.1 r.2.2.2.2.2.2.2.2):=by
 refine dX (rs:=C4 r.1) func36 M ntmps36 B5 fun O hO=>sta ⟨[D0,D3 a0,(2,.agg (tv6 a1))],X0 a2 a3 a4 a5 a6 a7 a8 a9⟩ ?_;unfold lD at h;refine aF (cBx (cs:=q19) q19 0 M<|cAs (.int _ 0) M<|aD ?_);refine nY (α:=Int×Int×(List aK)×Int×Int×(List aJ)×Int×(List Int)) (fun z=>⟨[D0,D3 a0,(5,.ref 0 0)],[(1000,.blk 86 (mixD aC.toEnc0 (w35 z.1 z.2.1 z.2.2.1 z.2.2.2.1 z.2.2.2.2.1) z.2.2.2.2.2.1 [.int .i64 z.2.2.2.2.2.2.1,.osl 1 (eInt .i64).sz z.2.2.2.2.2.2.2.length])),(0,.blk 88 (tv6 a1)),(1,.blk 3 (Ac (z.2.2.2.2.2.2.2.map (eInt .i64).d)))]⟩) (fun z=>iO a0 a1 z.1 z.2.1 z.2.2.1 z.2.2.2.1 z.2.2.2.2.1 z.2.2.2.2.2.1 z.2.2.2.2.2.2.1 z.2.2.2.2.2.2.2=some r) ?_ ?_
 ·obtain ⟨x27,k27,x28,k28,h⟩:=eod h;refine jN M [nd1 [0] 10 (.ref 1000 0),nd2 [10] [1000,1001] 11 (D4 x27),nd1 [0] 12 (.ref 1000 0),nd1 [12] 13 (.ref 1000 0),nd1 [13] 14 (.ref 1000 0),nd2 [14] [1000] 15 (D4 a2),nd1 [11,15] 16 (.bool x28)] M ?_ D6 ?_
  ·refine .cons (dMv M)<|.cons (lop M M fun S hA=>(fW (r':=.int .i64 x27) (V:=X0 a2 a3 a4 a5 a6 a7 a8 a9) 1 [1000,1001] M M A9 cl79 (.cons (svaR hA M M) .nil) M M M D5 (yU _ _ _ _ _ _ _ _ _ k27) M M B1 B7 J3 M))<|.cons (dMv M)<|.cons W8<|.cons (dFa 0 un86 M ti3 M)<|.cons r8<|.cons (lop M M fun S hA=>(fK M M A9 (svaI hA M M) (svaI hA M M) M k28)) ?_
   exact .nil
  refine aP h M ?_ ?_<;>intro h
  ·refine aQ ?_;obtain ⟨hk30,h⟩:=rO h;obtain ⟨x31,k31,h⟩:=bN h;refine aF (aA M (mvR M M M M)<|aA M (aN M M A9 (svR M))<|cFa 390 un86 M ti37 M<|aA M (kR aC.toEnc0 (d:=.osl _ _ _) (n:=64) (k:=1) M M A9 un37 ag37 ti37 A7 (svR M) M hk30 I4 B5 I4)<|aA M (oS M M A9 un37 (svo M))<|cCm (b:=0) M k31<|aD ?_);refine aP h M ?_ ?_<;>intro h
   ·refine aF (cAs (.int _ 7) M<|aD ?_);refine aU<|aY<|aY ?_;obtain rfl:=sj_ h;refine Z3
   ·refine aR<|aI ?_;obtain ⟨x33,k33,x34,k34,x35,k35,h⟩:=eooo h;refine aS (aA M (mvR M M M M)<|aA M (mvR M M M M)<|aA M (aN M M A9 (svR M))<|cFa 390 un86 M ti37 M<|aA M (kR aC.toEnc0 (d:=.osl _ _ _) (n:=64) (k:=1) M M A9 un37 ag37 ti37 A7 (svR M) M hk30 I4 B5 I4)<|aA M (fS (eInt .i64).toEnc0 M M A9 un37 ti3 (svo M) M (svi 0 M) k33)<|aA M (iR (eInt .i64).toEnc0 (d:=.int _ _) M M A9 un3 ag3 ti3 A7 (svR M) M k34 B5 M)<|aA M (dQ (r':=.tuple []) (H1':=C6 x35.1 x35.2.1 x35.2.2.1 x35.2.2.2.1 x35.2.2.2.2.1 x35.2.2.2.2.2.1 x35.2.2.2.2.2.2.1 x35.2.2.2.2.2.2.2) 1 [1000,1001] M M A9 cl80 Y5 M M X6 (rI _ _ _ _ _ _ _ _ _ _ k35) M M B1 B7)<|bE ?_);refine aI ⟨(x35.1,x35.2.1,x35.2.2.1,x35.2.2.2.1,x35.2.2.2.2.1,x35.2.2.2.2.2.1,x35.2.2.2.2.2.2.1,x35.2.2.2.2.2.2.2),(fun i=>i),wkU,?_⟩;exact h
  ·refine aR<|aI ⟨(a2,a3,a4,a5,a6,a7,a8,a9),(fun i=>if i=1 then 1001 else i),wkU,?_⟩;exact h
 ·rintro ⟨v10,v11,v12,v13,v14,v15,v16,v17⟩ h;unfold iO at h;obtain ⟨x18,k18,h⟩:=bS h;refine aF (aA M (mvR M M M M)<|aA M (aN M M A9 (svR M))<|cFa 2 un86 M ti80 M<|aA M (tP aC.toEnc0 (cs:=q16) M M A9 un80 ag80 ti80 A7 (svR M) M B5 I4)<|cI M<|aA M (bA (r:=.tuple q31) M M A9 cl81 (.cons (svA q16 M) B9) M (aDd _ _ _ k18))<|cMv (.tuple q31) M<|cEx (d:=.agg q16) (cs:=q31) M<|cEx (d:=.int _ _) (cs:=q31) M<|cEx (d:=.int _ _) (cs:=q31) M<|aA M (cF (cs:=q22) (cs':=G4) 2 M M A9 M ti80 M M L4)<|cSt q16 q16 ti80 M<|cAI M<|cAI M<|aD ?_);refine aQ ?_;obtain ⟨x19,k19,h⟩:=bN h;refine aF (cI M<|cCm (b:=0) M k19<|aD ?_);refine aP h M ?_ ?_<;>intro h
  ·refine aF (cI M<|cAI M<|aD ?_);refine aU<|aY ?_;obtain rfl:=sj_ h;refine X9
  ·refine aR<|aI<|aF (aA M (mvR M M M M)<|cLr q16 la80 M<|aA M (aN M M A9 (svR M))<|cFa 2 un86 M ti80 M<|aA M (aAI aC.toEnc0 (pre:=q10) (pre':=q10) M M ti80 (svR M) M (svA q16 M) M M M B5 M)<|aD ?_);obtain ⟨x21,k21,h⟩:=bS h;obtain ⟨hk22,h⟩:=rO h;obtain ⟨x23,k23,x24,k24,h⟩:=eod h;refine aF (aA M (mvR M M M M)<|cI M<|cI M<|aA M (cZ (cs:=q9) M M A9 un83 ti83 pl83 M (.cons (svI M) (.cons (svi (-1) M) (.cons (svi (-1) M) (.cons (svi 16 M) .nil)))) M)<|aA M (aN M M A9 (svR M))<|cFa 5 un86 M ti84 M<|aA M (dS aC.toEnc0 M M A9 un84 ti83 (svR M) hk22 (svI M) k21)<|aA M (mO aC.toEnc0 (b:=5) (k:=0) (a':=(⟨a0,0,(-1),(-1),16,false⟩:aJ)) M M ti83 (svR M) M (svA q9 M) M M M M k23 B5 M k24)<|aD ?_);obtain ⟨x25,k25,h⟩:=bS h;refine aF (aA M (mvR M M M M)<|cI M<|aA M (dQ (r':=.tuple []) (H1':=[(1000,.blk 86 (mixD aC.toEnc0 (w35 x25.1 x25.2.1 x25.2.2.1 x25.2.2.2.1 x25.2.2.2.2.1) x25.2.2.2.2.2.1 [.int .i64 x25.2.2.2.2.2.2.1,.osl 3 (eInt .i64).sz x25.2.2.2.2.2.2.2.length])),(3,.blk 3 (Ac (x25.2.2.2.2.2.2.2.map (eInt .i64).d)))]) 3 [1000,1] M M A9 cl82 (.cons (svR M) (.cons (svI M) T9)) M M X6 (tM _ _ _ _ _ _ _ _ _ _ _ k25) M M B1 B7)<|aD ?_);obtain ⟨x26,k26,h⟩:=bS h;refine aF (aA M (mvR M M M M)<|cI M<|cLr q19 la88 M<|aA M (dQ (r':=.tuple []) (H1':=[(1000,.blk 86 (mixD aC.toEnc0 (w35 x26.1 x26.2.1 x26.2.2.1 x26.2.2.2.1 x26.2.2.2.2.1) x26.2.2.2.2.2.1 [.int .i64 x26.2.2.2.2.2.2.1,.osl 4 (eInt .i64).sz x26.2.2.2.2.2.2.2.length])),(4,.blk 3 (Ac (x26.2.2.2.2.2.2.2.map (eInt .i64).d)))]) 4 [1000,3] M M A9 cl83 L5 M M X6 (sW _ _ _ _ _ _ _ _ _ _ _ k26) M M B1 B7)<|aD ?_);refine aF (cAs (.int _ 0) M<|aD ?_);refine aU ?_;obtain rfl:=sj_ h;refine ⟨.inr M,(fun i=>if i=0 then 4 else i),wkU,B0,M⟩

theorem G2(h:p:=by exact .cons (svI M) (.cons (svI M) (.cons (svB M) .nil))):p:=h
theorem nP(a0 a1 a2:Int)(a3:Bool)(a4 a5:Int)(a6:List aK)(a7 a8:Int)(a9:List aJ)(a10:Int)(a11:List Int)(r:Int×Int×Int×(List aK)×Int×Int×(List aJ)×Int×(List Int))(h:jA a0 a1 a2 a3 a4 a5 a6 a7 a8 a9 a10 a11=some r):FnH FY 11 [.ref 1000 0,.int .i64 a0,.int .i64 a1,.int .i64 a2,.bool a3] (X0 a4 a5 a6 a7 a8 a9 a10 a11) (D4 r.1) (C2 r.2.1 r.2.2.1 r.2.2.2.1 r.2.2.2.2.1 r.2.2.2.2.2.1 r.2.2.2.2.2.2.1 r.2.2.2.2.2.2.2.1 r.2.2.2.2.2.2.2.2):=by
 refine dX (rs:=C4 r.1) func11 M ntmps11 B5 fun O hO=>sta ⟨[D0,D3 a0,H7 a1,I2 a2,(4,.bool a3)],X0 a4 a5 a6 a7 a8 a9 a10 a11⟩ ?_;unfold jA at h;refine aF (cAs (.int _ 0) M<|aD ?_);refine aQ<|aF (aA M (mvR M M M M)<|aA M (tQ M M A9 un33 (svR M) (sv (d:=.nilp) M))<|aD ?_);refine kF M M<|aR<|aI<|aF (cI M<|cI M<|cB M<|aA M (cZ (cs:=q19) M M A9 un88 ti88 pl88 M G2 M)<|aA M (cF (cs:=q19) (cs':=[.int .i64 0,.int .i64 0,.bool false]) 0 M M A9 M ti88 M M (.all _))<|cSt q19 q19 ti88 M<|aD ?_);refine aQ ?_;obtain ⟨x1,k1,h⟩:=bS h;refine aF (cLr q19 la88 M<|cI M<|aA M (bA (r:=.int _ _) M M A9 cl34 (.cons (svA q19 M) B9) M (tY _ _ _ k1))<|cAI M<|aD ?_);obtain ⟨x2,k2,h⟩:=bN h;refine aF (cI M<|cCm (b:=0) M k2<|aD ?_);refine aP h M ?_ ?_<;>intro h
 ·refine aF (cI M<|cAI M<|aD ?_);refine aU<|aY ?_;obtain rfl:=sj_ h;refine Z3
 ·refine aR<|aI<|aQ ?_;obtain ⟨x4,k4,x5,k5,h⟩:=eod h;refine aF (aA M (mvR M M M M)<|cI M<|aA M (fW (r':=.int .i64 x4) (V:=X0 a4 a5 a6 a7 a8 a9 a10 a11) 1 [1000,1001] M M A9 cl35 Y5 M M M Y2 (jC _ _ _ _ _ _ _ _ _ _ k4) M M B1 B7 E0 M)<|cCm (b:=(-1)) M k5<|aD ?_);refine aP h M ?_ ?_<;>intro h
  ·refine aF (cAs (.int _ 13) M<|aD ?_);refine aU<|aY ?_;obtain rfl:=sj_ h;refine Z3
  ·refine aR<|aI ?_;obtain ⟨x7,k7,h⟩:=bS h;refine aF (aA M (mvR M M M M)<|cI M<|cLr q19 la88 M<|aA M (dQ (r':=.int .i64 x7.1) (H1':=C6 x7.2.1 x7.2.2.1 x7.2.2.2.1 x7.2.2.2.2.1 x7.2.2.2.2.2.1 x7.2.2.2.2.2.2.1 x7.2.2.2.2.2.2.2.1 x7.2.2.2.2.2.2.2.2) 1 [1000,1001] M M A9 cl36 L5 M M X6 (sJ _ _ _ _ _ _ _ _ _ _ _ k7) M M B1 B7)<|cAI M<|aD ?_);refine aU ?_;obtain rfl:=sj_ h;refine X9

abbrev Q7:=fun a=>((.slice false ((List.map aG.d a))):D)
abbrev K0:=fun a=>((0,.slice false ((List.map aG.d a))):Nat×D)
theorem J8(h:p:=by exact ⟨.inr M,(.cons (aA5 M M) .nil)⟩):p:=h
theorem pM(a0 r:List aL)(h:eS a0=some r):dH FY 90 [.slice false (a0.map aG.d)] (Q7 r):=by
 refine bK (rs:=[.slice false (r.map aG.d)]) func90 M ntmps90 B5 M fun O hO=>sta ⟨[K0 a0],[]⟩ ?_;unfold eS at h;refine aF (cAs (.nils) M<|aD ?_);refine aQ<|aF (aA M (mvL M M M M)<|aBm M M M A7 un44 (svL M) M<|fun bn1 hbn1 =>
  aD ?_)
 refine mX (b:=_) M (fun hc2=>?_) (fun hc2=>?_)
 ·replace h:=aEk h (mapE (hbn1 hc2));refine aF (cAs (.nils) M<|aD ?_);refine aU<|aY ?_;obtain rfl:=sj_ h;refine ⟨.inr M,(.cons (aJT M M) .nil)⟩
 ·replace h:=aEl h;refine aR<|aI ?_;obtain ⟨x3,k3,h⟩:=bS h;refine aF (aA M (oL aG ([]:(List aL)) 0 M M A9 un44 ti26 M .nil M M A7)<|aA M (mvL M M M M)<|aA M (nZ aG 1 M M A9 un44 ti26 M M M M (svL M) k3)<|cAs (.gsl _ _ _) M<|aD ?_);refine aU ?_;obtain rfl:=sj_ h;refine J8

abbrev H8:=fun a=>([.slice false ((List.map aB.d a))]:List D)
abbrev J0:=fun a=>((0,.blk 46 (Ac ((List.map aB.d a)))):Nat×Ent)
abbrev C5:=fun a=>((0,.slice false ((List.map aB.d a))):Nat×D)
abbrev W2:=fun a=>((6,.slice false ((List.map aB.d a))):Nat×D)
abbrev H4:=([.int .i64 0,.slice false (([]:List aL).map aG.d)]:List D)
theorem i6(h:p:=by exact lop M M fun S hA=>(bM M M A9 (sv (d:=.osl _ _ _) (agr hA M M)))):p:=h
theorem V5(h:p:=by exact .cons (svaA q24 hA M M) .nil):p:=h
theorem o0(h:p:=by exact lop M M fun S hA=>(bH M M A9 (sv (d:=.osl _ _ _) (agr hA M M)))):p:=h
theorem xL(a0 r:List aH)(h:oA a0=some r):FnH FY 51 (H8 a0) [] (.osl 0 aB.sz r.length) [J0 r]:=by
 refine dX (rs:=[.osl 0 aB.sz r.length]) func51 M ntmps51 B5 fun O hO=>sta ⟨[C5 a0],[]⟩ ?_;unfold oA at h;refine aF (cAs (.nils) M<|aD ?_);refine aF (cAs (.nils) M<|aD ?_);refine aQ<|aF (aA M (mvL M M M M)<|aA M (bT aB (l:=a0) M M A9 un40 (svL M))<|cMv (.int _ 0) M<|aD ?_);refine aT<|bR (α:=Nat×(List aH)×Int) (fun z=>⟨[(3,.osl 21 aB.sz z.2.1.length),W2 a0,K2 a0.length,L7 z.2.2],[(21,.blk 46 (Ac (z.2.1.map aB.d)))]⟩) (fun z=>jM a0 z.1 z.2.1 z.2.2=some r) (fun z=>z.1) (fuel,([]:(List aH)),0) (fun i=>if i=21 then 71 else i) wkU ?_ ?_
 ·exact h
 ·rintro ⟨n0,v7,v8⟩ h
  cases n0 with
  | zero=>exact Ay h (by unfold jM; exact nofun)
  | succ n0 =>
   unfold jM at h;obtain ⟨x15,k15,h⟩:=bN h;refine aF (cCm M k15<|aD ?_);refine aQ<|aP h M ?_ ?_<;>intro h
   ·refine aR<|aI<|aQ<|aT ?_;obtain ⟨x17,k17,h⟩:=bS h;refine aF (aA M (bL aB (cs:=q24) M M A9 un40 ti46 (svL M) (svI M) k17 M M)<|aA M (cP (cs:=q24) M M A9 un46 ag46 ti46 A7 (svf q24 M) B5 M)<|aA M (cF (cs:=[.int _ _,.nils]) (cs':=H4) 22 M M A9 M ti46 M M (.k G1))<|cSt q24 q24 ti46 M<|aD ?_);obtain ⟨x18,k18,x19,k19,h⟩:=eoo h;refine jL M [nd1 [3] 12 (.osl 21 aB.sz v7.length),nd1 [5] 13 (.ref 22 0),nd2 [13] [22] 14 (.int .i64 x17.aa),nd1 [5] 15 (.ref 22 1),nd2 [15] [22] 16 (.slice false (x17.ab.map aG.d)),nd1 [16] 17 (Q7 x18),nd1 [14,17] 18 (.agg [.int .i64 x17.aa,.slice false (x18.map aG.d)]),⟨[18],[23],[(19,.osl 23 aB.sz (([(⟨x17.aa,x18⟩:aH)]:(List aH)).length))],[(23,.blk 46 (Ac ((([(⟨x17.aa,x18⟩:aH)]:(List aH))).map aB.d)))]⟩,⟨[12,19],[21,23,24],[(20,.osl 24 aB.sz x19.length)],[(24,.blk 46 (Ac (x19.map aB.d))),(21,.none)]⟩,nd1 [20] 3 (.osl 24 aB.sz x19.length)] M ?_ D6 ?_
    ·refine .cons i6<|.cons (dFa 0 un46 M ti3 M)<|.cons (dLd un3 ag3 ti3 M)<|.cons (dFa 1 un46 M ti44 M)<|.cons (dLd un44 ag44 ti44 M)<|.cons (lop M M fun S hA=>(bA (r:=.slice _ _) M M A9 cl90 (.cons (svaL hA M M) .nil) M (pM _ _ k18)))<|.cons (lop M M fun S hA=>(cZ (cs:=q24) M M A9 un46 ti46 pl46 M (.cons (svaI hA M M) (.cons (svaL hA M M) .nil)) M))<|.cons (lop M M fun S hA=>(oT aB.toEnc0 ([(⟨x17.aa,x18⟩:aH)]:(List aH)) 23 M M A9 un40 ti46 (agi hA M M) V5 M M A7))<|.cons (lop M M fun S hA=>(lK aB.toEnc0 24 M M A9 un40 ti46 M (agr hA M M) M (agi hA M M) (agi hA M M) (vT aB.toEnc0 (agr hA M M) M (agi hA M M)) k19))<|.cons o0 ?_
     exact .nil
    refine bI<|aI ?_;obtain ⟨x20,k20,h⟩:=bN h;refine aS (aA M (bD M M A9 (svI M) (svi 1 M) M k20)<|cI M<|bE ?_);refine aI ⟨(n0,x19,x20),(fun i=>if i=21 then 24 else i),wkU,?_,?_⟩;exact h;exact Ah _
   ·refine cD<|bC<|bC<|cE<|aI<|aF (cMv (.osl _ _ _) M<|cAs (.osl _ _ _) M<|aD ?_);refine aU ?_;obtain rfl:=sj_ h;refine ⟨.inr M,(fun i=>if i=0 then 21 else i),wkU,B0,M⟩

theorem oJ(a0 a1 a2:Int)(a3:List aK)(a4 a5:Int)(a6:List aJ)(a7:Int)(a8:List Int)(r:Int)(h:iA a0 a1 a2 a3 a4 a5 a6 a7 a8=some r):FnH FY 76 (L6 a0) (X0 a1 a2 a3 a4 a5 a6 a7 a8) (.int .i64 r) (X0 a1 a2 a3 a4 a5 a6 a7 a8):=by
 refine dX (rs:=[.int .i64 r]) func76 M ntmps76 B5 fun O hO=>sta ⟨[D0,D3 a0],X0 a1 a2 a3 a4 a5 a6 a7 a8⟩ ?_;unfold iA at h;refine aF (cAs (.int _ 0) M<|aD ?_);refine aQ ?_;obtain ⟨x1,k1,h⟩:=bN h;refine aF (cI M<|cCm (b:=(-1)) M k1<|aD ?_);refine aP h M ?_ ?_<;>intro h
 ·refine aF (cAs (.int _ 0) M<|aD ?_);refine aU<|aY ?_;obtain rfl:=sj_ h;refine Y4
 ·refine aR<|aI ?_;obtain ⟨x3,k3,h⟩:=bS h;obtain ⟨hk4,h⟩:=rO h;obtain ⟨x5,k5,h⟩:=bS h;refine aF (aA M (mvR M M M M)<|cI M<|aA M (aN M M A9 (svR M))<|cFa 5 un86 M ti84 M<|aA M (dS aC.toEnc0 M M A9 un84 ti83 (svR M) hk4 (svI M) k3)<|aA M (cL M M A9 un83 M ti3 A7 (svR M) (k':=0) M)<|aA M (cW aC.toEnc0 (b:=5) (k:=0) (d:=.int _ _) M M A9 un3 ag3 ti3 A7 (svR M) M M k5 B5 M)<|cAI M<|aD ?_);refine aU ?_;obtain rfl:=sj_ h;refine Y4

theorem nD(a0 r:List aW)(h:eI a0=some r):FnH FY 101 [.osl 1000 aO.sz a0.length,.fn 102 []] [(1000,.blk 109 (Ac (a0.map aO.d)))] (retD []) [(1000,.blk 109 (Ac (r.map aO.d)))]:=p_sortN a0 r h

abbrev O6:=fun a=>((.slice false ((List.map aO.d a))):D)
theorem sX(a0 a1:Int)(a2:List aK)(a3 a4:Int)(a5:List aJ)(a6:Int)(a7:List Int)(r:List aW)(h:lT a0 a1 a2 a3 a4 a5 a6 a7=some r):FnH FY 67 [.ref 1000 0] (X0 a0 a1 a2 a3 a4 a5 a6 a7) (O6 r) (X0 a0 a1 a2 a3 a4 a5 a6 a7):=by
 refine dX (rs:=[.slice false (r.map aO.d)]) func67 M ntmps67 B5 fun O hO=>sta ⟨[D0],X0 a0 a1 a2 a3 a4 a5 a6 a7⟩ ?_;unfold lT at h;refine aF (cAs (.nils) M<|aD ?_);refine aQ<|aF (aA M (mvR M M M M)<|aA M (tQ M M A9 un33 (svR M) (sv (d:=.nilp) M))<|aD ?_);refine kF M M<|aR<|aI<|aF (cAs (.nils) M<|aD ?_);refine aQ ?_;obtain ⟨x1,k1,h⟩:=bS h;refine aF (aA M (mvR M M M M)<|aA M (aN M M A9 (svR M))<|cFa 2 un86 M ti80 M<|aA M (tP aC.toEnc0 (cs:=q16) M M A9 un80 ag80 ti80 A7 (svR M) M B5 I4)<|aA M (bA (r:=.slice _ _) M M A9 cl78 K8 M (aAX _ _ k1))<|aA M (bT (eInt .i64) (l:=x1) M M A9 un37 (svL M))<|cMv (.int _ 0) M<|aD ?_);refine aT<|bR (α:=Nat×(List aW)×Int) (fun z=>⟨[D0,(3,.osl 21 aO.sz z.2.1.length),(13,.slice false (x1.map (eInt .i64).d)),(14,.int .i64 (x1.length:Int)),(15,.int .i64 z.2.2)],[A0 a0 a1 a2 a3 a4 a5 a6 a7.length,(21,.blk 109 (Ac (z.2.1.map aO.d))),A5 a7]⟩) (fun z=>gQ a0 a1 a2 a3 a4 a5 a6 a7 x1 z.1 z.2.1 z.2.2=some r) (fun z=>z.1) (fuel,([]:(List aW)),0) (fun i=>if i=21 then 71 else i) wkU ?_ ?_
 ·exact h
 ·rintro ⟨n0,v11,v12⟩ h
  cases n0 with
  | zero=>exact Ay h (by unfold gQ; exact nofun)
  | succ n0 =>
   unfold gQ at h;obtain ⟨x22,k22,h⟩:=bN h;refine aF (cCm M k22<|aD ?_);refine aQ<|aP h M ?_ ?_<;>intro h
   ·refine aR<|aI<|aQ<|aT ?_;obtain ⟨x24,k24,h⟩:=bS h;refine aF (aA M (bL (eInt .i64) (cs:=[.int _ _]) M M A9 un37 ti3 (svL M) (svI M) k24 M M)<|aA M (bG M M A9 un3 ag3 ti3 A7 (svf [.int _ _] M) B5)<|cAI M<|aD ?_);obtain ⟨x25,k25,h⟩:=bS h;obtain ⟨hk26,h⟩:=rO h;obtain ⟨x27,k27,h⟩:=bS h;refine aF (aA M (mvR M M M M)<|cI M<|aA M (aN M M A9 (svR M))<|cFa 5 un86 M ti84 M<|aA M (dS aC.toEnc0 M M A9 un84 ti83 (svR M) hk26 (svI M) k25)<|aA M (aEV aC.toEnc0 (b:=5) (k:=0) (cs:=q9) M M A9 un83 ag83 ti83 A7 (svR M) M M k27 B5 M)<|aA M (cF (cs:=q9) (cs':=[.int .i64 0,.int .i64 0,.int .i64 0,.int .i64 0,.int .i64 0,.bool false]) 22 M M A9 M ti83 M M (.all _))<|cSt q9 q9 ti83 M<|aD ?_);obtain ⟨x28,k28,x29,k29,h⟩:=eoo h;refine jL M [nd1 [3] 25 (.osl 21 aO.sz v11.length),nd1 [6] 26 (.ref 22 0),nd2 [26] [22] 27 (.int .i64 x27.id),nd1 [0] 28 (.ref 1000 0),nd1 [6] 29 (.ref 22 1),nd2 [29] [22] 30 (.int .i64 x27.up),nd2 [28,30] [1000,1001] 31 (D4 x28),nd1 [6] 32 (.ref 22 4),nd2 [32] [22] 33 (.int .i64 x27.weight),nd1 [6] 34 (.ref 22 5),nd2 [34] [22] 35 (.bool x27.closed),nd1 [27,31,33,35] 36 (.agg (w36 x27.id x28 x27.weight x27.closed)),⟨[36],[23],[(37,.osl 23 aO.sz (([(⟨x27.id,x28,x27.weight,x27.closed⟩:aW)]:(List aW)).length))],[(23,.blk 109 (Ac ((([(⟨x27.id,x28,x27.weight,x27.closed⟩:aW)]:(List aW))).map aO.d)))]⟩,⟨[25,37],[21,23,24],[(38,.osl 24 aO.sz x29.length)],[(24,.blk 109 (Ac (x29.map aO.d))),(21,.none)]⟩,nd1 [38] 3 (.osl 24 aO.sz x29.length)] M ?_ D6 ?_
    ·refine .cons i6<|.cons (dFa 0 un83 M ti3 M)<|.cons (dLd un3 ag3 ti3 M)<|.cons (dMv M)<|.cons (dFa 1 un83 M ti3 M)<|.cons (dLd un3 ag3 ti3 M)<|.cons (lop M M fun S hA=>(fW (r':=.int .i64 x28) (V:=X0 a0 a1 a2 a3 a4 a5 a6 a7) 23 [1000,1001] M M A9 cl76 (.cons (svaR hA M M) F0) M M M D5 (oJ _ _ _ _ _ _ _ _ _ _ k28) M M B1 B7 J3 M))<|.cons (dFa 4 un83 M ti3 M)<|.cons (dLd un3 ag3 ti3 M)<|.cons (dFa 5 un83 M ti4 M)<|.cons (dLd un4 ag4 ti4 M)<|.cons (lop M M fun S hA=>(cZ (cs:=q14) M M A9 aA4 yH pl109 M (.cons (svaI hA M M) (.cons (svaI hA M M) (.cons (svaI hA M M) (.cons (svaB hA M M) .nil)))) M))<|.cons (lop M M fun S hA=>(oT aO.toEnc0 ([(⟨x27.id,x28,x27.weight,x27.closed⟩:aW)]:(List aW)) 23 M M A9 aFl yH (agi hA M M) (.cons (svaA q14 hA M M) .nil) M M A7))<|.cons (lop M M fun S hA=>(lK aO.toEnc0 24 M M A9 aFl yH M (agr hA M M) M (agi hA M M) (agi hA M M) (vT aO.toEnc0 (agr hA M M) M (agi hA M M)) k29))<|.cons o0 ?_
     exact .nil
    refine bI<|aI ?_;obtain ⟨x30,k30,h⟩:=bN h;refine aS (aA M (bD M M A9 (svI M) (svi 1 M) M k30)<|cI M<|bE ?_);refine aI ⟨(n0,x29,x30),(fun i=>if i=21 then 24 else i),wkU,?_,?_⟩;exact h;exact Ah _
   ·refine cD<|bC<|bC<|cE<|aI ?_;obtain ⟨x31,k31,h⟩:=bS h;obtain ⟨hk32,h⟩:=rO h;refine aF (cMv (.osl _ _ _) M<|aA M (dQ (r':=.tuple []) (H1':=[(21,.blk 109 (Ac (x31.map aO.d)))]) 22 [21] M M A9 cl101 (.cons (svo M) (.cons (sv (d:=.fn 102 []) M) .nil)) M M ⟨M,M,by decide,M,Aa.2 ⟨⟨M,M,(jP aO M),(cC aO)⟩,Ab _⟩⟩ (nD _ _ k31) M M (Aa.2 ⟨⟨M,(cC aO)⟩,Ab _⟩) F8)<|aD ?_);refine aF (cMv (.osl _ _ _) M<|cAs (.osl _ _ _) M<|aD ?_);refine uS 2 (id:=21) (l:=x31.map aO.d) ⟨_,M⟩ M M (by rw [An]; exact hk32) (aO.toEnc0.len _) aO.pos (aO.noRef _)<|aU ?_;obtain rfl:=sj_ h;refine Y4

theorem u5(h:p:=by exact fun hb=>(dS aC.toEnc0 M M A9 un84 ti83 (svcR M hb) (hk30 hb) (svcI M hb) (gd_t k29 hb))):p:=h
theorem p7(h:p:=by exact fun hb=>(cW aC.toEnc0 (b:=5) (k:=1) (d:=.int _ _) M M A9 un3 ag3 ti3 A7 (svcR M hb) M M (gd_t k31 hb) B5 M)):p:=h
theorem xS(a0 a1 a2:Int)(a3:List aK)(a4 a5:Int)(a6:List aJ)(a7:Int)(a8 r:List Int)(h:mL a0 a1 a2 a3 a4 a5 a6 a7 a8=some r):FnH FY 65 (L6 a0) (X0 a1 a2 a3 a4 a5 a6 a7 a8) (G3 r) (X0 a1 a2 a3 a4 a5 a6 a7 a8):=by
 refine dX (rs:=I8 r) func65 M ntmps65 B5 fun O hO=>sta ⟨[D0,D3 a0],X0 a1 a2 a3 a4 a5 a6 a7 a8⟩ ?_;unfold mL at h;refine aF (cAs (.nils) M<|aD ?_);refine aQ<|aF (aA M (mvR M M M M)<|aA M (tQ M M A9 un33 (svR M) (sv (d:=.nilp) M))<|aD ?_);refine kF M M<|aR<|aI<|aF (cAs (.nils) M<|aD ?_);obtain ⟨x1,k1,h⟩:=bS h;refine aF (aA M (mvR M M M M)<|cI M<|aA M (fW (r':=.int .i64 x1) (V:=X0 a1 a2 a3 a4 a5 a6 a7 a8) 0 [1000,1001] M M A9 cl35 Y5 M M M Y2 (jC _ _ _ _ _ _ _ _ _ _ k1) M M B1 B7 E0 M)<|cAI M<|aD ?_);refine aQ<|aT<|bR (α:=Nat×(List Int)×Int) (fun z=>⟨[D0,(5,.osl 21 (eInt .i64).sz z.2.1.length),N3 z.2.2],[A0 a1 a2 a3 a4 a5 a6 a7 a8.length,(21,.blk 3 (Ac (z.2.1.map (eInt .i64).d))),A5 a8]⟩) (fun z=>fO a1 a2 a3 a4 a5 a6 a7 a8 z.1 z.2.1 z.2.2=some r) (fun z=>z.1) (fuel,([]:(List Int)),x1) (fun i=>if i=21 then 71 else i) wkU ?_ ?_
 ·exact h
 ·rintro ⟨n0,v14,v15⟩ h
  cases n0 with
  | zero=>exact Ay h (by unfold fO; exact nofun)
  | succ n0 =>
   unfold fO at h;refine aQ ?_;obtain ⟨x28,k28,x29,k29,h⟩:=edo h;obtain ⟨hk30,h⟩:=rO h;obtain ⟨x31,k31,x32,k32,x33,k33,h⟩:=eodd h;refine aF (cI M<|cCm (b:=(-1)) M k28<|cB M<|gG M V7<|gG M E8<|gG M (fun hb=>(aN M M A9 (svcR M hb)))<|gG M (fun hb=>(fG M M A9 un86 M ti84 A7 (svcR M hb) (off':=5) M))<|gG M u5<|gG M (fun hb=>(cL M M A9 un83 M ti3 A7 (svcR M hb) (k':=1) M))<|gG M p7<|gG M (fun hb=>(tCg (b:=(-1)) M hb k32))<|cAn M k33<|aD ?_);refine aP h M ?_ ?_<;>intro h
   ·refine aR<|aI<|aT ?_;obtain ⟨x35,k35,h⟩:=bS h;obtain ⟨hk36,h⟩:=rO h;obtain ⟨x37,k37,h⟩:=bS h;refine aF (aA M (mvR M M M M)<|cI M<|aA M (aN M M A9 (svR M))<|cFa 5 un86 M ti84 M<|aA M (dS aC.toEnc0 M M A9 un84 ti83 (svR M) hk36 (svI M) k35)<|aA M (cL M M A9 un83 M ti3 A7 (svR M) (k':=1) M)<|aA M (cW aC.toEnc0 (b:=5) (k:=1) (d:=.int _ _) M M A9 un3 ag3 ti3 A7 (svR M) M M k37 B5 M)<|cAI M<|aD ?_);obtain ⟨x38,k38,x39,k39,h⟩:=eoo h;refine aS (cMv (.osl _ _ _) M<|aA M (mvR M M M M)<|cI M<|aA M (fW (r':=.int .i64 x38) (V:=X0 a1 a2 a3 a4 a5 a6 a7 a8) 22 [1000,1001] M M A9 cl76 Y5 M M M Y2 (oJ _ _ _ _ _ _ _ _ _ _ k38) M M B1 B7 E0 M)<|aA M (oT (eInt .i64).toEnc0 ([x38]:(List Int)) 22 M M A9 un37 ti3 M B9 M M A7)<|aA M (lK (eInt .i64).toEnc0 23 M M A9 un37 ti3 M M M M M (vT (eInt .i64).toEnc0 M M M) k39)<|cAs (.osl _ _ _) M<|bE ?_);refine bI<|aI ⟨(n0,x39,x37.up),(fun i=>if i=21 then 23 else i),wkU,?_,?_⟩;exact h;exact Ah _
   ·refine cD<|bC<|bC<|cE<|aI<|aF (cMv (.osl _ _ _) M<|cAs (.osl _ _ _) M<|aD ?_);refine uS 4 (id:=21) (l:=v14.map (eInt .i64).d) ⟨_,M⟩ M M (An ..) ((eInt .i64).toEnc0.len _) (eInt .i64).pos ((eInt .i64).noRef _)<|aU ?_;obtain rfl:=sj_ h;refine Y4

theorem aBQ(a0:aH)(r:Bool)(h:tA a0=some r):dH FY 44 [.agg [.int .i64 a0.aa,.slice false (a0.ab.map aG.d)]] (.bool r):=by
 refine bK (rs:=[.bool r]) func44 M ntmps44 B5 M fun O hO=>sta ⟨[(0,.agg [.int .i64 a0.aa,.slice false (a0.ab.map aG.d)])],[]⟩ ?_;unfold tA at h;refine aF (cBx (cs:=q24) q24 0 M<|cAs (.bool false) M<|aD ?_);obtain ⟨x1,k1,h⟩:=bN h;refine aF (cFa 1 un46 M ti44 M<|aA M (lrL la44 M M M M M B5 M)<|aA M (bT aG (l:=a0.ab) M M A9 un44 (svL M))<|cCm (b:=24) M k1<|cAB M<|aD ?_);refine aU ?_;obtain rfl:=sj_ h;refine ⟨.inr M,B0⟩

theorem K7(h:p:=by exact .cons (svA q24 M) .nil):p:=h
theorem nA(a0:List aH)(r:Int)(h:eC a0=some r):dH FY 89 [.slice false (a0.map aB.d),.fn 44 []] (.int .i64 r):=by
 refine bK (rs:=[.int .i64 r]) func89 M ntmps89 B5 M fun O hO=>sta ⟨[C5 a0,(1,.fn 44 [])],[]⟩ ?_;unfold eC at h;refine aF (cAs (.int _ 0) M<|aD ?_);refine aQ<|aF (aA M (mvL M M M M)<|aA M (bT aB (l:=a0) M M A9 un40 (svL M))<|cMv (.int _ 0) M<|aD ?_);refine aT<|bR (α:=Nat×Int) (fun z=>⟨[C5 a0,(1,.fn 44 []),K2 a0.length,L7 z.2],[]⟩) (fun z=>cV a0 z.1 z.2=some r) (fun z=>z.1) (fuel,0) (fun i=>i) wkU ?_ ?_
 ·exact h
 ·rintro ⟨n0,v7⟩ h
  cases n0 with
  | zero=>exact Ay h (by unfold cV; exact nofun)
  | succ n0 =>
   unfold cV at h;obtain ⟨x14,k14,h⟩:=bN h;refine aF (cCm M k14<|aD ?_);refine aQ<|aP h M ?_ ?_<;>intro h
   ·refine aR<|aI<|aQ<|aT<|aF (cI M<|cAI M<|aD ?_);obtain ⟨x16,k16,x17,k17,h⟩:=eoo h;refine aF (cMv (.fn 44 []) M<|aA M (mvL M M M M)<|cI M<|aA M (bL aB (cs:=q24) M M A9 un40 ti46 (svL M) (svI M) k16 M M)<|aA M (cP (cs:=q24) M M A9 un46 ag46 ti46 A7 (svf q24 M) B5 M)<|aA M (pR (r:=.bool _) M M A9 cl44 (sv (d:=.fn 44 []) M) K7 M (aBQ _ _ k17))<|aD ?_);refine aP h M ?_ ?_<;>intro h
    ·refine aF (cI M<|cAI M<|aD ?_);refine aU<|bU<|aY<|aY<|bU<|aY ?_;obtain rfl:=sj_ h;refine ⟨.inr M,B0⟩
    ·refine aR<|bI<|aI ?_;obtain ⟨x19,k19,h⟩:=bN h;refine aS (aA M (bD M M A9 (svI M) (svi 1 M) M k19)<|cI M<|bE ?_);refine aI ⟨(n0,x19),(fun i=>i),wkU,?_,?_⟩;exact h;exact Ah _
   ·refine cD<|bC<|bC<|cE<|aI<|aF (cAs (.int _ (-1)) M<|aD ?_);refine aU ?_;obtain rfl:=sj_ h;refine ⟨.inr M,B0⟩

theorem mF(a0:List aH)(r:Bool)(h:dF a0=some r):dH FY 50 [.slice false (a0.map aB.d),.fn 44 []] (.bool r):=by
 refine bK (rs:=[.bool r]) func50 M ntmps50 B5 M fun O hO=>sta ⟨[C5 a0,(1,.fn 44 [])],[]⟩ ?_;unfold dF at h;refine aF (cAs (.bool false) M<|aD ?_);obtain ⟨x1,k1,x2,k2,h⟩:=eod h;refine aF (aA M (mvL M M M M)<|cMv (.fn 44 []) M<|aA M (bA (r:=.int _ _) M M A9 cl89 (.cons (svL M) (.cons (sv (d:=.fn 44 []) M) .nil)) M (nA _ _ k1))<|cCm (b:=0) M k2<|cAB M<|aD ?_);refine aU ?_;obtain rfl:=sj_ h;refine ⟨.inr M,B0⟩

theorem wV(a0:aL)(r:Bool)(h:nJ a0=some r):dH FY 48 [.agg (tv4 a0)] (.bool r):=by
 refine bK (rs:=[.bool r]) func48 M ntmps48 B5 M fun O hO=>sta ⟨[(0,.agg (tv4 a0))],[]⟩ ?_;unfold nJ at h;refine aF (cBx (cs:=q18) q18 0 M<|cAs (.bool false) M<|aD ?_);obtain ⟨x1,k1,x2,k2,x3,k3,h⟩:=eood h;obtain ⟨x4,k4,x5,k5,h⟩:=eod h;refine aF (cFa 0 un26 M ti3 M<|cLd (d:=.int _ _) un3 ag3 ti3 M<|aA M (bA (r:=.bool _) M M A9 cl30 (.cons (svI M) (.cons (svi 1 M) K6)) M (nI _ _ _ _ k1))<|cB M<|gG M (fun hb=>(tFa 1 un26 M ti3 M))<|gG M E6<|gG M u3<|cAn M k3<|cB M<|gG M V1<|gG M E6<|gG M (fun hb=>(bA (r:=.bool _) M M A9 cl30 J1 M (nI _ _ _ _ (gd_t k4 hb))))<|cAn M k5<|cAB M<|aD ?_);refine aU ?_;obtain rfl:=sj_ h;refine ⟨.inr M,B0⟩

theorem U6(h:p:=by exact .cons (svA q18 M) .nil):p:=h
theorem zY(a0:aL)(r:Bool)(h:oB a0=some r):dH FY 47 [.agg (tv4 a0)] (.bool r):=by
 refine bK (rs:=[.bool r]) func47 M ntmps47 B5 M fun O hO=>sta ⟨[(0,.agg (tv4 a0))],[]⟩ ?_;unfold oB at h;refine aF (cBx (cs:=q18) q18 0 M<|cAs (.bool false) M<|aD ?_);obtain ⟨x1,k1,h⟩:=bS h;refine aF (cLr q18 la26 M<|aA M (bA (r:=.bool _) M M A9 cl48 U6 M (wV _ _ k1))<|aA M (eP M M A9 (svB M))<|cAB M<|aD ?_);refine aU ?_;obtain rfl:=sj_ h;refine ⟨.inr M,B0⟩

theorem mB(a0:List aL)(r:Int)(h:dU a0=some r):dH FY 88 [.slice false (a0.map aG.d),.fn 47 []] (.int .i64 r):=by
 refine bK (rs:=[.int .i64 r]) func88 M ntmps88 B5 M fun O hO=>sta ⟨[K0 a0,(1,.fn 47 [])],[]⟩ ?_;unfold dU at h;refine aF (cAs (.int _ 0) M<|aD ?_);refine aQ<|aF (aA M (mvL M M M M)<|aA M (bT aG (l:=a0) M M A9 un44 (svL M))<|cMv (.int _ 0) M<|aD ?_);refine aT<|bR (α:=Nat×Int) (fun z=>⟨[K0 a0,(1,.fn 47 []),K2 a0.length,L7 z.2],[]⟩) (fun z=>cQ a0 z.1 z.2=some r) (fun z=>z.1) (fuel,0) (fun i=>i) wkU ?_ ?_
 ·exact h
 ·rintro ⟨n0,v7⟩ h
  cases n0 with
  | zero=>exact Ay h (by unfold cQ; exact nofun)
  | succ n0 =>
   unfold cQ at h;obtain ⟨x14,k14,h⟩:=bN h;refine aF (cCm M k14<|aD ?_);refine aQ<|aP h M ?_ ?_<;>intro h
   ·refine aR<|aI<|aQ<|aT<|aF (cI M<|cAI M<|aD ?_);obtain ⟨x16,k16,x17,k17,h⟩:=eoo h;refine aF (cMv (.fn 47 []) M<|aA M (mvL M M M M)<|cI M<|aA M (bL aG (cs:=q18) M M A9 un44 ti26 (svL M) (svI M) k16 M M)<|aA M (cP (cs:=q18) M M A9 un26 ag26 ti26 A7 (svf q18 M) B5 M)<|aA M (pR (r:=.bool _) M M A9 cl47 (sv (d:=.fn 47 []) M) U6 M (zY _ _ k17))<|aD ?_);refine aP h M ?_ ?_<;>intro h
    ·refine aF (cI M<|cAI M<|aD ?_);refine aU<|bU<|aY<|aY<|bU<|aY ?_;obtain rfl:=sj_ h;refine ⟨.inr M,B0⟩
    ·refine aR<|bI<|aI ?_;obtain ⟨x19,k19,h⟩:=bN h;refine aS (aA M (bD M M A9 (svI M) (svi 1 M) M k19)<|cI M<|bE ?_);refine aI ⟨(n0,x19),(fun i=>i),wkU,?_,?_⟩;exact h;exact Ah _
   ·refine cD<|bC<|bC<|cE<|aI<|aF (cAs (.int _ (-1)) M<|aD ?_);refine aU ?_;obtain rfl:=sj_ h;refine ⟨.inr M,B0⟩

theorem lP(a0:List aL)(r:Bool)(h:dC a0=some r):dH FY 46 [.slice false (a0.map aG.d),.fn 47 []] (.bool r):=by
 refine bK (rs:=[.bool r]) func46 M ntmps46 B5 M fun O hO=>sta ⟨[K0 a0,(1,.fn 47 [])],[]⟩ ?_;unfold dC at h;refine aF (cAs (.bool false) M<|aD ?_);obtain ⟨x1,k1,x2,k2,h⟩:=eod h;refine aF (aA M (mvL M M M M)<|cMv (.fn 47 []) M<|aA M (bA (r:=.int _ _) M M A9 cl88 (.cons (svL M) (.cons (sv (d:=.fn 47 []) M) .nil)) M (mB _ _ k1))<|cCm (b:=0) M k2<|cAB M<|aD ?_);refine aU ?_;obtain rfl:=sj_ h;refine ⟨.inr M,B0⟩

theorem S9(h:p:=by exact fun hb=>(tLc (d:=.slice _ _) un44 ag44 ti44 M hb)):p:=h
theorem aBP(a0:aH)(r:Bool)(h:pU a0=some r):dH FY 45 [.agg [.int .i64 a0.aa,.slice false (a0.ab.map aG.d)]] (.bool r):=by
 refine bK (rs:=[.bool r]) func45 M ntmps45 B5 M fun O hO=>sta ⟨[(0,.agg [.int .i64 a0.aa,.slice false (a0.ab.map aG.d)])],[]⟩ ?_;unfold pU at h;refine aF (cBx (cs:=q24) q24 0 M<|cAs (.bool false) M<|aD ?_);obtain ⟨x1,k1,x2,k2,x3,k3,h⟩:=eood h;refine aF (cFa 0 un46 M ti3 M<|cLd (d:=.int _ _) un3 ag3 ti3 M<|aA M (bA (r:=.bool _) M M A9 cl30 (.cons (svI M) (.cons (svi 0 M) K6)) M (nI _ _ _ _ k1))<|aA M (eP M M A9 (svB M))<|cB M<|gG M (fun hb=>(tFa 1 un46 M ti44 M))<|gG M S9<|gG M (fun hb=>(bA (r:=.bool _) M M A9 cl46 (.cons (svcL M hb) (.cons (sv (d:=.fn 47 []) M) .nil)) M (lP _ _ (gd_t k2 hb))))<|cOr M k3<|cAB M<|aD ?_);refine aU ?_;obtain rfl:=sj_ h;refine ⟨.inr M,B0⟩

theorem mZ(a0:List aH)(r:Int)(h:eB a0=some r):dH FY 89 [.slice false (a0.map aB.d),.fn 45 []] (.int .i64 r):=by
 refine bK (rs:=[.int .i64 r]) func89 M ntmps89 B5 M fun O hO=>sta ⟨[C5 a0,(1,.fn 45 [])],[]⟩ ?_;unfold eB at h;refine aF (cAs (.int _ 0) M<|aD ?_);refine aQ<|aF (aA M (mvL M M M M)<|aA M (bT aB (l:=a0) M M A9 un40 (svL M))<|cMv (.int _ 0) M<|aD ?_);refine aT<|bR (α:=Nat×Int) (fun z=>⟨[C5 a0,(1,.fn 45 []),K2 a0.length,L7 z.2],[]⟩) (fun z=>cU a0 z.1 z.2=some r) (fun z=>z.1) (fuel,0) (fun i=>i) wkU ?_ ?_
 ·exact h
 ·rintro ⟨n0,v7⟩ h
  cases n0 with
  | zero=>exact Ay h (by unfold cU; exact nofun)
  | succ n0 =>
   unfold cU at h;obtain ⟨x14,k14,h⟩:=bN h;refine aF (cCm M k14<|aD ?_);refine aQ<|aP h M ?_ ?_<;>intro h
   ·refine aR<|aI<|aQ<|aT<|aF (cI M<|cAI M<|aD ?_);obtain ⟨x16,k16,x17,k17,h⟩:=eoo h;refine aF (cMv (.fn 45 []) M<|aA M (mvL M M M M)<|cI M<|aA M (bL aB (cs:=q24) M M A9 un40 ti46 (svL M) (svI M) k16 M M)<|aA M (cP (cs:=q24) M M A9 un46 ag46 ti46 A7 (svf q24 M) B5 M)<|aA M (pR (r:=.bool _) M M A9 cl45 (sv (d:=.fn 45 []) M) K7 M (aBP _ _ k17))<|aD ?_);refine aP h M ?_ ?_<;>intro h
    ·refine aF (cI M<|cAI M<|aD ?_);refine aU<|bU<|aY<|aY<|bU<|aY ?_;obtain rfl:=sj_ h;refine ⟨.inr M,B0⟩
    ·refine aR<|bI<|aI ?_;obtain ⟨x19,k19,h⟩:=bN h;refine aS (aA M (bD M M A9 (svI M) (svi 1 M) M k19)<|cI M<|bE ?_);refine aI ⟨(n0,x19),(fun i=>i),wkU,?_,?_⟩;exact h;exact Ah _
   ·refine cD<|bC<|bC<|cE<|aI<|aF (cAs (.int _ (-1)) M<|aD ?_);refine aU ?_;obtain rfl:=sj_ h;refine ⟨.inr M,B0⟩

theorem mE(a0:List aH)(r:Bool)(h:dE a0=some r):dH FY 50 [.slice false (a0.map aB.d),.fn 45 []] (.bool r):=by
 refine bK (rs:=[.bool r]) func50 M ntmps50 B5 M fun O hO=>sta ⟨[C5 a0,(1,.fn 45 [])],[]⟩ ?_;unfold dE at h;refine aF (cAs (.bool false) M<|aD ?_);obtain ⟨x1,k1,x2,k2,h⟩:=eod h;refine aF (aA M (mvL M M M M)<|cMv (.fn 45 []) M<|aA M (bA (r:=.int _ _) M M A9 cl89 (.cons (svL M) (.cons (sv (d:=.fn 45 []) M) .nil)) M (mZ _ _ k1))<|cCm (b:=0) M k2<|cAB M<|aD ?_);refine aU ?_;obtain rfl:=sj_ h;refine ⟨.inr M,B0⟩

abbrev N6:=fun a=>((.fptr (tv4 a)):D)
theorem u2(h:p:=by exact lop M M fun S hA=>(bL aG (cs:=q18) M M A9 un44 ti26 (svaL hA M M) (svaI hA M M) k21 M M)):p:=h
theorem s6(h:p:=by exact lop M M fun S hA=>(aZ (cs':=[.int _ _]) M M A9 un26 M ti3 A7 (sv (d:=.fptr q18) (agr hA M M)) M)):p:=h
theorem W9(h:p:=by exact lop M M fun S hA=>(bG M M A9 un3 ag3 ti3 A7 (sv (d:=.fptr [.int _ _]) (agr hA M M)) B5)):p:=h
theorem aBO(a0:aH)(r:Bool)(h:rA a0=some r):dH FY 49 [.agg [.int .i64 a0.aa,.slice false (a0.ab.map aG.d)]] (.bool r):=by
 refine bK (rs:=[.bool r]) func49 M ntmps49 B5 M fun O hO=>sta ⟨[(0,.agg [.int .i64 a0.aa,.slice false (a0.ab.map aG.d)])],[]⟩ ?_;unfold rA at h;refine aF (cBx (cs:=q24) q24 0 M<|cAs (.bool false) M<|aD ?_);refine aQ<|aF (cAs (.int _ 1) M<|aD ?_);refine aT<|bR (α:=Nat×Int) (fun z=>⟨[(1,.ref 0 0),I2 z.2],[(0,.blk 46 [.int .i64 a0.aa,.slice false (a0.ab.map aG.d)])]⟩) (fun z=>jF a0 z.1 z.2=some r) (fun z=>z.1) (fuel,1) (fun i=>i) wkU ?_ ?_
 ·exact h
 ·rintro ⟨n0,v9⟩ h
  cases n0 with
  | zero=>exact Ay h (by unfold jF; exact nofun)
  | succ n0 =>
   unfold jF at h;refine aQ ?_;obtain ⟨x18,k18,h⟩:=bN h;refine aF (cI M<|cFa 1 un46 M ti44 M<|aA M (lrL la44 M M M M M B5 M)<|aA M (bT aG (l:=a0.ab) M M A9 un44 (svL M))<|cCm M k18<|aD ?_);refine aP h M ?_ ?_<;>intro h
   ·refine aR<|aI<|aQ<|aT ?_;obtain ⟨x20,k20,x21,k21,x22,k22,h⟩:=edoo h;obtain ⟨x23,k23,h⟩:=bN h;refine jN M [nd1 [1] 11 (.ref 0 1),nd2 [11] [0] 12 (.slice false (a0.ab.map aG.d)),nd1 [3] 13 (D4 v9),nd1 [13] 14 (D4 x20),nd1 [12,14] 15 (N6 x21),nd1 [15] 16 (.fptr [.int .i64 x21.ID]),nd1 [16] 17 (.int .i64 x21.ID),nd1 [1] 18 (.ref 0 1),nd2 [18] [0] 19 (.slice false (a0.ab.map aG.d)),nd1 [3] 20 (D4 v9),nd1 [19,20] 21 (N6 x22),nd1 [21] 22 (.fptr [.int .i64 x22.ID]),nd1 [22] 23 (.int .i64 x22.ID),nd1 [17,23] 24 (.bool x23)] M ?_ D6 ?_
    ·refine .cons (dFa 1 un46 M ti44 M)<|.cons (dLd un44 ag44 ti44 M)<|.cons (dMv M)<|.cons (lop M M fun S hA=>(bD M M A9 (svaI hA M M) (svi 1 M) M k20))<|.cons u2<|.cons s6<|.cons W9<|.cons (dFa 1 un46 M ti44 M)<|.cons (dLd un44 ag44 ti44 M)<|.cons (dMv M)<|.cons (lop M M fun S hA=>(bL aG (cs:=q18) M M A9 un44 ti26 (svaL hA M M) (svaI hA M M) k22 M M))<|.cons s6<|.cons W9<|.cons (lop M M fun S hA=>(fK M M A9 (svaI hA M M) (svaI hA M M) M k23)) ?_
     exact .nil
    refine aP h M ?_ ?_<;>intro h
    ·refine aF (cAs (.bool false) M<|aD ?_);refine aU<|bU<|aY<|aY<|bU<|aY ?_;obtain rfl:=sj_ h;refine ⟨.inr M,B0⟩
    ·refine aR<|bI<|aI ?_;obtain ⟨x25,k25,h⟩:=bN h;refine aS (cI M<|aA M (bD M M A9 (svI M) (svi 1 M) M k25)<|cAI M<|bE ?_);refine aI ⟨(n0,x25),(fun i=>i),wkU,?_,?_⟩;exact h;exact Ah _
   ·refine cD<|bC<|bC<|cE<|aI<|aF (cAs (.bool true) M<|aD ?_);refine aU ?_;obtain rfl:=sj_ h;refine ⟨.inr M,B0⟩

abbrev C8:=fun a=>((.slice false ((List.map aB.d a))):D)
abbrev d7:=fun a b=>((.cnd (a == true) (C8 b)):D)
abbrev d6:=fun a b=>((.cnd (a == true) (D4 b)):D)
abbrev F9:=fun a b=>((.cnd (a == true) (.bool b)):D)
theorem X3(h:p:=by exact gD M (fun S hA hb=>(bM M M A9 (svaL hA M M)))):p:=h
theorem X5(h:p:=by exact gD M (fun S hA hb=>(bM M M A9 (svaI hA M M)))):p:=h
theorem r5(h:p:=by exact gD M (fun S hA hb=>(aZ (cs':=[.int _ _]) M M A9 un46 M ti3 A7 (svc (d:=.fptr q24) (agr hA M M) hb) M))):p:=h
theorem X8(h:p:=by exact gD M (fun S hA hb=>(bG M M A9 un3 ag3 ti3 A7 (svc (d:=.fptr [.int _ _]) (agr hA M M) hb) B5))):p:=h
theorem l5(h:p:=by exact gD M (fun S hA hb=>(eP M M A9 (svc (d:=.bool _) (agr hA M M) hb)))):p:=h
theorem rF(a0:List aH)(r:Int)(h:nS a0=some r):dH FY 18 (H8 a0) (.int .i64 r):=by
 refine bK (rs:=[.int .i64 r]) func18 M ntmps18 B5 M fun O hO=>sta ⟨[C5 a0],[]⟩ ?_;unfold nS at h;refine aF (cAs (.int _ 0) M<|aD ?_);refine aF (cAs (.fn 44 []) M<|aD ?_);refine aF (cAs (.fn 45 []) M<|aD ?_);refine aF (cAs (.fn 49 []) M<|aD ?_);refine aQ<|aT<|nY (α:=Bool) (fun z=>⟨[C5 a0,(4,.fn 45 []),(5,.fn 49 []),(8,.bool z)],[]⟩) (fun z=>qB a0 z=some r) ?_ ?_
 ·obtain ⟨x45,k45,h⟩:=bN h;refine aF (aA M (mvL M M M M)<|aA M (bT aB (l:=a0) M M A9 un40 (svL M))<|cCm (b:=25) M k45<|cAB M<|aD ?_);refine aP h M ?_ ?_<;>intro h
  ·refine aR<|aI ⟨x45,(fun i=>i),wkU,?_⟩;exact h
  ·obtain ⟨x47,k47,h⟩:=bS h;refine aS (aA M (mvL M M M M)<|cMv (.fn 44 []) M<|aA M (bA (r:=.bool _) M M A9 cl50 (.cons (svL M) (.cons (sv (d:=.fn 44 []) M) .nil)) M (mF _ _ k47))<|cAB M<|bE ?_);refine aI ⟨x47,(fun i=>i),wkU,?_⟩;exact h
 ·rintro v4 h;unfold qB at h;refine aP h M ?_ ?_<;>intro h
  ·refine aF (cAs (.int _ 5) M<|aD ?_);refine aU<|bU<|aY ?_;obtain rfl:=sj_ h;refine ⟨.inr M,B0⟩
  ·obtain ⟨x6,k6,h⟩:=bS h;refine aF (aA M (mvL M M M M)<|cMv (.fn 45 []) M<|aA M (bA (r:=.bool _) M M A9 cl50 (.cons (svL M) (.cons (sv (d:=.fn 45 []) M) .nil)) M (mE _ _ k6))<|cAB M<|aD ?_);refine aP h M ?_ ?_<;>intro h
   ·refine aF (cAs (.int _ 8) M<|aD ?_);refine aU<|bU<|aY ?_;obtain rfl:=sj_ h;refine ⟨.inr M,B0⟩
   ·refine aR<|bI<|aI<|aQ<|aF (aA M (mvL M M M M)<|aA M (bT aB (l:=a0) M M A9 un40 (svL M))<|cMv (.int _ 0) M<|aD ?_);refine aT<|bR (α:=Nat×Int) (fun z=>⟨[C5 a0,(5,.fn 49 []),(19,.slice false (a0.map aB.d)),(20,.int .i64 (a0.length:Int)),I6 z.2],[]⟩) (fun z=>jQ a0 z.1 z.2=some r) (fun z=>z.1) (fuel,0) (fun i=>i) wkU ?_ ?_
    ·exact h
    ·rintro ⟨n1,v20⟩ h
     cases n1 with
     | zero=>exact Ay h (by unfold jQ; exact nofun)
     | succ n1 =>
      unfold jQ at h;obtain ⟨x33,k33,h⟩:=bN h;refine aF (cCm M k33<|aD ?_);refine aQ<|aP h M ?_ ?_<;>intro h
      ·refine aR<|aI<|aQ<|aT ?_;obtain ⟨x35,k35,h⟩:=bS h;refine aF (cI M<|aA M (bL aB (cs:=q24) M M A9 un40 ti46 (svL M) (svI M) k35 M M)<|aA M (cP (cs:=q24) M M A9 un46 ag46 ti46 A7 (svf q24 M) B5 M)<|aA M (cF (cs:=[.int _ _,.nils]) (cs':=H4) 0 M M A9 M ti46 M M (.k G1))<|cAI M<|cSt q24 q24 ti46 M<|aD ?_);obtain ⟨x36,k36,x37,k37,x38,k38,h⟩:=eddo h;obtain ⟨x39,k39,x40,k40,x41,k41,h⟩:=eddo h;obtain ⟨x42,k42,h⟩:=bN h;refine jN M [nd1 [6] 26 (D4 v20),nd1 [26] 27 (.bool x36),nd1 [27] 28 (.bool x36),nd1 [0,28] 29 (d7 x36 a0),nd1 [6,28] 30 (d6 x36 v20),nd1 [28,30] 31 (d6 x36 x37),nd1 [28,29,31] 32 (.cnd (x36 == true) (.fptr [.int .i64 x38.aa,.slice false (x38.ab.map aG.d)])),nd1 [28,32] 33 (.cnd (x36 == true) (.fptr [.int .i64 x38.aa])),nd1 [28,33] 34 (.cnd (x36 == true) (.int .i64 x38.aa)),nd1 [7,28] 35 (.cnd (x36 == true) (.ref 0 0)),nd2 [28,35] [0] 36 (.cnd (x36 == true) (.int .i64 x35.aa)),nd1 [28,34,36] 37 (F9 x36 x39),nd1 [28,37] 38 (.bool x40),nd1 [38] 39 (.bool x40),nd1 [5,39] 40 (.cnd (x40 == false) (.fn 49 [])),nd2 [7,39] [0] 41 (.cnd (x40 == false) (.agg [.int .i64 x35.aa,.slice false (x35.ab.map aG.d)])),nd1 [39,40,41] 42 (.cnd (x40 == false) (.bool x41)),nd1 [39,42] 43 (.cnd (x40 == false) (.bool (!x41))),nd1 [39,43] 44 (.bool x42)] M ?_ D6 ?_
       ·refine .cons (dMv M)<|.cons (lop M M fun S hA=>(fK M M A9 (svaI hA M M) (svi 0 M) M k36))<|.cons (dMv M)<|.cons X3<|.cons X5<|.cons (gD M (fun S hA hb=>(bD M M A9 (svc (d:=.int _ _) (agr hA M M) hb) (svi 1 M) M k37)))<|.cons (gD M (fun S hA hb=>(bL aB (cs:=q24) M M A9 un40 ti46 (svc (d:=.slice _ _) (agr hA M M) hb) (svc (d:=.int _ _) (agr hA M M) hb) (gd_t k38 hb) M M)))<|.cons r5<|.cons X8<|.cons (gD M (fun S hA hb=>(fG M M A9 un46 M ti3 A7 (svaR hA M M) (off':=0) M)))<|.cons (gD M (fun S hA hb=>(iP (d:=.int _ _) M M A9 un3 ag3 ti3 A7 (svc (d:=.ref _ _) (agr hA M M) hb) (agi hA M M) B5 M)))<|.cons (gD M (fun S hA hb=>(fK M M A9 (svc (d:=.int _ _) (agr hA M M) hb) (svc (d:=.int _ _) (agr hA M M) hb) M k39)))<|.cons (lop M M fun S hA=>(lV M M A9 (svaB hA M M) (agr hA M M) M k40))<|.cons (dMv M)<|.cons (gD M (fun S hA hb=>(bM M M A9 (sv (d:=.fn 49 []) (agr hA M M)))))<|.cons (gD M (fun S hA hb=>(nX (cs:=q24) M M A9 un46 ag46 ti46 A7 (svaR hA M M) (agi hA M M) B5 M)))<|.cons (gD M (fun S hA hb=>(pR (r:=.bool _) M M A9 cl49 (svc (d:=.fn 49 []) (agr hA M M) hb) (.cons (svc (d:=.agg [.int .i64 x35.aa,.slice false (x35.ab.map aG.d)]) (agr hA M M) hb) .nil) M (aBO _ _ (gd_t k41 hb)))))<|.cons l5<|.cons (lop M M fun S hA=>(aAJ M M A9 (svaB hA M M) M (agr hA M M) k42)) ?_
        exact .nil
       refine aP h M ?_ ?_<;>intro h
       ·refine aF (cAs (.int _ 10) M<|aD ?_);refine aU<|bU<|aY<|aY<|bU<|aY ?_;obtain rfl:=sj_ h;refine ⟨.inr M,B0⟩
       ·refine aR<|bI<|aI ?_;obtain ⟨x44,k44,h⟩:=bN h;refine aS (aA M (bD M M A9 (svI M) (svi 1 M) M k44)<|cI M<|bE ?_);refine aI ⟨(n1,x44),(fun i=>i),wkU,?_,?_⟩;exact h;exact Ah _
      ·refine cD<|bC<|bC<|cE<|aI<|aF (cAs (.int _ 0) M<|aD ?_);refine aU ?_;obtain rfl:=sj_ h;refine ⟨.inr M,B0⟩

abbrev F5:=fun a b c d e f g i j k l=>([(1000,.blk 105 [.mref 1001,.mref 1002,.mref 1003,.ref 1004 0]),(1001,.mpD (mapD aO.d a)),(1002,.mpD (mapD gZ.d b)),(1003,.mpD (mapD gZ.d c)),(1004,.blk 86 (mixD aC.toEnc0 (w35 d e f g i) j [.int .i64 k,.osl 1005 (eInt .i64).sz (List.length l)])),(1005,.blk 3 (Ac ((List.map (eInt .i64).d l))))]:List (Nat×Ent))
theorem vM(a0:aH)(a1:List (Int×aW))(a2 a3:List (Int×Bool))(a4 a5:Int)(a6:List aK)(a7:Int)(a8:Int)(a9:List aJ)(a10:Int)(a11:List Int)(r:Bool)(h:pE a0 a1 a2 a3 a4 a5 a6 a7 a8 a9 a10 a11=some r):FnH FY 54 [.agg [.int .i64 a0.aa,.slice false (a0.ab.map aG.d)],.ref 1000 0] (F5 a1 a2 a3 a4 a5 a6 a7 a8 a9 a10 a11) (.bool r) (F5 a1 a2 a3 a4 a5 a6 a7 a8 a9 a10 a11):=by
 refine dX (rs:=[.bool r]) func54 M ntmps54 B5 fun O hO=>sta ⟨[(0,.agg [.int .i64 a0.aa,.slice false (a0.ab.map aG.d)]),(1,.ref 1000 0)],F5 a1 a2 a3 a4 a5 a6 a7 a8 a9 a10 a11⟩ ?_;unfold pE at h;refine aF (cBx (cs:=q24) q24 0 M<|cAs (.bool false) M<|aD ?_);obtain ⟨x1,k1,x2,k2,h⟩:=edd h;refine aF (cFa 0 zT M aFn M<|cLd (d:=.mref _) aFm ag102 aFn M<|cFa 0 un46 M ti3 M<|cLd (d:=.int _ _) un3 ag3 ti3 M<|aA M (aEU aO.d M M A9 aFm un3 yH (sv (d:=.mref _) M) M (svI M) (fun E β=>tW E β _) k1 k2)<|cMv (.tuple [.agg q14,.bool _]) M<|aA M (fV (d:=.agg q14) M M A9 (sv (d:=.tuple [.agg q14,.bool _]) M) M)<|aA M (fV (d:=.bool _) M M A9 (sv (d:=.tuple [.agg q14,.bool _]) M) M)<|aA M (cF (cs:=q14) (cs':=(w36 0 0 0 false)) 1 M M A9 M yH M M (.all _))<|cSt q14 q14 yH M<|cAB M<|aD ?_);obtain ⟨x3,k3,x4,k4,h⟩:=edd h;refine aF (cFa 0 un46 M ti3 M<|cLd (d:=.int _ _) un3 ag3 ti3 M<|cCm (b:=0) M k3<|cB M<|gG M (fun hb=>(tB M))<|gG M Y6<|cAn M k4<|cAB M<|aD ?_);refine aU ?_;obtain rfl:=sj_ h;refine Y4

abbrev B6:=fun a b c d e f g i j k l m=>([(1000,.blk 46 (Ac ((List.map aB.d a)))),(1001,.blk 105 [.mref 1002,.mref 1003,.mref 1004,.ref 1005 0]),(1002,.mpD (mapD aO.d b)),(1003,.mpD (mapD gZ.d c)),(1004,.mpD (mapD gZ.d d)),(1005,.blk 86 (mixD aC.toEnc0 (w35 e f g i j) k [.int .i64 l,.osl 1006 (eInt .i64).sz (List.length m)])),(1006,.blk 3 (Ac ((List.map (eInt .i64).d m))))]:List (Nat×Ent))
abbrev U8:=fun a=>((0,.osl 1000 aB.sz a):Nat×D)
abbrev V8:=((1,.fn 54 [.ref 1001 0]):Nat×D)
abbrev E5:=((1001,.blk 105 [.mref 1002,.mref 1003,.mref 1004,.ref 1005 0]):Nat×Ent)
abbrev D8:=fun a b c d e f g i=>((1005,.blk 86 (mixD aC.toEnc0 (w35 a b c d e) f [.int .i64 g,.osl 1006 (eInt .i64).sz i])):Nat×Ent)
abbrev G7:=fun a=>((1006,.blk 3 (Ac ((List.map (eInt .i64).d a)))):Nat×Ent)
theorem K5(h:p:=by exact ⟨M,M,(aAl gZ M),(pL gZ)⟩):p:=h
theorem Z9(h:p:=by exact ⟨⟨M,M,M,M⟩,Aa.2 ⟨⟨M,M,(aAl aO M),(pL aO)⟩,Aa.2 ⟨K5,Aa.2 ⟨K5,Aa.2 A8⟩⟩⟩⟩):p:=h
theorem B2(h:p:=by exact ⟨⟨M,(cR aC M M)⟩,Aa.2 ⟨⟨M,(cC (eInt .i64))⟩,Ab _⟩⟩):p:=h
theorem d8(h:p:=by exact ⟨⟨M,M⟩,Aa.2 ⟨⟨M,(pL aO)⟩,Aa.2 ⟨⟨M,(pL gZ)⟩,Aa.2 ⟨⟨M,(pL gZ)⟩,Aa.2 B2⟩⟩⟩⟩):p:=h
theorem K4(h:p:=by simp only [Ai,Aq,aBW]; simp only [Ai,Aq,Bh,bX,cO,dD]; rfl):p:=h
theorem mW(a0:List aH)(a1:List (Int×aW))(a2 a3:List (Int×Bool))(a4 a5:Int)(a6:List aK)(a7:Int)(a8:Int)(a9:List aJ)(a10:Int)(a11:List Int)(r:Int)(h:eA a0 a1 a2 a3 a4 a5 a6 a7 a8 a9 a10 a11=some r):FnH FY 89 [.osl 1000 aB.sz a0.length,.fn 54 [.ref 1001 0]] (B6 a0 a1 a2 a3 a4 a5 a6 a7 a8 a9 a10 a11) (.int .i64 r) (B6 a0 a1 a2 a3 a4 a5 a6 a7 a8 a9 a10 a11):=by
 refine dX (rs:=[.int .i64 r]) func89 M ntmps89 B5 fun O hO=>sta ⟨[U8 a0.length,V8],B6 a0 a1 a2 a3 a4 a5 a6 a7 a8 a9 a10 a11⟩ ?_;unfold eA at h;refine aF (cAs (.int _ 0) M<|aD ?_);refine aQ<|aF (cMv (.osl _ _ _) M<|aA M (oS M M A9 un40 (svo M))<|cMv (.int _ 0) M<|aD ?_);refine aT<|bR (α:=Nat×Int) (fun z=>⟨[U8 a0.length,V8,K2 a0.length,L7 z.2],B6 a0 a1 a2 a3 a4 a5 a6 a7 a8 a9 a10 a11⟩) (fun z=>cK a0 a1 a2 a3 a4 a5 a6 a7 a8 a9 a10 a11 z.1 z.2=some r) (fun z=>z.1) (fuel,0) (fun i=>i) wkU ?_ ?_
 ·exact h
 ·rintro ⟨n0,v8⟩ h
  cases n0 with
  | zero=>exact Ay h (by unfold cK; exact nofun)
  | succ n0 =>
   unfold cK at h;obtain ⟨x16,k16,h⟩:=bN h;refine aF (cCm M k16<|aD ?_);refine aQ<|aP h M ?_ ?_<;>intro h
   ·refine aR<|aI<|aQ<|aT<|aF (cI M<|cAI M<|aD ?_);obtain ⟨x18,k18,x19,k19,x20,k20,h⟩:=eooo h;refine aF (cMv (.fn 54 [.ref _ _]) M<|cMv (.osl _ _ _) M<|cI M<|aA M (fS aB.toEnc0 M M A9 un40 ti46 (svo M) M (svI M) k18)<|aA M (uU aB.toEnc0 (cs:=q24) M M A9 un46 ag46 ti46 A7 (svR M) M k19 B5 M)<|aA M (aBj (r':=.bool x20) (H1':=[E5,(1002,.mpD (mapD aO.d a1)),(1003,.mpD (mapD gZ.d a2)),(1004,.mpD (mapD gZ.d a3)),D8 a4 a5 a6 a7 a8 a9 a10 a11.length,G7 a11]) 0 [1001,1002,1003,1004,1005,1006] M M A9 cl54 (sv (d:=.fn 54 [.ref _ _]) M) K7 M M ⟨M,M,by decide,M,Aa.2 Z9⟩ (vM _ _ _ _ _ _ _ _ _ _ _ _ _ k20) M M (Aa.2 d8) K4)<|aD ?_);refine aP h M ?_ ?_<;>intro h
    ·refine aF (cI M<|cAI M<|aD ?_);refine aU<|bU<|aY<|aY<|bU<|aY ?_;obtain rfl:=sj_ h;refine Y4
    ·refine aR<|bI<|aI ?_;obtain ⟨x22,k22,h⟩:=bN h;refine aS (aA M (bD M M A9 (svI M) (svi 1 M) M k22)<|cI M<|bE ?_);refine aI ⟨(n0,x22),(fun i=>i),wkU,?_,?_⟩;exact h;exact Ah _
   ·refine cD<|bC<|bC<|cE<|aI<|aF (cAs (.int _ (-1)) M<|aD ?_);refine aU ?_;obtain rfl:=sj_ h;refine Y4

theorem mM(a0:List aH)(a1:List (Int×aW))(a2 a3:List (Int×Bool))(a4 a5:Int)(a6:List aK)(a7:Int)(a8:Int)(a9:List aJ)(a10:Int)(a11:List Int)(r:List aH)(h:cY a0 a1 a2 a3 a4 a5 a6 a7 a8 a9 a10 a11=some r):FnH FY 53 [.osl 1000 aB.sz a0.length,.fn 54 [.ref 1001 0]] (B6 a0 a1 a2 a3 a4 a5 a6 a7 a8 a9 a10 a11) (.osl 0 aB.sz r.length) [E5,(1002,.mpD (mapD aO.d a1)),(1003,.mpD (mapD gZ.d a2)),(1004,.mpD (mapD gZ.d a3)),D8 a4 a5 a6 a7 a8 a9 a10 a11.length,G7 a11,J0 r]:=by
 refine dX (rs:=[.osl 0 aB.sz r.length]) func53 M ntmps53 B5 fun O hO=>sta ⟨[U8 a0.length,V8],B6 a0 a1 a2 a3 a4 a5 a6 a7 a8 a9 a10 a11⟩ ?_;unfold cY at h;refine aF (cAs (.nils) M<|aD ?_);obtain ⟨x1,k1,h⟩:=bS h;refine aF (cMv (.osl _ _ _) M<|cMv (.fn 54 [.ref _ _]) M<|aA M (fW (r':=.int .i64 x1) (V:=B6 a0 a1 a2 a3 a4 a5 a6 a7 a8 a9 a10 a11) 0 [1000,1001,1002,1003,1004,1005,1006] M M A9 cl89 (.cons (svo M) (.cons (sv (d:=.fn 54 [.ref _ _]) M) .nil)) M M M ⟨by decide,M,Aa.2 ⟨⟨M,M,(jP aB M),(cC aB)⟩,Aa.2 Z9⟩⟩ (mW _ _ _ _ _ _ _ _ _ _ _ _ _ k1) M M (Aa.2 ⟨⟨M,(cC aB)⟩,Aa.2 d8⟩) K4 (Aa.2 ⟨M,Aa.2 ⟨M,Aa.2 ⟨M,Aa.2 ⟨M,Aa.2 ⟨M,Aa.2 ⟨M,Aa.2 ⟨M,Ab _⟩⟩⟩⟩⟩⟩⟩) M)<|cAI M<|aD ?_);refine aQ ?_;obtain ⟨x2,k2,h⟩:=bN h;refine aF (cI M<|cCm (b:=(-1)) M k2<|aD ?_);refine aP h M ?_ ?_<;>intro h
 ·refine aF (cMv (.osl _ _ _) M<|cAs (.osl _ _ _) M<|aD ?_);refine aU<|aY ?_;obtain rfl:=sj_ h;refine b7
 ·refine aR<|aI<|aQ ?_;obtain ⟨x4,k4,h⟩:=bN h;refine aF (cI M<|aA M (bD M M A9 (svI M) (svi 1 M) M k4)<|cAI M<|aD ?_);refine aT<|bR (α:=Nat×(List aH)×Int×Int) (fun z=>⟨[U8 z.2.1.length,V8,N5 z.2.2.1,N3 z.2.2.2],B6 z.2.1 a1 a2 a3 a4 a5 a6 a7 a8 a9 a10 a11⟩) (fun z=>cH a1 a2 a3 a4 a5 a6 a7 a8 a9 a10 a11 z.1 z.2.1 z.2.2.1 z.2.2.2=some r) (fun z=>z.1) (fuel,a0,x1,x4) (fun i=>i) wkU ?_ ?_
  ·exact h
  ·rintro ⟨n0,v17,v18,v19⟩ h
   cases n0 with
   | zero=>exact Ay h (by unfold cH; exact nofun)
   | succ n0 =>
    unfold cH at h;refine aQ ?_;obtain ⟨x32,k32,h⟩:=bN h;refine aF (cI M<|cMv (.osl _ _ _) M<|aA M (oS M M A9 un40 (svo M))<|cCm M k32<|aD ?_);refine aP h M ?_ ?_<;>intro h
    ·refine aR<|aI<|aQ<|aT ?_;obtain ⟨x34,k34,x35,k35,h⟩:=eoo h;refine aF (cMv (.osl _ _ _) M<|cI M<|aA M (fS aB.toEnc0 M M A9 un40 ti46 (svo M) M (svI M) k34)<|aA M (uU aB.toEnc0 (cs:=q24) M M A9 un46 ag46 ti46 A7 (svR M) M k35 B5 M)<|aA M (cF (cs:=[.int _ _,.nils]) (cs':=H4) 0 M M A9 M ti46 M M (.k G1))<|cSt q24 q24 ti46 M<|aD ?_);obtain ⟨x36,k36,h⟩:=bS h;refine aF (cMv (.fn 54 [.ref _ _]) M<|cLr q24 la46 M<|aA M (aBj (r':=.bool x36) (H1':=[E5,(1002,.mpD (mapD aO.d a1)),(1003,.mpD (mapD gZ.d a2)),(1004,.mpD (mapD gZ.d a3)),D8 a4 a5 a6 a7 a8 a9 a10 a11.length,G7 a11]) 1 [1001,1002,1003,1004,1005,1006] M M A9 cl54 (sv (d:=.fn 54 [.ref _ _]) M) K7 M M ⟨M,M,by decide,M,Aa.2 Z9⟩ (vM _ _ _ _ _ _ _ _ _ _ _ _ _ k36) M M (Aa.2 d8) K4)<|aA M (eP M M A9 (svB M))<|aD ?_);refine aP h M ?_ ?_<;>intro h
     ·obtain ⟨x38,k38,x39,k39,x40,k40,h⟩:=eood h;refine aF (cMv (.osl _ _ _) M<|cI M<|cLr q24 la46 M<|aA M (fS aB.toEnc0 M M A9 un40 ti46 (svo M) M (svI M) k38)<|aA M (lG aB.toEnc0 (a':=x35) M M ti46 (svR M) M (svA q24 M) M M M k39 B5 M k40)<|aD ?_);obtain ⟨x41,k41,h⟩:=bN h;refine aS (cI M<|aA M (bD M M A9 (svI M) (svi 1 M) M k41)<|cAI M<|bE ?_);refine bI<|aI ?_;obtain ⟨x42,k42,h⟩:=bN h;refine aS (cI M<|aA M (bD M M A9 (svI M) (svi 1 M) M k42)<|cAI M<|bE ?_);refine aI ⟨(n0,x40,x41,x42),(fun i=>i),T7,?_,?_⟩;exact h;exact Ah _
     ·refine aR<|bI<|aI ?_;obtain ⟨x43,k43,h⟩:=bN h;refine aS (cI M<|aA M (bD M M A9 (svI M) (svi 1 M) M k43)<|cAI M<|bE ?_);refine aI ⟨(n0,v17,v18,x43),(fun i=>i),wkU,?_,?_⟩;exact h;exact Ah _
    ·refine cD<|bC<|bC<|cE<|aI ?_;obtain ⟨x44,k44,h⟩:=bS h;refine aF (cMv (.osl _ _ _) M<|cI M<|aBn aB.toEnc0 M M M M A7 M M un40 ti46 M M M M M (fun S1 h9=>sv ((h9 37 A7).trans M)) k44<|aD ?_);obtain ⟨x45,k45,h⟩:=bS h;refine aF (cMv (.osl _ _ _) M<|cI M<|aA M (aCO aB.toEnc0 M M A9 un40 ti46 (svo M) M (BG (aJp k44) (Nat.le_of_eq M)) (svI M) k45)<|cAs (.osl _ _ _) M<|aD ?_);refine aU ?_;obtain rfl:=sj_ h;refine b7

theorem uF(a0 r:List Int)(h:oP a0=some r):FnH FY 77 [.osl 1000 (eInt .i64).sz a0.length] [M7 a0] (retD []) [M7 r]:=p_sortI a0 r h

abbrev H3:=fun a=>((1,.blk 37 [.osl 28 (eInt .i64).sz a]):Nat×Ent)
abbrev G6:=fun a=>((28,.blk 3 (Ac ((List.map (eInt .i64).d a)))):Nat×Ent)
abbrev M5:=((1,.blk 37 [.nils]):Nat×Ent)
abbrev C0:=([(2,.ref 0 0),(6,.ref 1 0),(21,.fn 139 [.ref 3 0,.ref 4 0])]:List (Nat×D))
abbrev G5:=((3,.blk 33 [.ref 1000 0]):Nat×Ent)
abbrev i9:=fun a=>((4,.blk 3 (C4 a)):Nat×Ent)
abbrev Z5:=((6,.kept 1 (kp_ 32 C0)):Nat×Ent)
abbrev Y7:=((5,.loop 1 (kp_ 32 C0) .ready none):Nat×Ent)
abbrev R3:=fun a=>((31,.blk 3 (Ac ((List.map (eInt .i64).d a)))):Nat×Ent)
abbrev R4:=fun a=>((1,.blk 37 [.osl 31 (eInt .i64).sz a]):Nat×Ent)
theorem o4(h:p:=by exact lop M M fun S hA=>(dA (ds':=[.osl _ _ _]) M M ti37 (svaR hA M M) (agi hA M M) (sv (d:=.osl _ _ _) (agr hA M M)) M M M B5 M)):p:=h
theorem xU(a0 a1 a2:Int)(a3:List aK)(a4 a5:Int)(a6:List aJ)(a7:Int)(a8 r:List Int)(h:lE a0 a1 a2 a3 a4 a5 a6 a7 a8=some r):FnH FY 94 (L6 a0) (X0 a1 a2 a3 a4 a5 a6 a7 a8) (G3 r) (X0 a1 a2 a3 a4 a5 a6 a7 a8):=by
 refine dX (rs:=I8 r) func94 M ntmps94 B5 fun O hO=>sta ⟨[D0,D3 a0],X0 a1 a2 a3 a4 a5 a6 a7 a8⟩ ?_;unfold lE at h;refine aF (aA M (lU (cs:=[.ref _ _]) 0 M M A9 M (svR M) M M)<|cAs (.nils) M<|aD ?_);refine aQ<|aF (cLd (d:=.ref _ _) un33 ag33 ti33 M<|aA M (tQ M M A9 un33 (svR M) (sv (d:=.nilp) M))<|aD ?_);refine kF M M<|aR<|aI ?_;obtain ⟨x1,k1,h⟩:=bS h;refine aF (cLd (d:=.ref _ _) un33 ag33 ti33 M<|cI M<|aA M (fW (r':=.int .i64 x1) (V:=X0 a1 a2 a3 a4 a5 a6 a7 a8) 1 [1000,1001] M M A9 cl35 Y5 M M M Y2 (jC _ _ _ _ _ _ _ _ _ _ k1) M M B1 B7 E0 M)<|cAI M<|aD ?_);refine aQ ?_;obtain ⟨x2,k2,x3,k3,x4,k4,h⟩:=eddd h;refine aF (cI M<|cCm (b:=(-1)) M k2<|cB M<|gG M E8<|gG M (fun hb=>(tCg (b:=0) M hb k3))<|cAn M k4<|aD ?_);refine aP h M ?_ ?_<;>intro h
 ·refine aF (cAs (.nils) M<|aD ?_);refine aU<|aY ?_;obtain rfl:=sj_ h;refine ⟨.inr M,(fun i=>i),wkU,(.cons (aJT M M) .nil),M⟩
 ·refine aR<|aI<|aF (aA M (cF (cs:=[.nils]) (cs':=[.nils]) 1 M M A9 M ti37 M M (.all _))<|aD ?_);refine nY (α:=(List Int)) (fun z=>⟨[(6,.ref 1 0)],[H3 z.length,A0 a1 a2 a3 a4 a5 a6 a7 a8.length,A5 a8,G6 z]⟩) (fun z=>iM z=some r) ?_ ?_
  ·refine aF (cLd (d:=.ref _ _) un33 ag33 ti33 M<|cI M <|?_);refine iS (S':=⟨[(2,.ref 0 0),(6,.ref 1 0),(19,.ref 1000 0),(20,.int .i64 x1)],[C1,M5,A0 a1 a2 a3 a4 a5 a6 a7 a8.length,A5 a8]⟩) (fun i=>i) wkU<|mY 1 2 M M M A7 aJE func107 M Y5 ntmps107 B5 M hO.semiL fun O1 hO1=>sta ⟨[D0,D3 x1],[(2,.kept 1 (kp_ 32 [(2,.ref 0 0),(6,.ref 1 0),(19,.ref 1000 0),(20,.int .i64 x1)])),C1,M5,A0 a1 a2 a3 a4 a5 a6 a7 a8.length,A5 a8]⟩ ?_
   refine aF (aA M (lU (cs:=[.ref _ _]) 3 M M A9 M (svR M) M M)<|aA M (lU (cs:=[.int _ _]) 4 M M A9 M (svI M) M M)<|cAs (.nilf) M<|aD ?_);refine aF (aA M (mH M M A9 (.cons (svR M) R7))<|cAs (.fn 139 q28) M<|aD ?_);refine aU ?_;refine ⟨.inr M,2,_,[.fn 139 [.ref 3 0,.ref 4 0]],B0,M,M,⟨C0,[C1,M5,G5,i9 x1,A0 a1 a2 a3 a4 a5 a6 a7 a8.length,A5 a8]⟩,(fun i=>i),wkU,?_⟩;refine aD<|aT<|vI (S':=⟨C0,[C1,M5,G5,i9 x1,A0 a1 a2 a3 a4 a5 a6 a7 a8.length,A5 a8]⟩) (fun i=>i) wkU<|wO 1 5 6 (sv (d:=.fn 139 q28) M) aJD func139 M M ntmps139 B5 M M hO.semiL (Ab _) fun O1 hO1 hlc1=>sta ⟨[(0,.yld 5),(1,.ref 3 0),(2,.ref 4 0)],[Z5,Y7,C1,M5,G5,i9 x1,A0 a1 a2 a3 a4 a5 a6 a7 a8.length,A5 a8]⟩ ?_
   refine aF (cLd (d:=.ref _ _) un33 ag33 ti33 M<|cLd (d:=.int _ _) un3 ag3 ti3 M <|?_);refine iS (S':=⟨[(0,.yld 5),(1,.ref 3 0),(6,.ref 1000 0),L8 x1],[C1,M5,G5,i9 x1,Y7,Z5,A0 a1 a2 a3 a4 a5 a6 a7 a8.length,A5 a8]⟩) (fun i=>i) wkU<|mY 2 7 M M M A7 aGI func115 M Y5 ntmps115 B5 M hO1 fun O2 hO2=>sta ⟨[D0,D3 x1],[(7,.kept 2 (kp_ 25 [(0,.yld 5),(1,.ref 3 0),(6,.ref 1000 0),L8 x1])),C1,M5,G5,i9 x1,Y7,Z5,A0 a1 a2 a3 a4 a5 a6 a7 a8.length,A5 a8]⟩ ?_
   refine aF (cAs (.nilp) M<|aD ?_);refine aQ ?_;obtain ⟨x55,k55,h⟩:=bN h;refine aF (cI M<|cCm (b:=(-1)) M k55<|aD ?_);refine aP h M ?_ ?_<;>intro h
   ·refine aF (aA M (mvR M M M M)<|aA M (aN M M A9 (svR M))<|cFa 389 un86 M ti3 M<|aA M (bH M M A9 (svR M))<|aD ?_);refine aU<|aY ?_;refine ⟨.inr M,7,_,[.ref 1000 389],B0,M,M,⟨[(0,.yld 5),(1,.ref 3 0),(8,.ref 1000 389)],[C1,M5,G5,i9 x1,Y7,Z5,A0 a1 a2 a3 a4 a5 a6 a7 a8.length,A5 a8]⟩,(fun i=>i),wkU,?_⟩;obtain ⟨hk57,h⟩:=rO h;refine aA M (aN M M A9 (svR M))<|aA M (kR aC.toEnc0 (d:=.int _ _) (n:=64) (k:=0) M M A9 un3 ag3 ti3 A7 (svR M) M hk57 I4 B5 I4)<|cAI M<|aD ?_;refine aT<|bR (α:=Nat×Int×(List Int)) (fun z=>⟨[(0,.yld 5),(1,.ref 3 0),Q3 z.2.1],[Y7,G5,Z5,A0 a1 a2 a3 a4 a5 a6 a7 a8.length,A5 a8,C1,H3 z.2.2.length,i9 x1,G6 z.2.2]⟩) (fun z=>iJ a1 a2 a3 a4 a5 a6 a7 a8 z.1 z.2.1 z.2.2=some r) (fun z=>z.1) (fuel,a7,([]:(List Int))) (fun i=>if i=28 then 86 else i) wkU ?_ ?_
    ·exact h
    ·rintro ⟨n3,v64,v65⟩ h
     cases n3 with
     | zero=>exact Ay h (by unfold iJ; exact nofun)
     | succ n3 =>
      unfold iJ at h;refine aQ ?_;obtain ⟨x72,k72,h⟩:=bN h;refine aF (cI M<|cCm (b:=(-1)) M k72<|aD ?_);refine aP h M ?_ ?_<;>intro h
      ·refine aR<|aI<|aT ?_;obtain ⟨x74,k74,x75,k75,h⟩:=eoo h;refine aF (cLd (d:=.ref _ _) un33 ag33 ti33 M<|cI M<|aA M (aN M M A9 (svR M))<|cFa 5 un86 M ti84 M<|aA M (dS aC.toEnc0 M M A9 un84 ti83 (svR M) hk57 (svI M) k74)<|aA M (cL M M A9 un83 M ti3 A7 (svR M) (k':=3) M)<|aA M (cW aC.toEnc0 (b:=5) (k:=3) (d:=.int _ _) M M A9 un3 ag3 ti3 A7 (svR M) M M k75 B5 M)<|cAI M<|aD ?_);refine aQ<|aF (cMv (.yld _) M<|cI M <|?_);refine iS (S':=⟨[(0,.yld 5),(1,.ref 3 0),(5,.int .i64 x75.next),(20,.yld 5),I6 v64],[C1,H3 v65.length,G5,i9 x1,Y7,Z5,G6 v65,A0 a1 a2 a3 a4 a5 a6 a7 a8.length,A5 a8]⟩) (fun i=>i) wkU<|sL 2 5 29 M M M A7 M B9 M M M M M M hO1.round hlc1 ⟨[(22,.int .i64 v64),(2,.ref 0 0),(6,.ref 1 0)],[C1,H3 v65.length,G5,i9 x1,Y7,Z5,G6 v65,(29,.kept 2 (kp_ 25 [(0,.yld 5),(1,.ref 3 0),(5,.int .i64 x75.next),(20,.yld 5),I6 v64])),A0 a1 a2 a3 a4 a5 a6 a7 a8.length,A5 a8]⟩ (fun i=>i) wkU fun O2=>?_
       refine aS (cAI M<|bE ?_);refine ⟨M,5,_,M,⟨[(2,.ref 0 0),(6,.ref 1 0),L8 v64],[C1,H3 v65.length,G5,i9 x1,(5,.loop 1 (kp_ 32 C0) .busy none),Z5,G6 v65,(29,.kept 2 (kp_ 25 [(0,.yld 5),(1,.ref 3 0),(5,.int .i64 x75.next),(20,.yld 5),I6 v64])),A0 a1 a2 a3 a4 a5 a6 a7 a8.length,A5 a8]⟩,(fun i=>i),wkU,?_⟩;refine aT ?_;obtain ⟨x76,k76,x77,k77,h⟩:=eoo h;refine jL M [nd2 [6] [1] 23 (.osl 28 (eInt .i64).sz v65.length),nd2 [2] [0] 24 (.ref 1000 0),nd1 [7] 25 (D4 v64),nd2 [24,25] [1000,1001] 26 (D4 x76),⟨[26],[30],[(27,.osl 30 (eInt .i64).sz (([x76]:(List Int)).length))],[(30,.blk 3 (Ac (([x76]:(List Int)).map (eInt .i64).d)))]⟩,⟨[23,27],[28,30,31],[(28,.osl 31 (eInt .i64).sz x77.length)],[R3 x77,(28,.none)]⟩,⟨[6,28],[1],[],[R4 x77.length]⟩] M ?_ D6 ?_
       ·refine .cons (dLd un37 ag37 ti37 M)<|.cons (dLd un33 ag33 ti33 M)<|.cons (dMv M)<|.cons (lop M M fun S hA=>(fW (r':=.int .i64 x76) (V:=X0 a1 a2 a3 a4 a5 a6 a7 a8) 30 [1000,1001] M M A9 cl76 (.cons (svaR hA M M) F0) M M M D5 (oJ _ _ _ _ _ _ _ _ _ _ k76) M M B1 B7 J3 M))<|.cons (lop M M fun S hA=>(oT (eInt .i64).toEnc0 ([x76]:(List Int)) 30 M M A9 un37 ti3 (agi hA M M) F0 M M A7))<|.cons (lop M M fun S hA=>(lK (eInt .i64).toEnc0 31 M M A9 un37 ti3 M (agr hA M M) M (agi hA M M) (agi hA M M) (vT (eInt .i64).toEnc0 (agr hA M M) M (agi hA M M)) k77))<|.cons o4 ?_
        exact .nil
       refine bI ?_;refine ⟨5,29,_,_,none,M,M,M,M,A7,⟨[(0,.yld 5),(1,.ref 3 0),(5,.int .i64 x75.next),R8],[C1,R4 x77.length,G5,i9 x1,Y7,Z5,R3 x77,A0 a1 a2 a3 a4 a5 a6 a7 a8.length,A5 a8]⟩,(fun i=>i),wkU,?_⟩;refine aA M (eP M M A9 (svB M))<|aD ?_;refine kF M M<|aR<|aI<|aS (cI M<|cAI M<|bE ?_);refine bI<|aI ⟨(n3,x75.next,x77),(fun i=>if i=28 then 31 else i),wkU,?_,?_⟩;exact h;exact Ah _
      ·refine cD<|bC<|bC<|cE ?_;refine ⟨.inl M,5,6,_,_,_,_,M,R5,M,M,⟨[(6,.ref 1 0)],[H3 v65.length,G6 v65,A0 a1 a2 a3 a4 a5 a6 a7 a8.length,A5 a8]⟩,(fun i=>i),wkU,?_⟩;refine bI<|aI ⟨v65,(fun i=>i),wkU,?_⟩;exact h
   ·refine aR<|aI ?_;obtain ⟨x78,k78,h⟩:=bS h;obtain ⟨hk79,h⟩:=rO h;refine aF (aA M (mvR M M M M)<|cI M<|aA M (aN M M A9 (svR M))<|cFa 5 un86 M ti84 M<|aA M (dS aC.toEnc0 M M A9 un84 ti83 (svR M) hk79 (svI M) k78)<|aA M (cL M M A9 un83 M ti3 A7 (svR M) (k':=2) M)<|aA M (bH M M A9 (svR M))<|aD ?_);refine aU ?_;refine ⟨.inr M,7,_,M1 x1,B0,M,M,⟨[(0,.yld 5),(1,.ref 3 0),P8 x1],[C1,M5,G5,i9 x1,Y7,Z5,A0 a1 a2 a3 a4 a5 a6 a7 a8.length,A5 a8]⟩,(fun i=>i),wkU,?_⟩;obtain ⟨x80,k80,h⟩:=bS h;refine aA M (aN M M A9 (svR M))<|aA M (cW aC.toEnc0 (b:=5) (k:=2) (d:=.int _ _) M M A9 un3 ag3 ti3 A7 (svR M) M M k80 B5 M)<|cAI M<|aD ?_;refine aT<|bR (α:=Nat×Int×(List Int)) (fun z=>⟨[(0,.yld 5),(1,.ref 3 0),Q3 z.2.1],[Y7,G5,Z5,A0 a1 a2 a3 a4 a5 a6 a7 a8.length,A5 a8,C1,H3 z.2.2.length,i9 x1,G6 z.2.2]⟩) (fun z=>iI a1 a2 a3 a4 a5 a6 a7 a8 z.1 z.2.1 z.2.2=some r) (fun z=>z.1) (fuel,x80.first,([]:(List Int))) (fun i=>if i=28 then 86 else i) wkU ?_ ?_
    ·exact h
    ·rintro ⟨n4,v87,v88⟩ h
     cases n4 with
     | zero=>exact Ay h (by unfold iI; exact nofun)
     | succ n4 =>
      unfold iI at h;refine aQ ?_;obtain ⟨x95,k95,h⟩:=bN h;refine aF (cI M<|cCm (b:=(-1)) M k95<|aD ?_);refine aP h M ?_ ?_<;>intro h
      ·refine aR<|aI<|aT ?_;obtain ⟨x97,k97,x98,k98,h⟩:=eoo h;refine aF (cLd (d:=.ref _ _) un33 ag33 ti33 M<|cI M<|aA M (aN M M A9 (svR M))<|cFa 5 un86 M ti84 M<|aA M (dS aC.toEnc0 M M A9 un84 ti83 (svR M) hk79 (svI M) k97)<|aA M (cL M M A9 un83 M ti3 A7 (svR M) (k':=3) M)<|aA M (cW aC.toEnc0 (b:=5) (k:=3) (d:=.int _ _) M M A9 un3 ag3 ti3 A7 (svR M) M M k98 B5 M)<|cAI M<|aD ?_);refine aQ<|aF (cMv (.yld _) M<|cI M <|?_);refine iS (S':=⟨[(0,.yld 5),(1,.ref 3 0),(5,.int .i64 x98.next),(20,.yld 5),I6 v87],[C1,H3 v88.length,G5,i9 x1,Y7,Z5,G6 v88,A0 a1 a2 a3 a4 a5 a6 a7 a8.length,A5 a8]⟩) (fun i=>i) wkU<|sL 2 5 29 M M M A7 M B9 M M M M M M hO1.round hlc1 ⟨[(22,.int .i64 v87),(2,.ref 0 0),(6,.ref 1 0)],[C1,H3 v88.length,G5,i9 x1,Y7,Z5,G6 v88,(29,.kept 2 (kp_ 25 [(0,.yld 5),(1,.ref 3 0),(5,.int .i64 x98.next),(20,.yld 5),I6 v87])),A0 a1 a2 a3 a4 a5 a6 a7 a8.length,A5 a8]⟩ (fun i=>i) wkU fun O2=>?_
       refine aS (cAI M<|bE ?_);refine ⟨M,5,_,M,⟨[(2,.ref 0 0),(6,.ref 1 0),L8 v87],[C1,H3 v88.length,G5,i9 x1,(5,.loop 1 (kp_ 32 C0) .busy none),Z5,G6 v88,(29,.kept 2 (kp_ 25 [(0,.yld 5),(1,.ref 3 0),(5,.int .i64 x98.next),(20,.yld 5),I6 v87])),A0 a1 a2 a3 a4 a5 a6 a7 a8.length,A5 a8]⟩,(fun i=>i),wkU,?_⟩;refine aT ?_;obtain ⟨x99,k99,x100,k100,h⟩:=eoo h;refine jL M [nd2 [6] [1] 23 (.osl 28 (eInt .i64).sz v88.length),nd2 [2] [0] 24 (.ref 1000 0),nd1 [7] 25 (D4 v87),nd2 [24,25] [1000,1001] 26 (D4 x99),⟨[26],[30],[(27,.osl 30 (eInt .i64).sz (([x99]:(List Int)).length))],[(30,.blk 3 (Ac (([x99]:(List Int)).map (eInt .i64).d)))]⟩,⟨[23,27],[28,30,31],[(28,.osl 31 (eInt .i64).sz x100.length)],[R3 x100,(28,.none)]⟩,⟨[6,28],[1],[],[R4 x100.length]⟩] M ?_ D6 ?_
       ·refine .cons (dLd un37 ag37 ti37 M)<|.cons (dLd un33 ag33 ti33 M)<|.cons (dMv M)<|.cons (lop M M fun S hA=>(fW (r':=.int .i64 x99) (V:=X0 a1 a2 a3 a4 a5 a6 a7 a8) 30 [1000,1001] M M A9 cl76 (.cons (svaR hA M M) F0) M M M D5 (oJ _ _ _ _ _ _ _ _ _ _ k99) M M B1 B7 J3 M))<|.cons (lop M M fun S hA=>(oT (eInt .i64).toEnc0 ([x99]:(List Int)) 30 M M A9 un37 ti3 (agi hA M M) F0 M M A7))<|.cons (lop M M fun S hA=>(lK (eInt .i64).toEnc0 31 M M A9 un37 ti3 M (agr hA M M) M (agi hA M M) (agi hA M M) (vT (eInt .i64).toEnc0 (agr hA M M) M (agi hA M M)) k100))<|.cons o4 ?_
        exact .nil
       refine bI ?_;refine ⟨5,29,_,_,none,M,M,M,M,A7,⟨[(0,.yld 5),(1,.ref 3 0),(5,.int .i64 x98.next),R8],[C1,R4 x100.length,G5,i9 x1,Y7,Z5,R3 x100,A0 a1 a2 a3 a4 a5 a6 a7 a8.length,A5 a8]⟩,(fun i=>i),wkU,?_⟩;refine aA M (eP M M A9 (svB M))<|aD ?_;refine kF M M<|aR<|aI<|aS (cI M<|cAI M<|bE ?_);refine bI<|aI ⟨(n4,x98.next,x100),(fun i=>if i=28 then 31 else i),wkU,?_,?_⟩;exact h;exact Ah _
      ·refine cD<|bC<|bC<|cE ?_;refine ⟨.inl M,5,6,_,_,_,_,M,R5,M,M,⟨[(6,.ref 1 0)],[H3 v88.length,G6 v88,A0 a1 a2 a3 a4 a5 a6 a7 a8.length,A5 a8]⟩,(fun i=>i),wkU,?_⟩;refine bI<|aI ⟨v88,(fun i=>i),wkU,?_⟩;exact h
  ·rintro v52 h;unfold iM at h;obtain ⟨x53,k53,h⟩:=bS h;obtain ⟨hk54,h⟩:=rO h;refine aF (cLd (d:=.osl _ _ _) un37 ag37 ti37 M<|aA M (dQ (r':=.tuple []) (H1':=[G6 x53]) 29 [28] M M A9 cl77 (.cons (svo M) .nil) M M ⟨M,M,by decide,M,Aa.2 ⟨⟨M,M,(jP (eInt .i64) M),(cC (eInt .i64))⟩,Ab _⟩⟩ (uF _ _ k53) M M (Aa.2 B8) F8)<|aD ?_);refine aF (cLd (d:=.osl _ _ _) un37 ag37 ti37 M<|cAs (.osl _ _ _) M<|aD ?_);refine uS 4 (id:=28) (l:=x53.map (eInt .i64).d) ⟨_,M⟩ M M (by rw [An]; exact hk54) ((eInt .i64).toEnc0.len _) (eInt .i64).pos ((eInt .i64).noRef _)<|aU ?_;obtain rfl:=sj_ h;refine Y4

theorem sU(a0:aH)(a1:Int)(r:Int)(h:kJ a0 a1=some r):dH FY 96 [.agg [.int .i64 a0.aa,.slice false (a0.ab.map aG.d)],.int .i64 a1] (.int .i64 r):=by
 refine bK (rs:=[.int .i64 r]) func96 M ntmps96 B5 M fun O hO=>sta ⟨[(0,.agg [.int .i64 a0.aa,.slice false (a0.ab.map aG.d)]),D3 a1],[]⟩ ?_;unfold kJ at h;refine aF (cBx (cs:=q24) q24 0 M<|cAs (.int _ 0) M<|aD ?_);obtain ⟨x1,k1,h⟩:=bN h;refine aF (cFa 0 un46 M ti3 M<|cLd (d:=.int _ _) un3 ag3 ti3 M<|cI M<|aA M (bD M M A9 (svI M) (svI M) M k1)<|cAI M<|aD ?_);refine aU ?_;obtain rfl:=sj_ h;refine ⟨.inr M,B0⟩

abbrev T0:=fun a b=>([.int .i64 a,.bool b]:List D)
theorem kX(a0:List aH)(a1:Int)(r:Int×Bool)(h:dM a0 a1=some r):dH FY 95 [.slice false (a0.map aB.d),.int .i64 a1,.fn 96 []] (retD (T0 r.1 r.2)):=by
 refine bK (rs:=T0 r.1 r.2) func95 M ntmps95 B5 M fun O hO=>sta ⟨[C5 a0,D3 a1,(2,.fn 96 [])],[]⟩ ?_;unfold dM at h;refine aF (cAs (.int _ 0) M<|cAs (.bool false) M<|aD ?_);refine aF (aA M (mvL M M M M)<|aA M (bT aB (l:=a0) M M A9 un40 (svL M))<|cAI M<|aD ?_);refine aF (cI M<|cAs (.int _ 0) M<|cAI M<|aD ?_);refine aQ<|aT<|bR (α:=Nat×Int×Int) (fun z=>⟨[C5 a0,D3 a1,(2,.fn 96 []),(8,.int .i64 (a0.length:Int)),(9,.int .i64 z.2.1),R6 z.2.2],[]⟩) (fun z=>bV a0 a1 z.1 z.2.1 z.2.2=some r) (fun z=>z.1) (fuel,0,(a0.length:Int)) (fun i=>i) wkU ?_ ?_
 ·exact h
 ·rintro ⟨n0,v12,v13⟩ h
  cases n0 with
  | zero=>exact Ay h (by unfold bV; exact nofun)
  | succ n0 =>
   unfold bV at h;refine aQ ?_;obtain ⟨x25,k25,h⟩:=bN h;refine aF (cI M<|cI M<|cCm M k25<|aD ?_);refine aP h M ?_ ?_<;>intro h
   ·refine aR<|aI<|aT ?_;obtain ⟨x27,k27,x28,k28,x29,k29,h⟩:=eddo h;obtain ⟨x30,k30,h⟩:=bN h;refine aF (cI M<|cI M<|aA M (bD M M A9 (svI M) (svI M) M k27)<|aA M (wD M M A9 ⟨_,un3⟩ underlying158 (svI M) k28)<|aA M (aIu M M A9 (svI M) (svi 1 M) k29)<|aA M (wD M M A9 ⟨_,underlying158⟩ un3 (svI M) k30)<|cAI M<|aD ?_);obtain ⟨x31,k31,x32,k32,x33,k33,h⟩:=eood h;refine aF (cMv (.fn 96 []) M<|aA M (mvL M M M M)<|cI M<|aA M (bL aB (cs:=q24) M M A9 un40 ti46 (svL M) (svI M) k31 M M)<|aA M (cP (cs:=q24) M M A9 un46 ag46 ti46 A7 (svf q24 M) B5 M)<|cI M<|aA M (pR (r:=.int _ _) M M A9 cl96 (sv (d:=.fn 96 []) M) (.cons (svA q24 M) (.cons (svI M) .nil)) M (sU _ _ _ k32))<|cCm (b:=0) M k33<|aD ?_);refine aP h M ?_ ?_<;>intro h
    ·obtain ⟨x35,k35,h⟩:=bN h;refine aS (cI M<|aA M (bD M M A9 (svI M) (svi 1 M) M k35)<|cAI M<|bE ?_);refine bI<|aI ⟨(n0,x35,v13),(fun i=>i),wkU,?_,?_⟩;exact h;exact Ah _
    ·refine aS (cI M<|cAI M<|bE ?_);refine bI<|aI ⟨(n0,v12,x30),(fun i=>i),wkU,?_,?_⟩;exact h;exact Ah _
   ·refine cD<|bC<|bC<|cE<|aI ?_;obtain ⟨x36,k36,x37,k37,x38,k38,h⟩:=edoo h;obtain ⟨x39,k39,x40,k40,h⟩:=edd h;refine aF (cI M<|cI M<|cI M<|cCm M k36<|cB M<|gG M (fun hb=>(tMv (.fn 96 []) M))<|gG M G8<|gG M E8<|gG M (fun hb=>(bL aB (cs:=q24) M M A9 un40 ti46 (svcL M hb) (svcI M hb) (gd_t k37 hb) M M))<|gG M (fun hb=>(cP (cs:=q24) M M A9 un46 ag46 ti46 A7 (svc (d:=.fptr q24) M hb) B5 M))<|gG M E8<|gG M (fun hb=>(pR (r:=.int _ _) M M A9 cl96 (svc (d:=.fn 96 []) M hb) (.cons (svc (d:=.agg [.int .i64 x37.aa,.slice false (x37.ab.map aG.d)]) M hb) (.cons (svcI M hb) .nil)) M (sU _ _ _ (gd_t k38 hb))))<|gG M (fun hb=>(tCg (b:=0) M hb k39))<|cAn M k40<|cAI M<|cAB M<|aD ?_);refine aU ?_;obtain rfl:=sj_ h;refine ⟨.inr M,(.cons (sv M) (.cons (sv M) .nil))⟩

abbrev E9:=fun a b=>([.slice false ((List.map aB.d a)),.int .i64 b]:List D)
theorem rE(a0:List aH)(a1:Int)(r:Int×Bool)(h:jS a0 a1=some r):dH FY 57 (E9 a0 a1) (retD (T0 r.1 r.2)):=by
 refine bK (rs:=T0 r.1 r.2) func57 M ntmps57 B5 M fun O hO=>sta ⟨[C5 a0,D3 a1],[]⟩ ?_;unfold jS at h;refine aF (cAs (.int _ 0) M<|cAs (.bool false) M<|aD ?_);obtain ⟨x1,k1,h⟩:=bS h;refine aF (aA M (mvL M M M M)<|cI M<|aA M (bA (r:=.tuple q30) M M A9 cl95 (.cons (svL M) (.cons (svI M) (.cons (sv (d:=.fn 96 []) M) .nil))) M (kX _ _ _ k1))<|cEx (d:=.int _ _) (cs:=q30) M<|cEx (d:=.bool _) (cs:=q30) M<|cAI M<|cAB M<|aD ?_);refine aU ?_;obtain rfl:=sj_ h;refine ⟨.inr M,Z2⟩

set_option maxRecDepth 8000 in
set_option maxHeartbeats 4000000 in
abbrev H5:=fun a=>((1000,.blk 46 (Ac ((List.map aB.d a)))):Nat×Ent)
theorem G0(h:p:=by omega):p:=h
abbrev P9:=fun a=>((.int .i64 (a:Int)):D)
theorem f7(h:p:=by exact lop M M fun S hA=>(bM M M A9 (sv (d:=.rsl _ _ _ _ _) (agr hA M M)))):p:=h
theorem pF(a0:Int)(a1:List aH)(a2 r:List aH)(h:iT a0 a1 a2=some r):FnH FY 92 [.osl 1000 aB.sz a2.length,.int .i64 a0,.slice false (a1.map aB.d)] [H5 a2] (.osl 0 aB.sz r.length) [J0 r]:=by
 replace h:insS 32 a2 a0 a1=some r:=h;obtain ⟨i,rfl,hi,hm,hb,hr⟩:=insS_e h
 have hX:=aB.toEnc0.flat_len a2
 have hV:=aB.toEnc0.flat_len a1
 have hp:=aB.pos
 have hvt:∀ k,a1.length≤k→(Ac (a1.map aB.d)).take (min a1.length k*aB.sz)=Ac (a1.map aB.d):=fun k hk=>by
  rw [Cg hk,←hV,Cx]
 refine dX (rs:=[.osl 0 aB.sz r.length]) func92 M ntmps92 B5 fun O hO=>sta ⟨[U8 a2.length,(1,.int .i64 (i:Int)),(2,.slice false (a1.map aB.d))],[H5 a2]⟩ ?_
 refine aFK 0 (id:=1000) (sz:=aB.sz) (n:=a2.length) M M hX (fun hn=>?_) (fun c hc hcm=>?_)
 ·obtain rfl:=AV.1 hn;obtain rfl:i=0:=by simpa using hi
  refine aF (cAs (.nils) M<|aD ?_);refine aF (cMv (.nils) M<|cI M<|aA M (wR aB (s:=[]) (r:=[]) (b:=false) M M A9 un40 ti46 (svn M) ⟨_,(svI M)⟩ M M)<|aD ?_);refine aF (aA M (mvL M M M M)<|aA M (bT aB (l:=a1) M M A9 un40 (svL M))<|cAI M<|aD ?_);refine aQ<|aF (cI M<|cCm (b:=0) M M<|aD ?_);refine mX (b:=_) M (fun h1=>?_) (fun h1=>?_)
  ·have h2:=of_decide_eq_true h1
   obtain rfl:=AV.1 (show a1.length=0 by omega)
   have hr':[]=r:=by simpa using hr
   subst hr';refine aF (cMv (.nils) M<|cAs (.nils) M<|aD ?_);refine aU<|aY ?_;refine N7
  ·refine aR<|aI<|aF (cMv (.nils) M<|aA M (bT aB (l:=[]) (b:=false) M M A9 un40 (svn M))<|cAI M<|aD ?_)
   refine aQ<|aF (cI M<|cI M<|cCm M M<|aD ?_);refine wP M M ?_
   have ha:app 32 ([]:List aH) a1=some r:=by
    rw [←hr]; unfold maxLen at hm; simpa using kI hm hb
   refine aF (cMv (.nils) M<|aA M (mvL M M M M)<|aA M (aJl M un40 underlying39 fun o9 ho9 hd9=>uV aB.toEnc0 0 ho9 (hd9.trans M) A7 un40 ti46 M M M (aAg aB (ys:=a1) (svL M)) ha)<|cAs (.osl _ _ _) M<|aD ?_);refine aU<|aY ?_;refine Y4
 ·refine aF (cAs (.nils) M<|aD ?_)
  refine aF (cMv (.rsl _ _ _ _ _) M<|cI M<|aA M (kQ (sz:=aB.sz) (l:=(i:Int)) (h:=(a2.length:Int)) (m:=(c:Int)) M M A9 un40 ti46 (sv (d:=.rsl _ _ _ _ _) M) ⟨_,(svI M)⟩ M M R5 G0 G0 G0 G0 M)<|aD ?_);refine aF (aA M (mvL M M M M)<|aA M (bT aB (l:=a1) M M A9 un40 (svL M))<|cAI M<|aD ?_);refine aQ<|aF (cI M<|cCm (b:=0) M M<|aD ?_);refine mX (b:=_) M (fun h1=>?_) (fun h1=>?_)
  ·have h2:=of_decide_eq_true h1
   obtain rfl:=AV.1 (show a1.length=0 by omega)
   have hr':a2=r:=by simpa using hr
   subst hr';refine aF (cMv (.rsl _ _ _ _ _) M<|cAs (.rsl _ _ _ _ _) M<|aD ?_);refine aBd 6 (id:=1000) M M hX<|aU<|aY ?_;refine b7
  ·have h2:=of_decide_eq_false h1
   have hm0:0<a1.length:=by omega
   refine aR<|aI<|aF (cMv (.rsl _ _ _ _ _) M<|aA M (aEW M M A9 un40 (sv (d:=.rsl _ _ _ _ _) M) M)<|cAI M<|aD ?_);refine aQ<|aF (cI M<|cI M<|cCm M M<|aD ?_);refine mX (b:=_) M (fun h3=>?_) (fun h3=>?_)
   ·have h4:=of_decide_eq_true h3
    obtain rfl:i=a2.length:=by omega
    have hr':a2++a1=r:=by simpa using hr
    have ha:app 32 a2 a1=some r:=by
     rw [←hr']; unfold maxLen at hm; exact kI hm hb
    refine aF (cMv (.rsl _ _ _ _ _) M<|aA M (mvL M M M M)<|aHZ 23 (id:=1000) M M hX<|aA M (aJl M un40 underlying39 fun o9 ho9 hd9=>lK aB.toEnc0 0 ho9 (hd9.trans M) A7 un40 ti46 M M M M M (aAg aB (ys:=a1) (svL M)) ha)<|cAs (.osl _ _ _) M<|aD ?_);refine aU<|aY ?_;refine Y4
   ·have h4:=of_decide_eq_false h3
    have hin:i<a2.length:=by omega
    have hXt:(Ac ((a2.take i).map aB.d)).length=i*aB.sz:=by rw [aB.toEnc0.flat_len,Bm,Cg hi]
    have hXd:(Ac ((a2.drop i).map aB.d)).length=(a2.length-i)*aB.sz:=by rw [aB.toEnc0.flat_len,BV]
    have hXs:Ac (a2.map aB.d)=Ac ((a2.take i).map aB.d)++Ac ((a2.drop i).map aB.d):=by
     rw [aB.toEnc0.flat_append,AX]
    have hR:Ac (r.map aB.d)=Ac ((a2.take i).map aB.d)++Ac (a1.map aB.d)++Ac ((a2.drop i).map aB.d):=by
     rw [←hr,aB.toEnc0.flat_append,aB.toEnc0.flat_append]
    have hRl:(Ac (r.map aB.d)).length=r.length*aB.sz:=aB.toEnc0.flat_len r
    have hrl:r.length=a2.length+a1.length:=by rw [←hr]; simp; omega
    refine aR<|aI<|aQ<|aF (cI M<|cI M<|aA M (bD M M A9 (svI M) (svI M) M (wN hm))<|cMv (.rsl _ _ _ _ _) M<|aA M (aEZ M M A9 un40 (sv (d:=.rsl _ _ _ _ _) M) M)<|cCm M M<|aD ?_);refine mX (b:=_) M (fun h5=>?_) (fun h5=>?_)
    ·have h6:=of_decide_eq_true h5
     have hcn:c<a2.length+a1.length:=by omega
     obtain ⟨K,hK⟩:∃ K,K=a2.length+a1.length-i:=⟨_,rfl⟩
     have hKm:i+K=a2.length+a1.length:=by omega
     have w1:Af .i64 (((a2.length+a1.length:Nat):Int)-(i:Int))=(K:Int):=by rw [hK]; exact wS G0 hm
     have hD0:i*aB.sz≤(Ac (a2.map aB.d)++AK ((c-a2.length)*aB.sz) D.dead).length:=by
      rw [AO,hX]; exact BG (AU _ hi) (Db _ _)
     have hT0:(Ac (a2.map aB.d)++AK ((c-a2.length)*aB.sz) D.dead).take (i*aB.sz)=Ac ((a2.take i).map aB.d):=by
      rw [AT (by rw [hX]; exact AU _ hi),aB.toEnc0.flat_take]
     refine aF (cMv (.rsl _ _ _ _ _) M<|cI M<|aA M (kQ (sz:=aB.sz) (l:=0) (h:=(i:Int)) (m:=(c:Int)) (d:=.rsl 1000 aB.sz 0 i c) M M A9 un40 ti46 (sv (d:=.rsl _ _ _ _ _) M) M ⟨_,(svI M)⟩ M R5 G0 G0 G0 G0 (by simp only [As,Int.toNat_zero,CY,Bj,DW]))<|cI M<|cI M<|aA M (bD M M A9 (svI M) (svI M) M (wN hm))<|cI M<|aA M (bD M M A9 (svI M) (svI M) M w1)<|aA M (aDr (sz:=aB.sz) (k:=K) 0 M M A9 un40 un3 ti46 M (sv (d:=.rsl _ _ _ _ _) M) M M (svI M) M G0 hD0 G0 (by rw [hKm]; exact hm) (by rw [hKm]; exact hb))<|cAs (.osl _ _ _) M<|aD ?_)
     have hY0:((Ac (a2.map aB.d)++AK ((c-a2.length)*aB.sz) D.dead).take (i*aB.sz)++AK (K*aB.sz) D.dead).length=(i+K)*aB.sz:=by
      rw [AO,Bm,CC,Cg hD0,Bw]
     refine aFK 9 (id:=0) M M hY0 (fun h0=>Ay h0 G0) (fun c1 hc1 hcm1=>?_);rw [hT0];rw [hT0] at hY0
     have w2:Af .i64 ((i:Int)+(a1.length:Int))=((i+a1.length:Nat):Int):=wN G0
     have hKs:(K-a1.length)*aB.sz=(a2.length-i)*aB.sz:=by congr 1; omega
     obtain ⟨J,hJ⟩:∃ J,J=AK ((c1-(i+K))*aB.sz) D.dead:=⟨_,rfl⟩;obtain ⟨Z,hZ⟩:∃ Z,Z=AK (K*aB.sz) D.dead:=⟨_,rfl⟩
     have hZl:Z.length=K*aB.sz:=by rw [hZ,CC]
     have hKsp:K*aB.sz=a1.length*aB.sz+(a2.length-i)*aB.sz:=by rw [←Bw]; congr 1; omega
     rw [←hJ,←hZ]
     have hYl:(Ac ((a2.take i).map aB.d)++Z++J).length=i*aB.sz+K*aB.sz+J.length:=by simp only [AO,hXt,hZl]
     refine aF (cMv (.rsl _ _ _ _ _) M<|cI M<|aA M (kQ (sz:=aB.sz) (l:=(i:Int)) (h:=((i+K:Nat):Int)) (m:=(c1:Int)) (d:=.rsl 0 aB.sz (i*aB.sz) K (c1-i)) M M A9 un40 ti46 (sv (d:=.rsl _ _ _ _ _) M) ⟨_,(svI M)⟩ M M R5 G0 G0 G0 G0 (by simp only [As,Bj]; congr 1; omega))<|aA M (mvL M M M M)<|aA M (uB (sz:=aB.sz) (ds':=jG (Ac ((a2.take i).map aB.d)++Z++J) (i*aB.sz) (Ac (a1.map aB.d))) M M A9 un40 ti46 (sv (d:=.rsl _ _ _ _ _) M) M (aAg aB (ys:=a1) (svL M)) hV (aBz (aB.toEnc0.one a1) _) (by rw [hYl]; omega) M (by rw [hvt _ G0]))<|aD ?_)
     have e1:jG (Ac ((a2.take i).map aB.d)++Z++J) (i*aB.sz) (Ac (a1.map aB.d))=Ac ((a2.take i).map aB.d)++Ac (a1.map aB.d)++(Z.drop (a1.length*aB.sz)++J):=by
      have e2:Ac ((a2.take i).map aB.d)++Z++J=Ac ((a2.take i).map aB.d)++Z.take (a1.length*aB.sz)++(Z.drop (a1.length*aB.sz)++J):=by
       rw [AA (Ac ((a2.take i).map aB.d)),AA (Ac ((a2.take i).map aB.d)),←AA (Z.take _),AX]
      rw [e2]; exact vV hXt (by rw [Bm,hZl,hV]; omega)
     have hres:=ins_new (J:=J) (Y:=Ac ((a2.drop i).map aB.d)) hXt hV (show Z.length=a1.length*aB.sz+(Ac ((a2.drop i).map aB.d)).length by rw [hZl,hXd,hKsp])
     have hlen1:(jG (Ac ((a2.take i).map aB.d)++Z++J) (i*aB.sz) (Ac (a1.map aB.d))).length=i*aB.sz+K*aB.sz+J.length:=by
      rw [e1]; simp only [AO,hXt,hV,BV,hZl]; omega
     obtain ⟨Y1,hY1⟩:∃ Y1,Y1=jG (Ac ((a2.take i).map aB.d)++Z++J) (i*aB.sz) (Ac (a1.map aB.d)):=⟨_,rfl⟩;rw [←hY1] at hlen1 hres ⊢;obtain ⟨es,hes⟩:∃ es,es=((Ac (a2.map aB.d)++AK ((c-a2.length)*aB.sz) D.dead).drop (i*aB.sz)).take ((a2.length-i)*aB.sz):=⟨_,rfl⟩
     have hes':es=Ac ((a2.drop i).map aB.d):=by
      rw [hes,Bn (by rw [hX]; exact AU _ hi),aB.toEnc0.flat_drop,AT (by rw [hXd]; exact AP _),←hXd,Cx]
     have hfit2:i*aB.sz+(a2.length-i)*aB.sz≤(Ac (a2.map aB.d)++AK ((c-a2.length)*aB.sz) D.dead).length:=by
      rw [AO,hX,←Bw,show i+(a2.length-i)=a2.length by omega]; exact Db _ _
     have him:(i+a1.length)*aB.sz=i*aB.sz+a1.length*aB.sz:=Bw _ _ _
     refine jN M [nd1 [9] 46 (.rsl 0 aB.sz 0 (i+K) c1),nd1 [1] 47 (P9 i),nd1 [7] 48 (P9 a1.length),nd1 [47,48] 49 (.int .i64 ((i+a1.length:Nat):Int)),nd1 [46,49] 50 (.rsl 0 aB.sz ((i+a1.length)*aB.sz) (K-a1.length) (c1-(i+a1.length))),nd1 [0] 51 (.rsl 1000 aB.sz 0 a2.length c),nd1 [1] 52 (P9 i),nd1 [51,52] 53 (.rsl 1000 aB.sz (i*aB.sz) (a2.length-i) (c-i)),⟨[50,53],[0,1000],[(54,.int .i64 ((min (a2.length-i) (K-a1.length):Nat):Int))],[(0,.blk 46 (jG Y1 ((i+a1.length)*aB.sz) es))]⟩] M ?_ D6 ?_
     ·refine .cons f7<|.cons (dMv M)<|.cons (dMv M)<|.cons (lop M M fun S hA=>(bD M M A9 (svaI hA M M) (svaI hA M M) M w2))<|.cons (lop M M fun S hA=>(kQ (sz:=aB.sz) (l:=((i+a1.length:Nat):Int)) (h:=((i+K:Nat):Int)) (m:=(c1:Int)) (d:=.rsl 0 aB.sz ((i+a1.length)*aB.sz) (K-a1.length) (c1-(i+a1.length))) M M A9 un40 ti46 (sv (d:=.rsl _ _ _ _ _) (agr hA M M)) ⟨_,(svaI hA M M)⟩ M M R5 G0 G0 G0 G0 (by simp only [As,Bj]; congr 1; omega)))<|.cons f7<|.cons (dMv M)<|.cons (lop M M fun S hA=>(kQ (sz:=aB.sz) (l:=(i:Int)) (h:=(a2.length:Int)) (m:=(c:Int)) (d:=.rsl 1000 aB.sz (i*aB.sz) (a2.length-i) (c-i)) M M A9 un40 ti46 (sv (d:=.rsl _ _ _ _ _) (agr hA M M)) ⟨_,(svaI hA M M)⟩ M M R5 G0 G0 G0 G0 (by simp only [As,Bj])))<|.cons (lop M M fun S hA=>(uB (sz:=aB.sz) (es:=es) (ds':=jG Y1 ((i+a1.length)*aB.sz) es) M M A9 un40 ti46 (sv (d:=.rsl _ _ _ _ _) (agr hA M M)) (agi hA M M) (hes ▸ aGZ (sv (d:=.rsl _ _ _ _ _) (agr hA M M)) (agi hA M M) hfit2) (by rw [hes',hXd]) (aBz (by rw [hes']; exact aB.toEnc0.one _) _) (by rw [hlen1,him,hKs]; omega) M (by rw [show min (a2.length-i) (K-a1.length)=a2.length-i by omega,hes',←hXd,Cx]))) ?_
      exact .nil
     ·rw [hes',him,hres,←hR]
      refine aF (cMv (.rsl _ _ _ _ _) M<|cAs (.rsl _ _ _ _ _) M<|aD ?_);refine aBd 6 (id:=0) M M (show (Ac (r.map aB.d)).length=(i+K)*aB.sz by rw [hRl,hrl,hKm])<|aU<|aY ?_;refine ⟨.inr M,(fun i=>i),wkU,(.cons (sv (AH (D.osl _ _) (show i+K=r.length by omega))) .nil),M⟩
    ·have h6:=of_decide_eq_false h5
     have hcn:a2.length+a1.length≤c:=by omega
     have w2:Af .i64 ((i:Int)+(a1.length:Int))=((i+a1.length:Nat):Int):=wN G0
     have him:(i+a1.length)*aB.sz=i*aB.sz+a1.length*aB.sz:=Bw _ _ _
     obtain ⟨J,hJ⟩:∃ J,J=AK ((c-a2.length)*aB.sz) D.dead:=⟨_,rfl⟩
     have hJl:J.length=(c-a2.length)*aB.sz:=by rw [hJ,CC]
     have hJm:a1.length*aB.sz≤J.length:=by rw [hJl]; exact AU _ G0
     have hni:a2.length*aB.sz=i*aB.sz+(a2.length-i)*aB.sz:=by rw [←Bw]; congr 1; omega
     have hnm:(a2.length+a1.length-i)*aB.sz=(a2.length-i)*aB.sz+a1.length*aB.sz:=by rw [←Bw]; congr 1; omega
     have hnm2:(a2.length+a1.length-(i+a1.length))*aB.sz=(a2.length-i)*aB.sz:=by congr 1; omega
     rw [←hJ]
     have hD0:(Ac (a2.map aB.d)++J).length=i*aB.sz+(a2.length-i)*aB.sz+J.length:=by rw [AO,hX,hni]
     refine aR<|aI<|aF (cMv (.rsl _ _ _ _ _) M<|cI M<|cI M<|aA M (bD M M A9 (svI M) (svI M) M (wN hm))<|aA M (kQ (sz:=aB.sz) (l:=0) (h:=((a2.length+a1.length:Nat):Int)) (m:=(c:Int)) (d:=.rsl 1000 aB.sz 0 (a2.length+a1.length) c) M M A9 un40 ti46 (sv (d:=.rsl _ _ _ _ _) M) M ⟨_,(svI M)⟩ M R5 G0 G0 G0 G0 (by simp only [As,Int.toNat_zero,CY,Bj,DW]))<|cAs (.rsl _ _ _ _ _) M<|aD ?_);refine aQ<|aF (aA M (mvL M M M M)<|cMv (.rsl _ _ _ _ _) M<|cI M<|cI M<|aA M (bD M M A9 (svI M) (svI M) M w2)<|aA M (kQ (sz:=aB.sz) (l:=((i+a1.length:Nat):Int)) (h:=((a2.length+a1.length:Nat):Int)) (m:=(c:Int)) M M A9 un40 ti46 (sv (d:=.rsl _ _ _ _ _) M) ⟨_,(svI M)⟩ M M R5 G0 G0 G0 G0 M)<|aA M (aDo M M A9 ex120 un40 ti46 (svL M) (by intro e; have e9:=AH Em e; rw [An,Cj] at e9; omega) (sv (d:=.rsl _ _ _ _ _) M) M (by intro e; have:=AH Em e; rw [hD0] at this; simp only [Cj] at this; have h9:0<(a2.length-i)*aB.sz:=Nat.mul_pos (Nat.sub_pos_of_lt hin) hp; clear hnm hnm2 him; omega))<|aA M (eP M M A9 (svB M))<|aD ?_);refine wP M M ?_;obtain ⟨es,hes⟩:∃ es,es=((Ac (a2.map aB.d)++J).drop (i*aB.sz)).take ((a2.length+a1.length-i)*aB.sz):=⟨_,rfl⟩
     have hes':es.take ((a2.length-i)*aB.sz)=Ac ((a2.drop i).map aB.d):=by
      rw [hes,List.take_take,Cg G0,Bn G0,aB.toEnc0.flat_drop,AT (by rw [hXd]; exact AP _),←hXd,Cx]
     have hesl:es.length=(a2.length+a1.length-i)*aB.sz:=by
      rw [hes,Bm,BV,hD0]; omega
     have hres:=aHX (J:=J) (Y:=Ac ((a2.drop i).map aB.d)) hXt hV hJm
     rw [←hXs] at hres;refine jN M [nd1 [0] 69 (.rsl 1000 aB.sz 0 (a2.length+a1.length) c),nd1 [1] 70 (P9 i),nd1 [7] 71 (P9 a1.length),nd1 [70,71] 72 (.int .i64 ((i+a1.length:Nat):Int)),nd1 [69,72] 73 (.rsl 1000 aB.sz ((i+a1.length)*aB.sz) (a2.length+a1.length-(i+a1.length)) (c-(i+a1.length))),nd1 [0] 74 (.rsl 1000 aB.sz 0 (a2.length+a1.length) c),nd1 [1] 75 (P9 i),nd1 [74,75] 76 (.rsl 1000 aB.sz (i*aB.sz) (a2.length+a1.length-i) (c-i)),⟨[73,76],[1000],[(77,.int .i64 ((min (a2.length+a1.length-i) (a2.length+a1.length-(i+a1.length)):Nat):Int))],[(1000,.blk 46 (jG (Ac (a2.map aB.d)++J) (i*aB.sz+a1.length*aB.sz) (Ac ((a2.drop i).map aB.d))))]⟩] M ?_ D6 ?_
     ·refine .cons f7<|.cons (dMv M)<|.cons (dMv M)<|.cons (lop M M fun S hA=>(bD M M A9 (svaI hA M M) (svaI hA M M) M w2))<|.cons (lop M M fun S hA=>(kQ (sz:=aB.sz) (l:=((i+a1.length:Nat):Int)) (h:=((a2.length+a1.length:Nat):Int)) (m:=(c:Int)) (d:=.rsl 1000 aB.sz ((i+a1.length)*aB.sz) (a2.length+a1.length-(i+a1.length)) (c-(i+a1.length))) M M A9 un40 ti46 (sv (d:=.rsl _ _ _ _ _) (agr hA M M)) ⟨_,(svaI hA M M)⟩ M M R5 G0 G0 G0 G0 (by simp only [As,Bj])))<|.cons f7<|.cons (dMv M)<|.cons (lop M M fun S hA=>(kQ (sz:=aB.sz) (l:=(i:Int)) (h:=((a2.length+a1.length:Nat):Int)) (m:=(c:Int)) (d:=.rsl 1000 aB.sz (i*aB.sz) (a2.length+a1.length-i) (c-i)) M M A9 un40 ti46 (sv (d:=.rsl _ _ _ _ _) (agr hA M M)) ⟨_,(svaI hA M M)⟩ M M R5 G0 G0 G0 G0 (by simp only [As,Bj])))<|.cons (lop M M fun S hA=>(uB (sz:=aB.sz) (es:=es) (ds':=jG (Ac (a2.map aB.d)++J) (i*aB.sz+a1.length*aB.sz) (Ac ((a2.drop i).map aB.d))) M M A9 un40 ti46 (sv (d:=.rsl _ _ _ _ _) (agr hA M M)) (agi hA M M) (hes ▸ aGZ (sv (d:=.rsl _ _ _ _ _) (agr hA M M)) (agi hA M M) (by rw [hD0]; omega)) hesl (by rw [show min (a2.length+a1.length-i) (a2.length+a1.length-(i+a1.length))=a2.length-i by omega,hes']; exact aB.toEnc0.one _) (by rw [hD0,him,hnm2]; omega) M (by rw [show min (a2.length+a1.length-i) (a2.length+a1.length-(i+a1.length))=a2.length-i by omega,hes',him]))) ?_
      exact .nil
     ·refine aF (cMv (.rsl _ _ _ _ _) M<|cI M<|aA M (kQ (sz:=aB.sz) (l:=(i:Int)) (h:=((a2.length+a1.length:Nat):Int)) (m:=(c:Int)) (d:=.rsl 1000 aB.sz (i*aB.sz) (a2.length+a1.length-i) (c-i)) M M A9 un40 ti46 (sv (d:=.rsl _ _ _ _ _) M) ⟨_,(svI M)⟩ M M R5 G0 G0 G0 G0 (by simp only [As,Bj]))<|aA M (mvL M M M M)<|aA M (uB (sz:=aB.sz) (ds':=Ac (r.map aB.d)++J.drop (a1.length*aB.sz)) M M A9 un40 ti46 (sv (d:=.rsl _ _ _ _ _) M) M (aAg aB (ys:=a1) (svL M)) hV (aBz (aB.toEnc0.one a1) _) (by rw [aB4,hD0]; omega; rw [hD0,hXd]; omega) M (by rw [hvt _ G0,hres,hR]))<|aD ?_)
      refine aF (cMv (.rsl _ _ _ _ _) M<|cAs (.rsl _ _ _ _ _) M<|aD ?_);refine aBd 6 (id:=1000) M M (show (Ac (r.map aB.d)).length=(a2.length+a1.length)*aB.sz by rw [hRl,hrl])<|aU<|aY ?_;refine ⟨.inr M,(fun i=>if i=0 then 1000 else i),wkU,(.cons (sv (AH (D.osl _ _) hrl.symm)) .nil),M⟩

theorem iB(a0 r:List aL)(h:dP a0=some r):FnH FY 90 [.slice false (a0.map aG.d)] [] (.osl 0 aG.sz r.length) [(0,.blk 26 (Ac (r.map aG.d)))]:=by
 refine dX (rs:=[.osl 0 aG.sz r.length]) func90 M ntmps90 B5 fun O hO=>sta ⟨[K0 a0],[]⟩ ?_;unfold dP at h;refine aF (cAs (.nils) M<|aD ?_);refine aQ<|aF (aA M (mvL M M M M)<|aBm M M M A7 un44 (svL M) M<|fun bn1 hbn1 =>
  aD ?_)
 refine mX (b:=_) M (fun hc2=>?_) (fun hc2=>?_)
 ·replace h:=aEk h (mapE (hbn1 hc2));refine aF (cAs (.nils) M<|aD ?_);refine aU<|aY ?_;obtain rfl:=sj_ h;refine N7
 ·replace h:=aEl h;refine aR<|aI ?_;obtain ⟨x3,k3,h⟩:=bS h;refine aF (aA M (oT aG.toEnc0 ([]:(List aL)) 0 M M A9 un44 ti26 M .nil M M A7)<|aA M (mvL M M M M)<|aA M (lK aG.toEnc0 1 M M A9 un44 ti26 M M M M M (aAg aG (ys:=a0) (svL M)) k3)<|cAs (.osl _ _ _) M<|aD ?_);refine aU ?_;obtain rfl:=sj_ h;refine X9
end Go.Proofs.YtbacpjjiklkgfaaGreat
