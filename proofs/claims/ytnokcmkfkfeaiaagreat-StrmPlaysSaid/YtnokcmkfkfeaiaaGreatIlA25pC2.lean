/-
  A part of the proof: rules and plain facts. No condition.
-/
import Derived.Test.YtnokcmkfkfeaiaaGreatProg
import Derived.KernelRfl
import Derived.Test.YtnokcmkfkfeaiaaGreatIlEq
import Derived.Test.YtnokcmkfkfeaiaaGreatIlA25pD
import Derived.Test.YtnokcmkfkfeaiaaGreatIlA25pC1
set_option linter.all false
set_option maxRecDepth 8000
set_option maxHeartbeats 2000000
open Go Go.IL Go.Fn Go.Proofs
open Go.Proofs.Tryz
namespace Go.Proofs.YtnokcmkfkfeaiaaGreat
theorem ti5:TI prog 5 (some (.int .u8 0)) 1 1:=by unfold TI; kernel_rfl
theorem ti53:TI prog 53 (some (.int .u32 0)) 1 4:=by unfold TI; kernel_rfl
theorem ti62:TI prog 62 (some (.slice none 0 0)) 1 24:=by unfold TI; kernel_rfl
theorem ti63:TI prog 63 (some (.slice none 0 0)) 1 24:=by unfold TI; kernel_rfl
theorem ti65:TI prog 65 (some (.agg #[.int .i64 0,.string ⟨#[]⟩,.int .i64 0,.slice none 0 0,.slice none 0 0,.bool false,.bool false,.bool false,.bool false])) 9 88:=by unfold TI; kernel_rfl
theorem ti66:TI prog 66 (some (.slice none 0 0)) 1 24:=by unfold TI; kernel_rfl
theorem ti68:TI prog 68 (some (.agg #[.int .i64 0,.string ⟨#[]⟩,.slice none 0 0])) 3 48:=by unfold TI; kernel_rfl
theorem ti70:TI prog 70 (some (.agg #[.int .i64 0,.string ⟨#[]⟩,.slice none 0 0,.int .i64 0])) 4 56:=by unfold TI; kernel_rfl
theorem ti71:TI prog 71 (some (.agg #[.int .i64 0,.int .i64 0,.int .i64 0,.int .i64 0])) 4 32:=by unfold TI; kernel_rfl
theorem ti73:TI prog 73 (some (.agg #[.int .i64 0,.int .i64 0,.string ⟨#[]⟩,.int .i64 0,.slice none 0 0,.slice none 0 0,.bool false,.bool false,.bool false,.bool false,.int .i64 0,.string ⟨#[]⟩,.slice none 0 0,.int .i64 0,.int .i64 0,.int .i64 0,.int .i64 0,.int .i64 0,.int .i64 0,.int .i64 0,.int .i64 0,.int .i64 0,.int .i64 0,.int .i64 0])) 24 232:=by unfold TI; kernel_rfl
theorem ti79:TI prog 79 (some (.agg #[.int .i64 0,.int .i64 0,.int .i64 0,.bool false])) 4 32:=by unfold TI; kernel_rfl
theorem ti81:TI prog 81 (some (.agg #[.int .i64 0,.int .i64 0,.string ⟨#[]⟩,.bool false,.int .i64 0,.int .i64 0,.int .i64 0,.bool false])) 8 72:=by unfold TI; kernel_rfl
theorem mY:TI prog 204 (some (.agg #[.int .i64 0,.int .i64 0])) 2 16:=by unfold TI; kernel_rfl
theorem lX:TI prog 208 (some (.agg #[.int .i64 0,.string ⟨#[]⟩])) 2 24:=by unfold TI; kernel_rfl
theorem ag5:gH prog 5=false:=by kernel_rfl
theorem ag53:gH prog 53=false:=by kernel_rfl
theorem ag62:gH prog 62=false:=by kernel_rfl
theorem ag63:gH prog 63=false:=by kernel_rfl
theorem ag65:gH prog 65=true:=by kernel_rfl
theorem ag66:gH prog 66=false:=by kernel_rfl
theorem ag68:gH prog 68=true:=by kernel_rfl
theorem ag70:gH prog 70=true:=by kernel_rfl
theorem ag71:gH prog 71=true:=by kernel_rfl
theorem ag73:gH prog 73=true:=by kernel_rfl
theorem ag79:gH prog 79=true:=by kernel_rfl
theorem ag81:gH prog 81=true:=by kernel_rfl
theorem aFh:gH prog 204=true:=by kernel_rfl
theorem aFg:gH prog 208=true:=by kernel_rfl
theorem pl65:∀ w,(Array.mapM (m:=Sem) (fun (f:Field)=>Functor.map (Prod.mk f.offset) (sizeOf f.type)) (fieldsOf prog 65)).run prog w = .ok #[(0,1),(1,1),(2,1),(3,1),(4,1),(5,1),(6,1),(7,1),(8,1)] w:=fun w=>by kernel_rfl
theorem pl68:∀ w,(Array.mapM (m:=Sem) (fun (f:Field)=>Functor.map (Prod.mk f.offset) (sizeOf f.type)) (fieldsOf prog 68)).run prog w = .ok #[(0,1),(1,1),(2,1)] w:=fun w=>by kernel_rfl
theorem pl70:∀ w,(Array.mapM (m:=Sem) (fun (f:Field)=>Functor.map (Prod.mk f.offset) (sizeOf f.type)) (fieldsOf prog 70)).run prog w = .ok #[(0,3),(3,1)] w:=fun w=>by kernel_rfl
theorem pl71:∀ w,(Array.mapM (m:=Sem) (fun (f:Field)=>Functor.map (Prod.mk f.offset) (sizeOf f.type)) (fieldsOf prog 71)).run prog w = .ok #[(0,1),(1,1),(2,1),(3,1)] w:=fun w=>by kernel_rfl
theorem pl73:∀ w,(Array.mapM (m:=Sem) (fun (f:Field)=>Functor.map (Prod.mk f.offset) (sizeOf f.type)) (fieldsOf prog 73)).run prog w = .ok #[(0,1),(1,9),(10,4),(14,4),(18,4),(22,1),(23,1)] w:=fun w=>by kernel_rfl
theorem pl81:∀ w,(Array.mapM (m:=Sem) (fun (f:Field)=>Functor.map (Prod.mk f.offset) (sizeOf f.type)) (fieldsOf prog 81)).run prog w = .ok #[(0,1),(1,1),(2,1),(3,1),(4,4)] w:=fun w=>by kernel_rfl
theorem st105:prog.stoodInHeld 105=false∧prog.eqGuardType prog.depth 105=false:=⟨by kernel_rfl,by kernel_rfl⟩
theorem st204:prog.stoodInHeld 204=false∧prog.eqGuardType prog.depth 204=false:=⟨by kernel_rfl,by kernel_rfl⟩
theorem st208:prog.stoodInHeld 208=false∧prog.eqGuardType prog.depth 208=false:=⟨by kernel_rfl,by kernel_rfl⟩
theorem st228:prog.stoodInHeld 228=false∧prog.eqGuardType prog.depth 228=false:=⟨by kernel_rfl,by kernel_rfl⟩
theorem st44:prog.stoodInHeld 44=false∧prog.eqGuardType prog.depth 44=false:=⟨by kernel_rfl,by kernel_rfl⟩
theorem st71:prog.stoodInHeld 71=false∧prog.eqGuardType prog.depth 71=false:=⟨by kernel_rfl,by kernel_rfl⟩
theorem st79:prog.stoodInHeld 79=false∧prog.eqGuardType prog.depth 79=false:=⟨by kernel_rfl,by kernel_rfl⟩
theorem cl12:aU prog 12:=⟨f12,func12,rfl,rfl⟩
theorem cl14:aU prog 14:=⟨f14,func14,rfl,rfl⟩
theorem cl22:aU prog 22:=⟨f22,func22,rfl,rfl⟩
theorem cl24:aU prog 24:=⟨f24,func24,rfl,rfl⟩
theorem cl26:aU prog 26:=⟨f26,func26,rfl,rfl⟩
theorem cl28:aU prog 28:=⟨f28,func28,rfl,rfl⟩
theorem cl29:aU prog 29:=⟨f29,func29,rfl,rfl⟩
theorem cl30:aU prog 30:=⟨f30,func30,rfl,rfl⟩
theorem cl31:aU prog 31:=⟨f31,func31,rfl,rfl⟩
theorem cl32:aU prog 32:=⟨f32,func32,rfl,rfl⟩
theorem cl33:aU prog 33:=⟨f33,func33,rfl,rfl⟩
theorem cl34:aU prog 34:=⟨f34,func34,rfl,rfl⟩
theorem cl35:aU prog 35:=⟨f35,func35,rfl,rfl⟩
theorem cl36:aU prog 36:=⟨f36,func36,rfl,rfl⟩
theorem cl37:aU prog 37:=⟨f37,func37,rfl,rfl⟩
theorem cl38:aU prog 38:=⟨f38,func38,rfl,rfl⟩
theorem cl41:aU prog 41:=⟨f41,func41,rfl,rfl⟩
theorem cl42:aU prog 42:=⟨f42,func42,rfl,rfl⟩
theorem cl46:aU prog 46:=⟨f46,func46,rfl,rfl⟩
theorem cl47:aU prog 47:=⟨f47,func47,rfl,rfl⟩
theorem cl48:aU prog 48:=⟨f48,func48,rfl,rfl⟩
theorem cl49:aU prog 49:=⟨f49,func49,rfl,rfl⟩
theorem cl50:aU prog 50:=⟨f50,func50,rfl,rfl⟩
theorem cl51:aU prog 51:=⟨f51,func51,rfl,rfl⟩
theorem cl65:aU prog 65:=⟨f65,func65,rfl,rfl⟩
theorem cl70:aU prog 70:=⟨f70,func70,rfl,rfl⟩
theorem cl71:aU prog 71:=⟨f71,func71,rfl,rfl⟩
theorem cl75:aU prog 75:=⟨f75,func75,rfl,rfl⟩
theorem cl77:aU prog 77:=⟨f77,func77,rfl,rfl⟩
theorem cl78:aU prog 78:=⟨f78,func78,rfl,rfl⟩
theorem cl79:aU prog 79:=⟨f79,func79,rfl,rfl⟩
theorem cl80:aU prog 80:=⟨f80,func80,rfl,rfl⟩
theorem cl81:aU prog 81:=⟨f81,func81,rfl,rfl⟩
theorem cl84:aU prog 84:=⟨f84,func84,rfl,rfl⟩
theorem cl85:aU prog 85:=⟨f85,func85,rfl,rfl⟩
theorem cl86:aU prog 86:=⟨f86,func86,rfl,rfl⟩
theorem cl87:aU prog 87:=⟨f87,func87,rfl,rfl⟩
theorem cl89:aU prog 89:=⟨f89,func89,rfl,rfl⟩
theorem cl90:aU prog 90:=⟨f90,func90,rfl,rfl⟩
theorem cl91:aU prog 91:=⟨f91,func91,rfl,rfl⟩
theorem cl92:aU prog 92:=⟨f92,func92,rfl,rfl⟩
theorem cl93:aU prog 93:=⟨f93,func93,rfl,rfl⟩
theorem cl94:aU prog 94:=⟨f94,func94,rfl,rfl⟩
theorem cl98:aU prog 98:=⟨f98,func98,rfl,rfl⟩
theorem cl99:aU prog 99:=⟨f99,func99,rfl,rfl⟩
theorem cl101:aU prog 101:=⟨f101,func101,rfl,rfl⟩
theorem cl102:aU prog 102:=⟨f102,func102,rfl,rfl⟩
theorem cl103:aU prog 103:=⟨f103,func103,rfl,rfl⟩
theorem cl104:aU prog 104:=⟨f104,func104,rfl,rfl⟩
theorem cl123:aU prog 123:=⟨f123,func123,rfl,rfl⟩
theorem cl126:aU prog 126:=⟨f126,func126,rfl,rfl⟩
theorem cl128:aU prog 128:=⟨f128,func128,rfl,rfl⟩
theorem cl132:aU prog 132:=⟨f132,func132,rfl,rfl⟩
theorem cl139:aU prog 139:=⟨f139,func139,rfl,rfl⟩
theorem cl140:aU prog 140:=⟨f140,func140,rfl,rfl⟩
theorem cl141:aU prog 141:=⟨f141,func141,rfl,rfl⟩
theorem cl142:aU prog 142:=⟨f142,func142,rfl,rfl⟩
theorem cl163:aU prog 163:=⟨f163,func163,rfl,rfl⟩
theorem cl168:aU prog 168:=⟨f168,func168,rfl,rfl⟩
theorem cl178:aU prog 178:=⟨f178,func178,rfl,rfl⟩
theorem cl184:aU prog 184:=⟨f184,func184,rfl,rfl⟩
def la62:=LA.mk underlying62 ag62 ti62 (by decide)
def la65:=LA.mk underlying65 ag65 ti65 (by decide)
def la66:=LA.mk underlying66 ag66 ti66 (by decide)
def la68:=LA.mk underlying68 ag68 ti68 (by decide)
def la70:=LA.mk underlying70 ag70 ti70 (by decide)
def la71:=LA.mk underlying71 ag71 ti71 (by decide)
def la73:=LA.mk underlying73 ag73 ti73 (by decide)
def la81:=LA.mk underlying81 ag81 ti81 (by decide)


theorem aED (a0:bE) (a1:Int) (a2:(List UInt8)) (a3:Bool) (r:(bE×Int×Int)) (h:vG a0 a1 a2 a3=some r):bJ prog 42 [.agg (tv4 a0),.int .i64 a1,.str a2,.bool a3] (retD [.agg (tv4 r.1),.int .i64 r.2.1,.int .u32 r.2.2]):=by
 refine aQ (rs:=[.agg (tv4 r.1),.int .i64 r.2.1,.int .u32 r.2.2]) func42 M ntmps42 (nle M) M fun O hO=>?_
 show IWP _ _ _ _ ⟨[(0,.agg (tv4 a0)),(1,.int .i64 a1),(2,.str a2),(3,.bool a3)],[]⟩ _
 unfold vG at h;refine aC (cBx (cs:=q19) q19 0 M<|aA M (aR (cs:=q21) (cs':=zs1) 1 M M (lb M) M ti42 M M (.k (.k (.cons (.nils _) (.all _)))))<|cAs (.int _ 0) M<|cAs (.int _ 0) M<|aB ?_);refine aP ?_;obtain ⟨x1,hx1,x2,hx2,x3,hx3,h⟩:=eddd h;obtain ⟨x4,hx4,x5,hx5,x6,hx6,h⟩:=edod h;obtain ⟨x7,hx7,h⟩:=bF h;refine aC (cI M<|cCm (b:=0) M hx1<|cB M<|gG M (fun hb=>(tI M))<|gG M (fun hb=>(tMv (.str _) M))<|gG M (fun hb=>(cF M M (lb M) un9 (svc (d:=.str _) M hb) M))<|gG M (fun hb=>(aX M M (lb M) (sv (d:=.int _ 1099511627776) M) (svcI M hb) M hx2))<|gG M (fun hb=>(tCh M hb hx3))<|cOr M hx4<|cB M<|gG M (fun hb=>(tLr q19 la42 M))<|gG M (fun hb=>(aL (r:=.int _ _) M M (lb M) cl96 (.cons (svcA (tv4 a0) M hb) .nil) M (uV _ _ (gd_t hx5 hb))))<|gG M (fun hb=>(tCg (b:=0) M hb hx6))<|cOr M hx7<|aB ?_);refine aK h M (fun h=>?_) (fun h=>?_)
 ·
  refine aC (cLr q19 la42 M<|cSt q19 q19 ti42 M<|cAs (.int _ 0) M<|cAs (.int _ 2) M<|aB ?_);refine aM<|aT ?_;obtain rfl:=sj_ h;refine ⟨.inr M,(.cons (rva la42 M M (nle M) M) (.cons (sv M) (.cons (sv M) .nil)))⟩
 ·
  refine aO<|aJ ?_;obtain ⟨x9,hx9,h⟩:=bF h;refine aC (cI M<|cMv (.str _) M<|aA M (cF M M (lb M) un9 (sv (d:=.str _) M) M)<|aA M (aX M M (lb M) (svI M) (svI M) M hx9)<|cAI M<|aB ?_);refine aP ?_;obtain ⟨x10,hx10,x11,hx11,h⟩:=eoo h;refine aC (cLr q19 la42 M<|aA M (aL (r:=.agg q19) M M (lb M) cl97 (.cons (svA q19 M) .nil) M (wY _ _ hx10))<|cI M<|cB M<|aA M (aL (r:=.bool _) M M (lb M) cl98 (.cons (svA q19 M) (.cons (svI M) (.cons (svB M) .nil))) M (vS _ _ _ _ hx11))<|aB ?_);refine aK h M (fun h=>?_) (fun h=>?_)
  ·
   refine aC (cLr q19 la42 M<|cSt q19 q19 ti42 M<|cAs (.int _ 0) M<|cAs (.int _ 5) M<|aB ?_);refine aM<|aT ?_;obtain rfl:=sj_ h;refine ⟨.inr M,(.cons (rva la42 M M (nle M) M) (.cons (sv M) (.cons (sv M) .nil)))⟩
  ·
   refine aO<|aJ ?_;obtain ⟨x13,hx13,h⟩:=bR h;refine aC (cFa 0 un42 M ti40 M<|cLr q22 la40 M<|cI M<|cMv (.str _) M<|aA M (aL (r:=.tuple q37) M M (lb M) cl99 (.cons (svA q22 M) (.cons (svI M) (.cons (sv (d:=.str _) M) .nil))) M (aC8 _ _ _ _ hx13))<|cMv (.tuple q37) M<|cEx (d:=.agg q22) (cs:=q37) M<|cEx (d:=.int _ _) (cs:=q37) M<|aA M (aR (cs:=q24) (cs':=[.int .i64 0,.str [],.slice false (([]:List aS).map aF.d)]) 2 M M (lb M) M ti40 M M (.k (.k (.cons (.nils _) .nil))))<|cSt q22 q22 ti40 M<|cAI M<|aB ?_);refine aC (cLr q22 la40 M<|cFa 0 un42 M ti40 M<|cSt q22 q19 ti40 M<|aB ?_);refine mW (α:=Int) (fun z=>⟨[(4,.ref 0 0),(8,.ref 1 0),(13,.int .i64 x13.2)],[(0,.blk 42 (w47 x13.1.Base x13.1.Ready x13.1.Parts z)),(1,.blk 42 zs1)]⟩) (fun z=>tK x13 z=some r) ?_ ?_
   ·
    refine aC (cB M<|aB ?_);refine aK h M (fun h=>?_) (fun h=>?_)
    ·
     refine aZ (cI M<|cFa 3 un42 M ti3 M<|aA M (bK (ds':=q19) M M ti3 (svR M) M (svI M) M M M (nle M) M)<|bN ?_);refine aJ ⟨x9,(fun i=>i),⟨(.sames M M),(.cons (.blk M M M) (.cons (.blk M M M) .nil)),bX [0,1] M (by decide),fun _ _=>M⟩,?_⟩;exact h
    ·
     refine aO<|aJ ⟨a0.End,(fun i=>i),⟨(.sames M M),(.cons (.blk M M M) (.cons (.blk M M M) .nil)),bX [0,1] M (by decide),fun _ _=>M⟩,?_⟩;exact h
   ·
    rintro v15 h;unfold tK at h;refine aC (cLr q19 la42 M<|cI M<|cSt q19 q19 ti42 M<|cAI M<|cAs (.int _ 0) M<|aB ?_);refine aM ?_;obtain rfl:=sj_ h;refine ⟨.inr M,(.cons (rva la42 M M (nle M) M) (.cons (sv M) (.cons (sv M) .nil)))⟩

theorem tL (a0:aH) (a1:Int) (a2:(List UInt8)) (a3:Bool) (r:(aH×Int×Int)) (h:oL a0 a1 a2 a3=some r):bJ prog 12 [.agg (tv0 a0),.int .i64 a1,.str a2,.bool a3] (retD [.agg (tv0 r.1),.int .i64 r.2.1,.int .u32 r.2.2]):=by
 refine aQ (rs:=[.agg (tv0 r.1),.int .i64 r.2.1,.int .u32 r.2.2]) func12 M ntmps12 (nle M) M fun O hO=>?_
 show IWP _ _ _ _ ⟨[(0,.agg (tv0 a0)),(1,.int .i64 a1),(2,.str a2),(3,.bool a3)],[]⟩ _
 unfold oL at h;refine aC (cBx (cs:=q10) q10 0 M<|aA M (aR (cs:=q11) (cs':=zs2) 1 M M (lb M) M ti46 M M (.k4 (.cons (.nils _) (.cons (.nils _) (.k4 (.k (.k (.cons (.nils _) (.all _)))))))))<|cAs (.int _ 0) M<|cAs (.int _ 0) M<|aB ?_);refine aP ?_;obtain ⟨x1,hx1,x2,hx2,x3,hx3,h⟩:=eodd h;obtain ⟨x4,hx4,x5,hx5,h⟩:=edd h;refine aC (cLr q10 la46 M<|aA M (aL (r:=.int _ _) M M (lb M) cl39 (.cons (svA q10 M) .nil) M (fW _ _ hx1))<|cCm (b:=0) M hx2<|cB M<|gG M (fun hb=>(tMv (.str _) M))<|gG M (fun hb=>(mA M M (lb M) (svc (d:=.str _) M hb) (sv (d:=.str []) M) M hx3))<|gG M (fun hb=>(bI M M (lb M) (svcB M hb)))<|cG M M (.two M) M (by decide) (fun hb=>(tB M))<|cG M M (.two M) M (by decide) (fun hb=>(cV M M (lb M) (svcB M hb)))<|gG M (fun hb=>(fM M M (lb M) hb (svcB M hb) M M hx4))<|cOr M hx5<|aB ?_);refine aK h M (fun h=>?_) (fun h=>?_)
 ·
  refine aC (cLr q10 la46 M<|cSt q10 q10 ti46 M<|cAs (.int _ 0) M<|cAs (.int _ 0) M<|aB ?_);refine aM<|aT ?_;obtain rfl:=sj_ h;refine ⟨.inr M,(.cons (rva la46 M M (nle M) M) (.cons (sv M) (.cons (sv M) .nil)))⟩
 ·
  refine aO<|aJ<|aP ?_;obtain ⟨x7,hx7,h⟩:=bR h;refine aC (cI M<|aA M (aL (r:=.bool _) M M (lb M) cl40 (.cons (svI M) (.cons (sv (d:=.int _ 0) M) (.cons (sv (d:=.int _ 1099511627776) M) .nil))) M (uQ _ _ _ _ hx7))<|aA M (cV M M (lb M) (svB M))<|aB ?_);refine aK h M (fun h=>?_) (fun h=>?_)
  ·
   refine aC (cLr q10 la46 M<|cSt q10 q10 ti46 M<|cAs (.int _ 0) M<|cAs (.int _ 3) M<|aB ?_);refine aM<|aT ?_;obtain rfl:=sj_ h;refine ⟨.inr M,(.cons (rva la46 M M (nle M) M) (.cons (sv M) (.cons (sv M) .nil)))⟩
  ·
   refine aO<|aJ ?_;obtain ⟨x9,hx9,x10,hx10,h⟩:=edo h;refine aC (cFa 18 un46 M ti44 M<|cLr q18 la44 M<|cI M<|cMv (.str _) M<|aA M (cF M M (lb M) un9 (sv (d:=.str _) M) M)<|aA M (aX M M (lb M) (svI M) (svI M) M hx9)<|aA M (aL (r:=.tuple q33) M M (lb M) cl41 (.cons (svA q18 M) (.cons (svI M) .nil)) M (aA4 _ _ _ hx10))<|cMv (.tuple q33) M<|cEx (d:=.agg q18) (cs:=q33) M<|cEx (d:=.int _ _) (cs:=q33) M<|cEx (d:=.bool _) (cs:=q33) M<|aA M (aR (cs:=q18) (cs':=(w48 0 0 0 0)) 2 M M (lb M) M ti44 M M (.all _))<|cSt q18 q18 ti44 M<|cAI M<|cAB M<|aB ?_);refine aP<|aC (cB M<|aA M (cV M M (lb M) (svB M))<|aB ?_);refine aK h M (fun h=>?_) (fun h=>?_)
   ·
    refine aC (cLr q10 la46 M<|cSt q10 q10 ti46 M<|cAs (.int _ 0) M<|cAs (.int _ 3) M<|aB ?_);refine aM<|aT ?_;obtain rfl:=sj_ h;refine ⟨.inr M,(.cons (rva la46 M M (nle M) M) (.cons (sv M) (.cons (sv M) .nil)))⟩
   ·
    refine aO<|aJ ?_;obtain ⟨x12,hx12,h⟩:=bR h;refine aC (cFa 10 un46 M ti42 M<|cLr q19 la42 M<|cI M<|cMv (.str _) M<|cB M<|aA M (aL (r:=.tuple q31) M M (lb M) cl42 (.cons (svA q19 M) (.cons (svI M) (.cons (sv (d:=.str _) M) (.cons (svB M) .nil)))) M (aED _ _ _ _ _ hx12))<|cMv (.tuple q31) M<|cEx (d:=.agg q19) (cs:=q31) M<|cEx (d:=.int _ _) (cs:=q31) M<|cEx (d:=.int _ _) (cs:=q31) M<|aA M (aR (cs:=q21) (cs':=zs1) 3 M M (lb M) M ti42 M M (.k (.k (.cons (.nils _) (.all _)))))<|cSt q19 q19 ti42 M<|cAI M<|cAI M<|aB ?_);refine aP ?_;obtain ⟨x13,hx13,h⟩:=bF h;refine aC (cI M<|cCm (b:=0) M hx13<|aB ?_);refine aK h M (fun h=>?_) (fun h=>?_)
    ·
     refine aC (cLr q10 la46 M<|cI M<|cSt q10 q10 ti46 M<|cAs (.int _ 0) M<|cAI M<|aB ?_);refine aM<|aT ?_;obtain rfl:=sj_ h;refine ⟨.inr M,(.cons (rva la46 M M (nle M) M) (.cons (sv M) (.cons (sv M) .nil)))⟩
    ·
     refine aO<|aJ<|cC M [nd2 [11] [2] 61 (.agg (tv6 x10.1)),nd2 [14] [3] 62 (.agg (tv4 x12.1)),nd1 [4] 63 (.ref 0 18),⟨[61,63],[0],[],[(0,.blk 46 (w43 a0.ID a0.Send.Base a0.Send.Data a0.Send.Next a0.Send.Pieces a0.Send.Lost a0.Send.Closed a0.Send.Sent a0.Send.Again a0.Send.Done a0.Recv.Recv.Base a0.Recv.Recv.Ready a0.Recv.Recv.Parts a0.Recv.End a0.Out.Window a0.Out.Limit a0.Out.Used a0.Out.Read x10.1.Window x10.1.Limit x10.1.Used x10.1.Read a0.Mine a0.Hers))]⟩,nd1 [4] 64 (.ref 0 10),⟨[62,64],[0],[],[(0,.blk 46 (w43 a0.ID a0.Send.Base a0.Send.Data a0.Send.Next a0.Send.Pieces a0.Send.Lost a0.Send.Closed a0.Send.Sent a0.Send.Again a0.Send.Done x12.1.Recv.Base x12.1.Recv.Ready x12.1.Recv.Parts x12.1.End a0.Out.Window a0.Out.Limit a0.Out.Used a0.Out.Read x10.1.Window x10.1.Limit x10.1.Used x10.1.Read a0.Mine a0.Hers))]⟩] M ?_ (by kernel_rfl) ?_
     ·refine .cons (dLa un44 ag44 ti44 M)<|.cons (dLa un42 ag42 ti42 M)<|.cons (dFa 18 un46 M ti44 M)<|.cons (dSt q18 ti44 M)<|.cons (dFa 10 un46 M ti42 M)<|.cons (dSt q19 ti42 M) ?_
      exact .nil
     refine aC (cLr q10 la46 M<|cI M<|cSt q10 q10 ti46 M<|cAI M<|cAs (.int _ 0) M<|aB ?_);refine aM ?_;obtain rfl:=sj_ h;refine ⟨.inr M,(.cons (rva la46 M M (nle M) M) (.cons (sv M) (.cons (sv M) .nil)))⟩

theorem aCM (a0:aW) (a1:Int) (r:(aW×(List UInt8))) (h:sQ a0 a1=some r):bJ prog 132 [.agg (tv5 a0),.int .i64 a1] (retD [.agg (tv5 r.1),.str r.2]):=by
 refine aQ (rs:=[.agg (tv5 r.1),.str r.2]) func132 M ntmps132 (nle M) M fun O hO=>?_
 show IWP _ _ _ _ ⟨[(0,.agg (tv5 a0)),(1,.int .i64 a1)],[]⟩ _
 unfold sQ at h;refine aC (cBx (cs:=q22) q22 0 M<|aA M (aR (cs:=q24) (cs':=[.int .i64 0,.str [],.slice false (([]:List aS).map aF.d)]) 1 M M (lb M) M ti40 M M (.k (.k (.cons (.nils _) .nil))))<|cAs (.str []) M<|aB ?_);obtain ⟨x1,hx1,h⟩:=bR h;refine aC (cFa 2 un40 M ti38 M<|aA M (lrL la38 M M M M M (nle M) M)<|aA M (aL (r:=.slice _ _) M M (lb M) cl146 (.cons (svL M) .nil) M (iU _ _ hx1))<|cFa 2 un40 M ti38 M<|aA M (bK (ds':=q22) M M ti38 (svR M) M (svL M) M M M (nle M) M)<|aB ?_);refine aP ?_;obtain ⟨x2,hx2,x3,hx3,x4,hx4,h⟩:=edod h;obtain ⟨x5,hx5,h⟩:=bF h;refine aC (cI M<|cCm (b:=1) M hx2<|cB M<|gG M (fun hb=>(tLr q22 la40 M))<|gG M (fun hb=>(aL (r:=.int _ _) M M (lb M) cl143 (.cons (svc (d:=.agg [.int .i64 a0.Base,.str a0.Ready,.slice false (x1.map aF.d)]) M hb) .nil) M (tO _ _ (gd_t hx3 hb))))<|gG M (fun hb=>(tCg (b:=0) M hb hx4))<|cOr M hx5<|aB ?_);refine aK h M (fun h=>?_) (fun h=>?_)
 ·
  refine aC (cLr q22 la40 M<|cSt q22 q22 ti40 M<|cAs (.str []) M<|aB ?_);refine aM<|aT ?_;obtain rfl:=sj_ h;refine ⟨.inr M,(.cons (rva la40 M M (nle M) M) (.cons (sv M) .nil))⟩
 ·
  refine aO<|aJ ?_;obtain ⟨x7,hx7,h⟩:=bF h;refine aC (cI M<|cFa 1 un40 M ti9 M<|cLd (d:=.str _) un9 ag9 ti9 M<|aA M (cF M M (lb M) un9 (sv (d:=.str _) M) M)<|aA M (iN M M (lb M) (svI M) (svI M) hx7)<|cAI M<|aB ?_);obtain ⟨x8,hx8,h⟩:=bR h;refine aC (cFa 1 un40 M ti9 M<|cLd (d:=.str _) un9 ag9 ti9 M<|cI M<|aA M (kR M M (lb M) un9 (sv (d:=.str _) M) M ⟨_,(svI M)⟩ hx8)<|cAs (.str _) M<|aB ?_);obtain ⟨x9,hx9,h⟩:=bR h;refine aC (cFa 1 un40 M ti9 M<|cLd (d:=.str _) un9 ag9 ti9 M<|cI M<|aA M (kR M M (lb M) un9 (sv (d:=.str _) M) ⟨_,(svI M)⟩ M hx9)<|cFa 1 un40 M ti9 M<|aA M (bK (ds':=q22) M M ti9 (svR M) M (sv (d:=.str _) M) M M M (nle M) M)<|aB ?_);refine aC (cLr q22 la40 M<|cMv (.str _) M<|cSt q22 q22 ti40 M<|cAs (.str _) M<|aB ?_);refine aM ?_;obtain rfl:=sj_ h;refine ⟨.inr M,(.cons (rva la40 M M (nle M) M) (.cons (sv M) .nil))⟩

theorem aCN (a0:bE) (r:Bool) (h:sR a0=some r):bJ prog 123 [.agg (tv4 a0)] (.bool r):=by
 refine aQ (rs:=[.bool r]) func123 M ntmps123 (nle M) M fun O hO=>?_
 show IWP _ _ _ _ ⟨[(0,.agg (tv4 a0))],[]⟩ _
 unfold sR at h;refine aC (cBx (cs:=q19) q19 0 M<|cAs (.bool false) M<|aB ?_);obtain ⟨x1,hx1,h⟩:=bR h;refine aC (cLr q19 la42 M<|aA M (aL (r:=.agg q19) M M (lb M) cl97 (.cons (svA q19 M) .nil) M (wY _ _ hx1))<|aA M (aR (cs:=q21) (cs':=zs1) 1 M M (lb M) M aD3 M M (.k (.k (.cons (.nils _) (.all _)))))<|cSt q19 q19 aD3 M<|aB ?_);obtain ⟨x2,hx2,x3,hx3,x4,hx4,h⟩:=eodd h;obtain ⟨x5,hx5,x6,hx6,x7,hx7,h⟩:=eodd h;refine aC (cLr q19 aF4 M<|aA M (aL (r:=.bool _) M M (lb M) cl144 (.cons (svA q19 M) .nil) M (rL _ _ hx2))<|cB M<|gG M (fun hb=>(tFa 0 aA2 M ti40 M))<|gG M (fun hb=>(aV M M (lb M) un40 M ti3 (by decide) (svcR M hb) (off':=0) M))<|gG M (fun hb=>(tLc (d:=.int _ _) un3 ag3 ti3 M hb))<|gG M (fun hb=>(tFa 3 aA2 M ti3 M))<|gG M (fun hb=>(tLc (d:=.int _ _) un3 ag3 ti3 M hb))<|gG M (fun hb=>(tCh M hb hx3))<|cAn M hx4<|cB M<|gG M (fun hb=>(tLr q19 la42 M))<|gG M (fun hb=>(aL (r:=.int _ _) M M (lb M) cl96 (.cons (svcA (tv4 a0) M hb) .nil) M (uV _ _ (gd_t hx5 hb))))<|gG M (fun hb=>(tCg (b:=0) M hb hx6))<|cAn M hx7<|cAB M<|aB ?_);refine aM ?_;obtain rfl:=sj_ h;refine ⟨.inr M,(.cons (sv M) .nil)⟩

theorem aAD (a0:bE) (r:Bool) (h:pS a0=some r):bJ prog 70 [.agg (tv4 a0)] (.bool r):=by
 refine aQ (rs:=[.bool r]) func70 M ntmps70 (nle M) M fun O hO=>?_
 show IWP _ _ _ _ ⟨[(0,.agg (tv4 a0))],[]⟩ _
 unfold pS at h;refine aC (cBx (cs:=q19) q19 0 M<|cAs (.bool false) M<|aB ?_);obtain ⟨x1,hx1,x2,hx2,x3,hx3,h⟩:=edod h;refine aC (cFa 0 un42 M ti40 M<|cFa 1 un40 M ti9 M<|cLd (d:=.str _) un9 ag9 ti9 M<|aA M (mA M M (lb M) (sv (d:=.str _) M) (sv (d:=.str []) M) M hx1)<|cB M<|gG M (fun hb=>(tLr q19 la42 M))<|gG M (fun hb=>(aL (r:=.bool _) M M (lb M) cl123 (.cons (svcA (tv4 a0) M hb) .nil) M (aCN _ _ (gd_t hx2 hb))))<|cAn M hx3<|cAB M<|aB ?_);refine aM ?_;obtain rfl:=sj_ h;refine ⟨.inr M,(.cons (sv M) .nil)⟩

theorem aDB (a0:bE) (a1:Int) (r:(bE×(List UInt8)×Bool)) (h:xI a0 a1=some r):bJ prog 84 [.agg (tv4 a0),.int .i64 a1] (retD [.agg (tv4 r.1),.str r.2.1,.bool r.2.2]):=by
 refine aQ (rs:=[.agg (tv4 r.1),.str r.2.1,.bool r.2.2]) func84 M ntmps84 (nle M) M fun O hO=>?_
 show IWP _ _ _ _ ⟨[(0,.agg (tv4 a0)),(1,.int .i64 a1)],[]⟩ _
 unfold xI at h;refine aC (cBx (cs:=q19) q19 0 M<|aA M (aR (cs:=q21) (cs':=zs1) 1 M M (lb M) M ti42 M M (.k (.k (.cons (.nils _) (.all _)))))<|cAs (.str []) M<|cAs (.bool false) M<|aB ?_);obtain ⟨x1,hx1,h⟩:=bR h;refine aC (cFa 0 un42 M ti40 M<|cLr q22 la40 M<|cI M<|aA M (aL (r:=.tuple q42) M M (lb M) cl132 (.cons (svA q22 M) (.cons (svI M) .nil)) M (aCM _ _ _ hx1))<|cMv (.tuple q42) M<|cEx (d:=.agg q22) (cs:=q42) M<|cEx (d:=.str _) (cs:=q42) M<|aA M (aR (cs:=q24) (cs':=[.int .i64 0,.str [],.slice false (([]:List aS).map aF.d)]) 2 M M (lb M) M ti40 M M (.k (.k (.cons (.nils _) .nil))))<|cSt q22 q22 ti40 M<|cAs (.str _) M<|aB ?_);refine aC (cLr q22 la40 M<|cFa 0 un42 M ti40 M<|cSt q22 q19 ti40 M<|aB ?_);obtain ⟨x2,hx2,h⟩:=bR h;refine cC M [nd2 [2] [0] 18 (.agg (w47 x1.1.Base x1.1.Ready x1.1.Parts a0.End)),nd1 [8] 19 (.str x1.2),nd2 [2] [0] 20 (.agg (w47 x1.1.Base x1.1.Ready x1.1.Parts a0.End)),nd1 [20] 21 (.bool x2),⟨[4,18],[1],[],[(1,.blk 42 (w47 x1.1.Base x1.1.Ready x1.1.Parts a0.End))]⟩,nd1 [19] 5 (.str x1.2),nd1 [21] 6 (.bool x2)] M ?_ (by kernel_rfl) ?_
 ·refine .cons (dLa un42 ag42 ti42 M)<|.cons (lop M M fun S hA=>(bI M M (lb M) (sv (d:=.str _) (agr hA M M))))<|.cons (dLa un42 ag42 ti42 M)<|.cons (lop M M fun S hA=>(aL (r:=.bool _) M M (lb M) cl70 (.cons (svaA q19 hA M M) .nil) M (aAD _ _ hx2)))<|.cons (dSt q19 ti42 M)<|.cons (lop M M fun S hA=>(bV M M (lb M) (sv (d:=.str _) (agr hA M M))))<|.cons (lop M M fun S hA=>(bV M M (lb M) (svaB hA M M))) ?_
  exact .nil
 refine aM ?_;obtain rfl:=sj_ h;refine ⟨.inr M,(.cons (rva la42 M M (nle M) M) (.cons (sv M) (.cons (sv M) .nil)))⟩

theorem aCP (a0:aY) (a1:Int) (r:aY) (h:tE a0 a1=some r):bJ prog 85 [.agg (tv6 a0),.int .i64 a1] (.agg (tv6 r)):=by
 refine aQ (rs:=[.agg (tv6 r)]) func85 M ntmps85 (nle M) M fun O hO=>?_
 show IWP _ _ _ _ ⟨[(0,.agg (tv6 a0)),(1,.int .i64 a1)],[]⟩ _
 unfold tE at h;refine aC (cBx (cs:=q18) q18 0 M<|aA M (aR (cs:=q18) (cs':=(w48 0 0 0 0)) 1 M M (lb M) M ti44 M M (.all _))<|aB ?_);refine aP ?_;obtain ⟨x1,hx1,x2,hx2,x3,hx3,h⟩:=eodd h;obtain ⟨x4,hx4,h⟩:=bF h;refine aC (cLr q18 la44 M<|aA M (aL (r:=.int _ _) M M (lb M) cl95 (.cons (svA q18 M) .nil) M (kP _ _ hx1))<|cCm (b:=0) M hx2<|cB M<|gG M (fun hb=>(tI M))<|gG M (fun hb=>(tCg (b:=0) M hb hx3))<|cAn M hx4<|aB ?_);refine aK h M (fun h=>?_) (fun h=>?_)
 ·
  obtain ⟨x6,hx6,x7,hx7,x8,hx8,h⟩:=eddd h;refine aZ (cFa 3 un44 M ti3 M<|cLd (d:=.int _ _) un3 ag3 ti3 M<|cI M<|cFa 2 un44 M ti3 M<|cLd (d:=.int _ _) un3 ag3 ti3 M<|cFa 3 un44 M ti3 M<|cLd (d:=.int _ _) un3 ag3 ti3 M<|aA M (aX M M (lb M) (svI M) (svI M) M hx6)<|aA M (iN M M (lb M) (svI M) (svI M) hx7)<|aA M (aX M M (lb M) (svI M) (svI M) M hx8)<|cFa 3 un44 M ti3 M<|aA M (bK (ds':=q18) M M ti3 (svR M) M (svI M) M M M (nle M) M)<|bN ?_);refine aJ<|aC (cLr q18 la44 M<|cSt q18 q18 ti44 M<|aB ?_);refine aM ?_;obtain rfl:=sj_ h;refine ⟨.inr M,(.cons (rva la44 M M (nle M) M) .nil)⟩
 ·
  refine aO<|aJ<|aC (cLr q18 la44 M<|cSt q18 q18 ti44 M<|aB ?_);refine aM ?_;obtain rfl:=sj_ h;refine ⟨.inr M,(.cons (rva la44 M M (nle M) M) .nil)⟩

theorem wF (a0:aH) (a1:Int) (r:(aH×(List UInt8)×Bool×Int)) (h:rC a0 a1=some r):bJ prog 32 [.agg (tv0 a0),.int .i64 a1] (retD [.agg (tv0 r.1),.str r.2.1,.bool r.2.2.1,.int .i64 r.2.2.2]):=by
 refine aQ (rs:=[.agg (tv0 r.1),.str r.2.1,.bool r.2.2.1,.int .i64 r.2.2.2]) func32 M ntmps32 (nle M) M fun O hO=>?_
 show IWP _ _ _ _ ⟨[(0,.agg (tv0 a0)),(1,.int .i64 a1)],[]⟩ _
 unfold rC at h;refine aC (cBx (cs:=q10) q10 0 M<|aA M (aR (cs:=q11) (cs':=zs2) 1 M M (lb M) M ti46 M M (.k4 (.cons (.nils _) (.cons (.nils _) (.k4 (.k (.k (.cons (.nils _) (.all _)))))))))<|cAs (.str []) M<|cAs (.bool false) M<|cAs (.int _ 0) M<|aB ?_);refine aP ?_;obtain ⟨x1,hx1,h⟩:=bR h;refine aC (cLr q10 la46 M<|aA M (aL (r:=.int _ _) M M (lb M) cl39 (.cons (svA q10 M) .nil) M (fW _ _ hx1))<|cAI M<|aB ?_);obtain ⟨x2,hx2,h⟩:=bF h;refine aC (cI M<|cCm (b:=0) M hx2<|aB ?_);refine aK h M (fun h=>?_) (fun h=>?_)
 ·
  refine aC (cLr q10 la46 M<|cI M<|cSt q10 q10 ti46 M<|cAs (.str []) M<|cAs (.bool false) M<|cAI M<|aB ?_);refine aM<|aT ?_;obtain rfl:=sj_ h;refine ⟨.inr M,(.cons (rva la46 M M (nle M) M) (.cons (sv M) (.cons (sv M) (.cons (sv M) .nil))))⟩
 ·
  refine aO<|aJ ?_;obtain ⟨x4,hx4,h⟩:=bR h;refine aC (cFa 10 un46 M ti42 M<|cLr q19 la42 M<|cI M<|aA M (aL (r:=.tuple q34) M M (lb M) cl84 (.cons (svA q19 M) (.cons (svI M) .nil)) M (aDB _ _ _ hx4))<|cMv (.tuple q34) M<|cEx (d:=.agg q19) (cs:=q34) M<|cEx (d:=.str _) (cs:=q34) M<|cEx (d:=.bool _) (cs:=q34) M<|aA M (aR (cs:=q21) (cs':=zs1) 2 M M (lb M) M ti42 M M (.k (.k (.cons (.nils _) (.all _)))))<|cSt q19 q19 ti42 M<|cAs (.str _) M<|cAB M<|aB ?_);refine aC (cLr q19 la42 M<|cFa 10 un46 M ti42 M<|cSt q19 q10 ti42 M<|aB ?_);obtain ⟨x5,hx5,h⟩:=bR h;refine aC (cFa 18 un46 M ti44 M<|cLr q18 la44 M<|cMv (.str _) M<|aA M (cF M M (lb M) un9 (sv (d:=.str _) M) M)<|aA M (aL (r:=.agg q18) M M (lb M) cl85 (.cons (svA q18 M) (.cons (svI M) .nil)) M (aCP _ _ _ hx5))<|cFa 18 un46 M ti44 M<|cSt q18 q10 ti44 M<|aB ?_);refine aC (cLr q10 la46 M<|cMv (.str _) M<|cB M<|cSt q10 q10 ti46 M<|cAs (.str _) M<|cAB M<|cAs (.int _ 0) M<|aB ?_);refine aM ?_;obtain rfl:=sj_ h;refine ⟨.inr M,(.cons (rva la46 M M (nle M) M) (.cons (sv M) (.cons (sv M) (.cons (sv M) .nil))))⟩

theorem uT (a0:aH) (r:Int) (h:oU a0=some r):bJ prog 24 [.agg (tv0 a0)] (.int .u8 r):=by
 refine aQ (rs:=[.int .u8 r]) func24 M ntmps24 (nle M) M fun O hO=>?_
 show IWP _ _ _ _ ⟨[(0,.agg (tv0 a0))],[]⟩ _
 unfold oU at h;refine aC (cBx (cs:=q10) q10 0 M<|cAs (.int _ 0) M<|aB ?_);refine aP ?_;obtain ⟨x1,hx1,h⟩:=bF h;refine aC (cFa 10 un46 M ti42 M<|cFa 13 un42 M ti3 M<|cLd (d:=.int _ _) un3 ag3 ti3 M<|cCm (b:=0) M hx1<|aB ?_);refine aK h M (fun h=>?_) (fun h=>?_)
 ·
  refine aC (cAs (.int _ 3) M<|aB ?_);refine aM<|aT ?_;obtain rfl:=sj_ h;refine ⟨.inr M,(.cons (sv M) .nil)⟩
 ·
  refine aO<|aJ<|aC (cAs (.int _ 2) M<|aB ?_);refine aM ?_;obtain rfl:=sj_ h;refine ⟨.inr M,(.cons (sv M) .nil)⟩

theorem aA5 (a0:aY) (r:(aY×Int)) (h:qK a0=some r):bJ prog 87 [.agg (tv6 a0)] (retD [.agg (tv6 r.1),.int .i64 r.2]):=by
 refine aQ (rs:=[.agg (tv6 r.1),.int .i64 r.2]) func87 M ntmps87 (nle M) M fun O hO=>?_
 show IWP _ _ _ _ ⟨[(0,.agg (tv6 a0))],[]⟩ _
 unfold qK at h;refine aC (cBx (cs:=q18) q18 0 M<|aA M (aR (cs:=q18) (cs':=(w48 0 0 0 0)) 1 M M (lb M) M ti44 M M (.all _))<|cAs (.int _ 0) M<|aB ?_);refine aP ?_;obtain ⟨x1,hx1,x2,hx2,h⟩:=eod h;refine aC (cLr q18 la44 M<|aA M (aL (r:=.int _ _) M M (lb M) cl95 (.cons (svA q18 M) .nil) M (kP _ _ hx1))<|cCm (b:=0) M hx2<|aB ?_);refine aK h M (fun h=>?_) (fun h=>?_)
 ·
  refine aC (cLr q18 la44 M<|cSt q18 q18 ti44 M<|cAs (.int _ 0) M<|aB ?_);refine aM<|aT ?_;obtain rfl:=sj_ h;refine ⟨.inr M,(.cons (rva la44 M M (nle M) M) (.cons (sv M) .nil))⟩
 ·
  refine aO<|aJ ?_;obtain ⟨x4,hx4,x5,hx5,x6,hx6,h⟩:=eddd h;refine aC (cFa 3 un44 M ti3 M<|cLd (d:=.int _ _) un3 ag3 ti3 M<|cFa 0 un44 M ti3 M<|cLd (d:=.int _ _) un3 ag3 ti3 M<|aA M (aX M M (lb M) (svI M) (svI M) M hx4)<|aA M (iN M M (lb M) (svI M) (sv (d:=.int _ 1099511627776) M) hx5)<|cFa 1 un44 M ti3 M<|cLd (d:=.int _ _) un3 ag3 ti3 M<|aA M (aX M M (lb M) (svI M) (svI M) M hx6)<|cAI M<|aB ?_);refine aP ?_;obtain ⟨x7,hx7,x8,hx8,x9,hx9,h⟩:=eodd h;refine aC (cI M<|cFa 0 un44 M ti3 M<|cLd (d:=.int _ _) un3 ag3 ti3 M<|aA M (aDl M M (lb M) (svI M) (sv (d:=.int _ 2) M) hx7)<|aA M (mC M M (lb M) (sv (d:=.int _ 1) M) (svI M) hx8)<|cCm M hx9<|aB ?_);refine aK h M (fun h=>?_) (fun h=>?_)
  ·
   refine aC (cLr q18 la44 M<|cSt q18 q18 ti44 M<|cAs (.int _ 0) M<|aB ?_);refine aM<|aT ?_;obtain rfl:=sj_ h;refine ⟨.inr M,(.cons (rva la44 M M (nle M) M) (.cons (sv M) .nil))⟩
  ·
   refine aO<|aJ ?_;obtain ⟨x11,hx11,h⟩:=bF h;refine aC (cFa 1 un44 M ti3 M<|cLd (d:=.int _ _) un3 ag3 ti3 M<|cI M<|aA M (aX M M (lb M) (svI M) (svI M) M hx11)<|cFa 1 un44 M ti3 M<|aA M (bK (ds':=q18) M M ti3 (svR M) M (svI M) M M M (nle M) M)<|aB ?_);refine aC (cLr q18 la44 M<|cI M<|cSt q18 q18 ti44 M<|cAI M<|aB ?_);refine aM ?_;obtain rfl:=sj_ h;refine ⟨.inr M,(.cons (rva la44 M M (nle M) M) (.cons (sv M) .nil))⟩

theorem aAO (a0:aH) (a1:Int) (r:(aH×Int)) (h:pY a0 a1=some r):FnH prog 86 [.ref 1000 0,.ref 1001 0] [(1000,.blk 46 (tv0 a0)),(1001,.blk 3 [.int .i64 a1])] (retD []) [(1000,.blk 46 (tv0 r.1)),(1001,.blk 3 [.int .i64 r.2])]:=by
 refine gE (rs:=[]) func86 M ntmps86 (nle M) fun O hO=>?_
 show IWP _ _ _ _ ⟨[(0,.ref 1000 0),(1,.ref 1001 0)],[(1000,.blk 46 (tv0 a0)),(1001,.blk 3 [.int .i64 a1])]⟩ _
 unfold pY at h;obtain ⟨x1,hx1,x2,hx2,h⟩:=eod h;refine aC (aA M (mvR M M M M)<|aA M (dO M M (lb M) (svR M))<|cLr q10 la46 M<|aA M (aL (r:=.int _ _) M M (lb M) cl24 (.cons (svA q10 M) .nil) M (uT _ _ hx1))<|cCm (b:=2) M hx2<|aB ?_);refine aK h M (fun h=>?_) (fun h=>?_)
 ·
  obtain ⟨x4,hx4,h⟩:=bR h;refine aZ (aA M (mvR M M M M)<|aA M (mvR M M M M)<|aA M (dO M M (lb M) (svR M))<|cFa 18 un46 M ti44 M<|cLr q18 la44 M<|aA M (aL (r:=.tuple q35) M M (lb M) cl87 (.cons (svA q18 M) .nil) M (aA5 _ _ hx4))<|cMv (.tuple q35) M<|cEx (d:=.agg q18) (cs:=q35) M<|cEx (d:=.int _ _) (cs:=q35) M<|aA M (dO M M (lb M) (svR M))<|cFa 18 un46 M ti44 M<|cSt q18 q10 ti44 M<|aA M (bK (ds':=[.int _ _]) M M ti3 (svR M) M (svI M) M M M (nle M) M)<|bN ?_);obtain rfl:=sj_ h;refine ⟨.inl M,(fun i=>i),⟨.nil,(.cons (.blk M M M) (.cons (.blk M M M) .nil)),bX [1000,1001] M (by decide),fun _ _=>M⟩,.nil,M⟩
 ·
  refine aO ?_;obtain rfl:=sj_ h;refine ⟨.inl M,(fun i=>i),⟨.nil,(.cons (.blk M M M) (.cons (.blk M M M) .nil)),bX [1000,1001] M (by decide),fun _ _=>M⟩,.nil,M⟩

theorem rI (a0:aH) (a1:Int) (r:(aH×Int)) (h:iA a0 a1=some r):FnH prog 79 [.agg (tv0 a0),.fn 86 [.ref 1000 0]] [(1000,.blk 3 [.int .i64 a1])] (.agg (tv0 r.1)) [(1000,.blk 3 [.int .i64 r.2])]:=by
 refine gE (rs:=[.agg (tv0 r.1)]) func79 M ntmps79 (nle M) fun O hO=>?_
 show IWP _ _ _ _ ⟨[(0,.agg (tv0 a0)),(1,.fn 86 [.ref 1000 0])],[(1000,.blk 3 [.int .i64 a1])]⟩ _
 unfold iA at h;refine aC (cBx (cs:=q10) q10 0 M<|aA M (aR (cs:=q11) (cs':=zs2) 1 M M (lb M) M ti46 M M (.k4 (.cons (.nils _) (.cons (.nils _) (.k4 (.k (.k (.cons (.nils _) (.all _)))))))))<|aB ?_);refine aP ?_;obtain ⟨x1,hx1,x2,hx2,h⟩:=eod h;refine aC (cLr q10 la46 M<|aA M (aL (r:=.int _ _) M M (lb M) cl39 (.cons (svA q10 M) .nil) M (fW _ _ hx1))<|cCm (b:=0) M hx2<|aB ?_);refine aK h M (fun h=>?_) (fun h=>?_)
 ·
  obtain ⟨x4,hx4,h⟩:=bR h;refine aZ (cMv (.fn 86 [.ref _ _]) M<|aA M (tT (r':=.tuple []) (H1':=[(0,.blk 46 (tv0 x4.1)),(1000,.blk 3 [.int .i64 x4.2])]) 2 [0,1000] M M (lb M) cl86 (sv (d:=.fn 86 [.ref _ _]) M) (.cons (svR M) .nil) M M ⟨M,M,by decide,M,List.forall_mem_cons.2 ⟨⟨M,M,M,M⟩,List.forall_mem_cons.2 ⟨⟨M,M,M,M⟩,List.forall_mem_nil _⟩⟩⟩ (aAO _ _ _ hx4) M M (List.forall_mem_cons.2 ⟨⟨M,M⟩,List.forall_mem_cons.2 ⟨⟨M,M⟩,List.forall_mem_nil _⟩⟩) M)<|bN ?_);refine aJ<|aC (cLr q10 la46 M<|cSt q10 q10 ti46 M<|aB ?_);refine aM ?_;obtain rfl:=sj_ h;refine ⟨.inr M,(fun i=>i),⟨.nil,(.cons (.blk M M M) .nil),bX [1000] M (by decide),fun _ _=>M⟩,(.cons (rva la46 M M (nle M) M) .nil),M⟩
 ·
  refine aO<|aJ<|aC (cLr q10 la46 M<|cSt q10 q10 ti46 M<|aB ?_);refine aM ?_;obtain rfl:=sj_ h;refine ⟨.inr M,(fun i=>i),⟨.nil,(.cons (.blk M M M) .nil),bX [1000] M (by decide),fun _ _=>M⟩,(.cons (rva la46 M M (nle M) M) .nil),M⟩

theorem uS (a0:aH) (r:(aH×Int)) (h:pP a0=some r):bJ prog 33 [.agg (tv0 a0)] (retD [.agg (tv0 r.1),.int .i64 r.2]):=by
 refine aQ (rs:=[.agg (tv0 r.1),.int .i64 r.2]) func33 M ntmps33 (nle M) M fun O hO=>?_
 show IWP _ _ _ _ ⟨[(0,.agg (tv0 a0))],[]⟩ _
 unfold pP at h;refine aC (cBx (cs:=q10) q10 0 M<|aA M (aR (cs:=q11) (cs':=zs2) 1 M M (lb M) M ti46 M M (.k4 (.cons (.nils _) (.cons (.nils _) (.k4 (.k (.k (.cons (.nils _) (.all _)))))))))<|cAs (.int _ 0) M<|aB ?_);refine aC (aA M (aR (cs:=[.int _ _]) (cs':=[.int .i64 0]) 2 M M (lb M) M ti3 M M (.all _))<|aA M (bK (ds':=[.int _ _]) M M ti3 (svR M) M (sv (d:=.int _ 0) M) M M M (nle M) M)<|aB ?_);obtain ⟨x1,hx1,h⟩:=bR h;refine aC (cLr q10 la46 M<|aA M (nM M M (lb M) (.cons (svR M) .nil))<|aA M (fR (r':=.agg (tv0 x1.1)) (H1':=[(2,.blk 3 [.int .i64 x1.2])]) 3 [2] M M (lb M) cl79 (.cons (svA q10 M) (.cons (sv (d:=.fn 86 [.ref _ _]) M) .nil)) M M ⟨M,M,by decide,M,List.forall_mem_cons.2 ⟨⟨M,M,M,M⟩,List.forall_mem_nil _⟩⟩ (rI _ _ _ hx1) M M (List.forall_mem_cons.2 ⟨⟨M,M⟩,List.forall_mem_nil _⟩) M)<|cSt q10 q10 ti46 M<|aB ?_);refine cC M [nd2 [1] [0] 8 (.agg (tv0 x1.1)),nd2 [4] [2] 9 (.int .i64 x1.2),⟨[2,8],[1],[],[(1,.blk 46 (tv0 x1.1))]⟩,nd1 [9] 3 (.int .i64 x1.2)] M ?_ (by kernel_rfl) ?_
 ·refine .cons (dLa un46 ag46 ti46 M)<|.cons (dLd un3 ag3 ti3 M)<|.cons (dSt q10 ti46 M)<|.cons (lop M M fun S hA=>(bV M M (lb M) (svaI hA M M))) ?_
  exact .nil
 refine aM ?_;obtain rfl:=sj_ h;refine ⟨.inr M,(.cons (rva la46 M M (nle M) M) (.cons (sv M) .nil))⟩

theorem aAi (a0:Int) (r:Bool) (h:sH a0=some r):bJ prog 81 [.int .i64 a0] (.bool r):=by
 refine aQ (rs:=[.bool r]) func81 M ntmps81 (nle M) M fun O hO=>?_
 show IWP _ _ _ _ ⟨[(0,.int .i64 a0)],[]⟩ _
 unfold sH at h;refine aC (cAs (.bool false) M<|aB ?_);obtain ⟨x1,hx1,h⟩:=bR h;refine aC (cI M<|aA M (aL (r:=.bool _) M M (lb M) cl40 (.cons (svI M) (.cons (sv (d:=.int _ 0) M) (.cons (sv (d:=.int _ 255) M) .nil))) M (uQ _ _ _ _ hx1))<|cAB M<|aB ?_);refine aM ?_;obtain rfl:=sj_ h;refine ⟨.inr M,(.cons (sv M) .nil)⟩

theorem vX (a0:aH) (a1:Int) (r:aH) (h:oT a0 a1=some r):bJ prog 30 [.agg (tv0 a0),.int .i64 a1] (.agg (tv0 r)):=by
 refine aQ (rs:=[.agg (tv0 r)]) func30 M ntmps30 (nle M) M fun O hO=>?_
 show IWP _ _ _ _ ⟨[(0,.agg (tv0 a0)),(1,.int .i64 a1)],[]⟩ _
 unfold oT at h;refine aC (cBx (cs:=q10) q10 0 M<|aA M (aR (cs:=q11) (cs':=zs2) 1 M M (lb M) M ti46 M M (.k4 (.cons (.nils _) (.cons (.nils _) (.k4 (.k (.k (.cons (.nils _) (.all _)))))))))<|aB ?_);refine aP ?_;obtain ⟨x1,hx1,x2,hx2,x3,hx3,h⟩:=edod h;obtain ⟨x4,hx4,x5,hx5,x6,hx6,h⟩:=eodd h;refine aC (cFa 23 un46 M ti3 M<|cLd (d:=.int _ _) un3 ag3 ti3 M<|cCm (b:=(-1)) M hx1<|cB M<|gG M (fun hb=>(tI M))<|gG M (fun hb=>(aL (r:=.bool _) M M (lb M) cl81 (.cons (svcI M hb) .nil) M (aAi _ _ (gd_t hx2 hb))))<|cAn M hx3<|cB M<|gG M (fun hb=>(tLr q10 la46 M))<|gG M (fun hb=>(aL (r:=.int _ _) M M (lb M) cl20 (.cons (svcA (tv0 a0) M hb) .nil) M (qI _ _ (gd_t hx4 hb))))<|gG M (fun hb=>(tCg (b:=0) M hb hx5))<|cAn M hx6<|aB ?_);refine aK h M (fun h=>?_) (fun h=>?_)
 ·
  refine aZ (cI M<|cFa 23 un46 M ti3 M<|aA M (bK (ds':=q10) M M ti3 (svR M) M (svI M) M M M (nle M) M)<|bN ?_);refine aJ<|aC (cLr q10 la46 M<|cSt q10 q10 ti46 M<|aB ?_);refine aM ?_;obtain rfl:=sj_ h;refine ⟨.inr M,(.cons (rva la46 M M (nle M) M) .nil)⟩
 ·
  refine aO<|aJ<|aC (cLr q10 la46 M<|cSt q10 q10 ti46 M<|aB ?_);refine aM ?_;obtain rfl:=sj_ h;refine ⟨.inr M,(.cons (rva la46 M M (nle M) M) .nil)⟩

theorem aA6 (a0:aY) (a1:Int) (r:(aY×Bool)) (h:qL a0 a1=some r):bJ prog 90 [.agg (tv6 a0),.int .i64 a1] (retD [.agg (tv6 r.1),.bool r.2]):=by
 refine aQ (rs:=[.agg (tv6 r.1),.bool r.2]) func90 M ntmps90 (nle M) M fun O hO=>?_
 show IWP _ _ _ _ ⟨[(0,.agg (tv6 a0)),(1,.int .i64 a1)],[]⟩ _
 unfold qL at h;refine aC (cBx (cs:=q18) q18 0 M<|aA M (aR (cs:=q18) (cs':=(w48 0 0 0 0)) 1 M M (lb M) M ti44 M M (.all _))<|cAs (.bool false) M<|aB ?_);refine aP ?_;obtain ⟨x1,hx1,x2,hx2,x3,hx3,h⟩:=edod h;obtain ⟨x4,hx4,x5,hx5,x6,hx6,h⟩:=eddd h;obtain ⟨x7,hx7,h⟩:=bF h;refine aC (cI M<|cCm (b:=1) M hx1<|cB M<|gG M (fun hb=>(tLr q18 la44 M))<|gG M (fun hb=>(aL (r:=.int _ _) M M (lb M) cl95 (.cons (svcA (tv6 a0) M hb) .nil) M (kP _ _ (gd_t hx2 hb))))<|gG M (fun hb=>(tCg (b:=0) M hb hx3))<|cOr M hx4<|cB M<|gG M (fun hb=>(tI M))<|gG M (fun hb=>(tFa 1 un44 M ti3 M))<|gG M (fun hb=>(tLc (d:=.int _ _) un3 ag3 ti3 M hb))<|gG M (fun hb=>(aX M M (lb M) (sv (d:=.int _ 1099511627776) M) (svcI M hb) M hx5))<|gG M (fun hb=>(tCh M hb hx6))<|cOr M hx7<|aB ?_);refine aK h M (fun h=>?_) (fun h=>?_)
 ·
  refine aC (cLr q18 la44 M<|cSt q18 q18 ti44 M<|cAs (.bool false) M<|aB ?_);refine aM<|aT ?_;obtain rfl:=sj_ h;refine ⟨.inr M,(.cons (rva la44 M M (nle M) M) (.cons (sv M) .nil))⟩
 ·
  refine aO<|aJ ?_;obtain ⟨x9,hx9,h⟩:=bF h;refine aC (cFa 1 un44 M ti3 M<|cLd (d:=.int _ _) un3 ag3 ti3 M<|cI M<|aA M (aX M M (lb M) (svI M) (svI M) M hx9)<|cFa 1 un44 M ti3 M<|aA M (bK (ds':=q18) M M ti3 (svR M) M (svI M) M M M (nle M) M)<|aB ?_);refine aC (cLr q18 la44 M<|cSt q18 q18 ti44 M<|cAs (.bool true) M<|aB ?_);refine aM ?_;obtain rfl:=sj_ h;refine ⟨.inr M,(.cons (rva la44 M M (nle M) M) (.cons (sv M) .nil))⟩

theorem wH (a0:aH) (a1:Int) (a2:Int) (r:(aH×Int)) (h:nP a0 a1 a2=some r):FnH prog 89 [.ref 1000 0,.ref 1001 0,.ref 1002 0] [(1000,.blk 46 (tv0 a0)),(1001,.blk 3 [.int .i64 a1]),(1002,.blk 53 [.int .u32 a2])] (retD []) [(1000,.blk 46 (tv0 r.1)),(1001,.blk 3 [.int .i64 a1]),(1002,.blk 53 [.int .u32 r.2])]:=by
 refine gE (rs:=[]) func89 M ntmps89 (nle M) fun O hO=>?_
 show IWP _ _ _ _ ⟨[(0,.ref 1000 0),(1,.ref 1001 0),(2,.ref 1002 0)],[(1000,.blk 46 (tv0 a0)),(1001,.blk 3 [.int .i64 a1]),(1002,.blk 53 [.int .u32 a2])]⟩ _
 unfold nP at h;refine aC (cAs (.bool false) M<|aB ?_);obtain ⟨x1,hx1,h⟩:=bR h;refine cC M [nd1 [0] 6 (.ref 1000 0),nd1 [0] 7 (.ref 1000 0),nd1 [7] 8 (.ref 1000 0),nd1 [8] 9 (.ref 1000 14),nd2 [9] [1000] 10 (.agg (tv6 a0.Out)),nd2 [1] [1001] 11 (.int .i64 a1),nd1 [10,11] 12 (.tuple [.agg (tv6 x1.1),.bool x1.2]),nd1 [12] 5 (.tuple [.agg (tv6 x1.1),.bool x1.2]),nd1 [5] 13 (.agg (tv6 x1.1)),nd1 [5] 14 (.bool x1.2),nd1 [6] 15 (.ref 1000 0),nd1 [15] 16 (.ref 1000 14),⟨[13,16],[1000],[],[(1000,.blk 46 (w43 a0.ID a0.Send.Base a0.Send.Data a0.Send.Next a0.Send.Pieces a0.Send.Lost a0.Send.Closed a0.Send.Sent a0.Send.Again a0.Send.Done a0.Recv.Recv.Base a0.Recv.Recv.Ready a0.Recv.Recv.Parts a0.Recv.End x1.1.Window x1.1.Limit x1.1.Used x1.1.Read a0.In.Window a0.In.Limit a0.In.Used a0.In.Read a0.Mine a0.Hers))]⟩,nd1 [14] 4 (.bool x1.2)] M ?_ (by kernel_rfl) ?_
 ·refine .cons (dMv M)<|.cons (dMv M)<|.cons (lop M M fun S hA=>(dO M M (lb M) (svaR hA M M)))<|.cons (dFa 14 un46 M ti44 M)<|.cons (dLa un44 ag44 ti44 M)<|.cons (dLd un3 ag3 ti3 M)<|.cons (lop M M fun S hA=>(aL (r:=.tuple q41) M M (lb M) cl90 (.cons (svaA q18 hA M M) (.cons (svaI hA M M) .nil)) M (aA6 _ _ _ hx1)))<|.cons (lop M M fun S hA=>(bI M M (lb M) (sv (d:=.tuple q41) (agr hA M M))))<|.cons (lop M M fun S hA=>(fE (d:=.agg q18) M M (lb M) (sv (d:=.tuple q41) (agr hA M M)) M))<|.cons (lop M M fun S hA=>(fE (d:=.bool _) M M (lb M) (sv (d:=.tuple q41) (agr hA M M)) M))<|.cons (lop M M fun S hA=>(dO M M (lb M) (svaR hA M M)))<|.cons (dFa 14 un46 M ti44 M)<|.cons (dSt q18 ti44 M)<|.cons (lop M M fun S hA=>(bV M M (lb M) (svaB hA M M))) ?_
  exact .nil
 refine aC (cB M<|aA M (cV M M (lb M) (svB M))<|aB ?_);refine aK h M (fun h=>?_) (fun h=>?_)
 ·
  refine aZ (aA M (bK (ds':=[.int _ _]) M M ti53 (svR M) M (sv (d:=.int _ 3) M) M M M (nle M) M)<|bN ?_);obtain rfl:=sj_ h;refine ⟨.inl M,(fun i=>i),⟨.nil,(.cons (.blk M M M) (.cons (.blk M M M) (.cons (.blk M M M) .nil))),bX [1000,1001,1002] M (by decide),fun _ _=>M⟩,.nil,M⟩
 ·
  refine aO ?_;obtain rfl:=sj_ h;refine ⟨.inl M,(fun i=>i),⟨.nil,(.cons (.blk M M M) (.cons (.blk M M M) (.cons (.blk M M M) .nil))),bX [1000,1001,1002] M (by decide),fun _ _=>M⟩,.nil,M⟩

theorem qH (a0:aH) (a1:Int) (a2:Int) (r:(aH×Int)) (h:gI a0 a1 a2=some r):FnH prog 79 [.agg (tv0 a0),.fn 89 [.ref 1000 0,.ref 1001 0]] [(1000,.blk 3 [.int .i64 a1]),(1001,.blk 53 [.int .u32 a2])] (.agg (tv0 r.1)) [(1000,.blk 3 [.int .i64 a1]),(1001,.blk 53 [.int .u32 r.2])]:=by
 refine gE (rs:=[.agg (tv0 r.1)]) func79 M ntmps79 (nle M) fun O hO=>?_
 show IWP _ _ _ _ ⟨[(0,.agg (tv0 a0)),(1,.fn 89 [.ref 1000 0,.ref 1001 0])],[(1000,.blk 3 [.int .i64 a1]),(1001,.blk 53 [.int .u32 a2])]⟩ _
 unfold gI at h;refine aC (cBx (cs:=q10) q10 0 M<|aA M (aR (cs:=q11) (cs':=zs2) 1 M M (lb M) M ti46 M M (.k4 (.cons (.nils _) (.cons (.nils _) (.k4 (.k (.k (.cons (.nils _) (.all _)))))))))<|aB ?_);refine aP ?_;obtain ⟨x1,hx1,x2,hx2,h⟩:=eod h;refine aC (cLr q10 la46 M<|aA M (aL (r:=.int _ _) M M (lb M) cl39 (.cons (svA q10 M) .nil) M (fW _ _ hx1))<|cCm (b:=0) M hx2<|aB ?_);refine aK h M (fun h=>?_) (fun h=>?_)
 ·
  obtain ⟨x4,hx4,h⟩:=bR h;refine aZ (cMv (.fn 89 q26) M<|aA M (tT (r':=.tuple []) (H1':=[(0,.blk 46 (tv0 x4.1)),(1000,.blk 3 [.int .i64 a1]),(1001,.blk 53 [.int .u32 x4.2])]) 2 [0,1000,1001] M M (lb M) cl89 (sv (d:=.fn 89 q26) M) (.cons (svR M) .nil) M M ⟨M,M,by decide,M,List.forall_mem_cons.2 ⟨⟨M,M,M,M⟩,List.forall_mem_cons.2 ⟨⟨M,M,M,M⟩,List.forall_mem_cons.2 ⟨⟨M,M,M,M⟩,List.forall_mem_nil _⟩⟩⟩⟩ (wH _ _ _ _ hx4) M M (List.forall_mem_cons.2 ⟨⟨M,M⟩,List.forall_mem_cons.2 ⟨⟨M,M⟩,List.forall_mem_cons.2 ⟨⟨M,M⟩,List.forall_mem_nil _⟩⟩⟩) M)<|bN ?_);refine aJ<|aC (cLr q10 la46 M<|cSt q10 q10 ti46 M<|aB ?_);refine aM ?_;obtain rfl:=sj_ h;refine ⟨.inr M,(fun i=>i),⟨.nil,(.cons (.blk M M M) (.cons (.blk M M M) .nil)),bX [1000,1001] M (by decide),fun _ _=>M⟩,(.cons (rva la46 M M (nle M) M) .nil),M⟩
 ·
  refine aO<|aJ<|aC (cLr q10 la46 M<|cSt q10 q10 ti46 M<|aB ?_);refine aM ?_;obtain rfl:=sj_ h;refine ⟨.inr M,(fun i=>i),⟨.nil,(.cons (.blk M M M) (.cons (.blk M M M) .nil)),bX [1000,1001] M (by decide),fun _ _=>M⟩,(.cons (rva la46 M M (nle M) M) .nil),M⟩

theorem uR (a0:aH) (a1:Int) (r:(aH×Int)) (h:nQ a0 a1=some r):bJ prog 35 [.agg (tv0 a0),.int .i64 a1] (retD [.agg (tv0 r.1),.int .u32 r.2]):=by
 refine aQ (rs:=[.agg (tv0 r.1),.int .u32 r.2]) func35 M ntmps35 (nle M) M fun O hO=>?_
 show IWP _ _ _ _ ⟨[(0,.agg (tv0 a0)),(1,.int .i64 a1)],[]⟩ _
 unfold nQ at h;refine aC (cBx (cs:=q10) q10 0 M<|aA M (sA (cs:=[.int _ _]) 1 M M (lb M) M (svI M) M M)<|aA M (aR (cs:=q11) (cs':=zs2) 2 M M (lb M) M ti46 M M (.k4 (.cons (.nils _) (.cons (.nils _) (.k4 (.k (.k (.cons (.nils _) (.all _)))))))))<|cAs (.int _ 0) M<|aB ?_);refine aC (aA M (aR (cs:=[.int _ _]) (cs':=[.int .u32 0]) 3 M M (lb M) M ti53 M M (.all _))<|aA M (bK (ds':=[.int _ _]) M M ti53 (svR M) M (sv (d:=.int _ 0) M) M M M (nle M) M)<|aB ?_);obtain ⟨x1,hx1,h⟩:=bR h;refine aC (cLr q10 la46 M<|aA M (nM M M (lb M) (.cons (svR M) (.cons (svR M) .nil)))<|aA M (fR (r':=.agg (tv0 x1.1)) (H1':=[(1,.blk 3 [.int .i64 a1]),(3,.blk 53 [.int .u32 x1.2])]) 4 [1,3] M M (lb M) cl79 (.cons (svA q10 M) (.cons (sv (d:=.fn 89 q26) M) .nil)) M M ⟨M,M,by decide,M,List.forall_mem_cons.2 ⟨⟨M,M,M,M⟩,List.forall_mem_cons.2 ⟨⟨M,M,M,M⟩,List.forall_mem_nil _⟩⟩⟩ (qH _ _ _ _ hx1) M M (List.forall_mem_cons.2 ⟨⟨M,M⟩,List.forall_mem_cons.2 ⟨⟨M,M⟩,List.forall_mem_nil _⟩⟩) M)<|cSt q10 q10 ti46 M<|aB ?_);refine cC M [nd2 [2] [0] 10 (.agg (tv0 x1.1)),nd2 [6] [3] 11 (.int .u32 x1.2),⟨[4,10],[2],[],[(2,.blk 46 (tv0 x1.1))]⟩,nd1 [11] 5 (.int .u32 x1.2)] M ?_ (by kernel_rfl) ?_
 ·refine .cons (dLa un46 ag46 ti46 M)<|.cons (dLd underlying53 ag53 ti53 M)<|.cons (dSt q10 ti46 M)<|.cons (lop M M fun S hA=>(bV M M (lb M) (svaI hA M M))) ?_
  exact .nil
 refine aM ?_;obtain rfl:=sj_ h;refine ⟨.inr M,(.cons (rva la46 M M (nle M) M) (.cons (sv M) .nil))⟩

theorem aC5 (a0:aN) (r:Bool) (h:aAb a0=some r):bJ prog 71 [.agg (tv1 a0)] (.bool r):=by
 refine aQ (rs:=[.bool r]) func71 M ntmps71 (nle M) M fun O hO=>?_
 show IWP _ _ _ _ ⟨[(0,.agg (tv1 a0))],[]⟩ _
 unfold aAb at h;refine aC (cBx (cs:=q12) q12 0 M<|cAs (.bool false) M<|aB ?_);obtain ⟨x1,hx1,x2,hx2,h⟩:=edd h;refine aC (cFa 8 un37 M ti4 M<|cLd (d:=.bool _) un4 ag4 ti4 M<|cB M<|gG M (fun hb=>(tFa 1 un37 M ti9 M))<|gG M (fun hb=>(tLc (d:=.str _) un9 ag9 ti9 M hb))<|gG M (fun hb=>(mA M M (lb M) (svc (d:=.str _) M hb) (sv (d:=.str []) M) M hx1))<|cAn M hx2<|cAB M<|aB ?_);refine aM ?_;obtain rfl:=sj_ h;refine ⟨.inr M,(.cons (sv M) .nil)⟩

theorem wG (a0:aH) (r:Bool) (h:rD a0=some r):bJ prog 22 [.agg (tv0 a0)] (.bool r):=by
 refine aQ (rs:=[.bool r]) func22 M ntmps22 (nle M) M fun O hO=>?_
 show IWP _ _ _ _ ⟨[(0,.agg (tv0 a0))],[]⟩ _
 unfold rD at h;refine aC (cBx (cs:=q10) q10 0 M<|cAs (.bool false) M<|aB ?_);obtain ⟨x1,hx1,x2,hx2,x3,hx3,h⟩:=eooo h;obtain ⟨x4,hx4,x5,hx5,h⟩:=edd h;refine aC (cLr q10 la46 M<|aA M (aL (r:=.bool _) M M (lb M) cl69 (.cons (svA q10 M) .nil) M (tX _ _ hx1))<|cB M<|gG M (fun hb=>(tFa 10 un46 M ti42 M))<|gG M (fun hb=>(bS (cs:=q19) M M (lb M) un42 ag42 ti42 (by decide) (svcR M hb) M (nle M) M))<|gG M (fun hb=>(aL (r:=.bool _) M M (lb M) cl70 (.cons (svcA (tv4 a0.Recv) M hb) .nil) M (aAD _ _ (gd_t hx2 hb))))<|gG M (fun hb=>(bI M M (lb M) (svcB M hb)))<|cG M M (.two M) M (by decide) (fun hb=>(tFa 1 un46 M ti37 M))<|cG M M (.two M) M (by decide) (fun hb=>(bS (cs:=q12) M M (lb M) un37 ag37 ti37 (by decide) (svcR M hb) M (nle M) M))<|cG M M (.two M) M (by decide) (fun hb=>(aL (r:=.bool _) M M (lb M) cl71 (.cons (svcA (tv1 a0.Send) M hb) .nil) M (aC5 _ _ (gd_t hx3 hb))))<|gG M (fun hb=>(fM M M (lb M) hb (svcB M hb) M M hx4))<|cOr M hx5<|cAB M<|aB ?_);refine aM ?_;obtain rfl:=sj_ h;refine ⟨.inr M,(.cons (sv M) .nil)⟩

theorem aC1 (a0:aN) (a1:Int) (r:Bool) (h:uH a0 a1=some r):bJ prog 75 [.agg (tv1 a0),.int .i64 a1] (.bool r):=by
 refine aQ (rs:=[.bool r]) func75 M ntmps75 (nle M) M fun O hO=>?_
 show IWP _ _ _ _ ⟨[(0,.agg (tv1 a0)),(1,.int .i64 a1)],[]⟩ _
 unfold uH at h;refine aC (cBx (cs:=q12) q12 0 M<|cAs (.bool false) M<|aB ?_);refine aP ?_;obtain ⟨x1,hx1,x2,hx2,h⟩:=eod h;refine aC (cLr q12 la37 M<|aA M (aL (r:=.int _ _) M M (lb M) aDP (.cons (svA q12 M) .nil) M (nK _ _ hx1))<|cCm (b:=0) M hx2<|aB ?_);refine aK h M (fun h=>?_) (fun h=>?_)
 ·
  refine aC (cAs (.bool false) M<|aB ?_);refine aM<|aT ?_;obtain rfl:=sj_ h;refine ⟨.inr M,(.cons (sv M) .nil)⟩
 ·
  refine aO<|aJ ?_;obtain ⟨x4,hx4,h⟩:=bR h;refine aC (cLr q12 la37 M<|cI M<|aA M (aL (r:=.tuple q40) M M (lb M) cl125 (.cons (svA q12 M) (.cons (sv (d:=.int _ 1) M) (.cons (svI M) .nil))) M (sZ _ _ _ _ hx4))<|cMv (.tuple q40) M<|cEx (d:=.agg q20) (cs:=q40) M<|cEx (d:=.bool _) (cs:=q40) M<|aA M (aR (cs:=q20) (cs':=(w49 0 0 0 false)) 1 M M (lb M) M dH M M (.all _))<|cSt q20 q20 dH M<|cAB M<|aB ?_);refine aC (cB M<|cAB M<|aB ?_);refine aM ?_;obtain rfl:=sj_ h;refine ⟨.inr M,(.cons (sv M) .nil)⟩

theorem wD (a0:aH) (a1:Int) (r:Bool) (h:rA a0 a1=some r):bJ prog 26 [.agg (tv0 a0),.int .i64 a1] (.bool r):=by
 refine aQ (rs:=[.bool r]) func26 M ntmps26 (nle M) M fun O hO=>?_
 show IWP _ _ _ _ ⟨[(0,.agg (tv0 a0)),(1,.int .i64 a1)],[]⟩ _
 unfold rA at h;refine aC (cBx (cs:=q10) q10 0 M<|cAs (.bool false) M<|aB ?_);obtain ⟨x1,hx1,x2,hx2,x3,hx3,h⟩:=edod h;obtain ⟨x4,hx4,x5,hx5,x6,hx6,h⟩:=edoo h;obtain ⟨x7,hx7,h⟩:=bF h;refine cC M [nd1 [1] 5 (.int .i64 a1),nd1 [5] 6 (.bool x1),nd1 [6] 7 (.bool x1),nd2 [2,7] [0] 8 (.cnd (x1 == true) (.agg (tv0 a0))),nd1 [7,8] 9 (.cnd (x1 == true) (.int .i64 x2)),nd1 [7,9] 10 (.cnd (x1 == true) (.bool x3)),nd1 [7,10] 11 (.bool x4),nd1 [11] 12 (.bool x4),nd1 [2,12] 13 (.cnd (x4 == true) (.ref 0 1)),nd2 [12,13] [0] 14 (.cnd (x4 == true) (.agg (tv1 a0.Send))),nd2 [2,12] [0] 15 (.cnd (x4 == true) (.agg (tv0 a0))),nd1 [1,12] 16 (.cnd (x4 == true) (.int .i64 a1)),nd1 [12,15,16] 17 (.cnd (x4 == true) (.int .i64 x5)),nd1 [12,14,17] 18 (.cnd (x4 == true) (.bool x6)),nd1 [12,18] 19 (.bool x7),nd1 [19] 4 (.bool x7)] M ?_ (by kernel_rfl) ?_
 ·refine .cons (dMv M)<|.cons (lop M M fun S hA=>(cU M M (lb M) (svaI hA M M) (sv (d:=.int _ 0) M) M hx1))<|.cons (dMv M)<|.cons (gD M (fun S hA hb=>(bS (cs:=q10) M M (lb M) un46 ag46 ti46 (by decide) (svaR hA M M) (agi hA M M) (nle M) M)))<|.cons (gD M (fun S hA hb=>(aL (r:=.int _ _) M M (lb M) cl39 (.cons (svc (d:=.agg (tv0 a0)) (agr hA M M) hb) .nil) M (fW _ _ (gd_t hx2 hb)))))<|.cons (gD M (fun S hA hb=>(cU M M (lb M) (svc (d:=.int _ _) (agr hA M M) hb) (sv (d:=.int _ 0) M) M hx3)))<|.cons (lop M M fun S hA=>(kK M M (lb M) (svaB hA M M) (agr hA M M) M hx4))<|.cons (dMv M)<|.cons (gD M (fun S hA hb=>(aV M M (lb M) un46 M ti37 (by decide) (svaR hA M M) (off':=1) M)))<|.cons (gD M (fun S hA hb=>(bS (cs:=q12) M M (lb M) un37 ag37 ti37 (by decide) (svc (d:=.ref _ _) (agr hA M M) hb) (agi hA M M) (nle M) M)))<|.cons (gD M (fun S hA hb=>(bS (cs:=q10) M M (lb M) un46 ag46 ti46 (by decide) (svaR hA M M) (agi hA M M) (nle M) M)))<|.cons (gD M (fun S hA hb=>(bI M M (lb M) (svaI hA M M))))<|.cons (gD M (fun S hA hb=>(aL (r:=.int _ _) M M (lb M) cl76 (.cons (svc (d:=.agg (tv0 a0)) (agr hA M M) hb) (.cons (svc (d:=.int _ _) (agr hA M M) hb) .nil)) M (rT _ _ _ (gd_t hx5 hb)))))<|.cons (gD M (fun S hA hb=>(aL (r:=.bool _) M M (lb M) cl75 (.cons (svc (d:=.agg (tv1 a0.Send)) (agr hA M M) hb) (.cons (svc (d:=.int _ _) (agr hA M M) hb) .nil)) M (aC1 _ _ _ (gd_t hx6 hb)))))<|.cons (lop M M fun S hA=>(kK M M (lb M) (svaB hA M M) (agr hA M M) M hx7))<|.cons (lop M M fun S hA=>(bV M M (lb M) (svaB hA M M))) ?_
  exact .nil
 refine aM ?_;obtain rfl:=sj_ h;refine ⟨.inr M,(.cons (sv M) .nil)⟩

theorem nW (a0:(List aI)) (a1:(List aI)) (r:Bool) (h:eI a0 a1=some r):bJ prog 126 [.slice false (a0.map aD.d),.slice false (a1.map aD.d)] (.bool r):=by
 refine aQ (rs:=[.bool r]) func126 M ntmps126 (nle M) M fun O hO=>?_
 show IWP _ _ _ _ ⟨[(0,.slice false (a0.map aD.d)),(1,.slice false (a1.map aD.d))],[]⟩ _
 unfold eI at h;refine aC (cAs (.bool false) M<|aB ?_);refine aP ?_;obtain ⟨x1,hx1,h⟩:=bF h;refine aC (aA M (mvL M M M M)<|aA M (bY aD (l:=a0) M M (lb M) un33 (svL M))<|aA M (mvL M M M M)<|aA M (bY aD (l:=a1) M M (lb M) un33 (svL M))<|cCm M hx1<|aB ?_);refine aK h M (fun h=>?_) (fun h=>?_)
 ·
  refine aC (cAs (.bool false) M<|aB ?_);refine aM<|aT ?_;obtain rfl:=sj_ h;refine ⟨.inr M,(.cons (sv M) .nil)⟩
 ·
  refine aO<|aJ<|aP<|aC (aA M (mvL M M M M)<|aA M (bY aD (l:=a0) M M (lb M) un33 (svL M))<|cMv (.int _ 0) M<|aB ?_);refine bD<|cK (α:=Nat×Int) (fun z=>⟨[(0,.slice false (a0.map aD.d)),(1,.slice false (a1.map aD.d)),(12,.int .i64 (a0.length:Int)),(13,.int .i64 z.2)],[]⟩) (fun z=>cN a0 a1 z.1 z.2=some r) (fun z=>z.1) (fuel,0) (fun i=>i) ⟨(.sames M M),.nil,bX [] M (by decide),fun _ _=>M⟩ ?_ ?_
  ·exact h
  ·
   rintro ⟨n0,v10⟩ h
   cases n0 with
   | zero=>exact absurd h (by unfold cN; exact nofun)
   | succ n0 =>
    unfold cN at h;obtain ⟨x18,hx18,h⟩:=bF h;refine aC (cCm M hx18<|aB ?_);refine aP<|aK h M (fun h=>?_) (fun h=>?_)
    ·
     refine aO<|aJ<|aP<|bD<|aC (cI M<|cAI M<|aB ?_);obtain ⟨x20,hx20,x21,hx21,x22,hx22,h⟩:=eood h;refine cC M [nd1 [0] 16 (.slice false (a0.map aD.d)),nd1 [5] 17 (.int .i64 v10),nd1 [16,17] 18 (.fptr (tv8 x20)),nd1 [18] 19 (.agg (tv8 x20)),nd1 [1] 20 (.slice false (a1.map aD.d)),nd1 [5] 21 (.int .i64 v10),nd1 [20,21] 22 (.fptr (tv8 x21)),nd1 [22] 23 (.agg (tv8 x21)),nd1 [19,23] 24 (.bool (!x22))] M ?_ (by kernel_rfl) ?_
     ·refine .cons (dMv M)<|.cons (dMv M)<|.cons (lop M M fun S hA=>(bQ aD (cs:=q20) M M (lb M) un33 dH (svaL hA M M) (svaI hA M M) hx20 M M))<|.cons (lop M M fun S hA=>(cJ (cs:=q20) M M (lb M) fL sG dH (by decide) (sv (d:=.fptr q20) (agr hA M M)) (nle M) M))<|.cons (dMv M)<|.cons (dMv M)<|.cons (lop M M fun S hA=>(bQ aD (cs:=q20) M M (lb M) un33 dH (svaL hA M M) (svaI hA M M) hx21 M M))<|.cons (lop M M fun S hA=>(cJ (cs:=q20) M M (lb M) fL sG dH (by decide) (sv (d:=.fptr q20) (agr hA M M)) (nle M) M))<|.cons (lop M M fun S hA=>(zU M M (lb M) fL st105.1 st105.2 (svaA q20 hA M M) (svaA q20 hA M M) (congrArg some hx22))) ?_
      exact .nil
     refine aK h M (fun h=>?_) (fun h=>?_)
     ·
      refine aC (cAs (.bool false) M<|aB ?_);refine aM<|bM<|aT<|aT<|bM<|aT ?_;obtain rfl:=sj_ h;refine ⟨.inr M,(.cons (sv M) .nil)⟩
     ·
      refine aO<|bW<|aJ ?_;obtain ⟨x24,hx24,h⟩:=bF h;refine aZ (aA M (aX M M (lb M) (svI M) (sv (d:=.int _ 1) M) M hx24)<|cI M<|bN ?_);refine aJ ⟨(n0,x24),(fun i=>i),⟨(.sames M M),.nil,bX [] M (by decide),fun _ _=>M⟩,?_,?_⟩;exact h;exact Nat.lt_succ_self _
    ·
     refine cR<|bP<|bP<|cS<|aJ<|aC (cAs (.bool true) M<|aB ?_);refine aM ?_;obtain rfl:=sj_ h;refine ⟨.inr M,(.cons (sv M) .nil)⟩

theorem aC2 (a0:aN) (a1:aN) (r:Bool) (h:uI a0 a1=some r):bJ prog 77 [.agg (tv1 a0),.agg (tv1 a1)] (.bool r):=by
 refine aQ (rs:=[.bool r]) func77 M ntmps77 (nle M) M fun O hO=>?_
 show IWP _ _ _ _ ⟨[(0,.agg (tv1 a0)),(1,.agg (tv1 a1))],[]⟩ _
 unfold uI at h;refine aC (cBx (cs:=q12) q12 0 M<|cBx (cs:=q12) q12 1 M<|cAs (.bool false) M<|aB ?_);refine aP ?_;obtain ⟨x1,hx1,x2,hx2,x3,hx3,h⟩:=eood h;refine aC (cFa 3 un37 M ti33 M<|aA M (lrL la33 M M M M M (nle M) M)<|cFa 3 un37 M ti33 M<|aA M (lrL la33 M M M M M (nle M) M)<|aA M (aL (r:=.bool _) M M (lb M) cl126 (.cons (svL M) (.cons (svL M) .nil)) M (nW _ _ _ hx1))<|aA M (cV M M (lb M) (svB M))<|cB M<|gG M (fun hb=>(tFa 4 un37 M ti35 M))<|gG M (fun hb=>(tLc (d:=.slice _ _) un35 ag35 ti35 M hb))<|gG M (fun hb=>(tFa 4 un37 M ti35 M))<|gG M (fun hb=>(tLc (d:=.slice _ _) un35 ag35 ti35 M hb))<|gG M (fun hb=>(aL (r:=.bool _) M M (lb M) cl127 (.cons (svcL M hb) (.cons (svcL M hb) .nil)) M (aAE _ _ _ (gd_t hx2 hb))))<|gG M (fun hb=>(cV M M (lb M) (svcB M hb)))<|cOr M hx3<|aB ?_);refine aK h M (fun h=>?_) (fun h=>?_)
 ·
  refine aC (cAs (.bool false) M<|aB ?_);refine aM<|aT ?_;obtain rfl:=sj_ h;refine ⟨.inr M,(.cons (sv M) .nil)⟩
 ·
  refine aO<|aJ ?_;obtain ⟨x5,hx5,x6,hx6,x7,hx7,h⟩:=eddd h;obtain ⟨x8,hx8,x9,hx9,x10,hx10,h⟩:=eddd h;obtain ⟨x11,hx11,h⟩:=bF h;refine aC (cFa 5 un37 M ti4 M<|cLd (d:=.bool _) un4 ag4 ti4 M<|cFa 5 un37 M ti4 M<|cLd (d:=.bool _) un4 ag4 ti4 M<|aA M (rY M M (lb M) un4 (svB M) (svB M) hx5)<|cB M<|gG M (fun hb=>(tFa 6 un37 M ti4 M))<|gG M (fun hb=>(tLc (d:=.bool _) un4 ag4 ti4 M hb))<|gG M (fun hb=>(tFa 6 un37 M ti4 M))<|gG M (fun hb=>(tLc (d:=.bool _) un4 ag4 ti4 M hb))<|gG M (fun hb=>(rY M M (lb M) un4 (svcB M hb) (svcB M hb) hx6))<|cAn M hx7<|cB M<|gG M (fun hb=>(tFa 7 un37 M ti4 M))<|gG M (fun hb=>(tLc (d:=.bool _) un4 ag4 ti4 M hb))<|gG M (fun hb=>(tFa 7 un37 M ti4 M))<|gG M (fun hb=>(tLc (d:=.bool _) un4 ag4 ti4 M hb))<|gG M (fun hb=>(rY M M (lb M) un4 (svcB M hb) (svcB M hb) hx8))<|cAn M hx9<|cB M<|gG M (fun hb=>(tFa 8 un37 M ti4 M))<|gG M (fun hb=>(tLc (d:=.bool _) un4 ag4 ti4 M hb))<|gG M (fun hb=>(tFa 8 un37 M ti4 M))<|gG M (fun hb=>(tLc (d:=.bool _) un4 ag4 ti4 M hb))<|gG M (fun hb=>(rY M M (lb M) un4 (svcB M hb) (svcB M hb) hx10))<|cAn M hx11<|cAB M<|aB ?_);obtain ⟨x12,hx12,x13,hx13,x14,hx14,h⟩:=eddd h;obtain ⟨x15,hx15,x16,hx16,x17,hx17,h⟩:=eddd h;refine aC (cB M<|cB M<|gG M (fun hb=>(tFa 0 un37 M ti3 M))<|gG M (fun hb=>(tLc (d:=.int _ _) un3 ag3 ti3 M hb))<|gG M (fun hb=>(tFa 0 un37 M ti3 M))<|gG M (fun hb=>(tLc (d:=.int _ _) un3 ag3 ti3 M hb))<|gG M (fun hb=>(tCh M hb hx12))<|cAn M hx13<|cB M<|gG M (fun hb=>(tFa 1 un37 M ti9 M))<|gG M (fun hb=>(tLc (d:=.str _) un9 ag9 ti9 M hb))<|gG M (fun hb=>(tFa 1 un37 M ti9 M))<|gG M (fun hb=>(tLc (d:=.str _) un9 ag9 ti9 M hb))<|gG M (fun hb=>(mA M M (lb M) (svc (d:=.str _) M hb) (svc (d:=.str _) M hb) M hx14))<|cAn M hx15<|cB M<|gG M (fun hb=>(tFa 2 un37 M ti3 M))<|gG M (fun hb=>(tLc (d:=.int _ _) un3 ag3 ti3 M hb))<|gG M (fun hb=>(tFa 2 un37 M ti3 M))<|gG M (fun hb=>(tLc (d:=.int _ _) un3 ag3 ti3 M hb))<|gG M (fun hb=>(tCh M hb hx16))<|cAn M hx17<|cAB M<|aB ?_);refine aM ?_;obtain rfl:=sj_ h;refine ⟨.inr M,(.cons (sv M) .nil)⟩

theorem nX (a0:(List aS)) (a1:(List aS)) (r:Bool) (h:eJ a0 a1=some r):bJ prog 168 [.slice false (a0.map aF.d),.slice false (a1.map aF.d)] (.bool r):=by
 refine aQ (rs:=[.bool r]) func168 M ntmps168 (nle M) M fun O hO=>?_
 show IWP _ _ _ _ ⟨[(0,.slice false (a0.map aF.d)),(1,.slice false (a1.map aF.d))],[]⟩ _
 unfold eJ at h;refine aC (cAs (.bool false) M<|aB ?_);refine aP ?_;obtain ⟨x1,hx1,h⟩:=bF h;refine aC (aA M (mvL M M M M)<|aA M (bY aF (l:=a0) M M (lb M) un38 (svL M))<|aA M (mvL M M M M)<|aA M (bY aF (l:=a1) M M (lb M) un38 (svL M))<|cCm M hx1<|aB ?_);refine aK h M (fun h=>?_) (fun h=>?_)
 ·
  refine aC (cAs (.bool false) M<|aB ?_);refine aM<|aT ?_;obtain rfl:=sj_ h;refine ⟨.inr M,(.cons (sv M) .nil)⟩
 ·
  refine aO<|aJ<|aP<|aC (aA M (mvL M M M M)<|aA M (bY aF (l:=a0) M M (lb M) un38 (svL M))<|cMv (.int _ 0) M<|aB ?_);refine bD<|cK (α:=Nat×Int) (fun z=>⟨[(0,.slice false (a0.map aF.d)),(1,.slice false (a1.map aF.d)),(12,.int .i64 (a0.length:Int)),(13,.int .i64 z.2)],[]⟩) (fun z=>cO a0 a1 z.1 z.2=some r) (fun z=>z.1) (fuel,0) (fun i=>i) ⟨(.sames M M),.nil,bX [] M (by decide),fun _ _=>M⟩ ?_ ?_
  ·exact h
  ·
   rintro ⟨n0,v10⟩ h
   cases n0 with
   | zero=>exact absurd h (by unfold cO; exact nofun)
   | succ n0 =>
    unfold cO at h;obtain ⟨x18,hx18,h⟩:=bF h;refine aC (cCm M hx18<|aB ?_);refine aP<|aK h M (fun h=>?_) (fun h=>?_)
    ·
     refine aO<|aJ<|aP<|bD<|aC (cI M<|cAI M<|aB ?_);obtain ⟨x20,hx20,x21,hx21,x22,hx22,h⟩:=eood h;refine cC M [nd1 [0] 16 (.slice false (a0.map aF.d)),nd1 [5] 17 (.int .i64 v10),nd1 [16,17] 18 (.fptr [.int .i64 x20.At,.str x20.Data]),nd1 [18] 19 (.agg [.int .i64 x20.At,.str x20.Data]),nd1 [1] 20 (.slice false (a1.map aF.d)),nd1 [5] 21 (.int .i64 v10),nd1 [20,21] 22 (.fptr [.int .i64 x21.At,.str x21.Data]),nd1 [22] 23 (.agg [.int .i64 x21.At,.str x21.Data]),nd1 [19,23] 24 (.bool (!x22))] M ?_ (by kernel_rfl) ?_
     ·refine .cons (dMv M)<|.cons (dMv M)<|.cons (lop M M fun S hA=>(bQ aF (cs:=q27) M M (lb M) un38 iJ (svaL hA M M) (svaI hA M M) hx20 M M))<|.cons (lop M M fun S hA=>(cJ (cs:=q27) M M (lb M) jK xD iJ (by decide) (sv (d:=.fptr q27) (agr hA M M)) (nle M) M))<|.cons (dMv M)<|.cons (dMv M)<|.cons (lop M M fun S hA=>(bQ aF (cs:=q27) M M (lb M) un38 iJ (svaL hA M M) (svaI hA M M) hx21 M M))<|.cons (lop M M fun S hA=>(cJ (cs:=q27) M M (lb M) jK xD iJ (by decide) (sv (d:=.fptr q27) (agr hA M M)) (nle M) M))<|.cons (lop M M fun S hA=>(zU M M (lb M) jK st228.1 st228.2 (svaA q27 hA M M) (svaA q27 hA M M) (congrArg some hx22))) ?_
      exact .nil
     refine aK h M (fun h=>?_) (fun h=>?_)
     ·
      refine aC (cAs (.bool false) M<|aB ?_);refine aM<|bM<|aT<|aT<|bM<|aT ?_;obtain rfl:=sj_ h;refine ⟨.inr M,(.cons (sv M) .nil)⟩
     ·
      refine aO<|bW<|aJ ?_;obtain ⟨x24,hx24,h⟩:=bF h;refine aZ (aA M (aX M M (lb M) (svI M) (sv (d:=.int _ 1) M) M hx24)<|cI M<|bN ?_);refine aJ ⟨(n0,x24),(fun i=>i),⟨(.sames M M),.nil,bX [] M (by decide),fun _ _=>M⟩,?_,?_⟩;exact h;exact Nat.lt_succ_self _
    ·
     refine cR<|bP<|bP<|cS<|aJ<|aC (cAs (.bool true) M<|aB ?_);refine aM ?_;obtain rfl:=sj_ h;refine ⟨.inr M,(.cons (sv M) .nil)⟩

theorem aCL (a0:aW) (a1:aW) (r:Bool) (h:sP a0 a1=some r):bJ prog 128 [.agg (tv5 a0),.agg (tv5 a1)] (.bool r):=by
 refine aQ (rs:=[.bool r]) func128 M ntmps128 (nle M) M fun O hO=>?_
 show IWP _ _ _ _ ⟨[(0,.agg (tv5 a0)),(1,.agg (tv5 a1))],[]⟩ _
 unfold sP at h;refine aC (cBx (cs:=q22) q22 0 M<|cBx (cs:=q22) q22 1 M<|cAs (.bool false) M<|aB ?_);obtain ⟨x1,hx1,x2,hx2,x3,hx3,h⟩:=eddd h;obtain ⟨x4,hx4,x5,hx5,h⟩:=eod h;refine aC (cFa 0 un40 M ti3 M<|cLd (d:=.int _ _) un3 ag3 ti3 M<|cFa 0 un40 M ti3 M<|cLd (d:=.int _ _) un3 ag3 ti3 M<|cCm M hx1<|cB M<|gG M (fun hb=>(tFa 1 un40 M ti9 M))<|gG M (fun hb=>(tLc (d:=.str _) un9 ag9 ti9 M hb))<|gG M (fun hb=>(tFa 1 un40 M ti9 M))<|gG M (fun hb=>(tLc (d:=.str _) un9 ag9 ti9 M hb))<|gG M (fun hb=>(mA M M (lb M) (svc (d:=.str _) M hb) (svc (d:=.str _) M hb) M hx2))<|cAn M hx3<|cB M<|gG M (fun hb=>(tFa 2 un40 M ti38 M))<|gG M (fun hb=>(tLc (d:=.slice _ _) un38 ag38 ti38 M hb))<|gG M (fun hb=>(tFa 2 un40 M ti38 M))<|gG M (fun hb=>(tLc (d:=.slice _ _) un38 ag38 ti38 M hb))<|gG M (fun hb=>(aL (r:=.bool _) M M (lb M) cl168 (.cons (svcL M hb) (.cons (svcL M hb) .nil)) M (nX _ _ _ (gd_t hx4 hb))))<|cAn M hx5<|cAB M<|aB ?_);refine aM ?_;obtain rfl:=sj_ h;refine ⟨.inr M,(.cons (sv M) .nil)⟩

theorem aDA (a0:bE) (a1:bE) (r:Bool) (h:uP a0 a1=some r):bJ prog 78 [.agg (tv4 a0),.agg (tv4 a1)] (.bool r):=by
 refine aQ (rs:=[.bool r]) func78 M ntmps78 (nle M) M fun O hO=>?_
 show IWP _ _ _ _ ⟨[(0,.agg (tv4 a0)),(1,.agg (tv4 a1))],[]⟩ _
 unfold uP at h;refine aC (cBx (cs:=q19) q19 0 M<|cBx (cs:=q19) q19 1 M<|cAs (.bool false) M<|aB ?_);obtain ⟨x1,hx1,x2,hx2,x3,hx3,h⟩:=edod h;refine aC (cFa 3 un42 M ti3 M<|cLd (d:=.int _ _) un3 ag3 ti3 M<|cFa 3 un42 M ti3 M<|cLd (d:=.int _ _) un3 ag3 ti3 M<|cCm M hx1<|cB M<|gG M (fun hb=>(tFa 0 un42 M ti40 M))<|gG M (fun hb=>(bS (cs:=q22) M M (lb M) un40 ag40 ti40 (by decide) (svcR M hb) M (nle M) M))<|gG M (fun hb=>(tFa 0 un42 M ti40 M))<|gG M (fun hb=>(bS (cs:=q22) M M (lb M) un40 ag40 ti40 (by decide) (svcR M hb) M (nle M) M))<|gG M (fun hb=>(aL (r:=.bool _) M M (lb M) cl128 (.cons (svcA (tv5 a0.Recv) M hb) (.cons (svcA (tv5 a1.Recv) M hb) .nil)) M (aCL _ _ _ (gd_t hx2 hb))))<|cAn M hx3<|cAB M<|aB ?_);refine aM ?_;obtain rfl:=sj_ h;refine ⟨.inr M,(.cons (sv M) .nil)⟩

theorem wE (a0:aH) (a1:aH) (r:Bool) (h:qC a0 a1=some r):bJ prog 28 [.agg (tv0 a0),.agg (tv0 a1)] (.bool r):=by
 refine aQ (rs:=[.bool r]) func28 M ntmps28 (nle M) M fun O hO=>?_
 show IWP _ _ _ _ ⟨[(0,.agg (tv0 a0)),(1,.agg (tv0 a1))],[]⟩ _
 unfold qC at h;refine aC (cBx (cs:=q10) q10 0 M<|cBx (cs:=q10) q10 1 M<|cAs (.bool false) M<|aB ?_);refine aP ?_;obtain ⟨x1,hx1,x2,hx2,x3,hx3,h⟩:=eood h;refine aC (cFa 1 un46 M ti37 M<|cLr q12 la37 M<|cFa 1 un46 M ti37 M<|cLr q12 la37 M<|aA M (aL (r:=.bool _) M M (lb M) cl77 (.cons (svA q12 M) (.cons (svA q12 M) .nil)) M (aC2 _ _ _ hx1))<|aA M (cV M M (lb M) (svB M))<|cB M<|gG M (fun hb=>(tFa 10 un46 M ti42 M))<|gG M (fun hb=>(bS (cs:=q19) M M (lb M) un42 ag42 ti42 (by decide) (svcR M hb) M (nle M) M))<|gG M (fun hb=>(tFa 10 un46 M ti42 M))<|gG M (fun hb=>(bS (cs:=q19) M M (lb M) un42 ag42 ti42 (by decide) (svcR M hb) M (nle M) M))<|gG M (fun hb=>(aL (r:=.bool _) M M (lb M) cl78 (.cons (svcA (tv4 a0.Recv) M hb) (.cons (svcA (tv4 a1.Recv) M hb) .nil)) M (aDA _ _ _ (gd_t hx2 hb))))<|gG M (fun hb=>(cV M M (lb M) (svcB M hb)))<|cOr M hx3<|aB ?_);refine aK h M (fun h=>?_) (fun h=>?_)
 ·
  refine aC (cAs (.bool false) M<|aB ?_);refine aM<|aT ?_;obtain rfl:=sj_ h;refine ⟨.inr M,(.cons (sv M) .nil)⟩
 ·
  refine aO<|aJ ?_;obtain ⟨x5,hx5,x6,hx6,x7,hx7,h⟩:=eddd h;obtain ⟨x8,hx8,x9,hx9,x10,hx10,h⟩:=eddd h;obtain ⟨x11,hx11,x12,hx12,x13,hx13,h⟩:=eddd h;refine aC (cFa 0 un46 M ti3 M<|cLd (d:=.int _ _) un3 ag3 ti3 M<|cFa 0 un46 M ti3 M<|cLd (d:=.int _ _) un3 ag3 ti3 M<|cCm M hx5<|cB M<|gG M (fun hb=>(tFa 14 un46 M ti44 M))<|gG M (fun hb=>(bS (cs:=q18) M M (lb M) un44 ag44 ti44 (by decide) (svcR M hb) M (nle M) M))<|gG M (fun hb=>(tFa 14 un46 M ti44 M))<|gG M (fun hb=>(bS (cs:=q18) M M (lb M) un44 ag44 ti44 (by decide) (svcR M hb) M (nle M) M))<|gG M (fun hb=>(aBv M M (lb M) un44 st44.1 st44.2 (svcA (tv6 a0.Out) M hb) (svcA (tv6 a1.Out) M hb) (congrArg some hx6)))<|cAn M hx7<|cB M<|gG M (fun hb=>(tFa 18 un46 M ti44 M))<|gG M (fun hb=>(bS (cs:=q18) M M (lb M) un44 ag44 ti44 (by decide) (svcR M hb) M (nle M) M))<|gG M (fun hb=>(tFa 18 un46 M ti44 M))<|gG M (fun hb=>(bS (cs:=q18) M M (lb M) un44 ag44 ti44 (by decide) (svcR M hb) M (nle M) M))<|gG M (fun hb=>(aBv M M (lb M) un44 st44.1 st44.2 (svcA (tv6 a0.In) M hb) (svcA (tv6 a1.In) M hb) (congrArg some hx8)))<|cAn M hx9<|cB M<|gG M (fun hb=>(tFa 22 un46 M ti3 M))<|gG M (fun hb=>(tLc (d:=.int _ _) un3 ag3 ti3 M hb))<|gG M (fun hb=>(tFa 22 un46 M ti3 M))<|gG M (fun hb=>(tLc (d:=.int _ _) un3 ag3 ti3 M hb))<|gG M (fun hb=>(tCh M hb hx10))<|cAn M hx11<|cB M<|gG M (fun hb=>(tFa 23 un46 M ti3 M))<|gG M (fun hb=>(tLc (d:=.int _ _) un3 ag3 ti3 M hb))<|gG M (fun hb=>(tFa 23 un46 M ti3 M))<|gG M (fun hb=>(tLc (d:=.int _ _) un3 ag3 ti3 M hb))<|gG M (fun hb=>(tCh M hb hx12))<|cAn M hx13<|cAB M<|aB ?_);refine aM ?_;obtain rfl:=sj_ h;refine ⟨.inr M,(.cons (sv M) .nil)⟩

theorem rK  (r:Bool) (h:lO=some r):bJ prog 8 [] (.bool r):=by
 refine aQ (rs:=[.bool r]) func8 M ntmps8 (nle M) M fun O hO=>?_
 show IWP _ _ _ _ ⟨[],[]⟩ _
 unfold lO at h;refine aC (cAs (.bool false) M<|aB ?_);obtain ⟨x1,hx1,h⟩:=bR h;refine aC (aA M (aL (r:=.tuple q38) M M (lb M) cl14 (.cons (sv (d:=.int _ 1) M) (.cons (sv (d:=.int _ 10) M) (.cons (sv (d:=.int _ 10) M) .nil))) M (vH _ _ _ _ hx1))<|cMv (.tuple q38) M<|cEx (d:=.agg q10) (cs:=q38) M<|cEx (d:=.int _ _) (cs:=q38) M<|aA M (aR (cs:=q11) (cs':=zs2) 0 M M (lb M) M ti46 M M (.k4 (.cons (.nils _) (.cons (.nils _) (.k4 (.k (.k (.cons (.nils _) (.all _)))))))))<|cSt q10 q10 ti46 M<|cAI M<|aB ?_);obtain ⟨x2,hx2,h⟩:=bR h;refine aC (cLr q10 la46 M<|aA M (aL (r:=.tuple q32) M M (lb M) cl31 (.cons (svA q10 M) (.cons (sv (d:=.str [104,101,108,108,111]) M) .nil)) M (aAB _ _ _ hx2))<|cMv (.tuple q32) M<|cEx (d:=.agg q10) (cs:=q32) M<|cEx (d:=.int _ _) (cs:=q32) M<|cEx (d:=.int _ _) (cs:=q32) M<|cSt q10 q10 ti46 M<|cAI M<|cAI M<|aB ?_);obtain ⟨x3,hx3,h⟩:=bR h;refine aC (cLr q10 la46 M<|aA M (aL (r:=.tuple q29) M M (lb M) cl34 (.cons (svA q10 M) (.cons (sv (d:=.int _ 0) M) (.cons (sv (d:=.int _ 3) M) (.cons (sv (d:=.int _ 99) M) .nil)))) M (aAj _ _ _ _ _ hx3))<|cMv (.tuple q29) M<|cEx (d:=.agg q10) (cs:=q29) M<|cEx (d:=.agg q20) (cs:=q29) M<|cEx (d:=.str _) (cs:=q29) M<|cEx (d:=.bool _) (cs:=q29) M<|aA M (aR (cs:=q11) (cs':=zs2) 1 M M (lb M) M ti46 M M (.k4 (.cons (.nils _) (.cons (.nils _) (.k4 (.k (.k (.cons (.nils _) (.all _)))))))))<|aA M (aR (cs:=q20) (cs':=(w49 0 0 0 false)) 2 M M (lb M) M dH M M (.all _))<|cSt q10 q10 ti46 M<|cSt q20 q20 dH M<|cAs (.str _) M<|cAB M<|aB ?_);obtain ⟨x4,hx4,h⟩:=bR h;refine aC (aA M (aL (r:=.tuple q38) M M (lb M) cl14 (.cons (sv (d:=.int _ 1) M) (.cons (sv (d:=.int _ 10) M) (.cons (sv (d:=.int _ 10) M) .nil))) M (vH _ _ _ _ hx4))<|cMv (.tuple q38) M<|cEx (d:=.agg q10) (cs:=q38) M<|cEx (d:=.int _ _) (cs:=q38) M<|aA M (aR (cs:=q11) (cs':=zs2) 3 M M (lb M) M ti46 M M (.k4 (.cons (.nils _) (.cons (.nils _) (.k4 (.k (.k (.cons (.nils _) (.all _)))))))))<|cSt q10 q10 ti46 M<|cAI M<|aB ?_);obtain ⟨x5,hx5,h⟩:=bR h;refine aC (cLr q10 la46 M<|cMv (.str _) M<|aA M (aL (r:=.tuple q32) M M (lb M) cl12 (.cons (svA q10 M) (.cons (sv (d:=.int _ 0) M) (.cons (sv (d:=.str _) M) (.cons (sv (d:=.bool false) M) .nil)))) M (tL _ _ _ _ _ hx5))<|cMv (.tuple q32) M<|cEx (d:=.agg q10) (cs:=q32) M<|cEx (d:=.int _ _) (cs:=q32) M<|cEx (d:=.int _ _) (cs:=q32) M<|cSt q10 q10 ti46 M<|cAI M<|cAI M<|aB ?_);obtain ⟨x6,hx6,h⟩:=bR h;refine aC (cLr q10 la46 M<|aA M (aL (r:=.tuple q32) M M (lb M) cl12 (.cons (svA q10 M) (.cons (sv (d:=.int _ 9) M) (.cons (sv (d:=.str [120,121]) M) (.cons (sv (d:=.bool false) M) .nil)))) M (tL _ _ _ _ _ hx6))<|cMv (.tuple q32) M<|cEx (d:=.agg q10) (cs:=q32) M<|cEx (d:=.int _ _) (cs:=q32) M<|cEx (d:=.int _ _) (cs:=q32) M<|aA M (aR (cs:=q11) (cs':=zs2) 4 M M (lb M) M ti46 M M (.k4 (.cons (.nils _) (.cons (.nils _) (.k4 (.k (.k (.cons (.nils _) (.all _)))))))))<|cSt q10 q10 ti46 M<|cAI M<|cAI M<|aB ?_);obtain ⟨x7,hx7,h⟩:=bR h;refine aC (cLr q10 la46 M<|aA M (aL (r:=.tuple q30) M M (lb M) cl32 (.cons (svA q10 M) (.cons (sv (d:=.int _ 9) M) .nil)) M (wF _ _ _ hx7))<|cMv (.tuple q30) M<|cEx (d:=.agg q10) (cs:=q30) M<|cEx (d:=.str _) (cs:=q30) M<|cEx (d:=.bool _) (cs:=q30) M<|cEx (d:=.int _ _) (cs:=q30) M<|aA M (aR (cs:=q11) (cs':=zs2) 5 M M (lb M) M ti46 M M (.k4 (.cons (.nils _) (.cons (.nils _) (.k4 (.k (.k (.cons (.nils _) (.all _)))))))))<|cSt q10 q10 ti46 M<|cAs (.str _) M<|cAB M<|cAI M<|aB ?_);obtain ⟨x8,hx8,h⟩:=bR h;refine aC (cLr q10 la46 M<|aA M (aL (r:=.tuple q38) M M (lb M) cl33 (.cons (svA q10 M) .nil) M (uS _ _ hx8))<|cMv (.tuple q38) M<|cEx (d:=.agg q10) (cs:=q38) M<|cEx (d:=.int _ _) (cs:=q38) M<|aA M (aR (cs:=q11) (cs':=zs2) 6 M M (lb M) M ti46 M M (.k4 (.cons (.nils _) (.cons (.nils _) (.k4 (.k (.k (.cons (.nils _) (.all _)))))))))<|cSt q10 q10 ti46 M<|cAI M<|aB ?_);obtain ⟨x9,hx9,x10,hx10,h⟩:=eoo h;refine aC (cLr q10 la46 M<|aA M (aL (r:=.agg q10) M M (lb M) cl30 (.cons (svA q10 M) (.cons (sv (d:=.int _ 8) M) .nil)) M (vX _ _ _ hx9))<|aA M (aL (r:=.tuple q38) M M (lb M) cl33 (.cons (svA q10 M) .nil) M (uS _ _ hx10))<|cMv (.tuple q38) M<|cEx (d:=.agg q10) (cs:=q38) M<|cEx (d:=.int _ _) (cs:=q38) M<|aA M (aR (cs:=q11) (cs':=zs2) 7 M M (lb M) M ti46 M M (.k4 (.cons (.nils _) (.cons (.nils _) (.k4 (.k (.k (.cons (.nils _) (.all _)))))))))<|cSt q10 q10 ti46 M<|cAI M<|aB ?_);obtain ⟨x11,hx11,h⟩:=bR h;refine aC (cLr q10 la46 M<|aA M (aL (r:=.tuple q30) M M (lb M) cl32 (.cons (svA q10 M) (.cons (sv (d:=.int _ 1) M) .nil)) M (wF _ _ _ hx11))<|cMv (.tuple q30) M<|cEx (d:=.agg q10) (cs:=q30) M<|cEx (d:=.str _) (cs:=q30) M<|cEx (d:=.bool _) (cs:=q30) M<|cEx (d:=.int _ _) (cs:=q30) M<|aA M (aR (cs:=q11) (cs':=zs2) 8 M M (lb M) M ti46 M M (.k4 (.cons (.nils _) (.cons (.nils _) (.k4 (.k (.k (.cons (.nils _) (.all _)))))))))<|cSt q10 q10 ti46 M<|cAs (.str _) M<|cAB M<|cAI M<|aB ?_);obtain ⟨x12,hx12,h⟩:=bR h;refine aC (cLr q10 la46 M<|aA M (aL (r:=.tuple q38) M M (lb M) cl35 (.cons (svA q10 M) (.cons (sv (d:=.int _ 0) M) .nil)) M (uR _ _ _ hx12))<|cMv (.tuple q38) M<|cEx (d:=.agg q10) (cs:=q38) M<|cEx (d:=.int _ _) (cs:=q38) M<|aA M (aR (cs:=q11) (cs':=zs2) 9 M M (lb M) M ti46 M M (.k4 (.cons (.nils _) (.cons (.nils _) (.k4 (.k (.k (.cons (.nils _) (.all _)))))))))<|cSt q10 q10 ti46 M<|cAI M<|aB ?_);obtain ⟨x13,hx13,h⟩:=bR h;refine aC (aA M (aL (r:=.tuple q38) M M (lb M) cl14 (.cons (sv (d:=.int _ 1) M) (.cons (sv (d:=.int _ 10) M) (.cons (sv (d:=.int _ 4097) M) .nil))) M (vH _ _ _ _ hx13))<|cMv (.tuple q38) M<|cEx (d:=.agg q10) (cs:=q38) M<|cEx (d:=.int _ _) (cs:=q38) M<|aA M (aR (cs:=q11) (cs':=zs2) 10 M M (lb M) M ti46 M M (.k4 (.cons (.nils _) (.cons (.nils _) (.k4 (.k (.k (.cons (.nils _) (.all _)))))))))<|cSt q10 q10 ti46 M<|cAI M<|aB ?_);obtain ⟨x14,hx14,x15,hx15,x16,hx16,h⟩:=eddd h;obtain ⟨x17,hx17,x18,hx18,x19,hx19,h⟩:=eddd h;obtain ⟨x20,hx20,x21,hx21,x22,hx22,h⟩:=eddd h;obtain ⟨x23,hx23,x24,hx24,x25,hx25,h⟩:=eddd h;obtain ⟨x26,hx26,x27,hx27,x28,hx28,h⟩:=eddd h;obtain ⟨x29,hx29,x30,hx30,x31,hx31,h⟩:=eddd h;obtain ⟨x32,hx32,x33,hx33,x34,hx34,h⟩:=eddd h;obtain ⟨x35,hx35,x36,hx36,x37,hx37,h⟩:=eddd h;obtain ⟨x38,hx38,x39,hx39,x40,hx40,h⟩:=eddd h;obtain ⟨x41,hx41,x42,hx42,x43,hx43,h⟩:=eddd h;obtain ⟨x44,hx44,x45,hx45,x46,hx46,h⟩:=eddd h;obtain ⟨x47,hx47,x48,hx48,x49,hx49,h⟩:=eodo h;obtain ⟨x50,hx50,x51,hx51,x52,hx52,h⟩:=edod h;obtain ⟨x53,hx53,x54,hx54,x55,hx55,h⟩:=edod h;obtain ⟨x56,hx56,x57,hx57,x58,hx58,h⟩:=eodd h;obtain ⟨x59,hx59,x60,hx60,x61,hx61,h⟩:=edod h;obtain ⟨x62,hx62,x63,hx63,x64,hx64,h⟩:=edod h;obtain ⟨x65,hx65,x66,hx66,x67,hx67,h⟩:=eodd h;obtain ⟨x68,hx68,x69,hx69,x70,hx70,h⟩:=eddd h;refine aC (cI M<|cCm (b:=0) M hx14<|cB M<|gG M (fun hb=>(tI M))<|gG M (fun hb=>(tCg (b:=5) M hb hx15))<|cAn M hx16<|cB M<|gG M (fun hb=>(tI M))<|gG M (fun hb=>(tCg (b:=0) M hb hx17))<|cAn M hx18<|cB M<|gG M (fun hb=>(tB M))<|cAn M hx19<|cB M<|gG M (fun hb=>(tFa 1 fL M ti3 M))<|gG M (fun hb=>(tLc (d:=.int _ _) un3 ag3 ti3 M hb))<|gG M (fun hb=>(tCg (b:=3) M hb hx20))<|cAn M hx21<|cB M<|gG M (fun hb=>(tMv (.str _) M))<|gG M (fun hb=>(mA M M (lb M) (svc (d:=.str _) M hb) (sv (d:=.str [104,101,108]) M) M hx22))<|cAn M hx23<|cB M<|gG M (fun hb=>(tFa 14 un46 M ti44 M))<|gG M (fun hb=>(aV M M (lb M) un44 M ti3 (by decide) (svcR M hb) (off':=16) M))<|gG M (fun hb=>(tLc (d:=.int _ _) un3 ag3 ti3 M hb))<|gG M (fun hb=>(tCg (b:=3) M hb hx24))<|cAn M hx25<|cB M<|gG M (fun hb=>(tI M))<|gG M (fun hb=>(tCg (b:=0) M hb hx26))<|cAn M hx27<|cB M<|gG M (fun hb=>(tI M))<|gG M (fun hb=>(tCg (b:=3) M hb hx28))<|cAn M hx29<|cB M<|gG M (fun hb=>(tI M))<|gG M (fun hb=>(tCg (b:=0) M hb hx30))<|cAn M hx31<|cB M<|gG M (fun hb=>(tI M))<|gG M (fun hb=>(tCg (b:=3) M hb hx32))<|cAn M hx33<|cB M<|gG M (fun hb=>(tMv (.str _) M))<|gG M (fun hb=>(mA M M (lb M) (svc (d:=.str _) M hb) (sv (d:=.str [104,101,108]) M) M hx34))<|cAn M hx35<|cB M<|gG M (fun hb=>(tB M))<|gG M (fun hb=>(cV M M (lb M) (svcB M hb)))<|cAn M hx36<|cB M<|gG M (fun hb=>(tI M))<|gG M (fun hb=>(tCg (b:=0) M hb hx37))<|cAn M hx38<|cB M<|gG M (fun hb=>(tI M))<|gG M (fun hb=>(tCg (b:=0) M hb hx39))<|cAn M hx40<|cB M<|gG M (fun hb=>(tI M))<|gG M (fun hb=>(tCg (b:=0) M hb hx41))<|cAn M hx42<|cB M<|gG M (fun hb=>(tI M))<|gG M (fun hb=>(tCg (b:=15) M hb hx43))<|cAn M hx44<|cB M<|gG M (fun hb=>(tI M))<|gG M (fun hb=>(tCg (b:=3) M hb hx45))<|cAn M hx46<|cB M<|gG M (fun hb=>(tLr q10 la46 M))<|gG M (fun hb=>(aL (r:=.bool _) M M (lb M) cl22 (.cons (svcA (tv0 x10.1) M hb) .nil) M (wG _ _ (gd_t hx47 hb))))<|cAn M hx48<|cB M<|gG M (fun hb=>(tLr q10 la46 M))<|gG M (fun hb=>(aL (r:=.bool _) M M (lb M) cl22 (.cons (svcA (tv0 x8.1) M hb) .nil) M (wG _ _ (gd_t hx49 hb))))<|gG M (fun hb=>(cV M M (lb M) (svcB M hb)))<|cAn M hx50<|cB M<|gG M (fun hb=>(tLr q10 la46 M))<|gG M (fun hb=>(aL (r:=.int _ _) M M (lb M) cl24 (.cons (svcA (tv0 x8.1) M hb) .nil) M (uT _ _ (gd_t hx51 hb))))<|gG M (fun hb=>(tCg (b:=2) M hb hx52))<|cAn M hx53<|cB M<|gG M (fun hb=>(tLr q10 la46 M))<|gG M (fun hb=>(aL (r:=.bool _) M M (lb M) cl26 (.cons (svcA (tv0 x3.1) M hb) (.cons (sv (d:=.int _ 1) M) .nil)) M (wD _ _ _ (gd_t hx54 hb))))<|cAn M hx55<|cB M<|gG M (fun hb=>(tLr q10 la46 M))<|gG M (fun hb=>(aL (r:=.bool _) M M (lb M) cl26 (.cons (svcA (tv0 x3.1) M hb) (.cons (sv (d:=.int _ 0) M) .nil)) M (wD _ _ _ (gd_t hx56 hb))))<|gG M (fun hb=>(cV M M (lb M) (svcB M hb)))<|cAn M hx57<|cB M<|gG M (fun hb=>(tI M))<|gG M (fun hb=>(tCg (b:=8) M hb hx58))<|cAn M hx59<|cB M<|gG M (fun hb=>(tLr q10 la46 M))<|gG M (fun hb=>(aL (r:=.int _ _) M M (lb M) cl20 (.cons (svcA (tv0 x8.1) M hb) .nil) M (qI _ _ (gd_t hx60 hb))))<|gG M (fun hb=>(tCg (b:=0) M hb hx61))<|cAn M hx62<|cB M<|gG M (fun hb=>(tLr q10 la46 M))<|gG M (fun hb=>(tLr q10 la46 M))<|gG M (fun hb=>(aL (r:=.bool _) M M (lb M) cl28 (.cons (svcA (tv0 x8.1) M hb) (.cons (svcA (tv0 x7.1) M hb) .nil)) M (wE _ _ _ (gd_t hx63 hb))))<|cAn M hx64<|cB M<|gG M (fun hb=>(tLr q10 la46 M))<|gG M (fun hb=>(tLr q10 la46 M))<|gG M (fun hb=>(aL (r:=.bool _) M M (lb M) cl28 (.cons (svcA (tv0 x8.1) M hb) (.cons (svcA (tv0 x10.1) M hb) .nil)) M (wE _ _ _ (gd_t hx65 hb))))<|gG M (fun hb=>(cV M M (lb M) (svcB M hb)))<|cAn M hx66<|cB M<|aA M (yP M M (lb M) (svB M) M M hx67)<|cB M<|aA M (yP M M (lb M) (svB M) M M hx68)<|cB M<|aA M (yP M M (lb M) (svB M) M M hx69)<|cB M<|aA M (yP M M (lb M) (svB M) M M hx70)<|cAB M<|aB ?_);refine aM ?_;obtain rfl:=sj_ h;refine ⟨.inr M,(.cons (sv M) .nil)⟩

theorem fX (a0:aY) (r:Int) (h:dM a0=some r):bJ prog 65 [.agg (tv6 a0)] (.int .i64 r):=by
 refine aQ (rs:=[.int .i64 r]) func65 M ntmps65 (nle M) M fun O hO=>?_
 show IWP _ _ _ _ ⟨[(0,.agg (tv6 a0))],[]⟩ _
 unfold dM at h;refine aC (cBx (cs:=q18) q18 0 M<|cAs (.int _ 0) M<|aB ?_);refine aP ?_;obtain ⟨x1,hx1,x2,hx2,x3,hx3,h⟩:=eddd h;obtain ⟨x4,hx4,x5,hx5,x6,hx6,h⟩:=eddd h;obtain ⟨x7,hx7,x8,hx8,x9,hx9,h⟩:=eddd h;obtain ⟨x10,hx10,x11,hx11,x12,hx12,h⟩:=eddd h;obtain ⟨x13,hx13,x14,hx14,x15,hx15,h⟩:=eddd h;refine aC (cFa 0 un71 M ti3 M<|cLd (d:=.int _ _) un3 ag3 ti3 M<|cCm (b:=1) M hx1<|cB M<|gG M (fun hb=>(tFa 0 un71 M ti3 M))<|gG M (fun hb=>(tLc (d:=.int _ _) un3 ag3 ti3 M hb))<|gG M (fun hb=>(tCg (b:=1048576) M hb hx2))<|cOr M hx3<|cB M<|gG M (fun hb=>(tFa 1 un71 M ti3 M))<|gG M (fun hb=>(tLc (d:=.int _ _) un3 ag3 ti3 M hb))<|gG M (fun hb=>(tCg (b:=0) M hb hx4))<|cOr M hx5<|cB M<|gG M (fun hb=>(tFa 1 un71 M ti3 M))<|gG M (fun hb=>(tLc (d:=.int _ _) un3 ag3 ti3 M hb))<|gG M (fun hb=>(tCg (b:=1099511627776) M hb hx6))<|cOr M hx7<|cB M<|gG M (fun hb=>(tFa 2 un71 M ti3 M))<|gG M (fun hb=>(tLc (d:=.int _ _) un3 ag3 ti3 M hb))<|gG M (fun hb=>(tCg (b:=0) M hb hx8))<|cOr M hx9<|cB M<|gG M (fun hb=>(tFa 2 un71 M ti3 M))<|gG M (fun hb=>(tLc (d:=.int _ _) un3 ag3 ti3 M hb))<|gG M (fun hb=>(tFa 1 un71 M ti3 M))<|gG M (fun hb=>(tLc (d:=.int _ _) un3 ag3 ti3 M hb))<|gG M (fun hb=>(tCh M hb hx10))<|cOr M hx11<|cB M<|gG M (fun hb=>(tFa 3 un71 M ti3 M))<|gG M (fun hb=>(tLc (d:=.int _ _) un3 ag3 ti3 M hb))<|gG M (fun hb=>(tCg (b:=0) M hb hx12))<|cOr M hx13<|cB M<|gG M (fun hb=>(tFa 3 un71 M ti3 M))<|gG M (fun hb=>(tLc (d:=.int _ _) un3 ag3 ti3 M hb))<|gG M (fun hb=>(tFa 2 un71 M ti3 M))<|gG M (fun hb=>(tLc (d:=.int _ _) un3 ag3 ti3 M hb))<|gG M (fun hb=>(tCh M hb hx14))<|cOr M hx15<|aB ?_);refine aK h M (fun h=>?_) (fun h=>?_)
 ·
  refine aC (cAs (.int _ 8) M<|aB ?_);refine aM<|aT ?_;obtain rfl:=sj_ h;refine ⟨.inr M,(.cons (sv M) .nil)⟩
 ·
  refine aO<|aJ<|aC (cAs (.int _ 0) M<|aB ?_);refine aM ?_;obtain rfl:=sj_ h;refine ⟨.inr M,(.cons (sv M) .nil)⟩

theorem sV (a0:Int) (r:(aY×Int)) (h:lG a0=some r):bJ prog 46 [.int .i64 a0] (retD [.agg (tv6 r.1),.int .i64 r.2]):=by
 refine aQ (rs:=[.agg (tv6 r.1),.int .i64 r.2]) func46 M ntmps46 (nle M) M fun O hO=>?_
 show IWP _ _ _ _ ⟨[(0,.int .i64 a0)],[]⟩ _
 unfold lG at h;refine aC (aA M (aR (cs:=q18) (cs':=(w48 0 0 0 0)) 0 M M (lb M) M ti71 M M (.all _))<|cAs (.int _ 0) M<|aB ?_);refine aC (cI M<|cI M<|aA M (bA (cs:=q18) M M (lb M) un71 ti71 pl71 M (.cons (svI M) (.cons (svI M) .nil)) M)<|aA M (aR (cs:=q18) (cs':=(w48 0 0 0 0)) 1 M M (lb M) M ti71 M M (.all _))<|cSt q18 q18 ti71 M<|aB ?_);refine aP ?_;obtain ⟨x1,hx1,x2,hx2,h⟩:=eod h;refine aC (cLr q18 la71 M<|aA M (aL (r:=.int _ _) M M (lb M) cl65 (.cons (svA q18 M) .nil) M (fX _ _ hx1))<|cCm (b:=0) M hx2<|aB ?_);refine aK h M (fun h=>?_) (fun h=>?_)
 ·
  refine aC (aA M (bA (cs:=q18) M M (lb M) un71 ti71 pl71 M .nil M)<|cSt q18 q18 ti71 M<|cAs (.int _ 8) M<|aB ?_);refine aM<|aT ?_;obtain rfl:=sj_ h;refine ⟨.inr M,(.cons (rva la71 M M (nle M) M) (.cons (sv M) .nil))⟩
 ·
  refine aO<|aJ<|aC (cLr q18 la71 M<|cSt q18 q18 ti71 M<|cAs (.int _ 0) M<|aB ?_);refine aM ?_;obtain rfl:=sj_ h;refine ⟨.inr M,(.cons (rva la71 M M (nle M) M) (.cons (sv M) .nil))⟩

theorem zH  (r:bE) (h:nA=some r):bJ prog 47 [] (.agg (tv4 r)):=by
 refine aQ (rs:=[.agg (tv4 r)]) func47 M ntmps47 (nle M) M fun O hO=>?_
 show IWP _ _ _ _ ⟨[],[]⟩ _
 unfold nA at h;refine aC (aA M (aR (cs:=q21) (cs':=zs1) 0 M M (lb M) M ti70 M M (.k (.k (.cons (.nils _) (.all _)))))<|aB ?_);refine aC (aA M (zT (d':=.agg (w47 0 [] ([]:List aS) (-1))) (bA (cs:=q21) M M (lb M) un70 ti70 pl70 M (.cons (sv (d:=.int _ (-1)) M) .nil) M) (.agg (.k (.k (.cons (.nils _) (.all _))))))<|aA M (bK (ds':=[.int _ _,.str _,.slice false (([]:List aS).map aF.d),.int _ _]) M M ti70 (svR M) M (svA q19 M) M M M (nle M) M)<|aB ?_);refine aM ?_;obtain rfl:=sj_ h;refine ⟨.inr M,(.cons (rva la70 M M (nle M) M) .nil)⟩

theorem zF (a0:Int) (a1:Int) (a2:Int) (r:(aH×Int)) (h:mZ a0 a1 a2=some r):bJ prog 15 [.int .i64 a0,.int .i64 a1,.int .i64 a2] (retD [.agg (tv0 r.1),.int .i64 r.2]):=by
 refine aQ (rs:=[.agg (tv0 r.1),.int .i64 r.2]) func15 M ntmps15 (nle M) M fun O hO=>?_
 show IWP _ _ _ _ ⟨[(0,.int .i64 a0),(1,.int .i64 a1),(2,.int .i64 a2)],[]⟩ _
 unfold mZ at h;refine aC (aA M (aR (cs:=q11) (cs':=zs2) 0 M M (lb M) M ti73 M M (.k4 (.cons (.nils _) (.cons (.nils _) (.k4 (.k (.k (.cons (.nils _) (.all _)))))))))<|cAs (.int _ 0) M<|aB ?_);obtain ⟨x1,hx1,h⟩:=bR h;refine aC (cI M<|aA M (aL (r:=.tuple q35) M M (lb M) cl46 (.cons (svI M) .nil) M (sV _ _ hx1))<|cMv (.tuple q35) M<|cEx (d:=.agg q18) (cs:=q35) M<|cEx (d:=.int _ _) (cs:=q35) M<|aA M (aR (cs:=q18) (cs':=(w48 0 0 0 0)) 1 M M (lb M) M ti71 M M (.all _))<|cSt q18 q18 ti71 M<|cAI M<|aB ?_);obtain ⟨x2,hx2,h⟩:=bR h;refine aC (cI M<|aA M (aL (r:=.tuple q35) M M (lb M) cl46 (.cons (svI M) .nil) M (sV _ _ hx2))<|cMv (.tuple q35) M<|cEx (d:=.agg q18) (cs:=q35) M<|cEx (d:=.int _ _) (cs:=q35) M<|aA M (aR (cs:=q18) (cs':=(w48 0 0 0 0)) 2 M M (lb M) M ti71 M M (.all _))<|cSt q18 q18 ti71 M<|cAI M<|aB ?_);obtain ⟨x3,hx3,h⟩:=bR h;refine cC M [nd1 [0] 23 (.int .i64 a0),nd1 [] 24 (.agg (tv4 x3)),nd2 [8] [1] 25 (.agg (tv6 x1.1)),nd2 [10] [2] 26 (.agg (tv6 x2.1)),nd1 [23,24,25,26] 27 (.agg (w43 a0 0 [] 0 ([]:List aI) ([]:List aG) false false false false x3.Recv.Base x3.Recv.Ready x3.Recv.Parts x3.End x1.1.Window x1.1.Limit x1.1.Used x1.1.Read x2.1.Window x2.1.Limit x2.1.Used x2.1.Read (-1) (-1))),⟨[],[3],[(12,.ref 3 0)],[(3,.blk 73 zs2)]⟩,⟨[12,27],[3],[],[(3,.blk 73 (w43 a0 0 [] 0 ([]:List aI) ([]:List aG) false false false false x3.Recv.Base x3.Recv.Ready x3.Recv.Parts x3.End x1.1.Window x1.1.Limit x1.1.Used x1.1.Read x2.1.Window x2.1.Limit x2.1.Used x2.1.Read (-1) (-1)))]⟩] M ?_ (by kernel_rfl) ?_
 ·refine .cons (dMv M)<|.cons (lop M M fun S hA=>(aL (r:=.agg q19) M M (lb M) cl47 .nil M (zH  _ hx3)))<|.cons (dLa un71 ag71 ti71 M)<|.cons (dLa un71 ag71 ti71 M)<|.cons (lop M M fun S hA=>(zT (d':=.agg (w43 a0 0 [] 0 ([]:List aI) ([]:List aG) false false false false x3.Recv.Base x3.Recv.Ready x3.Recv.Parts x3.End x1.1.Window x1.1.Limit x1.1.Used x1.1.Read x2.1.Window x2.1.Limit x2.1.Used x2.1.Read (-1) (-1))) (bA (cs:=[.int _ _,.int _ _,.str _,.int _ _,.nils,.nils,.bool _,.bool _,.bool _,.bool _,.int _ _,.str _,.slice _ _,.int _ _,.int _ _,.int _ _,.int _ _,.int _ _,.int _ _,.int _ _,.int _ _,.int _ _,.int _ _,.int _ _]) M M (lb M) un73 ti73 pl73 M (.cons (svaI hA M M) (.cons (svaA q19 hA M M) (.cons (svaA q18 hA M M) (.cons (svaA q18 hA M M) (.cons (sv (d:=.int _ (-1)) M) (.cons (sv (d:=.int _ (-1)) M) .nil)))))) M) (.agg (.k4 (.cons (.nils _) (.cons (.nils _) (.all _)))))))<|.cons (lop M M fun S hA=>(aR (cs:=q11) (cs':=zs2) 3 M M (lb M) (agi hA M M) ti73 M M (.k4 (.cons (.nils _) (.cons (.nils _) (.k4 (.k (.k (.cons (.nils _) (.all _))))))))))<|.cons (lop M M fun S hA=>(bK (ds':=[.int _ _,.int _ _,.str _,.int _ _,.slice false (([]:List aI).map aD.d),.slice false (([]:List aG).map aE.d),.bool _,.bool _,.bool _,.bool _,.int _ _,.str _,.slice _ _,.int _ _,.int _ _,.int _ _,.int _ _,.int _ _,.int _ _,.int _ _,.int _ _,.int _ _,.int _ _,.int _ _]) M M ti73 (svaR hA M M) (agi hA M M) (svaA q10 hA M M) M M M (nle M) M)) ?_
  exact .nil
 refine aP ?_;obtain ⟨x4,hx4,x5,hx5,x6,hx6,h⟩:=eddd h;obtain ⟨x7,hx7,x8,hx8,x9,hx9,h⟩:=eddd h;obtain ⟨x10,hx10,x11,hx11,x12,hx12,h⟩:=eddd h;refine aC (cI M<|cCm (b:=0) M hx4<|cB M<|gG M (fun hb=>(tI M))<|gG M (fun hb=>(tCg (b:=1048576) M hb hx5))<|cOr M hx6<|cB M<|gG M (fun hb=>(tI M))<|gG M (fun hb=>(tCg (b:=0) M hb hx7))<|cOr M hx8<|cB M<|gG M (fun hb=>(tI M))<|gG M (fun hb=>(tCg (b:=0) M hb hx9))<|cOr M hx10<|cB M<|gG M (fun hb=>(tI M))<|gG M (fun hb=>(tCg (b:=4096) M hb hx11))<|cOr M hx12<|aB ?_);refine aK h M (fun h=>?_) (fun h=>?_)
 ·
  refine aC (aA M (zT (d':=.agg zs2) (bA (cs:=q11) M M (lb M) un73 ti73 pl73 M .nil M) (.agg (.k4 (.cons (.nils _) (.cons (.nils _) (.k4 (.k (.k (.cons (.nils _) (.all _))))))))))<|aA M (bK (ds':=[.int _ _,.int _ _,.str _,.int _ _,.slice false (([]:List aI).map aD.d),.slice false (([]:List aG).map aE.d),.bool _,.bool _,.bool _,.bool _,.int _ _,.str _,.slice false (([]:List aS).map aF.d),.int _ _,.int _ _,.int _ _,.int _ _,.int _ _,.int _ _,.int _ _,.int _ _,.int _ _,.int _ _,.int _ _]) M M ti73 (svR M) M (svA q10 M) M M M (nle M) M)<|cAs (.int _ 8) M<|aB ?_);refine aM<|aT ?_;obtain rfl:=sj_ h;refine ⟨.inr M,(.cons (rva la73 M M (nle M) M) (.cons (sv M) .nil))⟩
 ·
  refine aO<|aJ<|aC (cLr q10 la73 M<|aA M (bK (ds':=[.int _ _,.int _ _,.str _,.int _ _,.slice false (([]:List aI).map aD.d),.slice false (([]:List aG).map aE.d),.bool _,.bool _,.bool _,.bool _,.int _ _,.str _,.slice _ _,.int _ _,.int _ _,.int _ _,.int _ _,.int _ _,.int _ _,.int _ _,.int _ _,.int _ _,.int _ _,.int _ _]) M M ti73 (svR M) M (svA q10 M) M M M (nle M) M)<|cAs (.int _ 0) M<|aB ?_);refine aM ?_;obtain rfl:=sj_ h;refine ⟨.inr M,(.cons (rva la73 M M (nle M) M) (.cons (sv M) .nil))⟩

theorem yH (a0:(List aG)) (r:(List aG)) (h:oI a0=some r):bJ prog 103 [.slice false (a0.map aE.d)] (.slice false (r.map aE.d)):=by
 refine fC (rs:=[.slice false (r.map aE.d)]) func103 M ntmps103 (nle M) M fun O hO=>?_
 show IWP _ _ _ _ ⟨[(0,.slice false (a0.map aE.d))],[]⟩ _
 unfold oI at h;refine aC (cAs (.nils) M<|aB ?_);refine aC (cAs (.nils) M<|aB ?_);refine aP<|aC (cAs (.int _ 0) M<|aB ?_);refine bD<|cK (α:=Nat×(List aG)×Int) (fun z=>⟨[(0,.slice false (a0.map aE.d)),(3,.osl 21 aE.sz z.2.1.length),(4,.int .i64 z.2.2)],[(21,.blk 204 (D.flat (z.2.1.map aE.d)))]⟩) (fun z=>fB a0 z.1 z.2.1 z.2.2=some r) (fun z=>z.1) (fuel,([]:(List aG)),0) (fun i=>if i=21 then 71 else i) ⟨(.s M M (.cons (.nilo M) (.sames M M))),(.cons (.nilb M) .nil),bX [71] M (by decide),(fun i hi=>by first | rfl | (show (if _ then _ else _)=_; (repeat' split) <;> omega))⟩ ?_ ?_
 ·exact h
 ·
  rintro ⟨n0,v6,v7⟩ h
  cases n0 with
  | zero=>exact absurd h (by unfold fB; exact nofun)
  | succ n0 =>
   unfold fB at h;refine aP ?_;obtain ⟨x13,hx13,h⟩:=bF h;refine aC (cI M<|aA M (mvL M M M M)<|aA M (bY aE (l:=a0) M M (lb M) un35 (svL M))<|cCm M hx13<|aB ?_);refine aK h M (fun h=>?_) (fun h=>?_)
   ·
    refine aO<|aJ<|aP<|bD ?_;obtain ⟨x15,hx15,x16,hx16,h⟩:=eoo h;refine aZ (cMv (.osl _ _ _) M<|aA M (mvL M M M M)<|cI M<|aA M (bQ aE (cs:=q25) M M (lb M) un35 gS (svL M) (svI M) hx15 M M)<|aA M (cJ (cs:=q25) M M (lb M) lT aA1 gS (by decide) (sv (d:=.fptr q25) M) (nle M) M)<|aA M (pM aE.toEnc0 ([(⟨x15.From,x15.To⟩:aG)]:(List aG)) 22 M M (lb M) un63 mY M (.cons (svA q25 M) .nil) M M (by decide))<|aA M (kS aE.toEnc0 23 M M (lb M) un63 mY M M M M M (xG aE.toEnc0 M M M) hx16)<|cAs (.osl _ _ _) M<|bN ?_);refine bW<|aJ ?_;obtain ⟨x17,hx17,h⟩:=bF h;refine aZ (cI M<|aA M (aX M M (lb M) (svI M) (sv (d:=.int _ 1) M) M hx17)<|cAI M<|bN ?_);refine aJ ⟨(n0,x16,x17),(fun i=>if i=21 then 23 else i),⟨(.sames M M),(.cons (EntW.lst M) .nil),bX [23] M (by decide),(fun i hi=>by first | rfl | (show (if _ then _ else _)=_; (repeat' split) <;> omega))⟩,?_,?_⟩;exact h;exact Nat.lt_succ_self _
   ·
    refine cR<|bP<|bP<|cS<|aJ<|aC (cMv (.osl _ _ _) M<|cAs (.osl _ _ _) M<|aB ?_);refine aM ?_;obtain rfl:=sj_ h;refine ⟨.inr M,_,(.cons (sv M) .nil),(.cons (FDT aE M M) .nil)⟩

theorem yF (a0:aN) (r:aN) (h:mP a0=some r):bJ prog 50 [.agg (tv1 a0)] (.agg (tv1 r)):=by
 refine fC (rs:=[.agg (tv1 r)]) func50 M ntmps50 (nle M) M fun O hO=>?_
 show IWP _ _ _ _ ⟨[(0,.agg (tv1 a0))],[]⟩ _
 unfold mP at h;refine aC (cBx (cs:=q12) q12 0 M<|aA M (aR (cs:=q15) (cs':=[.int .i64 0,.str [],.int .i64 0,.nils,.nils,.bool false,.bool false,.bool false,.bool false]) 1 M M (lb M) M ti65 M M (.all _))<|aB ?_);obtain ⟨x1,hx1,h⟩:=bR h;refine cC M [nd1 [1] 5 (.ref 0 0),nd2 [5] [0] 6 (.int .i64 a0.Base),nd1 [1] 7 (.ref 0 1),nd2 [7] [0] 8 (.str a0.Data),nd1 [1] 9 (.ref 0 2),nd2 [9] [0] 10 (.int .i64 a0.Next),nd1 [1] 11 (.ref 0 4),nd2 [11] [0] 12 (.slice false (a0.Lost.map aE.d)),nd1 [12] 13 (.slice false (x1.map aE.d)),nd1 [1] 14 (.ref 0 5),nd2 [14] [0] 15 (.bool a0.Closed),nd1 [1] 16 (.ref 0 6),nd2 [16] [0] 17 (.bool a0.Sent),nd1 [1] 18 (.ref 0 7),nd2 [18] [0] 19 (.bool a0.Again),nd1 [1] 20 (.ref 0 8),nd2 [20] [0] 21 (.bool a0.Done),nd1 [6,8,10,13,15,17,19,21] 22 (.agg [.int .i64 a0.Base,.str a0.Data,.int .i64 a0.Next,.nils,.slice false (x1.map aE.d),.bool a0.Closed,.bool a0.Sent,.bool a0.Again,.bool a0.Done]),⟨[],[2],[(3,.ref 2 0)],[(2,.blk 65 [.int .i64 0,.str [],.int .i64 0,.nils,.nils,.bool false,.bool false,.bool false,.bool false])]⟩,⟨[3,22],[2],[],[(2,.blk 65 [.int .i64 a0.Base,.str a0.Data,.int .i64 a0.Next,.nils,.slice false (x1.map aE.d),.bool a0.Closed,.bool a0.Sent,.bool a0.Again,.bool a0.Done])]⟩] M ?_ (by kernel_rfl) ?_
 ·refine .cons (dFa 0 un37 M ti3 M)<|.cons (dLd un3 ag3 ti3 M)<|.cons (dFa 1 un37 M ti9 M)<|.cons (dLd un9 ag9 ti9 M)<|.cons (dFa 2 un37 M ti3 M)<|.cons (dLd un3 ag3 ti3 M)<|.cons (dFa 4 un37 M ti35 M)<|.cons (dLd un35 ag35 ti35 M)<|.cons (lop M M fun S hA=>(aL (r:=.slice _ _) M M (lb M) cl103 (.cons (svaL hA M M) .nil) M (yH _ _ hx1)))<|.cons (dFa 5 un37 M ti4 M)<|.cons (dLd un4 ag4 ti4 M)<|.cons (dFa 6 un37 M ti4 M)<|.cons (dLd un4 ag4 ti4 M)<|.cons (dFa 7 un37 M ti4 M)<|.cons (dLd un4 ag4 ti4 M)<|.cons (dFa 8 un37 M ti4 M)<|.cons (dLd un4 ag4 ti4 M)<|.cons (lop M M fun S hA=>(bA (cs:=q14) M M (lb M) un65 ti65 pl65 M (.cons (svaI hA M M) (.cons (sv (d:=.str _) (agr hA M M)) (.cons (svaI hA M M) (.cons (svaL hA M M) (.cons (svaB hA M M) (.cons (svaB hA M M) (.cons (svaB hA M M) (.cons (svaB hA M M) .nil)))))))) M))<|.cons (lop M M fun S hA=>(aR (cs:=q15) (cs':=[.int .i64 0,.str [],.int .i64 0,.nils,.nils,.bool false,.bool false,.bool false,.bool false]) 2 M M (lb M) (agi hA M M) ti65 M M (.all _)))<|.cons (dSt q14 ti65 M) ?_
  exact .nil
 refine aP<|aC (cAs (.int _ 0) M<|aB ?_);refine bD<|cK (α:=Nat×Int×(List aI)) (fun z=>⟨[(1,.ref 0 0),(2,.ref 1 0),(3,.ref 2 0),(4,.int .i64 z.2.1)],[(0,.blk 37 (tv1 a0)),(1,.blk 65 [.int .i64 0,.str [],.int .i64 0,.nils,.nils,.bool false,.bool false,.bool false,.bool false]),(2,.blk 65 (w45 a0.Base a0.Data a0.Next (.osl 24 aD.sz z.2.2.length) x1 a0.Closed a0.Sent a0.Again a0.Done)),(24,.blk 79 (D.flat (z.2.2.map aD.d)))]⟩) (fun z=>fA a0 x1 z.1 z.2.1 z.2.2=some r) (fun z=>z.1) (fuel,0,([]:(List aI))) (fun i=>if i=24 then 77 else i) ⟨(.sames M M),(.cons (.blk M M M) (.cons (.blk M M M) (.cons (.sub M (.same (.same (.same (.nilo (.same (.same (.same (.same (.same .nil))))))))) M) (.cons (.nilb M) .nil)))),bX [0,1,2,77] M (by decide),(fun i hi=>by first | rfl | (show (if _ then _ else _)=_; (repeat' split) <;> omega))⟩ ?_ ?_
 ·exact h
 ·
  rintro ⟨n0,v7,v8⟩ h
  cases n0 with
  | zero=>exact absurd h (by unfold fA; exact nofun)
  | succ n0 =>
   unfold fA at h;refine aP ?_;obtain ⟨x14,hx14,h⟩:=bF h;refine aC (cI M<|cFa 3 un37 M ti33 M<|aA M (lrL la33 M M M M M (nle M) M)<|aA M (bY aD (l:=a0.Pieces) M M (lb M) un33 (svL M))<|cCm M hx14<|aB ?_);refine aK h M (fun h=>?_) (fun h=>?_)
   ·
    refine aO<|aJ<|aP<|bD ?_;obtain ⟨x16,hx16,x17,hx17,h⟩:=eoo h;refine oK M [nd1 [3] 30 (.ref 2 3),nd2 [30] [2] 31 (.osl 24 aD.sz v8.length),nd1 [1] 32 (.ref 0 3),nd2 [32] [0] 33 (.slice false (a0.Pieces.map aD.d)),nd1 [4] 34 (.int .i64 v7),nd1 [33,34] 35 (.fptr (tv8 x16)),nd1 [35] 36 (.agg (tv8 x16)),⟨[36],[25],[(37,.osl 25 aD.sz (([x16]:(List aI)).length))],[(25,.blk 79 (D.flat (([x16]:(List aI)).map aD.d)))]⟩,⟨[31,37],[24,25,26],[(38,.osl 26 aD.sz x17.length)],[(26,.blk 79 (D.flat (x17.map aD.d))),(24,.none)]⟩,nd1 [3] 39 (.ref 2 3),⟨[38,39],[2],[],[(2,.blk 65 (w45 a0.Base a0.Data a0.Next (.osl 26 aD.sz x17.length) x1 a0.Closed a0.Sent a0.Again a0.Done))]⟩] M ?_ (by kernel_rfl) ?_
    ·refine .cons (dFa 3 un65 M ti62 M)<|.cons (dLd un62 ag62 ti62 M)<|.cons (dFa 3 un37 M ti33 M)<|.cons (dLd un33 ag33 ti33 M)<|.cons (dMv M)<|.cons (lop M M fun S hA=>(bQ aD (cs:=q20) M M (lb M) un33 dH (svaL hA M M) (svaI hA M M) hx16 M M))<|.cons (lop M M fun S hA=>(cJ (cs:=q20) M M (lb M) fL sG dH (by decide) (sv (d:=.fptr q20) (agr hA M M)) (nle M) M))<|.cons (lop M M fun S hA=>(pM aD.toEnc0 ([x16]:(List aI)) 25 M M (lb M) un62 ti79 (agi hA M M) (.cons (svaA q20 hA M M) .nil) M M (by decide)))<|.cons (lop M M fun S hA=>(kS aD.toEnc0 26 M M (lb M) un62 ti79 M (agr hA M M) M (agi hA M M) (agi hA M M) (xG aD.toEnc0 (agr hA M M) M (agi hA M M)) hx17))<|.cons (dFa 3 un65 M ti62 M)<|.cons (lop M M fun S hA=>(bK (ds':=q13) M M ti62 (svaR hA M M) (agi hA M M) (sv (d:=.osl _ _ _) (agr hA M M)) M M M (nle M) M)) ?_
     exact .nil
    refine bW<|aJ ?_;obtain ⟨x18,hx18,h⟩:=bF h;refine aZ (cI M<|aA M (aX M M (lb M) (svI M) (sv (d:=.int _ 1) M) M hx18)<|cAI M<|bN ?_);refine aJ ⟨(n0,x18,x17),(fun i=>if i=24 then 26 else i),⟨(.sames M M),(.cons (.blk M M M) (.cons (.blk M M M) (.cons (.blk M M M) (.cons (EntW.lst M) .nil)))),bX [0,1,2,26] M (by decide),(fun i hi=>by first | rfl | (show (if _ then _ else _)=_; (repeat' split) <;> omega))⟩,?_,?_⟩;exact h;exact Nat.lt_succ_self _
   ·
    refine cR<|bP<|bP<|cS<|aJ<|aC (cLr q13 la65 M<|cSt q13 q13 ti65 M<|aB ?_);refine aM ?_;obtain rfl:=sj_ h;refine ⟨.inr M,_,(.cons (rva la65 M M (nle M) M) .nil),(.cons (.agg (.k (.k (.k (.cons (FDT aD M M) (.all _)))))) .nil)⟩

theorem yG (a0:aW) (r:aW) (h:oH a0=some r):bJ prog 104 [.agg (tv5 a0)] (.agg (tv5 r)):=by
 refine fC (rs:=[.agg (tv5 r)]) func104 M ntmps104 (nle M) M fun O hO=>?_
 show IWP _ _ _ _ ⟨[(0,.agg (tv5 a0))],[]⟩ _
 unfold oH at h;refine aC (cBx (cs:=q22) q22 0 M<|aA M (aR (cs:=q24) (cs':=[.int .i64 0,.str [],.nils]) 1 M M (lb M) M ti68 M M (.all _))<|aB ?_);refine aC (cFa 0 un40 M ti3 M<|cLd (d:=.int _ _) un3 ag3 ti3 M<|cFa 1 un40 M ti9 M<|cLd (d:=.str _) un9 ag9 ti9 M<|aA M (bA (cs:=q24) M M (lb M) un68 ti68 pl68 M (.cons (svI M) (.cons (sv (d:=.str _) M) .nil)) M)<|aA M (aR (cs:=q24) (cs':=[.int .i64 0,.str [],.nils]) 2 M M (lb M) M ti68 M M (.all _))<|cSt q24 q24 ti68 M<|aB ?_);refine aP<|aC (cAs (.int _ 0) M<|aB ?_);refine bD<|cK (α:=Nat×Int×(List aS)) (fun z=>⟨[(1,.ref 0 0),(2,.ref 1 0),(3,.ref 2 0),(4,.int .i64 z.2.1)],[(0,.blk 40 (tv5 a0)),(1,.blk 68 [.int .i64 0,.str [],.nils]),(2,.blk 68 [.int .i64 a0.Base,.str a0.Ready,.osl 24 aF.sz z.2.2.length]),(24,.blk 208 (D.flat (z.2.2.map aF.d)))]⟩) (fun z=>eF a0 z.1 z.2.1 z.2.2=some r) (fun z=>z.1) (fuel,0,([]:(List aS))) (fun i=>if i=24 then 77 else i) ⟨(.sames M M),(.cons (.blk M M M) (.cons (.blk M M M) (.cons (.sub M (.same (.same (.nilo .nil))) M) (.cons (.nilb M) .nil)))),bX [0,1,2,77] M (by decide),(fun i hi=>by first | rfl | (show (if _ then _ else _)=_; (repeat' split) <;> omega))⟩ ?_ ?_
 ·exact h
 ·
  rintro ⟨n0,v6,v7⟩ h
  cases n0 with
  | zero=>exact absurd h (by unfold eF; exact nofun)
  | succ n0 =>
   unfold eF at h;refine aP ?_;obtain ⟨x13,hx13,h⟩:=bF h;refine aC (cI M<|cFa 2 un40 M ti38 M<|aA M (lrL la38 M M M M M (nle M) M)<|aA M (bY aF (l:=a0.Parts) M M (lb M) un38 (svL M))<|cCm M hx13<|aB ?_);refine aK h M (fun h=>?_) (fun h=>?_)
   ·
    refine aO<|aJ<|aP<|bD ?_;obtain ⟨x15,hx15,x16,hx16,h⟩:=eoo h;refine oK M [nd1 [3] 17 (.ref 2 2),nd2 [17] [2] 18 (.osl 24 aF.sz v7.length),nd1 [1] 19 (.ref 0 2),nd2 [19] [0] 20 (.slice false (a0.Parts.map aF.d)),nd1 [4] 21 (.int .i64 v6),nd1 [20,21] 22 (.fptr [.int .i64 x15.At,.str x15.Data]),nd1 [22] 23 (.agg [.int .i64 x15.At,.str x15.Data]),⟨[23],[25],[(24,.osl 25 aF.sz (([x15]:(List aS)).length))],[(25,.blk 208 (D.flat (([x15]:(List aS)).map aF.d)))]⟩,⟨[18,24],[24,25,26],[(25,.osl 26 aF.sz x16.length)],[(26,.blk 208 (D.flat (x16.map aF.d))),(24,.none)]⟩,nd1 [3] 26 (.ref 2 2),⟨[25,26],[2],[],[(2,.blk 68 [.int .i64 a0.Base,.str a0.Ready,.osl 26 aF.sz x16.length])]⟩] M ?_ (by kernel_rfl) ?_
    ·refine .cons (dFa 2 un68 M ti66 M)<|.cons (dLd un66 ag66 ti66 M)<|.cons (dFa 2 un40 M ti38 M)<|.cons (dLd un38 ag38 ti38 M)<|.cons (dMv M)<|.cons (lop M M fun S hA=>(bQ aF (cs:=q27) M M (lb M) un38 iJ (svaL hA M M) (svaI hA M M) hx15 M M))<|.cons (lop M M fun S hA=>(cJ (cs:=q27) M M (lb M) jK xD iJ (by decide) (sv (d:=.fptr q27) (agr hA M M)) (nle M) M))<|.cons (lop M M fun S hA=>(pM aF.toEnc0 ([x15]:(List aS)) 25 M M (lb M) un66 lX (agi hA M M) (.cons (svaA q27 hA M M) .nil) M M (by decide)))<|.cons (lop M M fun S hA=>(kS aF.toEnc0 26 M M (lb M) un66 lX M (agr hA M M) M (agi hA M M) (agi hA M M) (xG aF.toEnc0 (agr hA M M) M (agi hA M M)) hx16))<|.cons (dFa 2 un68 M ti66 M)<|.cons (lop M M fun S hA=>(bK (ds':=q23) M M ti66 (svaR hA M M) (agi hA M M) (sv (d:=.osl _ _ _) (agr hA M M)) M M M (nle M) M)) ?_
     exact .nil
    refine bW<|aJ ?_;obtain ⟨x17,hx17,h⟩:=bF h;refine aZ (cI M<|aA M (aX M M (lb M) (svI M) (sv (d:=.int _ 1) M) M hx17)<|cAI M<|bN ?_);refine aJ ⟨(n0,x17,x16),(fun i=>if i=24 then 26 else i),⟨(.sames M M),(.cons (.blk M M M) (.cons (.blk M M M) (.cons (.blk M M M) (.cons (EntW.lst M) .nil)))),bX [0,1,2,26] M (by decide),(fun i hi=>by first | rfl | (show (if _ then _ else _)=_; (repeat' split) <;> omega))⟩,?_,?_⟩;exact h;exact Nat.lt_succ_self _
   ·
    refine cR<|bP<|bP<|cS<|aJ<|aC (cLr q23 la68 M<|cSt q23 q23 ti68 M<|aB ?_);refine aM ?_;obtain rfl:=sj_ h;refine ⟨.inr M,_,(.cons (rva la68 M M (nle M) M) .nil),(.cons (.agg (.k (.k (.cons (FDT aF M M) .nil)))) .nil)⟩

theorem yE (a0:bE) (r:bE) (h:mO a0=some r):bJ prog 51 [.agg (tv4 a0)] (.agg (tv4 r)):=by
 refine aQ (rs:=[.agg (tv4 r)]) func51 M ntmps51 (nle M) M fun O hO=>?_
 show IWP _ _ _ _ ⟨[(0,.agg (tv4 a0))],[]⟩ _
 unfold mO at h;refine aC (cBx (cs:=q19) q19 0 M<|aA M (aR (cs:=q21) (cs':=zs1) 1 M M (lb M) M ti70 M M (.k (.k (.cons (.nils _) (.all _)))))<|aB ?_);obtain ⟨x1,hx1,h⟩:=bR h;refine cC M [nd1 [1] 3 (.ref 0 0),nd2 [3] [0] 4 (.agg (tv5 a0.Recv)),nd1 [4] 5 (.agg (tv5 x1)),nd1 [1] 6 (.ref 0 3),nd2 [6] [0] 7 (.int .i64 a0.End),nd1 [5,7] 8 (.agg (w47 x1.Base x1.Ready x1.Parts a0.End)),⟨[2,8],[1],[],[(1,.blk 70 (w47 x1.Base x1.Ready x1.Parts a0.End))]⟩] M ?_ (by kernel_rfl) ?_
 ·refine .cons (dFa 0 un42 M ti40 M)<|.cons (dLa un40 ag40 ti40 M)<|.cons (lop M M fun S hA=>(aL (r:=.agg q22) M M (lb M) cl104 (.cons (svaA q22 hA M M) .nil) M (yG _ _ hx1)))<|.cons (dFa 3 un42 M ti3 M)<|.cons (dLd un3 ag3 ti3 M)<|.cons (lop M M fun S hA=>(bA (cs:=q19) M M (lb M) un70 ti70 pl70 M (.cons (svaA q22 hA M M) (.cons (svaI hA M M) .nil)) M))<|.cons (dSt q19 ti70 M) ?_
  exact .nil
 refine aM ?_;obtain rfl:=sj_ h;refine ⟨.inr M,(.cons (rva la70 M M (nle M) M) .nil)⟩

theorem rV (a0:aH) (r:aH) (h:jQ a0=some r):bJ prog 17 [.agg (tv0 a0)] (.agg (tv0 r)):=by
 refine aQ (rs:=[.agg (tv0 r)]) func17 M ntmps17 (nle M) M fun O hO=>?_
 show IWP _ _ _ _ ⟨[(0,.agg (tv0 a0))],[]⟩ _
 unfold jQ at h;refine aC (cBx (cs:=q10) q10 0 M<|aA M (aR (cs:=q11) (cs':=zs2) 1 M M (lb M) M ti73 M M (.k4 (.cons (.nils _) (.cons (.nils _) (.k4 (.k (.k (.cons (.nils _) (.all _)))))))))<|aB ?_);obtain ⟨x1,hx1,x2,hx2,h⟩:=eoo h;refine cC M [nd1 [1] 3 (.ref 0 0),nd2 [3] [0] 4 (.int .i64 a0.ID),nd1 [1] 5 (.ref 0 1),nd2 [5] [0] 6 (.agg (tv1 a0.Send)),nd1 [6] 7 (.agg (tv1 x1)),nd1 [1] 8 (.ref 0 10),nd2 [8] [0] 9 (.agg (tv4 a0.Recv)),nd1 [9] 10 (.agg (tv4 x2)),nd1 [1] 11 (.ref 0 14),nd2 [11] [0] 12 (.agg (tv6 a0.Out)),nd1 [1] 13 (.ref 0 18),nd2 [13] [0] 14 (.agg (tv6 a0.In)),nd1 [1] 15 (.ref 0 22),nd2 [15] [0] 16 (.int .i64 a0.Mine),nd1 [1] 17 (.ref 0 23),nd2 [17] [0] 18 (.int .i64 a0.Hers),nd1 [4,7,10,12,14,16,18] 19 (.agg (w43 a0.ID x1.Base x1.Data x1.Next x1.Pieces x1.Lost x1.Closed x1.Sent x1.Again x1.Done x2.Recv.Base x2.Recv.Ready x2.Recv.Parts x2.End a0.Out.Window a0.Out.Limit a0.Out.Used a0.Out.Read a0.In.Window a0.In.Limit a0.In.Used a0.In.Read a0.Mine a0.Hers)),⟨[2,19],[1],[],[(1,.blk 73 (w43 a0.ID x1.Base x1.Data x1.Next x1.Pieces x1.Lost x1.Closed x1.Sent x1.Again x1.Done x2.Recv.Base x2.Recv.Ready x2.Recv.Parts x2.End a0.Out.Window a0.Out.Limit a0.Out.Used a0.Out.Read a0.In.Window a0.In.Limit a0.In.Used a0.In.Read a0.Mine a0.Hers))]⟩] M ?_ (by kernel_rfl) ?_
 ·refine .cons (dFa 0 un46 M ti3 M)<|.cons (dLd un3 ag3 ti3 M)<|.cons (dFa 1 un46 M ti37 M)<|.cons (dLa un37 ag37 ti37 M)<|.cons (lop M M fun S hA=>(aL (r:=.agg q12) M M (lb M) cl50 (.cons (svaA q12 hA M M) .nil) M (yF _ _ hx1)))<|.cons (dFa 10 un46 M ti42 M)<|.cons (dLa un42 ag42 ti42 M)<|.cons (lop M M fun S hA=>(aL (r:=.agg q19) M M (lb M) cl51 (.cons (svaA q19 hA M M) .nil) M (yE _ _ hx2)))<|.cons (dFa 14 un46 M ti44 M)<|.cons (dLa un44 ag44 ti44 M)<|.cons (dFa 18 un46 M ti44 M)<|.cons (dLa un44 ag44 ti44 M)<|.cons (dFa 22 un46 M ti3 M)<|.cons (dLd un3 ag3 ti3 M)<|.cons (dFa 23 un46 M ti3 M)<|.cons (dLd un3 ag3 ti3 M)<|.cons (lop M M fun S hA=>(bA (cs:=q10) M M (lb M) un73 ti73 pl73 M (.cons (svaI hA M M) (.cons (svaA q12 hA M M) (.cons (svaA q19 hA M M) (.cons (svaA q18 hA M M) (.cons (svaA q18 hA M M) (.cons (svaI hA M M) (.cons (svaI hA M M) .nil))))))) M))<|.cons (dSt q10 ti73 M) ?_
  exact .nil
 refine aM ?_;obtain rfl:=sj_ h;refine ⟨.inr M,(.cons (rva la73 M M (nle M) M) .nil)⟩

theorem yC (a0:(List aG)) (a1:(List aG)) (r:Bool) (h:oG a0 a1=some r):bJ prog 101 [.slice false (a0.map aE.d),.slice false (a1.map aE.d)] (.bool r):=by
 refine aQ (rs:=[.bool r]) func101 M ntmps101 (nle M) M fun O hO=>?_
 show IWP _ _ _ _ ⟨[(0,.slice false (a0.map aE.d)),(1,.slice false (a1.map aE.d))],[]⟩ _
 unfold oG at h;refine aC (cAs (.bool false) M<|aB ?_);refine aP ?_;obtain ⟨x1,hx1,h⟩:=bF h;refine aC (aA M (mvL M M M M)<|aA M (bY aE (l:=a0) M M (lb M) un63 (svL M))<|aA M (mvL M M M M)<|aA M (bY aE (l:=a1) M M (lb M) un63 (svL M))<|cCm M hx1<|aB ?_);refine aK h M (fun h=>?_) (fun h=>?_)
 ·
  refine aC (cAs (.bool false) M<|aB ?_);refine aM<|aT ?_;obtain rfl:=sj_ h;refine ⟨.inr M,(.cons (sv M) .nil)⟩
 ·
  refine aO<|aJ<|aP<|aC (cAs (.int _ 0) M<|aB ?_);refine bD<|cK (α:=Nat×Int) (fun z=>⟨[(0,.slice false (a0.map aE.d)),(1,.slice false (a1.map aE.d)),(5,.int .i64 z.2)],[]⟩) (fun z=>eZ a0 a1 z.1 z.2=some r) (fun z=>z.1) (fuel,0) (fun i=>i) ⟨(.sames M M),.nil,bX [] M (by decide),fun _ _=>M⟩ ?_ ?_
  ·exact h
  ·
   rintro ⟨n0,v10⟩ h
   cases n0 with
   | zero=>exact absurd h (by unfold eZ; exact nofun)
   | succ n0 =>
    unfold eZ at h;refine aP ?_;obtain ⟨x18,hx18,h⟩:=bF h;refine aC (cI M<|aA M (mvL M M M M)<|aA M (bY aE (l:=a0) M M (lb M) un63 (svL M))<|cCm M hx18<|aB ?_);refine aK h M (fun h=>?_) (fun h=>?_)
    ·
     refine aO<|aJ<|aP<|bD ?_;obtain ⟨x20,hx20,x21,hx21,x22,hx22,h⟩:=eood h;refine cC M [nd1 [0] 17 (.slice false (a0.map aE.d)),nd1 [5] 18 (.int .i64 v10),nd1 [17,18] 19 (.fptr [.int .i64 x20.From,.int .i64 x20.To]),nd1 [19] 20 (.agg [.int .i64 x20.From,.int .i64 x20.To]),nd1 [1] 21 (.slice false (a1.map aE.d)),nd1 [5] 22 (.int .i64 v10),nd1 [21,22] 23 (.fptr [.int .i64 x21.From,.int .i64 x21.To]),nd1 [23] 24 (.agg [.int .i64 x21.From,.int .i64 x21.To]),nd1 [20,24] 25 (.bool (!x22))] M ?_ (by kernel_rfl) ?_
     ·refine .cons (dMv M)<|.cons (dMv M)<|.cons (lop M M fun S hA=>(bQ aE (cs:=q25) M M (lb M) un63 mY (svaL hA M M) (svaI hA M M) hx20 M M))<|.cons (lop M M fun S hA=>(cJ (cs:=q25) M M (lb M) nO aFh mY (by decide) (sv (d:=.fptr q25) (agr hA M M)) (nle M) M))<|.cons (dMv M)<|.cons (dMv M)<|.cons (lop M M fun S hA=>(bQ aE (cs:=q25) M M (lb M) un63 mY (svaL hA M M) (svaI hA M M) hx21 M M))<|.cons (lop M M fun S hA=>(cJ (cs:=q25) M M (lb M) nO aFh mY (by decide) (sv (d:=.fptr q25) (agr hA M M)) (nle M) M))<|.cons (lop M M fun S hA=>(zU M M (lb M) nO st204.1 st204.2 (svaA q25 hA M M) (svaA q25 hA M M) (congrArg some hx22))) ?_
      exact .nil
     refine aK h M (fun h=>?_) (fun h=>?_)
     ·
      refine aC (cAs (.bool false) M<|aB ?_);refine aM<|bM<|aT<|aT<|bM<|aT ?_;obtain rfl:=sj_ h;refine ⟨.inr M,(.cons (sv M) .nil)⟩
     ·
      refine aO<|bW<|aJ ?_;obtain ⟨x24,hx24,h⟩:=bF h;refine aZ (cI M<|aA M (aX M M (lb M) (svI M) (sv (d:=.int _ 1) M) M hx24)<|cAI M<|bN ?_);refine aJ ⟨(n0,x24),(fun i=>i),⟨(.sames M M),.nil,bX [] M (by decide),fun _ _=>M⟩,?_,?_⟩;exact h;exact Nat.lt_succ_self _
    ·
     refine cR<|bP<|bP<|cS<|aJ<|aC (cAs (.bool true) M<|aB ?_);refine aM ?_;obtain rfl:=sj_ h;refine ⟨.inr M,(.cons (sv M) .nil)⟩

theorem xS (a0:aN) (a1:aN) (r:Bool) (h:oC a0 a1=some r):bJ prog 48 [.agg (tv1 a0),.agg (tv1 a1)] (.bool r):=by
 refine aQ (rs:=[.bool r]) func48 M ntmps48 (nle M) M fun O hO=>?_
 show IWP _ _ _ _ ⟨[(0,.agg (tv1 a0)),(1,.agg (tv1 a1))],[]⟩ _
 unfold oC at h;refine aC (cBx (cs:=q12) q12 0 M<|cBx (cs:=q12) q12 1 M<|cAs (.bool false) M<|aB ?_);refine aP ?_;obtain ⟨x1,hx1,h⟩:=bF h;refine aC (cFa 3 un65 M ti62 M<|aA M (lrL la62 M M M M M (nle M) M)<|aA M (bY aD (l:=a0.Pieces) M M (lb M) un62 (svL M))<|cFa 3 un65 M ti62 M<|aA M (lrL la62 M M M M M (nle M) M)<|aA M (bY aD (l:=a1.Pieces) M M (lb M) un62 (svL M))<|cCm M hx1<|aB ?_);refine aK h M (fun h=>?_) (fun h=>?_)
 ·
  refine aC (cAs (.bool false) M<|aB ?_);refine aM<|aT ?_;obtain rfl:=sj_ h;refine ⟨.inr M,(.cons (sv M) .nil)⟩
 ·
  refine aO<|aJ<|aP<|aC (cAs (.int _ 0) M<|aB ?_);refine bD<|cK (α:=Nat×Int) (fun z=>⟨[(2,.ref 0 0),(3,.ref 1 0),(5,.int .i64 z.2)],[(0,.blk 65 (tv1 a0)),(1,.blk 65 (tv1 a1))]⟩) (fun z=>eU a0 a1 z.1 z.2=some r) (fun z=>z.1) (fuel,0) (fun i=>i) ⟨(.sames M M),(.cons (.blk M M M) (.cons (.blk M M M) .nil)),bX [0,1] M (by decide),fun _ _=>M⟩ ?_ ?_
  ·exact h
  ·
   rintro ⟨n0,v10⟩ h
   cases n0 with
   | zero=>exact absurd h (by unfold eU; exact nofun)
   | succ n0 =>
    unfold eU at h;refine aP ?_;obtain ⟨x18,hx18,h⟩:=bF h;refine aC (cI M<|cFa 3 un65 M ti62 M<|aA M (lrL la62 M M M M M (nle M) M)<|aA M (bY aD (l:=a0.Pieces) M M (lb M) un62 (svL M))<|cCm M hx18<|aB ?_);refine aK h M (fun h=>?_) (fun h=>?_)
    ·
     refine aO<|aJ<|aP<|bD ?_;obtain ⟨x20,hx20,x21,hx21,x22,hx22,h⟩:=eood h;refine cC M [nd1 [2] 20 (.ref 0 3),nd2 [20] [0] 21 (.slice false (a0.Pieces.map aD.d)),nd1 [5] 22 (.int .i64 v10),nd1 [21,22] 23 (.fptr (tv8 x20)),nd1 [23] 24 (.agg (tv8 x20)),nd1 [3] 25 (.ref 1 3),nd2 [25] [1] 26 (.slice false (a1.Pieces.map aD.d)),nd1 [5] 27 (.int .i64 v10),nd1 [26,27] 28 (.fptr (tv8 x21)),nd1 [28] 29 (.agg (tv8 x21)),nd1 [24,29] 30 (.bool (!x22))] M ?_ (by kernel_rfl) ?_
     ·refine .cons (dFa 3 un65 M ti62 M)<|.cons (dLd un62 ag62 ti62 M)<|.cons (dMv M)<|.cons (lop M M fun S hA=>(bQ aD (cs:=q20) M M (lb M) un62 ti79 (svaL hA M M) (svaI hA M M) hx20 M M))<|.cons (lop M M fun S hA=>(cJ (cs:=q20) M M (lb M) un79 ag79 ti79 (by decide) (sv (d:=.fptr q20) (agr hA M M)) (nle M) M))<|.cons (dFa 3 un65 M ti62 M)<|.cons (dLd un62 ag62 ti62 M)<|.cons (dMv M)<|.cons (lop M M fun S hA=>(bQ aD (cs:=q20) M M (lb M) un62 ti79 (svaL hA M M) (svaI hA M M) hx21 M M))<|.cons (lop M M fun S hA=>(cJ (cs:=q20) M M (lb M) un79 ag79 ti79 (by decide) (sv (d:=.fptr q20) (agr hA M M)) (nle M) M))<|.cons (lop M M fun S hA=>(zU M M (lb M) un79 st79.1 st79.2 (svaA q20 hA M M) (svaA q20 hA M M) (congrArg some hx22))) ?_
      exact .nil
     refine aK h M (fun h=>?_) (fun h=>?_)
     ·
      refine aC (cAs (.bool false) M<|aB ?_);refine aM<|bM<|aT<|aT<|bM<|aT ?_;obtain rfl:=sj_ h;refine ⟨.inr M,(.cons (sv M) .nil)⟩
     ·
      refine aO<|bW<|aJ ?_;obtain ⟨x24,hx24,h⟩:=bF h;refine aZ (cI M<|aA M (aX M M (lb M) (svI M) (sv (d:=.int _ 1) M) M hx24)<|cAI M<|bN ?_);refine aJ ⟨(n0,x24),(fun i=>i),⟨(.sames M M),(.cons (.blk M M M) (.cons (.blk M M M) .nil)),bX [0,1] M (by decide),fun _ _=>M⟩,?_,?_⟩;exact h;exact Nat.lt_succ_self _
    ·
     refine cR<|bP<|bP<|cS<|aJ ?_;obtain ⟨x25,hx25,x26,hx26,x27,hx27,h⟩:=eddd h;obtain ⟨x28,hx28,x29,hx29,x30,hx30,h⟩:=eddo h;obtain ⟨x31,hx31,x32,hx32,x33,hx33,h⟩:=eddd h;obtain ⟨x34,hx34,x35,hx35,x36,hx36,h⟩:=eddd h;obtain ⟨x37,hx37,x38,hx38,x39,hx39,h⟩:=eddd h;refine aC (cFa 0 un65 M ti3 M<|cLd (d:=.int _ _) un3 ag3 ti3 M<|cFa 0 un65 M ti3 M<|cLd (d:=.int _ _) un3 ag3 ti3 M<|cCm M hx25<|cB M<|gG M (fun hb=>(tFa 1 un65 M ti9 M))<|gG M (fun hb=>(tLc (d:=.str _) un9 ag9 ti9 M hb))<|gG M (fun hb=>(tFa 1 un65 M ti9 M))<|gG M (fun hb=>(tLc (d:=.str _) un9 ag9 ti9 M hb))<|gG M (fun hb=>(mA M M (lb M) (svc (d:=.str _) M hb) (svc (d:=.str _) M hb) M hx26))<|cAn M hx27<|cB M<|gG M (fun hb=>(tFa 2 un65 M ti3 M))<|gG M (fun hb=>(tLc (d:=.int _ _) un3 ag3 ti3 M hb))<|gG M (fun hb=>(tFa 2 un65 M ti3 M))<|gG M (fun hb=>(tLc (d:=.int _ _) un3 ag3 ti3 M hb))<|gG M (fun hb=>(tCh M hb hx28))<|cAn M hx29<|cB M<|gG M (fun hb=>(tFa 4 un65 M ti63 M))<|gG M (fun hb=>(tLc (d:=.slice _ _) un63 ag63 ti63 M hb))<|gG M (fun hb=>(tFa 4 un65 M ti63 M))<|gG M (fun hb=>(tLc (d:=.slice _ _) un63 ag63 ti63 M hb))<|gG M (fun hb=>(aL (r:=.bool _) M M (lb M) cl101 (.cons (svcL M hb) (.cons (svcL M hb) .nil)) M (yC _ _ _ (gd_t hx30 hb))))<|cAn M hx31<|cB M<|gG M (fun hb=>(tFa 5 un65 M ti4 M))<|gG M (fun hb=>(tLc (d:=.bool _) un4 ag4 ti4 M hb))<|gG M (fun hb=>(tFa 5 un65 M ti4 M))<|gG M (fun hb=>(tLc (d:=.bool _) un4 ag4 ti4 M hb))<|gG M (fun hb=>(rY M M (lb M) un4 (svcB M hb) (svcB M hb) hx32))<|cAn M hx33<|cB M<|gG M (fun hb=>(tFa 6 un65 M ti4 M))<|gG M (fun hb=>(tLc (d:=.bool _) un4 ag4 ti4 M hb))<|gG M (fun hb=>(tFa 6 un65 M ti4 M))<|gG M (fun hb=>(tLc (d:=.bool _) un4 ag4 ti4 M hb))<|gG M (fun hb=>(rY M M (lb M) un4 (svcB M hb) (svcB M hb) hx34))<|cAn M hx35<|cB M<|gG M (fun hb=>(tFa 7 un65 M ti4 M))<|gG M (fun hb=>(tLc (d:=.bool _) un4 ag4 ti4 M hb))<|gG M (fun hb=>(tFa 7 un65 M ti4 M))<|gG M (fun hb=>(tLc (d:=.bool _) un4 ag4 ti4 M hb))<|gG M (fun hb=>(rY M M (lb M) un4 (svcB M hb) (svcB M hb) hx36))<|cAn M hx37<|cB M<|gG M (fun hb=>(tFa 8 un65 M ti4 M))<|gG M (fun hb=>(tLc (d:=.bool _) un4 ag4 ti4 M hb))<|gG M (fun hb=>(tFa 8 un65 M ti4 M))<|gG M (fun hb=>(tLc (d:=.bool _) un4 ag4 ti4 M hb))<|gG M (fun hb=>(rY M M (lb M) un4 (svcB M hb) (svcB M hb) hx38))<|cAn M hx39<|cAB M<|aB ?_);refine aM ?_;obtain rfl:=sj_ h;refine ⟨.inr M,(.cons (sv M) .nil)⟩

theorem xZ (a0:aW) (a1:aW) (r:Bool) (h:oF a0 a1=some r):bJ prog 102 [.agg (tv5 a0),.agg (tv5 a1)] (.bool r):=by
 refine aQ (rs:=[.bool r]) func102 M ntmps102 (nle M) M fun O hO=>?_
 show IWP _ _ _ _ ⟨[(0,.agg (tv5 a0)),(1,.agg (tv5 a1))],[]⟩ _
 unfold oF at h;refine aC (cBx (cs:=q22) q22 0 M<|cBx (cs:=q22) q22 1 M<|cAs (.bool false) M<|aB ?_);refine aP ?_;obtain ⟨x1,hx1,h⟩:=bF h;refine aC (cFa 2 un68 M ti66 M<|aA M (lrL la66 M M M M M (nle M) M)<|aA M (bY aF (l:=a0.Parts) M M (lb M) un66 (svL M))<|cFa 2 un68 M ti66 M<|aA M (lrL la66 M M M M M (nle M) M)<|aA M (bY aF (l:=a1.Parts) M M (lb M) un66 (svL M))<|cCm M hx1<|aB ?_);refine aK h M (fun h=>?_) (fun h=>?_)
 ·
  refine aC (cAs (.bool false) M<|aB ?_);refine aM<|aT ?_;obtain rfl:=sj_ h;refine ⟨.inr M,(.cons (sv M) .nil)⟩
 ·
  refine aO<|aJ<|aP<|aC (cAs (.int _ 0) M<|aB ?_);refine bD<|cK (α:=Nat×Int) (fun z=>⟨[(2,.ref 0 0),(3,.ref 1 0),(5,.int .i64 z.2)],[(0,.blk 68 (tv5 a0)),(1,.blk 68 (tv5 a1))]⟩) (fun z=>eW a0 a1 z.1 z.2=some r) (fun z=>z.1) (fuel,0) (fun i=>i) ⟨(.sames M M),(.cons (.blk M M M) (.cons (.blk M M M) .nil)),bX [0,1] M (by decide),fun _ _=>M⟩ ?_ ?_
  ·exact h
  ·
   rintro ⟨n0,v10⟩ h
   cases n0 with
   | zero=>exact absurd h (by unfold eW; exact nofun)
   | succ n0 =>
    unfold eW at h;refine aP ?_;obtain ⟨x18,hx18,h⟩:=bF h;refine aC (cI M<|cFa 2 un68 M ti66 M<|aA M (lrL la66 M M M M M (nle M) M)<|aA M (bY aF (l:=a0.Parts) M M (lb M) un66 (svL M))<|cCm M hx18<|aB ?_);refine aK h M (fun h=>?_) (fun h=>?_)
    ·
     refine aO<|aJ<|aP<|bD ?_;obtain ⟨x20,hx20,x21,hx21,x22,hx22,h⟩:=eood h;refine cC M [nd1 [2] 20 (.ref 0 2),nd2 [20] [0] 21 (.slice false (a0.Parts.map aF.d)),nd1 [5] 22 (.int .i64 v10),nd1 [21,22] 23 (.fptr [.int .i64 x20.At,.str x20.Data]),nd1 [23] 24 (.agg [.int .i64 x20.At,.str x20.Data]),nd1 [3] 25 (.ref 1 2),nd2 [25] [1] 26 (.slice false (a1.Parts.map aF.d)),nd1 [5] 27 (.int .i64 v10),nd1 [26,27] 28 (.fptr [.int .i64 x21.At,.str x21.Data]),nd1 [28] 29 (.agg [.int .i64 x21.At,.str x21.Data]),nd1 [24,29] 30 (.bool (!x22))] M ?_ (by kernel_rfl) ?_
     ·refine .cons (dFa 2 un68 M ti66 M)<|.cons (dLd un66 ag66 ti66 M)<|.cons (dMv M)<|.cons (lop M M fun S hA=>(bQ aF (cs:=q27) M M (lb M) un66 lX (svaL hA M M) (svaI hA M M) hx20 M M))<|.cons (lop M M fun S hA=>(cJ (cs:=q27) M M (lb M) pB aFg lX (by decide) (sv (d:=.fptr q27) (agr hA M M)) (nle M) M))<|.cons (dFa 2 un68 M ti66 M)<|.cons (dLd un66 ag66 ti66 M)<|.cons (dMv M)<|.cons (lop M M fun S hA=>(bQ aF (cs:=q27) M M (lb M) un66 lX (svaL hA M M) (svaI hA M M) hx21 M M))<|.cons (lop M M fun S hA=>(cJ (cs:=q27) M M (lb M) pB aFg lX (by decide) (sv (d:=.fptr q27) (agr hA M M)) (nle M) M))<|.cons (lop M M fun S hA=>(zU M M (lb M) pB st208.1 st208.2 (svaA q27 hA M M) (svaA q27 hA M M) (congrArg some hx22))) ?_
      exact .nil
     refine aK h M (fun h=>?_) (fun h=>?_)
     ·
      refine aC (cAs (.bool false) M<|aB ?_);refine aM<|bM<|aT<|aT<|bM<|aT ?_;obtain rfl:=sj_ h;refine ⟨.inr M,(.cons (sv M) .nil)⟩
     ·
      refine aO<|bW<|aJ ?_;obtain ⟨x24,hx24,h⟩:=bF h;refine aZ (cI M<|aA M (aX M M (lb M) (svI M) (sv (d:=.int _ 1) M) M hx24)<|cAI M<|bN ?_);refine aJ ⟨(n0,x24),(fun i=>i),⟨(.sames M M),(.cons (.blk M M M) (.cons (.blk M M M) .nil)),bX [0,1] M (by decide),fun _ _=>M⟩,?_,?_⟩;exact h;exact Nat.lt_succ_self _
    ·
     refine cR<|bP<|bP<|cS<|aJ ?_;obtain ⟨x25,hx25,x26,hx26,x27,hx27,h⟩:=eddd h;refine aC (cFa 0 un68 M ti3 M<|cLd (d:=.int _ _) un3 ag3 ti3 M<|cFa 0 un68 M ti3 M<|cLd (d:=.int _ _) un3 ag3 ti3 M<|cCm M hx25<|cB M<|gG M (fun hb=>(tFa 1 un68 M ti9 M))<|gG M (fun hb=>(tLc (d:=.str _) un9 ag9 ti9 M hb))<|gG M (fun hb=>(tFa 1 un68 M ti9 M))<|gG M (fun hb=>(tLc (d:=.str _) un9 ag9 ti9 M hb))<|gG M (fun hb=>(mA M M (lb M) (svc (d:=.str _) M hb) (svc (d:=.str _) M hb) M hx26))<|cAn M hx27<|cAB M<|aB ?_);refine aM ?_;obtain rfl:=sj_ h;refine ⟨.inr M,(.cons (sv M) .nil)⟩

theorem xP (a0:bE) (a1:bE) (r:Bool) (h:mH a0 a1=some r):bJ prog 49 [.agg (tv4 a0),.agg (tv4 a1)] (.bool r):=by
 refine aQ (rs:=[.bool r]) func49 M ntmps49 (nle M) M fun O hO=>?_
 show IWP _ _ _ _ ⟨[(0,.agg (tv4 a0)),(1,.agg (tv4 a1))],[]⟩ _
 unfold mH at h;refine aC (cBx (cs:=q19) q19 0 M<|cBx (cs:=q19) q19 1 M<|cAs (.bool false) M<|aB ?_);obtain ⟨x1,hx1,x2,hx2,x3,hx3,h⟩:=eodd h;refine aC (cFa 0 un70 M ti68 M<|cLr q22 la68 M<|cFa 0 un70 M ti68 M<|cLr q22 la68 M<|aA M (aL (r:=.bool _) M M (lb M) cl102 (.cons (svA q22 M) (.cons (svA q22 M) .nil)) M (xZ _ _ _ hx1))<|cB M<|gG M (fun hb=>(tFa 3 un70 M ti3 M))<|gG M (fun hb=>(tLc (d:=.int _ _) un3 ag3 ti3 M hb))<|gG M (fun hb=>(tFa 3 un70 M ti3 M))<|gG M (fun hb=>(tLc (d:=.int _ _) un3 ag3 ti3 M hb))<|gG M (fun hb=>(tCh M hb hx2))<|cAn M hx3<|cAB M<|aB ?_);refine aM ?_;obtain rfl:=sj_ h;refine ⟨.inr M,(.cons (sv M) .nil)⟩

theorem pH (a0:aH) (a1:aH) (r:Bool) (h:fG a0 a1=some r):bJ prog 16 [.agg (tv0 a0),.agg (tv0 a1)] (.bool r):=by
 refine aQ (rs:=[.bool r]) func16 M ntmps16 (nle M) M fun O hO=>?_
 show IWP _ _ _ _ ⟨[(0,.agg (tv0 a0)),(1,.agg (tv0 a1))],[]⟩ _
 unfold fG at h;refine aC (cBx (cs:=q10) q10 0 M<|cBx (cs:=q10) q10 1 M<|cAs (.bool false) M<|aB ?_);obtain ⟨x1,hx1,x2,hx2,x3,hx3,h⟩:=edod h;obtain ⟨x4,hx4,x5,hx5,x6,hx6,h⟩:=eodd h;obtain ⟨x7,hx7,x8,hx8,x9,hx9,h⟩:=eddd h;obtain ⟨x10,hx10,x11,hx11,x12,hx12,h⟩:=eddd h;obtain ⟨x13,hx13,h⟩:=bF h;refine aC (cFa 0 un73 M ti3 M<|cLd (d:=.int _ _) un3 ag3 ti3 M<|cFa 0 un73 M ti3 M<|cLd (d:=.int _ _) un3 ag3 ti3 M<|cCm M hx1<|cB M<|gG M (fun hb=>(tFa 1 un73 M ti65 M))<|gG M (fun hb=>(bS (cs:=q12) M M (lb M) un65 ag65 ti65 (by decide) (svcR M hb) M (nle M) M))<|gG M (fun hb=>(tFa 1 un73 M ti65 M))<|gG M (fun hb=>(bS (cs:=q12) M M (lb M) un65 ag65 ti65 (by decide) (svcR M hb) M (nle M) M))<|gG M (fun hb=>(aL (r:=.bool _) M M (lb M) cl48 (.cons (svcA (tv1 a0.Send) M hb) (.cons (svcA (tv1 a1.Send) M hb) .nil)) M (xS _ _ _ (gd_t hx2 hb))))<|cAn M hx3<|cB M<|gG M (fun hb=>(tFa 10 un73 M ti70 M))<|gG M (fun hb=>(bS (cs:=q19) M M (lb M) un70 ag70 ti70 (by decide) (svcR M hb) M (nle M) M))<|gG M (fun hb=>(tFa 10 un73 M ti70 M))<|gG M (fun hb=>(bS (cs:=q19) M M (lb M) un70 ag70 ti70 (by decide) (svcR M hb) M (nle M) M))<|gG M (fun hb=>(aL (r:=.bool _) M M (lb M) cl49 (.cons (svcA (tv4 a0.Recv) M hb) (.cons (svcA (tv4 a1.Recv) M hb) .nil)) M (xP _ _ _ (gd_t hx4 hb))))<|cAn M hx5<|cB M<|gG M (fun hb=>(tFa 14 un73 M ti71 M))<|gG M (fun hb=>(bS (cs:=q18) M M (lb M) un71 ag71 ti71 (by decide) (svcR M hb) M (nle M) M))<|gG M (fun hb=>(tFa 14 un73 M ti71 M))<|gG M (fun hb=>(bS (cs:=q18) M M (lb M) un71 ag71 ti71 (by decide) (svcR M hb) M (nle M) M))<|gG M (fun hb=>(aBv M M (lb M) un71 st71.1 st71.2 (svcA (tv6 a0.Out) M hb) (svcA (tv6 a1.Out) M hb) (congrArg some hx6)))<|cAn M hx7<|cB M<|gG M (fun hb=>(tFa 18 un73 M ti71 M))<|gG M (fun hb=>(bS (cs:=q18) M M (lb M) un71 ag71 ti71 (by decide) (svcR M hb) M (nle M) M))<|gG M (fun hb=>(tFa 18 un73 M ti71 M))<|gG M (fun hb=>(bS (cs:=q18) M M (lb M) un71 ag71 ti71 (by decide) (svcR M hb) M (nle M) M))<|gG M (fun hb=>(aBv M M (lb M) un71 st71.1 st71.2 (svcA (tv6 a0.In) M hb) (svcA (tv6 a1.In) M hb) (congrArg some hx8)))<|cAn M hx9<|cB M<|gG M (fun hb=>(tFa 22 un73 M ti3 M))<|gG M (fun hb=>(tLc (d:=.int _ _) un3 ag3 ti3 M hb))<|gG M (fun hb=>(tFa 22 un73 M ti3 M))<|gG M (fun hb=>(tLc (d:=.int _ _) un3 ag3 ti3 M hb))<|gG M (fun hb=>(tCh M hb hx10))<|cAn M hx11<|cB M<|gG M (fun hb=>(tFa 23 un73 M ti3 M))<|gG M (fun hb=>(tLc (d:=.int _ _) un3 ag3 ti3 M hb))<|gG M (fun hb=>(tFa 23 un73 M ti3 M))<|gG M (fun hb=>(tLc (d:=.int _ _) un3 ag3 ti3 M hb))<|gG M (fun hb=>(tCh M hb hx12))<|cAn M hx13<|cAB M<|aB ?_);refine aM ?_;obtain rfl:=sj_ h;refine ⟨.inr M,(.cons (sv M) .nil)⟩

theorem aCK (a0:aN) (r:aN) (h:sN a0=some r):bJ prog 91 [.agg (tv1 a0)] (.agg (tv1 r)):=by
 refine fC (rs:=[.agg (tv1 r)]) func91 M ntmps91 (nle M) M fun O hO=>?_
 show IWP _ _ _ _ ⟨[(0,.agg (tv1 a0))],[]⟩ _
 unfold sN at h;refine aC (cBx (cs:=q12) q12 0 M<|aA M (aR (cs:=q15) (cs':=zs0) 1 M M (lb M) M ti37 M M (.k (.k (.k (.cons (.nils _) (.cons (.nils _) (.all _)))))))<|aB ?_);obtain ⟨x1,hx1,h⟩:=bR h;refine aC (cLr q12 la37 M<|aA M (fR (r':=.agg (w45 x1.1 x1.2.1 x1.2.2.1 (.osl 2 aD.sz x1.2.2.2.1.length) x1.2.2.2.2.1 x1.2.2.2.2.2.1 x1.2.2.2.2.2.2.1 x1.2.2.2.2.2.2.2.1 x1.2.2.2.2.2.2.2.2)) (H1':=[(2,.blk 105 (D.flat (x1.2.2.2.1.map aD.d)))]) 2 [] M M (lb M) aFa (.cons (svA q12 M) .nil) M M ⟨M,M,by decide,M,List.forall_mem_nil _⟩ (kH _ _ hx1) M M (List.forall_mem_cons.2 ⟨⟨M,(mX aD)⟩,List.forall_mem_nil _⟩) (by simp only [List.map_cons,List.map_nil,Ent.ren,iF,kC]; rfl))<|aA M (aR (cs:=q15) (cs':=zs0) 3 M M (lb M) M ti37 M M (.k (.k (.k (.cons (.nils _) (.cons (.nils _) (.all _)))))))<|cSt q13 q13 ti37 M<|aB ?_);obtain ⟨x2,hx2,x3,hx3,x4,hx4,h⟩:=eodd h;refine aC (cFa 5 un37 M ti4 M<|cLd (d:=.bool _) un4 ag4 ti4 M<|cB M<|gG M (fun hb=>(tLr q12 la37 M))<|gG M (fun hb=>(aL (r:=.int _ _) M M (lb M) aDP (.cons (svcA (tv1 a0) M hb) .nil) M (nK _ _ (gd_t hx2 hb))))<|gG M (fun hb=>(tCg (b:=0) M hb hx3))<|cOr M hx4<|cFa 5 un37 M ti4 M<|aA M (bK (ds':=q13) M M ti4 (svR M) M (svB M) M M M (nle M) M)<|aB ?_);refine aC (cLr q13 la37 M<|cSt q13 q13 ti37 M<|aB ?_);refine aM ?_;obtain rfl:=sj_ h;refine ⟨.inr M,_,(.cons (rva la37 M M (nle M) M) .nil),(.cons (.agg (.k (.k (.k (.cons (FDT aD M M) (.all _)))))) .nil)⟩

theorem aCI (a0:aH) (r:(aH×Int)) (h:sK a0=some r):bJ prog 36 [.agg (tv0 a0)] (retD [.agg (tv0 r.1),.int .i64 r.2]):=by
 refine aQ (rs:=[.agg (tv0 r.1),.int .i64 r.2]) func36 M ntmps36 (nle M) M fun O hO=>?_
 show IWP _ _ _ _ ⟨[(0,.agg (tv0 a0))],[]⟩ _
 unfold sK at h;refine aC (cBx (cs:=q10) q10 0 M<|aA M (aR (cs:=q11) (cs':=zs2) 1 M M (lb M) M ti46 M M (.k4 (.cons (.nils _) (.cons (.nils _) (.k4 (.k (.k (.cons (.nils _) (.all _)))))))))<|cAs (.int _ 0) M<|aB ?_);refine aP ?_;obtain ⟨x1,hx1,h⟩:=bR h;refine aC (cLr q10 la46 M<|aA M (aL (r:=.int _ _) M M (lb M) cl82 (.cons (svA q10 M) .nil) M (sS _ _ hx1))<|cAI M<|aB ?_);obtain ⟨x2,hx2,h⟩:=bF h;refine aC (cI M<|cCm (b:=0) M hx2<|aB ?_);refine aK h M (fun h=>?_) (fun h=>?_)
 ·
  refine aC (cLr q10 la46 M<|cI M<|cSt q10 q10 ti46 M<|cAI M<|aB ?_);refine aM<|aT ?_;obtain rfl:=sj_ h;refine ⟨.inr M,(.cons (rva la46 M M (nle M) M) (.cons (sv M) .nil))⟩
 ·
  refine aO<|aJ ?_;obtain ⟨x4,hx4,h⟩:=bR h;refine aC (cFa 1 un46 M ti37 M<|cLr q12 la37 M<|aA M (aL (r:=.agg q12) M M (lb M) cl91 (.cons (svA q12 M) .nil) M (aCK _ _ hx4))<|cFa 1 un46 M ti37 M<|cSt q12 q10 ti37 M<|aB ?_);refine aC (cLr q10 la46 M<|cSt q10 q10 ti46 M<|cAs (.int _ 0) M<|aB ?_);refine aM ?_;obtain rfl:=sj_ h;refine ⟨.inr M,(.cons (rva la46 M M (nle M) M) (.cons (sv M) .nil))⟩

theorem yJ (a0:aI) (r:Bool) (h:rF a0=some r):bJ prog 140 [.agg (tv8 a0)] (.bool r):=by
 refine aQ (rs:=[.bool r]) func140 M ntmps140 (nle M) M fun O hO=>?_
 show IWP _ _ _ _ ⟨[(0,.agg (tv8 a0))],[]⟩ _
 unfold rF at h;refine aC (cBx (cs:=q20) q20 0 M<|cAs (.bool false) M<|aB ?_);obtain ⟨x1,hx1,x2,hx2,h⟩:=edd h;refine aC (cFa 0 fL M ti3 M<|cLd (d:=.int _ _) un3 ag3 ti3 M<|cFa 1 fL M ti3 M<|cLd (d:=.int _ _) un3 ag3 ti3 M<|cCm M hx1<|cB M<|gG M (fun hb=>(tFa 3 fL M ti4 M))<|gG M (fun hb=>(tLc (d:=.bool _) un4 ag4 ti4 M hb))<|gG M (fun hb=>(cV M M (lb M) (svcB M hb)))<|cAn M hx2<|cAB M<|aB ?_);refine aM ?_;obtain rfl:=sj_ h;refine ⟨.inr M,(.cons (sv M) .nil)⟩

theorem kM (a0:(List aI)) (r:Int) (h:dX a0=some r):bJ prog 176 [.slice false (a0.map aD.d),.fn 140 []] (.int .i64 r):=by
 refine aQ (rs:=[.int .i64 r]) func176 M ntmps176 (nle M) M fun O hO=>?_
 show IWP _ _ _ _ ⟨[(0,.slice false (a0.map aD.d)),(1,.fn 140 [])],[]⟩ _
 unfold dX at h;refine aC (cAs (.int _ 0) M<|aB ?_);refine aP<|aC (aA M (mvL M M M M)<|aA M (bY aD (l:=a0) M M (lb M) un33 (svL M))<|cMv (.int _ 0) M<|aB ?_);refine bD<|cK (α:=Nat×Int) (fun z=>⟨[(0,.slice false (a0.map aD.d)),(1,.fn 140 []),(7,.int .i64 (a0.length:Int)),(8,.int .i64 z.2)],[]⟩) (fun z=>cM a0 z.1 z.2=some r) (fun z=>z.1) (fuel,0) (fun i=>i) ⟨(.sames M M),.nil,bX [] M (by decide),fun _ _=>M⟩ ?_ ?_
 ·exact h
 ·
  rintro ⟨n0,v7⟩ h
  cases n0 with
  | zero=>exact absurd h (by unfold cM; exact nofun)
  | succ n0 =>
   unfold cM at h;obtain ⟨x14,hx14,h⟩:=bF h;refine aC (cCm M hx14<|aB ?_);refine aP<|aK h M (fun h=>?_) (fun h=>?_)
   ·
    refine aO<|aJ<|aP<|bD<|aC (cI M<|cAI M<|aB ?_);obtain ⟨x16,hx16,x17,hx17,h⟩:=eoo h;refine aC (cMv (.fn 140 []) M<|aA M (mvL M M M M)<|cI M<|aA M (bQ aD (cs:=q20) M M (lb M) un33 dH (svL M) (svI M) hx16 M M)<|aA M (cJ (cs:=q20) M M (lb M) fL sG dH (by decide) (sv (d:=.fptr q20) M) (nle M) M)<|aA M (tC (r:=.bool _) M M (lb M) cl140 (sv (d:=.fn 140 []) M) (.cons (svA q20 M) .nil) M (yJ _ _ hx17))<|aB ?_);refine aK h M (fun h=>?_) (fun h=>?_)
    ·
     refine aC (cI M<|cAI M<|aB ?_);refine aM<|bM<|aT<|aT<|bM<|aT ?_;obtain rfl:=sj_ h;refine ⟨.inr M,(.cons (sv M) .nil)⟩
    ·
     refine aO<|bW<|aJ ?_;obtain ⟨x19,hx19,h⟩:=bF h;refine aZ (aA M (aX M M (lb M) (svI M) (sv (d:=.int _ 1) M) M hx19)<|cI M<|bN ?_);refine aJ ⟨(n0,x19),(fun i=>i),⟨(.sames M M),.nil,bX [] M (by decide),fun _ _=>M⟩,?_,?_⟩;exact h;exact Nat.lt_succ_self _
   ·
    refine cR<|bP<|bP<|cS<|aJ<|aC (cAs (.int _ (-1)) M<|aB ?_);refine aM ?_;obtain rfl:=sj_ h;refine ⟨.inr M,(.cons (sv M) .nil)⟩

theorem jM (a0:(List aI)) (r:(List aI)) (h:cZ a0=some r):FnH prog 139 [.osl 1000 aD.sz a0.length,.fn 140 []] [(1000,.blk 105 (D.flat (a0.map aD.d)))] (.osl 0 aD.sz r.length) [(0,.blk 105 (D.flat (r.map aD.d)))]:=by
 refine gE (rs:=[.osl 0 aD.sz r.length]) func139 M ntmps139 (nle M) fun O hO=>?_
 show IWP _ _ _ _ ⟨[(0,.osl 1000 aD.sz a0.length),(1,.fn 140 [])],[(1000,.blk 105 (D.flat (a0.map aD.d)))]⟩ _
 unfold cZ at h;refine aC (cAs (.nils) M<|aB ?_);obtain ⟨x1,hx1,h⟩:=bR h;refine aC (cMv (.osl _ _ _) M<|cMv (.fn 140 []) M<|aA M (yT (r:=.int .i64 x1) M M (lb M) cl176 (.cons (sv (d:=.osl _ _ _) M) (.cons (sv (d:=.fn 140 []) M) .nil)) (.cons (FDT aD M M) (.all _)) M M (kM _ _ hx1))<|cAI M<|aB ?_);refine aP ?_;obtain ⟨x2,hx2,h⟩:=bF h;refine aC (cI M<|cCm (b:=(-1)) M hx2<|aB ?_);refine aK h M (fun h=>?_) (fun h=>?_)
 ·
  refine aC (cMv (.osl _ _ _) M<|cAs (.osl _ _ _) M<|aB ?_);refine aM<|aT ?_;obtain rfl:=sj_ h;refine ⟨.inr M,(fun i=>if i=0 then 1000 else i),⟨.nil,(.cons (EntW.lst M) .nil),bX [1000] M (by decide),(fun i hi=>by first | rfl | (show (if _ then _ else _)=_; (repeat' split) <;> omega))⟩,(.cons (sv M) .nil),M⟩
 ·
  refine aO<|aJ<|aP ?_;obtain ⟨x4,hx4,h⟩:=bF h;refine aC (cI M<|aA M (aX M M (lb M) (svI M) (sv (d:=.int _ 1) M) M hx4)<|cAI M<|aB ?_);refine bD<|cK (α:=Nat×(List aI)×Int×Int) (fun z=>⟨[(0,.osl 1000 aD.sz z.2.1.length),(1,.fn 140 []),(5,.int .i64 z.2.2.1),(6,.int .i64 z.2.2.2)],[(1000,.blk 105 (D.flat (z.2.1.map aD.d)))]⟩) (fun z=>cA z.1 z.2.1 z.2.2.1 z.2.2.2=some r) (fun z=>z.1) (fuel,a0,x1,x4) (fun i=>i) ⟨(.sames M M),(.cons (EntW.lst M) .nil),bX [1000] M (by decide),fun _ _=>M⟩ ?_ ?_
  ·exact h
  ·
   rintro ⟨n0,v17,v18,v19⟩ h
   cases n0 with
   | zero=>exact absurd h (by unfold cA; exact nofun)
   | succ n0 =>
    unfold cA at h;refine aP ?_;obtain ⟨x32,hx32,h⟩:=bF h;refine aC (cI M<|cMv (.osl _ _ _) M<|aA M (tS M M (lb M) un33 (sv (d:=.osl _ _ _) M))<|cCm M hx32<|aB ?_);refine aK h M (fun h=>?_) (fun h=>?_)
    ·
     refine aO<|aJ<|aP<|bD ?_;obtain ⟨x34,hx34,x35,hx35,h⟩:=eoo h;refine aC (cMv (.osl _ _ _) M<|cI M<|aA M (jJ aD.toEnc0 M M (lb M) un33 dH (sv (d:=.osl _ _ _) M) M (svI M) hx34)<|aA M (vI aD.toEnc0 (cs:=q20) M M (lb M) fL sG dH (by decide) (svR M) M hx35 (nle M) M)<|aA M (aR (cs:=q20) (cs':=(w49 0 0 0 false)) 0 M M (lb M) M dH M M (.all _))<|cSt q20 q20 dH M<|aB ?_);obtain ⟨x36,hx36,h⟩:=bR h;refine aC (cMv (.fn 140 []) M<|cLr q20 yO M<|aA M (tC (r:=.bool _) M M (lb M) cl140 (sv (d:=.fn 140 []) M) (.cons (svA q20 M) .nil) M (yJ _ _ hx36))<|aA M (cV M M (lb M) (svB M))<|aB ?_);refine aK h M (fun h=>?_) (fun h=>?_)
     ·
      obtain ⟨x38,hx38,x39,hx39,x40,hx40,h⟩:=eood h;refine aC (cMv (.osl _ _ _) M<|cI M<|cLr q20 yO M<|aA M (jJ aD.toEnc0 M M (lb M) un33 dH (sv (d:=.osl _ _ _) M) M (svI M) hx38)<|aA M (pA aD.toEnc0 (a':=x35) M M dH (svR M) M (svA q20 M) M M M hx39 (nle M) M hx40)<|aB ?_);obtain ⟨x41,hx41,h⟩:=bF h;refine aZ (cI M<|aA M (aX M M (lb M) (svI M) (sv (d:=.int _ 1) M) M hx41)<|cAI M<|bN ?_);refine bW<|aJ ?_;obtain ⟨x42,hx42,h⟩:=bF h;refine aZ (cI M<|aA M (aX M M (lb M) (svI M) (sv (d:=.int _ 1) M) M hx42)<|cAI M<|bN ?_);refine aJ ⟨(n0,x40,x41,x42),(fun i=>i),⟨(.cons (.same (congrArg (D.osl _ _) (uW hx40 M).symm) M) (.sames M M)),(.cons (EntW.lst M) .nil),bX [1000] M (by decide),fun _ _=>M⟩,?_,?_⟩;exact h;exact Nat.lt_succ_self _
     ·
      refine aO<|bW<|aJ ?_;obtain ⟨x43,hx43,h⟩:=bF h;refine aZ (cI M<|aA M (aX M M (lb M) (svI M) (sv (d:=.int _ 1) M) M hx43)<|cAI M<|bN ?_);refine aJ ⟨(n0,v17,v18,x43),(fun i=>i),⟨(.sames M M),(.cons (EntW.lst M) .nil),bX [1000] M (by decide),fun _ _=>M⟩,?_,?_⟩;exact h;exact Nat.lt_succ_self _
    ·
     refine cR<|bP<|bP<|cS<|aJ ?_;obtain ⟨x44,hx44,h⟩:=bR h;refine aC (cMv (.osl _ _ _) M<|cI M<|aAx aD.toEnc0 M M M M (by decide) M M un33 dH M M M M M (fun S1 h9=>sv ((h9 37 (by decide)).trans M)) hx44<|aB ?_);obtain ⟨x45,hx45,h⟩:=bR h;refine aC (cMv (.osl _ _ _) M<|cI M<|aA M (aBI aD.toEnc0 M M (lb M) un33 dH (sv (d:=.osl _ _ _) M) M (Nat.le_trans (aGh hx44) (Nat.le_of_eq M)) (svI M) hx45)<|cAs (.osl _ _ _) M<|aB ?_);refine aM ?_;obtain rfl:=sj_ h;refine ⟨.inr M,(fun i=>if i=0 then 1000 else i),⟨.nil,(.cons (EntW.lst M) .nil),bX [1000] M (by decide),(fun i hi=>by first | rfl | (show (if _ then _ else _)=_; (repeat' split) <;> omega))⟩,(.cons (sv M) .nil),M⟩

theorem aC7 (a0:aN) (a1:Int) (a2:Bool) (r:aN) (h:uL a0 a1 a2=some r):bJ prog 93 [.agg (tv1 a0),.int .i64 a1,.bool a2] (.agg (tv1 r)):=by
 refine fC (rs:=[.agg (tv1 r)]) func93 M ntmps93 (nle M) M fun O hO=>?_
 show IWP _ _ _ _ ⟨[(0,.agg (tv1 a0)),(1,.int .i64 a1),(2,.bool a2)],[]⟩ _
 unfold uL at h;refine aC (cBx (cs:=q12) q12 0 M<|aA M (aR (cs:=q15) (cs':=zs0) 1 M M (lb M) M ti37 M M (.k (.k (.k (.cons (.nils _) (.cons (.nils _) (.all _)))))))<|aB ?_);obtain ⟨x1,hx1,h⟩:=bR h;refine aC (cLr q12 la37 M<|aA M (fR (r':=.agg (w45 x1.1 x1.2.1 x1.2.2.1 (.osl 2 aD.sz x1.2.2.2.1.length) x1.2.2.2.2.1 x1.2.2.2.2.2.1 x1.2.2.2.2.2.2.1 x1.2.2.2.2.2.2.2.1 x1.2.2.2.2.2.2.2.2)) (H1':=[(2,.blk 105 (D.flat (x1.2.2.2.1.map aD.d)))]) 2 [] M M (lb M) aFa (.cons (svA q12 M) .nil) M M ⟨M,M,by decide,M,List.forall_mem_nil _⟩ (kH _ _ hx1) M M (List.forall_mem_cons.2 ⟨⟨M,(mX aD)⟩,List.forall_mem_nil _⟩) (by simp only [List.map_cons,List.map_nil,Ent.ren,iF,kC]; rfl))<|aA M (aR (cs:=q15) (cs':=zs0) 3 M M (lb M) M ti37 M M (.k (.k (.k (.cons (.nils _) (.cons (.nils _) (.all _)))))))<|cSt q13 q13 ti37 M<|aB ?_);refine aP ?_;obtain ⟨x2,hx2,x3,hx3,x4,hx4,h⟩:=eodd h;obtain ⟨x5,hx5,x6,hx6,x7,hx7,h⟩:=eddd h;obtain ⟨x8,hx8,x9,hx9,x10,hx10,h⟩:=eodd h;obtain ⟨x11,hx11,x12,hx12,h⟩:=edd h;refine aC (cLr q12 la37 M<|aA M (aL (r:=.int _ _) M M (lb M) aDP (.cons (svA q12 M) .nil) M (nK _ _ hx2))<|cCm (b:=0) M hx3<|cB M<|gG M (fun hb=>(tI M))<|gG M (fun hb=>(tCg (b:=0) M hb hx4))<|cOr M hx5<|cB M<|gG M (fun hb=>(tI M))<|gG M (fun hb=>(tFa 2 un37 M ti3 M))<|gG M (fun hb=>(tLc (d:=.int _ _) un3 ag3 ti3 M hb))<|gG M (fun hb=>(tCh M hb hx6))<|cOr M hx7<|cB M<|gG M (fun hb=>(tB M))<|gG M (fun hb=>(bI M M (lb M) (svcB M hb)))<|cG M M (.two M) M (by decide) (fun hb=>(tI M))<|cG M M (.two M) M (by decide) (fun hb=>(tLr q12 la37 M))<|cG M M (.two M) M (by decide) (fun hb=>(aL (r:=.int _ _) M M (lb M) aCp (.cons (svcA (tv1 a0) M hb) .nil) M (gP _ _ (gd_t hx8 hb))))<|cG M M (.two M) M (by decide) (fun hb=>(tCh M hb hx9))<|cG M M (.two M) M (by decide) (fun hb=>(bI M M (lb M) (svcB M hb)))<|cG M M (.two M) M (by decide) (fun hb=>(tFa 6 un37 M ti4 M))<|cG M M (.two M) M (by decide) (fun hb=>(tLc (d:=.bool _) un4 ag4 ti4 M hb))<|cG M M (.two M) M (by decide) (fun hb=>(cV M M (lb M) (svcB M hb)))<|cG M M (.two M) M (by decide) (fun hb=>(qA M M (lb M) hb (svcB M hb) M M hx10))<|gG M (fun hb=>(fM M M (lb M) hb (svcB M hb) M M hx11))<|cOr M hx12<|aB ?_);refine aK h M (fun h=>?_) (fun h=>?_)
 ·
  refine aC (cLr q13 la37 M<|cSt q13 q13 ti37 M<|aB ?_);refine aM<|aT ?_;obtain rfl:=sj_ h;refine ⟨.inr M,_,(.cons (rva la37 M M (nle M) M) .nil),(.cons (.agg (.k (.k (.k (.cons (FDT aD M M) (.all _)))))) .nil)⟩
 ·
  refine aO<|aJ ?_;obtain ⟨x14,hx14,h⟩:=bF h;refine aC (cI M<|cFa 0 un37 M ti3 M<|cLd (d:=.int _ _) un3 ag3 ti3 M<|aA M (mC M M (lb M) (svI M) (svI M) hx14)<|cAI M<|aB ?_);refine aP<|aC (cFa 3 un37 M ti33 M<|cLd (d:=.osl _ _ _) un33 ag33 ti33 M<|aA M (tS M M (lb M) un33 (sv (d:=.osl _ _ _) M))<|cMv (.int _ 0) M<|aB ?_);refine bD<|cK (α:=Nat×Int×(List aI)) (fun z=>⟨[(2,.bool a2),(3,.ref 0 0),(6,.ref 1 0),(7,.ref 3 0),(8,.int .i64 x14),(47,.int .i64 (x1.2.2.2.1.length:Int)),(48,.int .i64 z.2.1)],[(0,.blk 37 (tv1 a0)),(1,.blk 37 zs0),(3,.blk 37 (w45 x1.1 x1.2.1 x1.2.2.1 (.osl 2 aD.sz z.2.2.length) x1.2.2.2.2.1 x1.2.2.2.2.2.1 x1.2.2.2.2.2.2.1 x1.2.2.2.2.2.2.2.1 x1.2.2.2.2.2.2.2.2)),(2,.blk 105 (D.flat (z.2.2.map aD.d)))]⟩) (fun z=>lW a0 a2 x1 x14 z.1 z.2.1 z.2.2=some r) (fun z=>z.1) (fuel,0,x1.2.2.2.1) (fun i=>i) ⟨(.sames M M),(.cons (.blk M M M) (.cons (.blk M M M) (.cons (.blk M M M) (.cons (EntW.lst M) .nil)))),bX [0,1,3,2] M (by decide),fun _ _=>M⟩ ?_ ?_
  ·exact h
  ·
   rintro ⟨n0,v31,v32⟩ h
   cases n0 with
   | zero=>exact absurd h (by unfold lW; exact nofun)
   | succ n0 =>
    unfold lW at h;obtain ⟨x49,hx49,h⟩:=bF h;refine aC (cCm M hx49<|aB ?_);refine aP<|aK h M (fun h=>?_) (fun h=>?_)
    ·
     refine aO<|aJ<|aP<|bD<|aC (cI M<|cAI M<|aB ?_);obtain ⟨x51,hx51,h⟩:=bR h;refine aC (cFa 3 un37 M ti33 M<|cLd (d:=.osl _ _ _) un33 ag33 ti33 M<|cI M<|aA M (jJ aD.toEnc0 M M (lb M) un33 dH (sv (d:=.osl _ _ _) M) M (svI M) hx51)<|aA M (bV M M (lb M) (svR M))<|aB ?_);obtain ⟨x52,hx52,x53,hx53,x54,hx54,h⟩:=eodo h;obtain ⟨x55,hx55,x56,hx56,x57,hx57,h⟩:=edod h;obtain ⟨x58,hx58,x59,hx59,h⟩:=eod h;refine cC M [nd1 [10] 55 (.ref 2 (((v31:Int).toNat)*aD.sz+0)),nd1 [10] 56 (.ref 2 (((v31:Int).toNat)*aD.sz+0)),nd1 [10] 57 (.ref 2 (((v31:Int).toNat)*aD.sz+0)),nd1 [57] 58 (.ref 2 (((v31:Int).toNat)*aD.sz+0)),nd1 [58] 59 (.ref 2 (((v31:Int).toNat)*aD.sz+0)),nd2 [59] [2] 60 (.int .i64 x52.From),nd1 [8] 61 (.int .i64 x14),nd1 [60,61] 62 (.int .i64 x53),nd1 [10] 63 (.ref 2 (((v31:Int).toNat)*aD.sz+0)),nd1 [63] 64 (.ref 2 (((v31:Int).toNat)*aD.sz+0)),nd1 [64] 65 (.ref 2 (((v31:Int).toNat)*aD.sz+1)),nd2 [65] [2] 66 (.int .i64 x54.To),nd1 [8] 67 (.int .i64 x14),nd1 [66,67] 68 (.int .i64 x55),nd1 [55] 69 (.ref 2 (((v31:Int).toNat)*aD.sz+0)),nd1 [69] 70 (.ref 2 (((v31:Int).toNat)*aD.sz+0)),⟨[62,70],[2],[],[(2,.blk 105 (D.flat (x57.map aD.d)))]⟩,nd1 [56] 71 (.ref 2 (((v31:Int).toNat)*aD.sz+0)),nd1 [71] 72 (.ref 2 (((v31:Int).toNat)*aD.sz+1)),⟨[68,72],[2],[],[(2,.blk 105 (D.flat (x59.map aD.d)))]⟩] M ?_ (by kernel_rfl) ?_
     ·refine .cons (dMv M)<|.cons (dMv M)<|.cons (dMv M)<|.cons (lop M M fun S hA=>(dO M M (lb M) (svaR hA M M)))<|.cons (lop M M fun S hA=>(fD M M (lb M) fL M ti3 (by decide) (svaR hA M M) (k':=0) M))<|.cons (lop M M fun S hA=>(lS aD.toEnc0 (d:=.int _ _) M M (lb M) un3 ag3 ti3 (by decide) (svaR hA M M) (agi hA M M) hx52 (nle M) M))<|.cons (dMv M)<|.cons (lop M M fun S hA=>(mC M M (lb M) (svaI hA M M) (svaI hA M M) hx53))<|.cons (dMv M)<|.cons (lop M M fun S hA=>(dO M M (lb M) (svaR hA M M)))<|.cons (lop M M fun S hA=>(fD M M (lb M) fL M ti3 (by decide) (svaR hA M M) (k':=1) M))<|.cons (lop M M fun S hA=>(lS aD.toEnc0 (d:=.int _ _) M M (lb M) un3 ag3 ti3 (by decide) (svaR hA M M) (agi hA M M) hx54 (nle M) M))<|.cons (dMv M)<|.cons (lop M M fun S hA=>(mC M M (lb M) (svaI hA M M) (svaI hA M M) hx55))<|.cons (lop M M fun S hA=>(dO M M (lb M) (svaR hA M M)))<|.cons (lop M M fun S hA=>(fD M M (lb M) fL M ti3 (by decide) (svaR hA M M) (k':=0) M))<|.cons (lop M M fun S hA=>(pA aD.toEnc0 (a':=(⟨x53,x56.To,x56.Path,x56.Fin⟩:aI)) M M ti3 (svaR hA M M) (agi hA M M) (svaI hA M M) M M M hx56 (nle M) M hx57))<|.cons (lop M M fun S hA=>(dO M M (lb M) (svaR hA M M)))<|.cons (lop M M fun S hA=>(fD M M (lb M) fL M ti3 (by decide) (svaR hA M M) (k':=1) M))<|.cons (lop M M fun S hA=>(pA aD.toEnc0 (a':=(⟨x58.From,x55,x58.Path,x58.Fin⟩:aI)) M M ti3 (svaR hA M M) (agi hA M M) (svaI hA M M) M M M hx58 (nle M) M hx59)) ?_
      exact .nil
     obtain ⟨x60,hx60,x61,hx61,x62,hx62,h⟩:=eodo h;obtain ⟨x63,hx63,h⟩:=bF h;refine aZ (aA M (mvR M M M M)<|aA M (mvR M M M M)<|aA M (dO M M (lb M) (svR M))<|aA M (fD M M (lb M) fL M ti4 (by decide) (svR M) (k':=3) M)<|aA M (lS aD.toEnc0 (d:=.bool _) M M (lb M) un4 ag4 ti4 (by decide) (svR M) M hx60 (nle M) M)<|cB M<|gG M (fun hb=>(tB M))<|gG M (fun hb=>(cV M M (lb M) (svcB M hb)))<|cAn M hx61<|aA M (dO M M (lb M) (svR M))<|aA M (fD M M (lb M) fL M ti4 (by decide) (svR M) (k':=3) M)<|aA M (pA aD.toEnc0 (a':=(⟨x62.From,x62.To,x62.Path,x61⟩:aI)) M M ti4 (svR M) M (svB M) M M M hx62 (nle M) M hx63)<|bN ?_);refine bW<|aJ ?_;obtain ⟨x64,hx64,h⟩:=bF h;refine aZ (aA M (aX M M (lb M) (svI M) (sv (d:=.int _ 1) M) M hx64)<|cI M<|bN ?_);refine aJ ⟨(n0,x64,x63),(fun i=>i),⟨(.sames M M),(.cons (.blk M M M) (.cons (.blk M M M) (.cons (.blk M (by rw [←(uW hx63 (uW hx59 (uW hx57 M)))]; rfl) M) (.cons (EntW.lst M) .nil)))),bX [0,1,3,2] M (by decide),fun _ _=>M⟩,?_,?_⟩;exact h;exact Nat.lt_succ_self _
    ·
     refine cR<|bP<|bP<|cS<|aJ ?_;obtain ⟨x65,hx65,h⟩:=bR h;refine aC (cFa 3 un37 M ti33 M<|cLd (d:=.osl _ _ _) un33 ag33 ti33 M<|aA M (fR (r':=.osl 4 aD.sz x65.length) (H1':=[(4,.blk 105 (D.flat (x65.map aD.d)))]) 4 [2] M M (lb M) cl139 (.cons (sv (d:=.osl _ _ _) M) (.cons (sv (d:=.fn 140 []) M) .nil)) M M ⟨M,M,by decide,M,List.forall_mem_cons.2 ⟨⟨M,M,(aCi aD M),(mX aD)⟩,List.forall_mem_nil _⟩⟩ (jM _ _ hx65) M M (List.forall_mem_cons.2 ⟨⟨M,(mX aD)⟩,List.forall_mem_nil _⟩) (by simp only [List.map_cons,List.map_nil,Ent.ren,iF,kC]; rfl))<|cFa 3 un37 M ti33 M<|aA M (bK (ds':=q13) M M ti33 (svR M) M (sv (d:=.osl _ _ _) M) M M M (nle M) M)<|aB ?_);obtain ⟨x66,hx66,x67,hx67,h⟩:=edo h;refine cC M [nd1 [8] 89 (.int .i64 x14),nd1 [3] 90 (.ref 0 1),nd2 [90] [0] 91 (.str a0.Data),nd1 [8] 92 (.int .i64 x14),nd1 [3] 93 (.ref 0 0),nd2 [93] [0] 94 (.int .i64 a0.Base),nd1 [92,94] 95 (.int .i64 x66),nd1 [91,95] 96 (.str x67),nd1 [7] 97 (.ref 3 0),⟨[89,97],[3],[],[(3,.blk 37 (w45 x14 x1.2.1 x1.2.2.1 (.osl 4 aD.sz x65.length) x1.2.2.2.2.1 x1.2.2.2.2.2.1 x1.2.2.2.2.2.2.1 x1.2.2.2.2.2.2.2.1 x1.2.2.2.2.2.2.2.2))]⟩,nd1 [7] 98 (.ref 3 1),⟨[96,98],[3],[],[(3,.blk 37 (w45 x14 x67 x1.2.2.1 (.osl 4 aD.sz x65.length) x1.2.2.2.2.1 x1.2.2.2.2.2.1 x1.2.2.2.2.2.2.1 x1.2.2.2.2.2.2.2.1 x1.2.2.2.2.2.2.2.2))]⟩] M ?_ (by kernel_rfl) ?_
     ·refine .cons (dMv M)<|.cons (dFa 1 un37 M ti9 M)<|.cons (dLd un9 ag9 ti9 M)<|.cons (dMv M)<|.cons (dFa 0 un37 M ti3 M)<|.cons (dLd un3 ag3 ti3 M)<|.cons (lop M M fun S hA=>(aX M M (lb M) (svaI hA M M) (svaI hA M M) M hx66))<|.cons (lop M M fun S hA=>(kR M M (lb M) un9 (sv (d:=.str _) (agr hA M M)) ⟨_,(svaI hA M M)⟩ M hx67))<|.cons (dFa 0 un37 M ti3 M)<|.cons (lop M M fun S hA=>(bK (ds':=q13) M M ti3 (svaR hA M M) (agi hA M M) (svaI hA M M) M M M (nle M) M))<|.cons (dFa 1 un37 M ti9 M)<|.cons (lop M M fun S hA=>(bK (ds':=q13) M M ti9 (svaR hA M M) (agi hA M M) (sv (d:=.str _) (agr hA M M)) M M M (nle M) M)) ?_
      exact .nil
     obtain ⟨x68,hx68,h⟩:=bR h;refine aC (cFa 4 un37 M ti35 M<|aA M (lrL la35 M M M M M (nle M) M)<|cI M<|aA M (bA (cs:=q25) M M (lb M) lT gS aFv M (.cons (svI M) .nil) M)<|aA M (aL (r:=.slice _ _) M M (lb M) cl134 (.cons (svL M) (.cons (svA q25 M) .nil)) M (wZ _ _ _ hx68))<|cFa 4 un37 M ti35 M<|aA M (bK (ds':=q13) M M ti35 (svR M) M (svL M) M M M (nle M) M)<|aB ?_);refine aP<|aC (cB M<|aB ?_);refine aK h M (fun h=>?_) (fun h=>?_)
     ·
      refine aZ (cFa 8 un37 M ti4 M<|aA M (bK (ds':=q13) M M ti4 (svR M) M (sv (d:=.bool true) M) M M M (nle M) M)<|cFa 7 un37 M ti4 M<|aA M (bK (ds':=q13) M M ti4 (svR M) M (sv (d:=.bool false) M) M M M (nle M) M)<|bN ?_);refine aJ<|aC (cLr q13 la37 M<|cSt q13 q13 ti37 M<|aB ?_);refine aM ?_;obtain rfl:=sj_ h;refine ⟨.inr M,_,(.cons (rva la37 M M (nle M) M) .nil),(.cons (.agg (.k (.k (.k (.cons (FDT aD M M) (.all _)))))) .nil)⟩
     ·
      refine aO<|aJ<|aC (cLr q13 la37 M<|cSt q13 q13 ti37 M<|aB ?_);refine aM ?_;obtain rfl:=sj_ h;refine ⟨.inr M,_,(.cons (rva la37 M M (nle M) M) .nil),(.cons (.agg (.k (.k (.k (.cons (FDT aD M M) (.all _)))))) .nil)⟩

theorem zE (a0:aH) (a1:Int) (a2:Bool) (r:aH) (h:pC a0 a1 a2=some r):FnH prog 92 [.ref 1000 0,.ref 1001 0,.ref 1002 0] [(1000,.blk 46 (tv0 a0)),(1001,.blk 3 [.int .i64 a1]),(1002,.blk 4 [.bool a2])] (retD []) [(1000,.blk 46 (tv0 r)),(1001,.blk 3 [.int .i64 a1]),(1002,.blk 4 [.bool a2])]:=by
 refine gE (rs:=[]) func92 M ntmps92 (nle M) fun O hO=>?_
 show IWP _ _ _ _ ⟨[(0,.ref 1000 0),(1,.ref 1001 0),(2,.ref 1002 0)],[(1000,.blk 46 (tv0 a0)),(1001,.blk 3 [.int .i64 a1]),(1002,.blk 4 [.bool a2])]⟩ _
 unfold pC at h;obtain ⟨x1,hx1,h⟩:=bR h;refine oK M [nd1 [0] 4 (.ref 1000 0),nd1 [0] 5 (.ref 1000 0),nd1 [5] 6 (.ref 1000 0),nd1 [6] 7 (.ref 1000 1),nd2 [7] [1000] 8 (.agg (tv1 a0.Send)),nd2 [1] [1001] 9 (.int .i64 a1),nd2 [2] [1002] 10 (.bool a2),nd1 [8,9,10] 11 (.agg (tv1 x1)),nd1 [4] 12 (.ref 1000 0),nd1 [12] 13 (.ref 1000 1),⟨[11,13],[1000],[],[(1000,.blk 46 (w43 a0.ID x1.Base x1.Data x1.Next x1.Pieces x1.Lost x1.Closed x1.Sent x1.Again x1.Done a0.Recv.Recv.Base a0.Recv.Recv.Ready a0.Recv.Recv.Parts a0.Recv.End a0.Out.Window a0.Out.Limit a0.Out.Used a0.Out.Read a0.In.Window a0.In.Limit a0.In.Used a0.In.Read a0.Mine a0.Hers))]⟩] M ?_ (by kernel_rfl) ?_
 ·refine .cons (dMv M)<|.cons (dMv M)<|.cons (lop M M fun S hA=>(dO M M (lb M) (svaR hA M M)))<|.cons (dFa 1 un46 M ti37 M)<|.cons (dLa un37 ag37 ti37 M)<|.cons (dLd un3 ag3 ti3 M)<|.cons (dLd un4 ag4 ti4 M)<|.cons (lop M M fun S hA=>(aL (r:=.agg q12) M M (lb M) cl93 (.cons (svaA q12 hA M M) (.cons (svaI hA M M) (.cons (svaB hA M M) .nil))) M (aC7 _ _ _ _ hx1)))<|.cons (lop M M fun S hA=>(dO M M (lb M) (svaR hA M M)))<|.cons (dFa 1 un46 M ti37 M)<|.cons (dSt q12 ti37 M) ?_
  exact .nil
 obtain rfl:=sj_ h;refine ⟨.inl M,(fun i=>i),⟨.nil,(.cons (.blk M M M) (.cons (.blk M M M) (.cons (.blk M M M) .nil))),bX [1000,1001,1002] M (by decide),fun _ _=>M⟩,.nil,M⟩

theorem qP (a0:aH) (a1:Int) (a2:Bool) (r:aH) (h:gR a0 a1 a2=some r):FnH prog 79 [.agg (tv0 a0),.fn 92 [.ref 1000 0,.ref 1001 0]] [(1000,.blk 3 [.int .i64 a1]),(1001,.blk 4 [.bool a2])] (.agg (tv0 r)) [(1000,.blk 3 [.int .i64 a1]),(1001,.blk 4 [.bool a2])]:=by
 refine gE (rs:=[.agg (tv0 r)]) func79 M ntmps79 (nle M) fun O hO=>?_
 show IWP _ _ _ _ ⟨[(0,.agg (tv0 a0)),(1,.fn 92 [.ref 1000 0,.ref 1001 0])],[(1000,.blk 3 [.int .i64 a1]),(1001,.blk 4 [.bool a2])]⟩ _
 unfold gR at h;refine aC (cBx (cs:=q10) q10 0 M<|aA M (aR (cs:=q11) (cs':=zs2) 1 M M (lb M) M ti46 M M (.k4 (.cons (.nils _) (.cons (.nils _) (.k4 (.k (.k (.cons (.nils _) (.all _)))))))))<|aB ?_);refine aP ?_;obtain ⟨x1,hx1,x2,hx2,h⟩:=eod h;refine aC (cLr q10 la46 M<|aA M (aL (r:=.int _ _) M M (lb M) cl39 (.cons (svA q10 M) .nil) M (fW _ _ hx1))<|cCm (b:=0) M hx2<|aB ?_);refine aK h M (fun h=>?_) (fun h=>?_)
 ·
  obtain ⟨x4,hx4,h⟩:=bR h;refine aZ (cMv (.fn 92 q26) M<|aA M (tT (r':=.tuple []) (H1':=[(0,.blk 46 (tv0 x4)),(1000,.blk 3 [.int .i64 a1]),(1001,.blk 4 [.bool a2])]) 2 [0,1000,1001] M M (lb M) cl92 (sv (d:=.fn 92 q26) M) (.cons (svR M) .nil) M M ⟨M,M,by decide,M,List.forall_mem_cons.2 ⟨⟨M,M,M,M⟩,List.forall_mem_cons.2 ⟨⟨M,M,M,M⟩,List.forall_mem_cons.2 ⟨⟨M,M,M,M⟩,List.forall_mem_nil _⟩⟩⟩⟩ (zE _ _ _ _ hx4) M M (List.forall_mem_cons.2 ⟨⟨M,M⟩,List.forall_mem_cons.2 ⟨⟨M,M⟩,List.forall_mem_cons.2 ⟨⟨M,M⟩,List.forall_mem_nil _⟩⟩⟩) M)<|bN ?_);refine aJ<|aC (cLr q10 la46 M<|cSt q10 q10 ti46 M<|aB ?_);refine aM ?_;obtain rfl:=sj_ h;refine ⟨.inr M,(fun i=>i),⟨.nil,(.cons (.blk M M M) (.cons (.blk M M M) .nil)),bX [1000,1001] M (by decide),fun _ _=>M⟩,(.cons (rva la46 M M (nle M) M) .nil),M⟩
 ·
  refine aO<|aJ<|aC (cLr q10 la46 M<|cSt q10 q10 ti46 M<|aB ?_);refine aM ?_;obtain rfl:=sj_ h;refine ⟨.inr M,(fun i=>i),⟨.nil,(.cons (.blk M M M) (.cons (.blk M M M) .nil)),bX [1000,1001] M (by decide),fun _ _=>M⟩,(.cons (rva la46 M M (nle M) M) .nil),M⟩

theorem aBj (a0:aH) (a1:Int) (a2:Bool) (r:aH) (h:rE a0 a1 a2=some r):bJ prog 37 [.agg (tv0 a0),.int .i64 a1,.bool a2] (.agg (tv0 r)):=by
 refine aQ (rs:=[.agg (tv0 r)]) func37 M ntmps37 (nle M) M fun O hO=>?_
 show IWP _ _ _ _ ⟨[(0,.agg (tv0 a0)),(1,.int .i64 a1),(2,.bool a2)],[]⟩ _
 unfold rE at h;refine aC (cBx (cs:=q10) q10 0 M<|aA M (sA (cs:=[.int _ _]) 1 M M (lb M) M (svI M) M M)<|aA M (sA (cs:=[.bool _]) 2 M M (lb M) M (svB M) M M)<|aA M (aR (cs:=q11) (cs':=zs2) 3 M M (lb M) M ti46 M M (.k4 (.cons (.nils _) (.cons (.nils _) (.k4 (.k (.k (.cons (.nils _) (.all _)))))))))<|aB ?_);obtain ⟨x1,hx1,h⟩:=bR h;refine aC (cLr q10 la46 M<|aA M (nM M M (lb M) (.cons (svR M) (.cons (svR M) .nil)))<|aA M (fR (r':=.agg (tv0 x1)) (H1':=[(1,.blk 3 [.int .i64 a1]),(2,.blk 4 [.bool a2])]) 4 [1,2] M M (lb M) cl79 (.cons (svA q10 M) (.cons (sv (d:=.fn 92 q26) M) .nil)) M M ⟨M,M,by decide,M,List.forall_mem_cons.2 ⟨⟨M,M,M,M⟩,List.forall_mem_cons.2 ⟨⟨M,M,M,M⟩,List.forall_mem_nil _⟩⟩⟩ (qP _ _ _ _ hx1) M M (List.forall_mem_cons.2 ⟨⟨M,M⟩,List.forall_mem_cons.2 ⟨⟨M,M⟩,List.forall_mem_nil _⟩⟩) M)<|cSt q10 q10 ti46 M<|aB ?_);refine aM ?_;obtain rfl:=sj_ h;refine ⟨.inr M,(.cons (rva la46 M M (nle M) M) .nil)⟩

theorem tN (a0:aI) (a1:Int) (r:Bool) (h:oM a0 a1=some r):bJ prog 141 [.agg (tv8 a0),.fptr [.int .i64 a1]] (.bool r):=by
 refine aQ (rs:=[.bool r]) func141 M ntmps141 (nle M) M fun O hO=>?_
 show IWP _ _ _ _ ⟨[(0,.agg (tv8 a0)),(1,.fptr [.int .i64 a1])],[]⟩ _
 unfold oM at h;refine aC (cBx (cs:=q20) q20 0 M<|cAs (.bool false) M<|aB ?_);obtain ⟨x1,hx1,h⟩:=bF h;refine aC (cFa 2 fL M ti3 M<|cLd (d:=.int _ _) un3 ag3 ti3 M<|aA M (bU M M (lb M) un3 ag3 ti3 (by decide) (sv (d:=.fptr [.int _ _]) M) (nle M))<|cCm M hx1<|cAB M<|aB ?_);refine aM ?_;obtain rfl:=sj_ h;refine ⟨.inr M,(.cons (sv M) .nil)⟩

theorem pU (a0:aG) (a1:(List aG)) (r:(List aG)) (h:jH a0 a1=some r):FnH prog 178 [.osl 1000 aE.sz a1.length,.agg [.int .i64 a0.From,.int .i64 a0.To]] [(1000,.blk 219 (D.flat (a1.map aE.d)))] (.osl 0 aE.sz r.length) [(0,.blk 219 (D.flat (r.map aE.d)))]:=by
 refine gE (rs:=[.osl 0 aE.sz r.length]) func178 M ntmps178 (nle M) fun O hO=>?_
 show IWP _ _ _ _ ⟨[(0,.osl 1000 aE.sz a1.length),(1,.agg [.int .i64 a0.From,.int .i64 a0.To])],[(1000,.blk 219 (D.flat (a1.map aE.d)))]⟩ _
 unfold jH at h;refine aC (cBx (cs:=q25) q25 0 M<|cAs (.nils) M<|aB ?_);refine aP ?_;obtain ⟨x1,hx1,h⟩:=bR h;refine aC (cLr q25 tQ M<|aA M (aL (r:=.bool _) M M (lb M) aEQ (.cons (svA q25 M) .nil) M (iZ _ _ hx1))<|aB ?_);refine aK h M (fun h=>?_) (fun h=>?_)
 ·
  refine aC (cMv (.osl _ _ _) M<|cAs (.osl _ _ _) M<|aB ?_);refine aM<|aT ?_;obtain rfl:=sj_ h;refine ⟨.inr M,(fun i=>if i=0 then 1000 else i),⟨.nil,(.cons (EntW.lst M) .nil),bX [1000] M (by decide),(fun i hi=>by first | rfl | (show (if _ then _ else _)=_; (repeat' split) <;> omega))⟩,(.cons (sv M) .nil),M⟩
 ·
  refine aO<|aJ<|aP<|aC (cMv (.osl _ _ _) M<|aA M (tS M M (lb M) un35 (sv (d:=.osl _ _ _) M))<|cAI M<|aB ?_);obtain ⟨x3,hx3,x4,hx4,x5,hx5,h⟩:=eddo h;obtain ⟨x6,hx6,x7,hx7,x8,hx8,h⟩:=eodd h;refine cC M [nd1 [5] 11 (.int .i64 (a1.length:Int)),nd1 [11] 12 (.bool x3),nd1 [12] 13 (.bool x3),nd1 [0,13] 14 (.cnd (x3 == true) (.osl 1000 aE.sz a1.length)),nd1 [5,13] 15 (.cnd (x3 == true) (.int .i64 (a1.length:Int))),nd1 [13,15] 16 (.cnd (x3 == true) (.int .i64 x4)),nd1 [13,14,16] 17 (.cnd (x3 == true) (.ref 1000 (((x4:Int).toNat)*aE.sz+0))),nd1 [13,17] 18 (.cnd (x3 == true) (.ref 1000 (((x4:Int).toNat)*aE.sz+1))),nd2 [13,18] [1000] 19 (.cnd (x3 == true) (.int .i64 x6.To)),nd1 [3,13] 20 (.cnd (x3 == true) (.ref 0 0)),nd2 [13,20] [0] 21 (.cnd (x3 == true) (.int .i64 a0.From)),nd1 [13,19,21] 22 (.cnd (x3 == true) (.bool x7)),nd1 [13,22] 23 (.bool x8)] M ?_ (by kernel_rfl) ?_
  ·refine .cons (dMv M)<|.cons (lop M M fun S hA=>(cU M M (lb M) (svaI hA M M) (sv (d:=.int _ 0) M) M hx3))<|.cons (dMv M)<|.cons (gD M (fun S hA hb=>(bI M M (lb M) (sv (d:=.osl _ _ _) (agr hA M M)))))<|.cons (gD M (fun S hA hb=>(bI M M (lb M) (svaI hA M M))))<|.cons (gD M (fun S hA hb=>(aX M M (lb M) (svc (d:=.int _ _) (agr hA M M) hb) (sv (d:=.int _ 1) M) M hx4)))<|.cons (gD M (fun S hA hb=>(jJ aE.toEnc0 M M (lb M) un35 gS (svc (d:=.osl _ _ _) (agr hA M M) hb) M (svc (d:=.int _ _) (agr hA M M) hb) (gd_t hx5 hb))))<|.cons (gD M (fun S hA hb=>(fD M M (lb M) lT M ti3 (by decide) (svc (d:=.ref _ _) (agr hA M M) hb) (k':=1) M)))<|.cons (gD M (fun S hA hb=>(lS aE.toEnc0 (d:=.int _ _) M M (lb M) un3 ag3 ti3 (by decide) (svc (d:=.ref _ _) (agr hA M M) hb) (agi hA M M) (gd_t hx6 hb) (nle M) M)))<|.cons (gD M (fun S hA hb=>(aV M M (lb M) lT M ti3 (by decide) (svaR hA M M) (off':=0) M)))<|.cons (gD M (fun S hA hb=>(cD (d:=.int _ _) M M (lb M) un3 ag3 ti3 (by decide) (svc (d:=.ref _ _) (agr hA M M) hb) (agi hA M M) (nle M) M)))<|.cons (gD M (fun S hA hb=>(cU M M (lb M) (svc (d:=.int _ _) (agr hA M M) hb) (svc (d:=.int _ _) (agr hA M M) hb) M hx7)))<|.cons (lop M M fun S hA=>(kK M M (lb M) (svaB hA M M) (agr hA M M) M hx8)) ?_
   exact .nil
  refine aK h M (fun h=>?_) (fun h=>?_)
  ·
   obtain ⟨x10,hx10,x11,hx11,x12,hx12,h⟩:=eddo h;obtain ⟨x13,hx13,x14,hx14,x15,hx15,h⟩:=eodo h;obtain ⟨x16,hx16,x17,hx17,h⟩:=eod h;refine cC M [nd1 [0] 24 (.osl 1000 aE.sz a1.length),nd1 [5] 25 (.int .i64 (a1.length:Int)),nd1 [25] 26 (.int .i64 x10),nd1 [0] 27 (.osl 1000 aE.sz a1.length),nd1 [5] 28 (.int .i64 (a1.length:Int)),nd1 [28] 29 (.int .i64 x11),nd1 [27,29] 30 (.ref 1000 (((x11:Int).toNat)*aE.sz+0)),nd1 [30] 31 (.ref 1000 (((x11:Int).toNat)*aE.sz+1)),nd2 [31] [1000] 32 (.int .i64 x13.To),nd1 [3] 33 (.ref 0 1),nd2 [33] [0] 34 (.int .i64 a0.To),nd1 [32,34] 35 (.int .i64 x14),nd1 [24,26] 36 (.ref 1000 (((x10:Int).toNat)*aE.sz+0)),nd1 [36] 37 (.ref 1000 (((x10:Int).toNat)*aE.sz+1)),⟨[35,37],[1000],[],[(1000,.blk 219 (D.flat (x17.map aE.d)))]⟩] M ?_ (by kernel_rfl) ?_
   ·refine .cons (lop M M fun S hA=>(bI M M (lb M) (sv (d:=.osl _ _ _) (agr hA M M))))<|.cons (dMv M)<|.cons (lop M M fun S hA=>(aX M M (lb M) (svaI hA M M) (sv (d:=.int _ 1) M) M hx10))<|.cons (lop M M fun S hA=>(bI M M (lb M) (sv (d:=.osl _ _ _) (agr hA M M))))<|.cons (dMv M)<|.cons (lop M M fun S hA=>(aX M M (lb M) (svaI hA M M) (sv (d:=.int _ 1) M) M hx11))<|.cons (lop M M fun S hA=>(jJ aE.toEnc0 M M (lb M) un35 gS (sv (d:=.osl _ _ _) (agr hA M M)) M (svaI hA M M) hx12))<|.cons (lop M M fun S hA=>(fD M M (lb M) lT M ti3 (by decide) (svaR hA M M) (k':=1) M))<|.cons (lop M M fun S hA=>(lS aE.toEnc0 (d:=.int _ _) M M (lb M) un3 ag3 ti3 (by decide) (svaR hA M M) (agi hA M M) hx13 (nle M) M))<|.cons (dFa 1 lT M ti3 M)<|.cons (dLd un3 ag3 ti3 M)<|.cons (lop M M fun S hA=>(mC M M (lb M) (svaI hA M M) (svaI hA M M) hx14))<|.cons (lop M M fun S hA=>(jJ aE.toEnc0 M M (lb M) un35 gS (sv (d:=.osl _ _ _) (agr hA M M)) M (svaI hA M M) hx15))<|.cons (lop M M fun S hA=>(fD M M (lb M) lT M ti3 (by decide) (svaR hA M M) (k':=1) M))<|.cons (lop M M fun S hA=>(pA aE.toEnc0 (a':=(⟨x16.From,x14⟩:aG)) M M ti3 (svaR hA M M) (agi hA M M) (svaI hA M M) M M M hx16 (nle M) M hx17)) ?_
    exact .nil
   refine aC (cMv (.osl _ _ _) M<|cAs (.osl _ _ _) M<|aB ?_);refine aM<|aT ?_;obtain rfl:=sj_ h;refine ⟨.inr M,(fun i=>if i=0 then 1000 else i),⟨.nil,(.cons (EntW.lst M) .nil),bX [1000] M (by decide),(fun i hi=>by first | rfl | (show (if _ then _ else _)=_; (repeat' split) <;> omega))⟩,(.cons (sv (congrArg (D.osl _ _) (uW hx17 M).symm)) .nil),M⟩
  ·
   refine aO<|aJ ?_;obtain ⟨x18,hx18,h⟩:=bR h;refine aC (cMv (.osl _ _ _) M<|cLr q25 tQ M<|aA M (pM aE.toEnc0 ([(⟨a0.From,a0.To⟩:aG)]:(List aG)) 1 M M (lb M) un35 gS M (.cons (svA q25 M) .nil) M M (by decide))<|aA M (kS aE.toEnc0 2 M M (lb M) un35 gS M M M M M (xG aE.toEnc0 M M M) hx18)<|cAs (.osl _ _ _) M<|aB ?_);refine aM ?_;obtain rfl:=sj_ h;refine ⟨.inr M,(fun i=>if i=0 then 2 else i),⟨.nil,(.cons (EntW.lst M) .nil),bX [2] M (by decide),(fun i hi=>by first | rfl | (show (if _ then _ else _)=_; (repeat' split) <;> omega))⟩,(.cons (sv M) .nil),M⟩

theorem aDC (a0:(List aG)) (a1:aG) (r:(List aG)) (h:uZ a0 a1=some r):bJ prog 142 [.slice false (a0.map aE.d),.agg [.int .i64 a1.From,.int .i64 a1.To]] (.slice false (r.map aE.d)):=by
 refine fC (rs:=[.slice false (r.map aE.d)]) func142 M ntmps142 (nle M) M fun O hO=>?_
 show IWP _ _ _ _ ⟨[(0,.slice false (a0.map aE.d)),(1,.agg [.int .i64 a1.From,.int .i64 a1.To])],[]⟩ _
 unfold uZ at h;refine aC (cBx (cs:=q25) q25 0 M<|cAs (.nils) M<|aB ?_);refine aP ?_;obtain ⟨x1,hx1,x2,hx2,x3,hx3,h⟩:=eood h;obtain ⟨x4,hx4,x5,hx5,x6,hx6,h⟩:=eodd h;refine aC (cLr q25 tQ M<|aA M (aL (r:=.bool _) M M (lb M) aGK (.cons (svA q25 M) .nil) M (oJ _ _ hx1))<|aA M (cV M M (lb M) (svB M))<|cB M<|gG M (fun hb=>(tLr q25 tQ M))<|gG M (fun hb=>(aL (r:=.bool _) M M (lb M) aEQ (.cons (svc (d:=.agg [.int .i64 a1.From,.int .i64 a1.To]) M hb) .nil) M (iZ _ _ (gd_t hx2 hb))))<|cOr M hx3<|cB M<|gG M (fun hb=>(mvL M M M M))<|gG M (fun hb=>(aL (r:=.int _ _) M M (lb M) aGJ (.cons (svcL M hb) .nil) M (qQ _ _ (gd_t hx4 hb))))<|gG M (fun hb=>(tCg (b:=0) M hb hx5))<|cOr M hx6<|aB ?_);refine aK h M (fun h=>?_) (fun h=>?_)
 ·
  obtain ⟨x8,hx8,h⟩:=bR h;refine aC (aA M (mvL M M M M)<|aA M (fR (r':=.osl 1 aE.sz x8.length) (H1':=[(1,.blk 219 (D.flat (x8.map aE.d)))]) 1 [] M M (lb M) cl169 (.cons (svL M) .nil) M M ⟨M,M,by decide,M,List.forall_mem_nil _⟩ (iS _ _ hx8) M M (List.forall_mem_cons.2 ⟨⟨M,(mX aE)⟩,List.forall_mem_nil _⟩) (by simp only [List.map_cons,List.map_nil,Ent.ren,iF,kC]; rfl))<|cAs (.osl _ _ _) M<|aB ?_);refine aM<|aT ?_;obtain rfl:=sj_ h;refine ⟨.inr M,_,(.cons (sv M) .nil),(.cons (FDT aE M M) .nil)⟩
 ·
  refine aO<|aJ<|aC (cAs (.nils) M<|aB ?_);refine aC (cAs (.bool false) M<|aB ?_);refine aP<|aC (aA M (mvL M M M M)<|aA M (bY aE (l:=a0) M M (lb M) un35 (svL M))<|cMv (.int _ 0) M<|aB ?_);refine bD<|cK (α:=Nat×(List aG)×Bool×Int) (fun z=>⟨[(3,.ref 0 0),(5,.osl 22 aE.sz z.2.1.length),(6,.bool z.2.2.1),(23,.slice false (a0.map aE.d)),(24,.int .i64 (a0.length:Int)),(25,.int .i64 z.2.2.2)],[(0,.blk 219 [.int .i64 a1.From,.int .i64 a1.To]),(22,.blk 219 (D.flat (z.2.1.map aE.d)))]⟩) (fun z=>iI a0 a1 z.1 z.2.1 z.2.2.1 z.2.2.2=some r) (fun z=>z.1) (fuel,([]:(List aG)),false,0) (fun i=>if i=22 then 73 else i) ⟨(.s M M (.cons (.nilo M) (.sames M M))),(.cons (.blk M M M) (.cons (.nilb M) .nil)),bX [0,73] M (by decide),(fun i hi=>by first | rfl | (show (if _ then _ else _)=_; (repeat' split) <;> omega))⟩ ?_ ?_
  ·exact h
  ·
   rintro ⟨n0,v24,v25,v26⟩ h
   cases n0 with
   | zero=>exact absurd h (by unfold iI; exact nofun)
   | succ n0 =>
    unfold iI at h;obtain ⟨x42,hx42,h⟩:=bF h;refine aC (cCm M hx42<|aB ?_);refine aP<|aK h M (fun h=>?_) (fun h=>?_)
    ·
     refine aO<|aJ<|aP<|bD ?_;obtain ⟨x44,hx44,h⟩:=bR h;refine aC (aA M (bQ aE (cs:=q25) M M (lb M) un35 gS (svL M) (svI M) hx44 M M)<|aA M (cJ (cs:=q25) M M (lb M) lT aA1 gS (by decide) (sv (d:=.fptr q25) M) (nle M) M)<|aA M (aR (cs:=q25) (cs':=[.int .i64 0,.int .i64 0]) 23 M M (lb M) M gS M M (.all _))<|cSt q25 q25 gS M<|aB ?_);refine mW (α:=(List aG)×Bool) (fun z=>⟨[(3,.ref 0 0),(5,.osl 24 aE.sz z.1.length),(6,.bool z.2),(23,.slice false (a0.map aE.d)),(24,.int .i64 (a0.length:Int)),(25,.int .i64 v26),(8,.ref 23 0)],[(0,.blk 219 [.int .i64 a1.From,.int .i64 a1.To]),(24,.blk 219 (D.flat (z.1.map aE.d))),(23,.blk 219 [.int .i64 x44.From,.int .i64 x44.To])]⟩) (fun z=>oZ v26 (iI a0 a1 n0) x44 z.1 z.2=some r) ?_ ?_
     ·
      obtain ⟨x53,hx53,x54,hx54,h⟩:=edd h;refine aC (cB M<|aA M (cV M M (lb M) (svB M))<|cB M<|gG M (fun hb=>(tFa 0 lT M ti3 M))<|gG M (fun hb=>(tLc (d:=.int _ _) un3 ag3 ti3 M hb))<|gG M (fun hb=>(tFa 0 lT M ti3 M))<|gG M (fun hb=>(tLc (d:=.int _ _) un3 ag3 ti3 M hb))<|gG M (fun hb=>(tCh M hb hx53))<|cAn M hx54<|aB ?_);refine aK h M (fun h=>?_) (fun h=>?_)
      ·
       obtain ⟨x56,hx56,h⟩:=bR h;refine aC (cMv (.osl _ _ _) M<|cLr q25 tQ M<|aA M (fR (r':=.osl 24 aE.sz x56.length) (H1':=[(24,.blk 219 (D.flat (x56.map aE.d)))]) 24 [22] M M (lb M) cl178 (.cons (sv (d:=.osl _ _ _) M) (.cons (svA q25 M) .nil)) M M ⟨M,M,by decide,M,List.forall_mem_cons.2 ⟨⟨M,M,(aCi aE M),(mX aE)⟩,List.forall_mem_nil _⟩⟩ (pU _ _ _ hx56) M M (List.forall_mem_cons.2 ⟨⟨M,(mX aE)⟩,List.forall_mem_nil _⟩) (by simp only [List.map_cons,List.map_nil,Ent.ren,iF,kC]; rfl))<|cAs (.osl _ _ _) M<|aB ?_);refine aZ (cAs (.bool true) M<|bN ?_);refine aJ ⟨(x56,true),(fun i=>i),⟨(.sames M M),(.cons (.blk M M M) (.cons (EntW.lst M) (.cons (.blk M M M) .nil))),bX [0,24,23] M (by decide),fun _ _=>M⟩,?_⟩;exact h
      ·
       refine aO<|aJ ⟨(v24,v25),(fun i=>if i=24 then 22 else i),⟨(.sames M M),(.cons (.blk M M M) (.cons (EntW.lst M) (.cons (.blk M M M) .nil))),bX [0,22,23] M (by decide),(fun i hi=>by first | rfl | (show (if _ then _ else _)=_; (repeat' split) <;> omega))⟩,?_⟩;exact h
     ·
      rintro ⟨v49,v50⟩ h;unfold oZ at h;obtain ⟨x51,hx51,h⟩:=bR h;refine aZ (cMv (.osl _ _ _) M<|cLr q25 tQ M<|aA M (fR (r':=.osl 25 aE.sz x51.length) (H1':=[(25,.blk 219 (D.flat (x51.map aE.d)))]) 25 [24] M M (lb M) cl178 (.cons (sv (d:=.osl _ _ _) M) (.cons (svA q25 M) .nil)) M M ⟨M,M,by decide,M,List.forall_mem_cons.2 ⟨⟨M,M,(aCi aE M),(mX aE)⟩,List.forall_mem_nil _⟩⟩ (pU _ _ _ hx51) M M (List.forall_mem_cons.2 ⟨⟨M,(mX aE)⟩,List.forall_mem_nil _⟩) (by simp only [List.map_cons,List.map_nil,Ent.ren,iF,kC]; rfl))<|cAs (.osl _ _ _) M<|bN ?_);refine bW<|aJ ?_;obtain ⟨x52,hx52,h⟩:=bF h;refine aZ (aA M (aX M M (lb M) (svI M) (sv (d:=.int _ 1) M) M hx52)<|cI M<|bN ?_);refine aJ ⟨(n0,x51,v50,x52),(fun i=>if i=22 then 25 else i),⟨(.sames M M),(.cons (.blk M M M) (.cons (EntW.lst M) .nil)),bX [0,25] M (by decide),(fun i hi=>by first | rfl | (show (if _ then _ else _)=_; (repeat' split) <;> omega))⟩,?_,?_⟩;exact h;exact Nat.lt_succ_self _
    ·
     refine cR<|bP<|bP<|cS<|aJ<|aP<|aC (cB M<|aA M (cV M M (lb M) (svB M))<|aB ?_);refine aK h M (fun h=>?_) (fun h=>?_)
     ·
      obtain ⟨x58,hx58,h⟩:=bR h;refine aZ (cMv (.osl _ _ _) M<|cLr q25 tQ M<|aA M (fR (r':=.osl 23 aE.sz x58.length) (H1':=[(23,.blk 219 (D.flat (x58.map aE.d)))]) 23 [22] M M (lb M) cl178 (.cons (sv (d:=.osl _ _ _) M) (.cons (svA q25 M) .nil)) M M ⟨M,M,by decide,M,List.forall_mem_cons.2 ⟨⟨M,M,(aCi aE M),(mX aE)⟩,List.forall_mem_nil _⟩⟩ (pU _ _ _ hx58) M M (List.forall_mem_cons.2 ⟨⟨M,(mX aE)⟩,List.forall_mem_nil _⟩) (by simp only [List.map_cons,List.map_nil,Ent.ren,iF,kC]; rfl))<|cAs (.osl _ _ _) M<|bN ?_);refine aJ<|aC (cMv (.osl _ _ _) M<|cAs (.osl _ _ _) M<|aB ?_);refine aM ?_;obtain rfl:=sj_ h;refine ⟨.inr M,_,(.cons (sv M) .nil),(.cons (FDT aE M M) .nil)⟩
     ·
      refine aO<|aJ<|aC (cMv (.osl _ _ _) M<|cAs (.osl _ _ _) M<|aB ?_);refine aM ?_;obtain rfl:=sj_ h;refine ⟨.inr M,_,(.cons (sv M) .nil),(.cons (FDT aE M M) .nil)⟩

theorem kL (a0:(List aI)) (a1:Int) (r:Int) (h:dW a0 a1=some r):bJ prog 176 [.slice false (a0.map aD.d),.fn 141 [.fptr [.int .i64 a1]]] (.int .i64 r):=by
 refine aQ (rs:=[.int .i64 r]) func176 M ntmps176 (nle M) M fun O hO=>?_
 show IWP _ _ _ _ ⟨[(0,.slice false (a0.map aD.d)),(1,.fn 141 [.fptr [.int .i64 a1]])],[]⟩ _
 unfold dW at h;refine aC (cAs (.int _ 0) M<|aB ?_);refine aP<|aC (aA M (mvL M M M M)<|aA M (bY aD (l:=a0) M M (lb M) un33 (svL M))<|cMv (.int _ 0) M<|aB ?_);refine bD<|cK (α:=Nat×Int) (fun z=>⟨[(0,.slice false (a0.map aD.d)),(1,.fn 141 [.fptr [.int .i64 a1]]),(7,.int .i64 (a0.length:Int)),(8,.int .i64 z.2)],[]⟩) (fun z=>cL a0 a1 z.1 z.2=some r) (fun z=>z.1) (fuel,0) (fun i=>i) ⟨(.sames M M),.nil,bX [] M (by decide),fun _ _=>M⟩ ?_ ?_
 ·exact h
 ·
  rintro ⟨n0,v7⟩ h
  cases n0 with
  | zero=>exact absurd h (by unfold cL; exact nofun)
  | succ n0 =>
   unfold cL at h;obtain ⟨x14,hx14,h⟩:=bF h;refine aC (cCm M hx14<|aB ?_);refine aP<|aK h M (fun h=>?_) (fun h=>?_)
   ·
    refine aO<|aJ<|aP<|bD<|aC (cI M<|cAI M<|aB ?_);obtain ⟨x16,hx16,x17,hx17,h⟩:=eoo h;refine aC (cMv (.fn 141 [.fptr [.int _ _]]) M<|aA M (mvL M M M M)<|cI M<|aA M (bQ aD (cs:=q20) M M (lb M) un33 dH (svL M) (svI M) hx16 M M)<|aA M (cJ (cs:=q20) M M (lb M) fL sG dH (by decide) (sv (d:=.fptr q20) M) (nle M) M)<|aA M (tC (r:=.bool _) M M (lb M) cl141 (sv (d:=.fn 141 [.fptr [.int _ _]]) M) (.cons (svA q20 M) .nil) M (tN _ _ _ hx17))<|aB ?_);refine aK h M (fun h=>?_) (fun h=>?_)
    ·
     refine aC (cI M<|cAI M<|aB ?_);refine aM<|bM<|aT<|aT<|bM<|aT ?_;obtain rfl:=sj_ h;refine ⟨.inr M,(.cons (sv M) .nil)⟩
    ·
     refine aO<|bW<|aJ ?_;obtain ⟨x19,hx19,h⟩:=bF h;refine aZ (aA M (aX M M (lb M) (svI M) (sv (d:=.int _ 1) M) M hx19)<|cI M<|bN ?_);refine aJ ⟨(n0,x19),(fun i=>i),⟨(.sames M M),.nil,bX [] M (by decide),fun _ _=>M⟩,?_,?_⟩;exact h;exact Nat.lt_succ_self _
   ·
    refine cR<|bP<|bP<|cS<|aJ<|aC (cAs (.int _ (-1)) M<|aB ?_);refine aM ?_;obtain rfl:=sj_ h;refine ⟨.inr M,(.cons (sv M) .nil)⟩

theorem jL (a0:(List aI)) (a1:Int) (r:(List aI)) (h:cY a0 a1=some r):FnH prog 139 [.osl 1000 aD.sz a0.length,.fn 141 [.ref 1001 0]] [(1000,.blk 105 (D.flat (a0.map aD.d))),(1001,.blk 3 [.int .i64 a1])] (.osl 0 aD.sz r.length) [(1001,.blk 3 [.int .i64 a1]),(0,.blk 105 (D.flat (r.map aD.d)))]:=by
 refine gE (rs:=[.osl 0 aD.sz r.length]) func139 M ntmps139 (nle M) fun O hO=>?_
 show IWP _ _ _ _ ⟨[(0,.osl 1000 aD.sz a0.length),(1,.fn 141 [.ref 1001 0])],[(1000,.blk 105 (D.flat (a0.map aD.d))),(1001,.blk 3 [.int .i64 a1])]⟩ _
 unfold cY at h;refine aC (cAs (.nils) M<|aB ?_);obtain ⟨x1,hx1,h⟩:=bR h;refine aC (cMv (.osl _ _ _) M<|cMv (.fn 141 [.ref _ _]) M<|aA M (yT (r:=.int .i64 x1) M M (lb M) cl176 (.cons (sv (d:=.osl _ _ _) M) (.cons (sv (d:=.fn 141 [.ref _ _]) M) .nil)) (.cons (FDT aD M M) (.cons (.fn (.cons (.ref M M (vK _) M) .nil)) .nil)) M M (kL _ _ _ hx1))<|cAI M<|aB ?_);refine aP ?_;obtain ⟨x2,hx2,h⟩:=bF h;refine aC (cI M<|cCm (b:=(-1)) M hx2<|aB ?_);refine aK h M (fun h=>?_) (fun h=>?_)
 ·
  refine aC (cMv (.osl _ _ _) M<|cAs (.osl _ _ _) M<|aB ?_);refine aM<|aT ?_;obtain rfl:=sj_ h;refine ⟨.inr M,(fun i=>if i=0 then 1000 else i),⟨.nil,(.cons (.blk M M M) (.cons (EntW.lst M) .nil)),bX [1001,1000] M (by decide),(fun i hi=>by first | rfl | (show (if _ then _ else _)=_; (repeat' split) <;> omega))⟩,(.cons (sv M) .nil),M⟩
 ·
  refine aO<|aJ<|aP ?_;obtain ⟨x4,hx4,h⟩:=bF h;refine aC (cI M<|aA M (aX M M (lb M) (svI M) (sv (d:=.int _ 1) M) M hx4)<|cAI M<|aB ?_);refine bD<|cK (α:=Nat×(List aI)×Int×Int) (fun z=>⟨[(0,.osl 1000 aD.sz z.2.1.length),(1,.fn 141 [.ref 1001 0]),(5,.int .i64 z.2.2.1),(6,.int .i64 z.2.2.2)],[(1000,.blk 105 (D.flat (z.2.1.map aD.d))),(1001,.blk 3 [.int .i64 a1])]⟩) (fun z=>bZ a1 z.1 z.2.1 z.2.2.1 z.2.2.2=some r) (fun z=>z.1) (fuel,a0,x1,x4) (fun i=>i) ⟨(.sames M M),(.cons (EntW.lst M) (.cons (.blk M M M) .nil)),bX [1000,1001] M (by decide),fun _ _=>M⟩ ?_ ?_
  ·exact h
  ·
   rintro ⟨n0,v17,v18,v19⟩ h
   cases n0 with
   | zero=>exact absurd h (by unfold bZ; exact nofun)
   | succ n0 =>
    unfold bZ at h;refine aP ?_;obtain ⟨x32,hx32,h⟩:=bF h;refine aC (cI M<|cMv (.osl _ _ _) M<|aA M (tS M M (lb M) un33 (sv (d:=.osl _ _ _) M))<|cCm M hx32<|aB ?_);refine aK h M (fun h=>?_) (fun h=>?_)
    ·
     refine aO<|aJ<|aP<|bD ?_;obtain ⟨x34,hx34,x35,hx35,h⟩:=eoo h;refine aC (cMv (.osl _ _ _) M<|cI M<|aA M (jJ aD.toEnc0 M M (lb M) un33 dH (sv (d:=.osl _ _ _) M) M (svI M) hx34)<|aA M (vI aD.toEnc0 (cs:=q20) M M (lb M) fL sG dH (by decide) (svR M) M hx35 (nle M) M)<|aA M (aR (cs:=q20) (cs':=(w49 0 0 0 false)) 0 M M (lb M) M dH M M (.all _))<|cSt q20 q20 dH M<|aB ?_);obtain ⟨x36,hx36,h⟩:=bR h;refine aC (cMv (.fn 141 [.ref _ _]) M<|cLr q20 yO M<|aA M (aBM (r:=.bool x36) M M (lb M) cl141 (sv (d:=.fn 141 [.ref _ _]) M) (.cons (svA q20 M) .nil) (.k (.cons (.ref M M (vK _) M) .nil)) M M (tN _ _ _ hx36))<|aA M (cV M M (lb M) (svB M))<|aB ?_);refine aK h M (fun h=>?_) (fun h=>?_)
     ·
      obtain ⟨x38,hx38,x39,hx39,x40,hx40,h⟩:=eood h;refine aC (cMv (.osl _ _ _) M<|cI M<|cLr q20 yO M<|aA M (jJ aD.toEnc0 M M (lb M) un33 dH (sv (d:=.osl _ _ _) M) M (svI M) hx38)<|aA M (pA aD.toEnc0 (a':=x35) M M dH (svR M) M (svA q20 M) M M M hx39 (nle M) M hx40)<|aB ?_);obtain ⟨x41,hx41,h⟩:=bF h;refine aZ (cI M<|aA M (aX M M (lb M) (svI M) (sv (d:=.int _ 1) M) M hx41)<|cAI M<|bN ?_);refine bW<|aJ ?_;obtain ⟨x42,hx42,h⟩:=bF h;refine aZ (cI M<|aA M (aX M M (lb M) (svI M) (sv (d:=.int _ 1) M) M hx42)<|cAI M<|bN ?_);refine aJ ⟨(n0,x40,x41,x42),(fun i=>i),⟨(.cons (.same (congrArg (D.osl _ _) (uW hx40 M).symm) M) (.sames M M)),(.cons (EntW.lst M) (.cons (.blk M M M) .nil)),bX [1000,1001] M (by decide),fun _ _=>M⟩,?_,?_⟩;exact h;exact Nat.lt_succ_self _
     ·
      refine aO<|bW<|aJ ?_;obtain ⟨x43,hx43,h⟩:=bF h;refine aZ (cI M<|aA M (aX M M (lb M) (svI M) (sv (d:=.int _ 1) M) M hx43)<|cAI M<|bN ?_);refine aJ ⟨(n0,v17,v18,x43),(fun i=>i),⟨(.sames M M),(.cons (EntW.lst M) (.cons (.blk M M M) .nil)),bX [1000,1001] M (by decide),fun _ _=>M⟩,?_,?_⟩;exact h;exact Nat.lt_succ_self _
    ·
     refine cR<|bP<|bP<|cS<|aJ ?_;obtain ⟨x44,hx44,h⟩:=bR h;refine aC (cMv (.osl _ _ _) M<|cI M<|aAx aD.toEnc0 M M M M (by decide) M M un33 dH M M M M M (fun S1 h9=>sv ((h9 37 (by decide)).trans M)) hx44<|aB ?_);obtain ⟨x45,hx45,h⟩:=bR h;refine aC (cMv (.osl _ _ _) M<|cI M<|aA M (aBI aD.toEnc0 M M (lb M) un33 dH (sv (d:=.osl _ _ _) M) M (Nat.le_trans (aGh hx44) (Nat.le_of_eq M)) (svI M) hx45)<|cAs (.osl _ _ _) M<|aB ?_);refine aM ?_;obtain rfl:=sj_ h;refine ⟨.inr M,(fun i=>if i=0 then 1000 else i),⟨.nil,(.cons (.blk M M M) (.cons (EntW.lst M) .nil)),bX [1001,1000] M (by decide),(fun i hi=>by first | rfl | (show (if _ then _ else _)=_; (repeat' split) <;> omega))⟩,(.cons (sv M) .nil),M⟩

theorem aC6 (a0:aN) (a1:Int) (r:aN) (h:uK a0 a1=some r):bJ prog 94 [.agg (tv1 a0),.int .i64 a1] (.agg (tv1 r)):=by
 refine fC (rs:=[.agg (tv1 r)]) func94 M ntmps94 (nle M) M fun O hO=>?_
 show IWP _ _ _ _ ⟨[(0,.agg (tv1 a0)),(1,.int .i64 a1)],[]⟩ _
 unfold uK at h;refine aC (cBx (cs:=q12) q12 0 M<|aA M (sA (cs:=[.int _ _]) 1 M M (lb M) M (svI M) M M)<|aA M (aR (cs:=q15) (cs':=zs0) 2 M M (lb M) M ti37 M M (.k (.k (.k (.cons (.nils _) (.cons (.nils _) (.all _)))))))<|aB ?_);obtain ⟨x1,hx1,h⟩:=bR h;refine aC (cLr q12 la37 M<|aA M (fR (r':=.agg (w45 x1.1 x1.2.1 x1.2.2.1 (.osl 3 aD.sz x1.2.2.2.1.length) x1.2.2.2.2.1 x1.2.2.2.2.2.1 x1.2.2.2.2.2.2.1 x1.2.2.2.2.2.2.2.1 x1.2.2.2.2.2.2.2.2)) (H1':=[(3,.blk 105 (D.flat (x1.2.2.2.1.map aD.d)))]) 3 [] M M (lb M) aFa (.cons (svA q12 M) .nil) M M ⟨M,M,by decide,M,List.forall_mem_nil _⟩ (kH _ _ hx1) M M (List.forall_mem_cons.2 ⟨⟨M,(mX aD)⟩,List.forall_mem_nil _⟩) (by simp only [List.map_cons,List.map_nil,Ent.ren,iF,kC]; rfl))<|aA M (aR (cs:=q15) (cs':=zs0) 4 M M (lb M) M ti37 M M (.k (.k (.k (.cons (.nils _) (.cons (.nils _) (.all _)))))))<|cSt q13 q13 ti37 M<|aB ?_);refine aP ?_;obtain ⟨x2,hx2,x3,hx3,h⟩:=eod h;refine aC (cLr q12 la37 M<|aA M (aL (r:=.int _ _) M M (lb M) aDP (.cons (svA q12 M) .nil) M (nK _ _ hx2))<|cCm (b:=0) M hx3<|aB ?_);refine aK h M (fun h=>?_) (fun h=>?_)
 ·
  refine aC (cLr q13 la37 M<|cSt q13 q13 ti37 M<|aB ?_);refine aM<|aT ?_;obtain rfl:=sj_ h;refine ⟨.inr M,_,(.cons (rva la37 M M (nle M) M) .nil),(.cons (.agg (.k (.k (.k (.cons (FDT aD M M) (.all _)))))) .nil)⟩
 ·
  refine aO<|aJ<|aC (aA M (nM M M (lb M) (.cons (svR M) .nil))<|cAs (.fn 141 [.ref _ _]) M<|aB ?_);refine aP<|aC (cFa 3 un37 M ti33 M<|aA M (lrL la33 M M M M M (nle M) M)<|aA M (bY aD (l:=a0.Pieces) M M (lb M) un33 (svL M))<|cMv (.int _ 0) M<|aB ?_);refine bD<|cK (α:=Nat×Int×(List aG)×Bool) (fun z=>⟨[(4,.ref 2 0),(5,.ref 4 0),(6,.fn 141 [.ref 1 0]),(17,.slice false (a0.Pieces.map aD.d)),(18,.int .i64 (a0.Pieces.length:Int)),(19,.int .i64 z.2.1)],[(2,.blk 37 zs0),(4,.blk 37 (w45 x1.1 x1.2.1 x1.2.2.1 (.osl 3 aD.sz x1.2.2.2.1.length) z.2.2.1 x1.2.2.2.2.2.1 x1.2.2.2.2.2.2.1 z.2.2.2 x1.2.2.2.2.2.2.2.2)),(1,.blk 3 [.int .i64 a1]),(3,.blk 105 (D.flat (x1.2.2.2.1.map aD.d)))]⟩) (fun z=>jX a0 a1 x1 z.1 z.2.1 z.2.2.1 z.2.2.2=some r) (fun z=>z.1) (fuel,0,x1.2.2.2.2.1,x1.2.2.2.2.2.2.2.1) (fun i=>i) ⟨(.sames M M),(.cons (.blk M M M) (.cons (.blk M M M) (.cons (.blk M M M) (.cons (EntW.lst M) .nil)))),bX [2,4,1,3] M (by decide),fun _ _=>M⟩ ?_ ?_
  ·exact h
  ·
   rintro ⟨n0,v15,v16,v17⟩ h
   cases n0 with
   | zero=>exact absurd h (by unfold jX; exact nofun)
   | succ n0 =>
    unfold jX at h;obtain ⟨x28,hx28,h⟩:=bF h;refine aC (cCm M hx28<|aB ?_);refine aP<|aK h M (fun h=>?_) (fun h=>?_)
    ·
     refine aO<|aJ<|aP<|bD ?_;obtain ⟨x30,hx30,h⟩:=bR h;refine aC (aA M (bQ aD (cs:=q20) M M (lb M) un33 dH (svL M) (svI M) hx30 M M)<|aA M (cJ (cs:=q20) M M (lb M) fL sG dH (by decide) (sv (d:=.fptr q20) M) (nle M) M)<|aA M (aR (cs:=q20) (cs':=(w49 0 0 0 false)) 5 M M (lb M) M dH M M (.all _))<|cSt q20 q20 dH M<|aB ?_);obtain ⟨x31,hx31,h⟩:=bR h;refine aC (cMv (.fn 141 [.ref _ _]) M<|cLr q20 yO M<|aA M (aBM (r:=.bool x31) M M (lb M) cl141 (sv (d:=.fn 141 [.ref _ _]) M) (.cons (svA q20 M) .nil) (.k (.cons (.ref M M (vK _) M) .nil)) M M (tN _ _ _ hx31))<|aB ?_);refine aK h M (fun h=>?_) (fun h=>?_)
     ·
      obtain ⟨x33,hx33,x34,hx34,h⟩:=eoo h;refine cC M [nd1 [5] 26 (.ref 4 4),nd2 [26] [4] 27 (.slice false (v16.map aE.d)),nd2 [8] [5] 28 (.agg (tv8 x30)),nd1 [28] 29 (.agg [.int .i64 x33.From,.int .i64 x33.To]),nd1 [27,29] 30 (.slice false (x34.map aE.d)),nd1 [5] 31 (.ref 4 4),⟨[30,31],[4],[],[(4,.blk 37 (w45 x1.1 x1.2.1 x1.2.2.1 (.osl 3 aD.sz x1.2.2.2.1.length) x34 x1.2.2.2.2.2.1 x1.2.2.2.2.2.2.1 v17 x1.2.2.2.2.2.2.2.2))]⟩] M ?_ (by kernel_rfl) ?_
      ·refine .cons (dFa 4 un37 M ti35 M)<|.cons (dLd un35 ag35 ti35 M)<|.cons (dLa fL sG dH M)<|.cons (lop M M fun S hA=>(aL (r:=.agg q25) M M (lb M) aGL (.cons (svaA q20 hA M M) .nil) M (nS _ _ hx33)))<|.cons (lop M M fun S hA=>(aL (r:=.slice _ _) M M (lb M) cl142 (.cons (svaL hA M M) (.cons (svaA q25 hA M M) .nil)) M (aDC _ _ _ hx34)))<|.cons (dFa 4 un37 M ti35 M)<|.cons (lop M M fun S hA=>(bK (ds':=q13) M M ti35 (svaR hA M M) (agi hA M M) (svaL hA M M) M M M (nle M) M)) ?_
       exact .nil
      obtain ⟨x35,hx35,h⟩:=bF h;refine aZ (cFa 7 un37 M ti4 M<|cLd (d:=.bool _) un4 ag4 ti4 M<|cB M<|gG M (fun hb=>(tFa 3 fL M ti4 M))<|gG M (fun hb=>(tLc (d:=.bool _) un4 ag4 ti4 M hb))<|cOr M hx35<|cFa 7 un37 M ti4 M<|aA M (bK (ds':=q13) M M ti4 (svR M) M (svB M) M M M (nle M) M)<|bN ?_);refine bW<|aJ ?_;obtain ⟨x36,hx36,h⟩:=bF h;refine aZ (aA M (aX M M (lb M) (svI M) (sv (d:=.int _ 1) M) M hx36)<|cI M<|bN ?_);refine aJ ⟨(n0,x36,x34,x35),(fun i=>i),⟨(.sames M M),(.cons (.blk M M M) (.cons (.blk M M M) (.cons (.blk M M M) (.cons (EntW.lst M) .nil)))),bX [2,4,1,3] M (by decide),fun _ _=>M⟩,?_,?_⟩;exact h;exact Nat.lt_succ_self _
     ·
      refine aO<|bW<|aJ ?_;obtain ⟨x37,hx37,h⟩:=bF h;refine aZ (aA M (aX M M (lb M) (svI M) (sv (d:=.int _ 1) M) M hx37)<|cI M<|bN ?_);refine aJ ⟨(n0,x37,v16,v17),(fun i=>i),⟨(.sames M M),(.cons (.blk M M M) (.cons (.blk M M M) (.cons (.blk M M M) (.cons (EntW.lst M) .nil)))),bX [2,4,1,3] M (by decide),fun _ _=>M⟩,?_,?_⟩;exact h;exact Nat.lt_succ_self _
    ·
     refine cR<|bP<|bP<|cS<|aJ ?_;obtain ⟨x38,hx38,h⟩:=bR h;refine aC (cFa 3 un37 M ti33 M<|cLd (d:=.osl _ _ _) un33 ag33 ti33 M<|cMv (.fn 141 [.ref _ _]) M<|aA M (fR (r':=.osl 5 aD.sz x38.length) (H1':=[(1,.blk 3 [.int .i64 a1]),(5,.blk 105 (D.flat (x38.map aD.d)))]) 5 [3,1] M M (lb M) cl139 (.cons (sv (d:=.osl _ _ _) M) (.cons (sv (d:=.fn 141 [.ref _ _]) M) .nil)) M M ⟨M,M,by decide,M,List.forall_mem_cons.2 ⟨⟨M,M,(aCi aD M),(mX aD)⟩,List.forall_mem_cons.2 ⟨⟨M,M,M,M⟩,List.forall_mem_nil _⟩⟩⟩ (jL _ _ _ hx38) M M (List.forall_mem_cons.2 ⟨⟨M,M⟩,List.forall_mem_cons.2 ⟨⟨M,(mX aD)⟩,List.forall_mem_nil _⟩⟩) (by simp only [List.map_cons,List.map_nil,Ent.ren,iF,kC]; rfl))<|cFa 3 un37 M ti33 M<|aA M (bK (ds':=q13) M M ti33 (svR M) M (sv (d:=.osl _ _ _) M) M M M (nle M) M)<|aB ?_);refine aC (cLr q13 la37 M<|cSt q13 q13 ti37 M<|aB ?_);refine aM ?_;obtain rfl:=sj_ h;refine ⟨.inr M,_,(.cons (rva la37 M M (nle M) M) .nil),(.cons (.agg (.k (.k (.k (.cons (FDT aD M M) (.all _)))))) .nil)⟩

theorem aC0 (a0:aH) (a1:Int) (r:aH) (h:uF a0 a1=some r):bJ prog 38 [.agg (tv0 a0),.int .i64 a1] (.agg (tv0 r)):=by
 refine aQ (rs:=[.agg (tv0 r)]) func38 M ntmps38 (nle M) M fun O hO=>?_
 show IWP _ _ _ _ ⟨[(0,.agg (tv0 a0)),(1,.int .i64 a1)],[]⟩ _
 unfold uF at h;refine aC (cBx (cs:=q10) q10 0 M<|aA M (aR (cs:=q11) (cs':=zs2) 1 M M (lb M) M ti46 M M (.k4 (.cons (.nils _) (.cons (.nils _) (.k4 (.k (.k (.cons (.nils _) (.all _)))))))))<|aB ?_);refine aP ?_;obtain ⟨x1,hx1,x2,hx2,h⟩:=eod h;refine aC (cLr q10 la46 M<|aA M (aL (r:=.int _ _) M M (lb M) cl20 (.cons (svA q10 M) .nil) M (qI _ _ hx1))<|cCm (b:=0) M hx2<|aB ?_);refine aK h M (fun h=>?_) (fun h=>?_)
 ·
  obtain ⟨x4,hx4,h⟩:=bR h;refine aZ (cFa 1 un46 M ti37 M<|cLr q12 la37 M<|cI M<|aA M (aL (r:=.agg q12) M M (lb M) cl94 (.cons (svA q12 M) (.cons (svI M) .nil)) M (aC6 _ _ _ hx4))<|cFa 1 un46 M ti37 M<|cSt q12 q10 ti37 M<|bN ?_);refine aJ<|aC (cLr q10 la46 M<|cSt q10 q10 ti46 M<|aB ?_);refine aM ?_;obtain rfl:=sj_ h;refine ⟨.inr M,(.cons (rva la46 M M (nle M) M) .nil)⟩
 ·
  refine aO<|aJ<|aC (cLr q10 la46 M<|cSt q10 q10 ti46 M<|aB ?_);refine aM ?_;obtain rfl:=sj_ h;refine ⟨.inr M,(.cons (rva la46 M M (nle M) M) .nil)⟩

theorem aAN (a0:aH) (a1:Int) (r:aH) (h:pX a0 a1=some r):FnH prog 80 [.ref 1000 0,.ref 1001 0] [(1000,.blk 46 (tv0 a0)),(1001,.blk 3 [.int .i64 a1])] (retD []) [(1000,.blk 46 (tv0 r)),(1001,.blk 3 [.int .i64 a1])]:=by
 refine gE (rs:=[]) func80 M ntmps80 (nle M) fun O hO=>?_
 show IWP _ _ _ _ ⟨[(0,.ref 1000 0),(1,.ref 1001 0)],[(1000,.blk 46 (tv0 a0)),(1001,.blk 3 [.int .i64 a1])]⟩ _
 unfold pX at h;obtain ⟨x1,hx1,h⟩:=bR h;refine aC (cLd (d:=.int _ _) un3 ag3 ti3 M<|aA M (aL (r:=.bool _) M M (lb M) cl81 (.cons (svI M) .nil) M (aAi _ _ hx1))<|aB ?_);refine aK h M (fun h=>?_) (fun h=>?_)
 ·
  refine aZ (aA M (mvR M M M M)<|cLd (d:=.int _ _) un3 ag3 ti3 M<|aA M (dO M M (lb M) (svR M))<|cFa 22 un46 M ti3 M<|aA M (bK (ds':=q10) M M ti3 (svR M) M (svI M) M M M (nle M) M)<|bN ?_);obtain rfl:=sj_ h;refine ⟨.inl M,(fun i=>i),⟨.nil,(.cons (.blk M M M) (.cons (.blk M M M) .nil)),bX [1000,1001] M (by decide),fun _ _=>M⟩,.nil,M⟩
 ·
  refine aO ?_;obtain rfl:=sj_ h;refine ⟨.inl M,(fun i=>i),⟨.nil,(.cons (.blk M M M) (.cons (.blk M M M) .nil)),bX [1000,1001] M (by decide),fun _ _=>M⟩,.nil,M⟩

theorem rH (a0:aH) (a1:Int) (r:aH) (h:hG a0 a1=some r):FnH prog 79 [.agg (tv0 a0),.fn 80 [.ref 1000 0]] [(1000,.blk 3 [.int .i64 a1])] (.agg (tv0 r)) [(1000,.blk 3 [.int .i64 a1])]:=by
 refine gE (rs:=[.agg (tv0 r)]) func79 M ntmps79 (nle M) fun O hO=>?_
 show IWP _ _ _ _ ⟨[(0,.agg (tv0 a0)),(1,.fn 80 [.ref 1000 0])],[(1000,.blk 3 [.int .i64 a1])]⟩ _
 unfold hG at h;refine aC (cBx (cs:=q10) q10 0 M<|aA M (aR (cs:=q11) (cs':=zs2) 1 M M (lb M) M ti46 M M (.k4 (.cons (.nils _) (.cons (.nils _) (.k4 (.k (.k (.cons (.nils _) (.all _)))))))))<|aB ?_);refine aP ?_;obtain ⟨x1,hx1,x2,hx2,h⟩:=eod h;refine aC (cLr q10 la46 M<|aA M (aL (r:=.int _ _) M M (lb M) cl39 (.cons (svA q10 M) .nil) M (fW _ _ hx1))<|cCm (b:=0) M hx2<|aB ?_);refine aK h M (fun h=>?_) (fun h=>?_)
 ·
  obtain ⟨x4,hx4,h⟩:=bR h;refine aZ (cMv (.fn 80 [.ref _ _]) M<|aA M (tT (r':=.tuple []) (H1':=[(0,.blk 46 (tv0 x4)),(1000,.blk 3 [.int .i64 a1])]) 2 [0,1000] M M (lb M) cl80 (sv (d:=.fn 80 [.ref _ _]) M) (.cons (svR M) .nil) M M ⟨M,M,by decide,M,List.forall_mem_cons.2 ⟨⟨M,M,M,M⟩,List.forall_mem_cons.2 ⟨⟨M,M,M,M⟩,List.forall_mem_nil _⟩⟩⟩ (aAN _ _ _ hx4) M M (List.forall_mem_cons.2 ⟨⟨M,M⟩,List.forall_mem_cons.2 ⟨⟨M,M⟩,List.forall_mem_nil _⟩⟩) M)<|bN ?_);refine aJ<|aC (cLr q10 la46 M<|cSt q10 q10 ti46 M<|aB ?_);refine aM ?_;obtain rfl:=sj_ h;refine ⟨.inr M,(fun i=>i),⟨.nil,(.cons (.blk M M M) .nil),bX [1000] M (by decide),fun _ _=>M⟩,(.cons (rva la46 M M (nle M) M) .nil),M⟩
 ·
  refine aO<|aJ<|aC (cLr q10 la46 M<|cSt q10 q10 ti46 M<|aB ?_);refine aM ?_;obtain rfl:=sj_ h;refine ⟨.inr M,(fun i=>i),⟨.nil,(.cons (.blk M M M) .nil),bX [1000] M (by decide),fun _ _=>M⟩,(.cons (rva la46 M M (nle M) M) .nil),M⟩

theorem aCH (a0:aH) (a1:Int) (r:aH) (h:sI a0 a1=some r):bJ prog 29 [.agg (tv0 a0),.int .i64 a1] (.agg (tv0 r)):=by
 refine aQ (rs:=[.agg (tv0 r)]) func29 M ntmps29 (nle M) M fun O hO=>?_
 show IWP _ _ _ _ ⟨[(0,.agg (tv0 a0)),(1,.int .i64 a1)],[]⟩ _
 unfold sI at h;refine aC (cBx (cs:=q10) q10 0 M<|aA M (sA (cs:=[.int _ _]) 1 M M (lb M) M (svI M) M M)<|aA M (aR (cs:=q11) (cs':=zs2) 2 M M (lb M) M ti46 M M (.k4 (.cons (.nils _) (.cons (.nils _) (.k4 (.k (.k (.cons (.nils _) (.all _)))))))))<|aB ?_);obtain ⟨x1,hx1,h⟩:=bR h;refine aC (cLr q10 la46 M<|aA M (nM M M (lb M) (.cons (svR M) .nil))<|aA M (fR (r':=.agg (tv0 x1)) (H1':=[(1,.blk 3 [.int .i64 a1])]) 3 [1] M M (lb M) cl79 (.cons (svA q10 M) (.cons (sv (d:=.fn 80 [.ref _ _]) M) .nil)) M M ⟨M,M,by decide,M,List.forall_mem_cons.2 ⟨⟨M,M,M,M⟩,List.forall_mem_nil _⟩⟩ (rH _ _ _ hx1) M M (List.forall_mem_cons.2 ⟨⟨M,M⟩,List.forall_mem_nil _⟩) M)<|cSt q10 q10 ti46 M<|aB ?_);refine aM ?_;obtain rfl:=sj_ h;refine ⟨.inr M,(.cons (rva la46 M M (nle M) M) .nil)⟩

theorem aAP (a0:aH) (a1:dC) (r:(aH×bL)) (h:mS a0 a1=some r):bJ prog 18 [.agg (tv0 a0),.agg (tv7 a1)] (retD [.agg (tv0 r.1),.agg (tv2 r.2)]):=by
 refine aQ (rs:=[.agg (tv0 r.1),.agg (tv2 r.2)]) func18 M ntmps18 (nle M) M fun O hO=>?_
 show IWP _ _ _ _ ⟨[(0,.agg (tv0 a0)),(1,.agg (tv7 a1))],[]⟩ _
 unfold mS at h;refine aC (cBx (cs:=q10) q10 0 M<|cBx (cs:=q17) q17 1 M<|aA M (aR (cs:=q11) (cs':=zs2) 2 M M (lb M) M ti46 M M (.k4 (.cons (.nils _) (.cons (.nils _) (.k4 (.k (.k (.cons (.nils _) (.all _)))))))))<|aA M (aR (cs:=q16) (cs':=zs3) 3 M M (lb M) M ti81 M M (.all _))<|aB ?_);refine aC (aA M (aR (cs:=q16) (cs':=zs3) 4 M M (lb M) M ti81 M M (.all _))<|aB ?_);refine aP ?_;obtain ⟨x1,hx1,h⟩:=bR h;refine aC (cFa 0 un85 M ti5 M<|cLd (d:=.int _ _) underlying5 ag5 ti5 M<|aA M (aDk M M (lb M) (svI M) (sv (d:=.int _ 10) M) hx1)<|aB ?_);refine bD ?_;obtain ⟨x2,hx2,h⟩:=bF h;refine aC (cCm (b:=0) M hx2<|cAB M<|aB ?_);refine aK h M (fun h=>?_) (fun h=>?_)
 ·
  obtain ⟨x4,hx4,h⟩:=bR h;refine aC (cLr q10 la46 M<|cFa 1 un85 M ti9 M<|cLd (d:=.str _) un9 ag9 ti9 M<|aA M (aL (r:=.tuple q32) M M (lb M) cl31 (.cons (svA q10 M) (.cons (sv (d:=.str _) M) .nil)) M (aAB _ _ _ hx4))<|cMv (.tuple q32) M<|cEx (d:=.agg q10) (cs:=q32) M<|cEx (d:=.int _ _) (cs:=q32) M<|cEx (d:=.int _ _) (cs:=q32) M<|aA M (aR (cs:=q11) (cs':=zs2) 5 M M (lb M) M ti46 M M (.k4 (.cons (.nils _) (.cons (.nils _) (.k4 (.k (.k (.cons (.nils _) (.all _)))))))))<|cSt q10 q10 ti46 M<|cAI M<|cAI M<|aB ?_);refine aC (cLr q10 la46 M<|cI M<|cI M<|aA M (bA (cs:=q16) M M (lb M) un81 ti81 pl81 M (.cons (svI M) (.cons (svI M) .nil)) M)<|cSt q10 q10 ti46 M<|cSt q16 q16 ti81 M<|aB ?_);refine aM<|bM<|aT ?_;obtain rfl:=sj_ h;refine ⟨.inr M,(.cons (rva la46 M M (nle M) M) (.cons (rva la81 M M (nle M) M) .nil))⟩
 ·
  obtain ⟨x5,hx5,h⟩:=bF h;refine aC (cCm (b:=1) M hx5<|cAB M<|aB ?_);refine aK h M (fun h=>?_) (fun h=>?_)
  ·
   obtain ⟨x7,hx7,h⟩:=bR h;refine aC (cLr q10 la46 M<|aA M (aL (r:=.tuple q38) M M (lb M) cl36 (.cons (svA q10 M) .nil) M (aCI _ _ hx7))<|cMv (.tuple q38) M<|cEx (d:=.agg q10) (cs:=q38) M<|cEx (d:=.int _ _) (cs:=q38) M<|aA M (aR (cs:=q11) (cs':=zs2) 5 M M (lb M) M ti46 M M (.k4 (.cons (.nils _) (.cons (.nils _) (.k4 (.k (.k (.cons (.nils _) (.all _)))))))))<|cSt q10 q10 ti46 M<|cAI M<|aB ?_);refine aC (cLr q10 la46 M<|cI M<|aA M (bA (cs:=q16) M M (lb M) un81 ti81 pl81 M (.cons (svI M) .nil) M)<|cSt q10 q10 ti46 M<|cSt q16 q16 ti81 M<|aB ?_);refine aM<|bM<|aT ?_;obtain rfl:=sj_ h;refine ⟨.inr M,(.cons (rva la46 M M (nle M) M) (.cons (rva la81 M M (nle M) M) .nil))⟩
  ·
   obtain ⟨x8,hx8,h⟩:=bF h;refine aC (cCm (b:=2) M hx8<|cAB M<|aB ?_);refine aK h M (fun h=>?_) (fun h=>?_)
   ·
    obtain ⟨x10,hx10,h⟩:=bR h;refine aC (cLr q10 la46 M<|cFa 2 un85 M ti3 M<|cLd (d:=.int _ _) un3 ag3 ti3 M<|aA M (aL (r:=.tuple q30) M M (lb M) cl32 (.cons (svA q10 M) (.cons (svI M) .nil)) M (wF _ _ _ hx10))<|cMv (.tuple q30) M<|cEx (d:=.agg q10) (cs:=q30) M<|cEx (d:=.str _) (cs:=q30) M<|cEx (d:=.bool _) (cs:=q30) M<|cEx (d:=.int _ _) (cs:=q30) M<|aA M (aR (cs:=q11) (cs':=zs2) 5 M M (lb M) M ti46 M M (.k4 (.cons (.nils _) (.cons (.nils _) (.k4 (.k (.k (.cons (.nils _) (.all _)))))))))<|cSt q10 q10 ti46 M<|cAs (.str _) M<|cAB M<|cAI M<|aB ?_);refine aC (cLr q10 la46 M<|cMv (.str _) M<|cB M<|cI M<|aA M (bA (cs:=q16) M M (lb M) un81 ti81 pl81 M (.cons (sv (d:=.str _) M) (.cons (svB M) (.cons (svI M) .nil))) M)<|cSt q10 q10 ti46 M<|cSt q16 q16 ti81 M<|aB ?_);refine aM<|bM<|aT ?_;obtain rfl:=sj_ h;refine ⟨.inr M,(.cons (rva la46 M M (nle M) M) (.cons (rva la81 M M (nle M) M) .nil))⟩
   ·
    obtain ⟨x11,hx11,h⟩:=bF h;refine aC (cCm (b:=3) M hx11<|cAB M<|aB ?_);refine aK h M (fun h=>?_) (fun h=>?_)
    ·
     obtain ⟨x13,hx13,h⟩:=bR h;refine aC (cLr q10 la46 M<|aA M (aL (r:=.tuple q38) M M (lb M) cl33 (.cons (svA q10 M) .nil) M (uS _ _ hx13))<|cMv (.tuple q38) M<|cEx (d:=.agg q10) (cs:=q38) M<|cEx (d:=.int _ _) (cs:=q38) M<|aA M (aR (cs:=q11) (cs':=zs2) 5 M M (lb M) M ti46 M M (.k4 (.cons (.nils _) (.cons (.nils _) (.k4 (.k (.k (.cons (.nils _) (.all _)))))))))<|cSt q10 q10 ti46 M<|cAI M<|aB ?_);refine aC (cLr q10 la46 M<|cI M<|aA M (bA (cs:=q16) M M (lb M) un81 ti81 pl81 M (.cons (svI M) .nil) M)<|cSt q10 q10 ti46 M<|cSt q16 q16 ti81 M<|aB ?_);refine aM<|bM<|aT ?_;obtain rfl:=sj_ h;refine ⟨.inr M,(.cons (rva la46 M M (nle M) M) (.cons (rva la81 M M (nle M) M) .nil))⟩
    ·
     obtain ⟨x14,hx14,h⟩:=bF h;refine aC (cCm (b:=4) M hx14<|cAB M<|aB ?_);refine aK h M (fun h=>?_) (fun h=>?_)
     ·
      obtain ⟨x16,hx16,h⟩:=bR h;refine aC (cLr q10 la46 M<|cFa 2 un85 M ti3 M<|cLd (d:=.int _ _) un3 ag3 ti3 M<|cFa 1 un85 M ti9 M<|cLd (d:=.str _) un9 ag9 ti9 M<|cFa 4 un85 M ti4 M<|cLd (d:=.bool _) un4 ag4 ti4 M<|aA M (aL (r:=.tuple q32) M M (lb M) cl12 (.cons (svA q10 M) (.cons (svI M) (.cons (sv (d:=.str _) M) (.cons (svB M) .nil)))) M (tL _ _ _ _ _ hx16))<|cMv (.tuple q32) M<|cEx (d:=.agg q10) (cs:=q32) M<|cEx (d:=.int _ _) (cs:=q32) M<|cEx (d:=.int _ _) (cs:=q32) M<|aA M (aR (cs:=q11) (cs':=zs2) 5 M M (lb M) M ti46 M M (.k4 (.cons (.nils _) (.cons (.nils _) (.k4 (.k (.k (.cons (.nils _) (.all _)))))))))<|cSt q10 q10 ti46 M<|cAI M<|cAI M<|aB ?_);obtain ⟨x17,hx17,h⟩:=bF h;refine aC (cLr q10 la46 M<|cI M<|cI M<|aA M (aAI M M (lb M) ⟨_,underlying53⟩ un3 (svI M) hx17)<|aA M (bA (cs:=q16) M M (lb M) un81 ti81 pl81 M (.cons (svI M) (.cons (svI M) .nil)) M)<|cSt q10 q10 ti46 M<|cSt q16 q16 ti81 M<|aB ?_);refine aM<|bM<|aT ?_;obtain rfl:=sj_ h;refine ⟨.inr M,(.cons (rva la46 M M (nle M) M) (.cons (rva la81 M M (nle M) M) .nil))⟩
     ·
      obtain ⟨x18,hx18,h⟩:=bF h;refine aC (cCm (b:=5) M hx18<|cAB M<|aB ?_);refine aK h M (fun h=>?_) (fun h=>?_)
      ·
       obtain ⟨x20,hx20,h⟩:=bR h;refine aC (cLr q10 la46 M<|cFa 2 un85 M ti3 M<|cLd (d:=.int _ _) un3 ag3 ti3 M<|aA M (aL (r:=.tuple q38) M M (lb M) cl35 (.cons (svA q10 M) (.cons (svI M) .nil)) M (uR _ _ _ hx20))<|cMv (.tuple q38) M<|cEx (d:=.agg q10) (cs:=q38) M<|cEx (d:=.int _ _) (cs:=q38) M<|aA M (aR (cs:=q11) (cs':=zs2) 5 M M (lb M) M ti46 M M (.k4 (.cons (.nils _) (.cons (.nils _) (.k4 (.k (.k (.cons (.nils _) (.all _)))))))))<|cSt q10 q10 ti46 M<|cAI M<|aB ?_);obtain ⟨x21,hx21,h⟩:=bF h;refine aC (cLr q10 la46 M<|cI M<|aA M (aAI M M (lb M) ⟨_,underlying53⟩ un3 (svI M) hx21)<|aA M (bA (cs:=q16) M M (lb M) un81 ti81 pl81 M (.cons (svI M) .nil) M)<|cSt q10 q10 ti46 M<|cSt q16 q16 ti81 M<|aB ?_);refine aM<|bM<|aT ?_;obtain rfl:=sj_ h;refine ⟨.inr M,(.cons (rva la46 M M (nle M) M) (.cons (rva la81 M M (nle M) M) .nil))⟩
      ·
       obtain ⟨x22,hx22,h⟩:=bF h;refine aC (cCm (b:=6) M hx22<|cAB M<|aB ?_);refine aK h M (fun h=>?_) (fun h=>?_)
       ·
        obtain ⟨x24,hx24,h⟩:=bR h;refine cC M [nd2 [2] [0] 114 (.agg (tv0 a0)),nd1 [3] 115 (.ref 1 2),nd2 [115] [1] 116 (.int .i64 a1.N),nd1 [3] 117 (.ref 1 4),nd2 [117] [1] 118 (.bool a1.Flag),nd1 [114,116,118] 119 (.agg (tv0 x24)),nd2 [6] [4] 120 (.agg zs3),⟨[4,119],[2],[],[(2,.blk 46 (tv0 x24))]⟩,⟨[5,120],[3],[],[(3,.blk 81 zs3)]⟩] M ?_ (by kernel_rfl) ?_
        ·refine .cons (dLa un46 ag46 ti46 M)<|.cons (dFa 2 un85 M ti3 M)<|.cons (dLd un3 ag3 ti3 M)<|.cons (dFa 4 un85 M ti4 M)<|.cons (dLd un4 ag4 ti4 M)<|.cons (lop M M fun S hA=>(aL (r:=.agg q10) M M (lb M) cl37 (.cons (svaA q10 hA M M) (.cons (svaI hA M M) (.cons (svaB hA M M) .nil))) M (aBj _ _ _ _ hx24)))<|.cons (dLa un81 ag81 ti81 M)<|.cons (dSt q10 ti46 M)<|.cons (dSt q16 ti81 M) ?_
         exact .nil
        refine aM<|bM<|aT ?_;obtain rfl:=sj_ h;refine ⟨.inr M,(.cons (rva la46 M M (nle M) M) (.cons (rva la81 M M (nle M) M) .nil))⟩
       ·
        obtain ⟨x25,hx25,h⟩:=bF h;refine aC (cCm (b:=7) M hx25<|cAB M<|aB ?_);refine aK h M (fun h=>?_) (fun h=>?_)
        ·
         obtain ⟨x27,hx27,h⟩:=bR h;refine aC (cLr q10 la46 M<|cFa 2 un85 M ti3 M<|cLd (d:=.int _ _) un3 ag3 ti3 M<|cFa 3 un85 M ti3 M<|cLd (d:=.int _ _) un3 ag3 ti3 M<|cFa 3 un85 M ti3 M<|cLd (d:=.int _ _) un3 ag3 ti3 M<|aA M (aL (r:=.tuple q29) M M (lb M) cl34 (.cons (svA q10 M) (.cons (svI M) (.cons (svI M) (.cons (svI M) .nil)))) M (aAj _ _ _ _ _ hx27))<|cMv (.tuple q29) M<|cEx (d:=.agg q10) (cs:=q29) M<|cEx (d:=.agg q20) (cs:=q29) M<|cEx (d:=.str _) (cs:=q29) M<|cEx (d:=.bool _) (cs:=q29) M<|aA M (aR (cs:=q11) (cs':=zs2) 5 M M (lb M) M ti46 M M (.k4 (.cons (.nils _) (.cons (.nils _) (.k4 (.k (.k (.cons (.nils _) (.all _)))))))))<|aA M (aR (cs:=q20) (cs':=(w49 0 0 0 false)) 6 M M (lb M) M dH M M (.all _))<|cSt q10 q10 ti46 M<|cSt q20 q20 dH M<|cAs (.str _) M<|cAB M<|aB ?_);refine cC M [nd2 [23] [5] 136 (.agg (tv0 x27.1)),nd1 [25] 137 (.str x27.2.2.1),nd1 [26] 138 (.bool x27.2.2.2),nd2 [24] [6] 139 (.agg (tv8 x27.2.1)),nd1 [137,138,139] 140 (.agg (w46 0 0 x27.2.2.1 x27.2.2.2 x27.2.1.From x27.2.1.To x27.2.1.Path x27.2.1.Fin)),⟨[4,136],[2],[],[(2,.blk 46 (tv0 x27.1))]⟩,⟨[5,140],[3],[],[(3,.blk 81 (w46 0 0 x27.2.2.1 x27.2.2.2 x27.2.1.From x27.2.1.To x27.2.1.Path x27.2.1.Fin))]⟩] M ?_ (by kernel_rfl) ?_
         ·refine .cons (dLa un46 ag46 ti46 M)<|.cons (lop M M fun S hA=>(bI M M (lb M) (sv (d:=.str _) (agr hA M M))))<|.cons (dMv M)<|.cons (dLa fL sG dH M)<|.cons (lop M M fun S hA=>(bA (cs:=q16) M M (lb M) un81 ti81 pl81 M (.cons (sv (d:=.str _) (agr hA M M)) (.cons (svaB hA M M) (.cons (svaA q20 hA M M) .nil))) M))<|.cons (dSt q10 ti46 M)<|.cons (dSt q16 ti81 M) ?_
          exact .nil
         refine aM<|bM<|aT ?_;obtain rfl:=sj_ h;refine ⟨.inr M,(.cons (rva la46 M M (nle M) M) (.cons (rva la81 M M (nle M) M) .nil))⟩
        ·
         obtain ⟨x28,hx28,h⟩:=bF h;refine aC (cCm (b:=8) M hx28<|cAB M<|aB ?_);refine aK h M (fun h=>?_) (fun h=>?_)
         ·
          obtain ⟨x30,hx30,h⟩:=bR h;refine cC M [nd2 [2] [0] 143 (.agg (tv0 a0)),nd1 [3] 144 (.ref 1 2),nd2 [144] [1] 145 (.int .i64 a1.N),nd1 [143,145] 146 (.agg (tv0 x30)),nd2 [6] [4] 147 (.agg zs3),⟨[4,146],[2],[],[(2,.blk 46 (tv0 x30))]⟩,⟨[5,147],[3],[],[(3,.blk 81 zs3)]⟩] M ?_ (by kernel_rfl) ?_
          ·refine .cons (dLa un46 ag46 ti46 M)<|.cons (dFa 2 un85 M ti3 M)<|.cons (dLd un3 ag3 ti3 M)<|.cons (lop M M fun S hA=>(aL (r:=.agg q10) M M (lb M) cl38 (.cons (svaA q10 hA M M) (.cons (svaI hA M M) .nil)) M (aC0 _ _ _ hx30)))<|.cons (dLa un81 ag81 ti81 M)<|.cons (dSt q10 ti46 M)<|.cons (dSt q16 ti81 M) ?_
           exact .nil
          refine aM<|bM<|aT ?_;obtain rfl:=sj_ h;refine ⟨.inr M,(.cons (rva la46 M M (nle M) M) (.cons (rva la81 M M (nle M) M) .nil))⟩
         ·
          refine aO<|bW<|aJ<|aP<|aC (cFa 3 un85 M ti3 M<|cLd (d:=.int _ _) un3 ag3 ti3 M<|aB ?_);refine bD ?_;obtain ⟨x31,hx31,h⟩:=bF h;refine aC (cCm (b:=9) M hx31<|cAB M<|aB ?_);refine aK h M (fun h=>?_) (fun h=>?_)
          ·
           obtain ⟨x33,hx33,h⟩:=bR h;refine cC M [nd2 [2] [0] 152 (.agg (tv0 a0)),nd1 [3] 153 (.ref 1 2),nd2 [153] [1] 154 (.int .i64 a1.N),nd1 [152,154] 155 (.agg (tv0 x33)),nd2 [6] [4] 156 (.agg zs3),⟨[4,155],[2],[],[(2,.blk 46 (tv0 x33))]⟩,⟨[5,156],[3],[],[(3,.blk 81 zs3)]⟩] M ?_ (by kernel_rfl) ?_
           ·refine .cons (dLa un46 ag46 ti46 M)<|.cons (dFa 2 un85 M ti3 M)<|.cons (dLd un3 ag3 ti3 M)<|.cons (lop M M fun S hA=>(aL (r:=.agg q10) M M (lb M) cl29 (.cons (svaA q10 hA M M) (.cons (svaI hA M M) .nil)) M (aCH _ _ _ hx33)))<|.cons (dLa un81 ag81 ti81 M)<|.cons (dSt q10 ti46 M)<|.cons (dSt q16 ti81 M) ?_
            exact .nil
           refine aM<|bM<|aT ?_;obtain rfl:=sj_ h;refine ⟨.inr M,(.cons (rva la46 M M (nle M) M) (.cons (rva la81 M M (nle M) M) .nil))⟩
          ·
           obtain ⟨x34,hx34,h⟩:=bF h;refine aC (cCm (b:=8) M hx34<|cAB M<|aB ?_);refine aK h M (fun h=>?_) (fun h=>?_)
           ·
            obtain ⟨x36,hx36,h⟩:=bR h;refine cC M [nd2 [2] [0] 159 (.agg (tv0 a0)),nd1 [3] 160 (.ref 1 2),nd2 [160] [1] 161 (.int .i64 a1.N),nd1 [159,161] 162 (.agg (tv0 x36)),nd2 [6] [4] 163 (.agg zs3),⟨[4,162],[2],[],[(2,.blk 46 (tv0 x36))]⟩,⟨[5,163],[3],[],[(3,.blk 81 zs3)]⟩] M ?_ (by kernel_rfl) ?_
            ·refine .cons (dLa un46 ag46 ti46 M)<|.cons (dFa 2 un85 M ti3 M)<|.cons (dLd un3 ag3 ti3 M)<|.cons (lop M M fun S hA=>(aL (r:=.agg q10) M M (lb M) cl30 (.cons (svaA q10 hA M M) (.cons (svaI hA M M) .nil)) M (vX _ _ _ hx36)))<|.cons (dLa un81 ag81 ti81 M)<|.cons (dSt q10 ti46 M)<|.cons (dSt q16 ti81 M) ?_
             exact .nil
            refine aM<|bM<|aT ?_;obtain rfl:=sj_ h;refine ⟨.inr M,(.cons (rva la46 M M (nle M) M) (.cons (rva la81 M M (nle M) M) .nil))⟩
           ·
            refine aO<|bW<|aJ<|cC M [nd2 [2] [0] 164 (.agg (tv0 a0)),nd2 [6] [4] 165 (.agg zs3),⟨[4,164],[2],[],[(2,.blk 46 (tv0 a0))]⟩,⟨[5,165],[3],[],[(3,.blk 81 zs3)]⟩] M ?_ (by kernel_rfl) ?_
            ·refine .cons (dLa un46 ag46 ti46 M)<|.cons (dLa un81 ag81 ti81 M)<|.cons (dSt q10 ti46 M)<|.cons (dSt q16 ti81 M) ?_
             exact .nil
            refine aM ?_;obtain rfl:=sj_ h;refine ⟨.inr M,(.cons (rva la46 M M (nle M) M) (.cons (rva la81 M M (nle M) M) .nil))⟩

theorem tY (a0:Int) (r:Bool) (h:nV a0=some r):bJ prog 184 [.int .i64 a0] (.bool r):=by
 refine aQ (rs:=[.bool r]) func184 M ntmps184 (nle M) M fun O hO=>?_
 show IWP _ _ _ _ ⟨[(0,.int .i64 a0)],[]⟩ _
 unfold nV at h;refine aC (cAs (.bool false) M<|aB ?_);obtain ⟨x1,hx1,x2,hx2,x3,hx3,h⟩:=eddd h;refine aC (cI M<|cCm (b:=0) M hx1<|cB M<|gG M (fun hb=>(tI M))<|gG M (fun hb=>(tCg (b:=4611686018427387903) M hb hx2))<|cAn M hx3<|cAB M<|aB ?_);refine aM ?_;obtain rfl:=sj_ h;refine ⟨.inr M,(.cons (sv M) .nil)⟩

theorem pT (a0:aG) (r:Bool) (h:jF a0=some r):bJ prog 163 [.agg [.int .i64 a0.From,.int .i64 a0.To]] (.bool r):=by
 refine aQ (rs:=[.bool r]) func163 M ntmps163 (nle M) M fun O hO=>?_
 show IWP _ _ _ _ ⟨[(0,.agg [.int .i64 a0.From,.int .i64 a0.To])],[]⟩ _
 unfold jF at h;refine aC (cBx (cs:=q25) q25 0 M<|cAs (.bool false) M<|aB ?_);obtain ⟨x1,hx1,x2,hx2,x3,hx3,h⟩:=eood h;refine aC (cFa 0 nO M ti3 M<|cLd (d:=.int _ _) un3 ag3 ti3 M<|aA M (aL (r:=.bool _) M M (lb M) cl184 (.cons (svI M) .nil) M (tY _ _ hx1))<|cB M<|gG M (fun hb=>(tFa 1 nO M ti3 M))<|gG M (fun hb=>(tLc (d:=.int _ _) un3 ag3 ti3 M hb))<|gG M (fun hb=>(aL (r:=.bool _) M M (lb M) cl184 (.cons (svcI M hb) .nil) M (tY _ _ (gd_t hx2 hb))))<|cAn M hx3<|cAB M<|aB ?_);refine aM ?_;obtain rfl:=sj_ h;refine ⟨.inr M,(.cons (sv M) .nil)⟩

theorem jG (a0:(List aG)) (r:Int) (h:gA a0=some r):bJ prog 119 [.slice false (a0.map aE.d)] (.int .i64 r):=by
 refine aQ (rs:=[.int .i64 r]) func119 M ntmps119 (nle M) M fun O hO=>?_
 show IWP _ _ _ _ ⟨[(0,.slice false (a0.map aE.d))],[]⟩ _
 unfold gA at h;refine aC (cAs (.int _ 0) M<|aB ?_);refine aP<|aC (cAs (.int _ 0) M<|aB ?_);refine bD<|cK (α:=Nat×Int) (fun z=>⟨[(0,.slice false (a0.map aE.d)),(3,.int .i64 z.2)],[]⟩) (fun z=>eP a0 z.1 z.2=some r) (fun z=>z.1) (fuel,0) (fun i=>i) ⟨(.sames M M),.nil,bX [] M (by decide),fun _ _=>M⟩ ?_ ?_
 ·exact h
 ·
  rintro ⟨n0,v7⟩ h
  cases n0 with
  | zero=>exact absurd h (by unfold eP; exact nofun)
  | succ n0 =>
   unfold eP at h;refine aP ?_;obtain ⟨x14,hx14,h⟩:=bF h;refine aC (cI M<|aA M (mvL M M M M)<|aA M (bY aE (l:=a0) M M (lb M) un63 (svL M))<|cCm M hx14<|aB ?_);refine aK h M (fun h=>?_) (fun h=>?_)
   ·
    refine aO<|aJ<|aP<|bD ?_;obtain ⟨x16,hx16,x17,hx17,h⟩:=eoo h;refine aC (aA M (mvL M M M M)<|cI M<|aA M (bQ aE (cs:=q25) M M (lb M) un63 mY (svL M) (svI M) hx16 M M)<|aA M (cJ (cs:=q25) M M (lb M) nO aFh mY (by decide) (sv (d:=.fptr q25) M) (nle M) M)<|aA M (aL (r:=.bool _) M M (lb M) cl163 (.cons (svA q25 M) .nil) M (pT _ _ hx17))<|aA M (cV M M (lb M) (svB M))<|aB ?_);refine aK h M (fun h=>?_) (fun h=>?_)
    ·
     refine aC (cAs (.int _ 8) M<|aB ?_);refine aM<|bM<|aT<|aT<|bM<|aT ?_;obtain rfl:=sj_ h;refine ⟨.inr M,(.cons (sv M) .nil)⟩
    ·
     refine aO<|bW<|aJ ?_;obtain ⟨x19,hx19,h⟩:=bF h;refine aZ (cI M<|aA M (aX M M (lb M) (svI M) (sv (d:=.int _ 1) M) M hx19)<|cAI M<|bN ?_);refine aJ ⟨(n0,x19),(fun i=>i),⟨(.sames M M),.nil,bX [] M (by decide),fun _ _=>M⟩,?_,?_⟩;exact h;exact Nat.lt_succ_self _
   ·
    refine cR<|bP<|bP<|cS<|aJ<|aP<|aC (cAs (.int _ 0) M<|aB ?_);refine bD<|cK (α:=Nat×Int) (fun z=>⟨[(0,.slice false (a0.map aE.d)),(4,.int .i64 z.2)],[]⟩) (fun z=>eO a0 z.1 z.2=some r) (fun z=>z.1) (fuel,0) (fun i=>i) ⟨(.sames M M),.nil,bX [] M (by decide),fun _ _=>M⟩ ?_ ?_
    ·exact h
    ·
     rintro ⟨n1,v27⟩ h
     cases n1 with
     | zero=>exact absurd h (by unfold eO; exact nofun)
     | succ n1 =>
      unfold eO at h;refine aP ?_;obtain ⟨x35,hx35,h⟩:=bF h;refine aC (cI M<|aA M (mvL M M M M)<|aA M (bY aE (l:=a0) M M (lb M) un63 (svL M))<|cCm M hx35<|aB ?_);refine aK h M (fun h=>?_) (fun h=>?_)
      ·
       refine aO<|aJ<|aP<|bD ?_;obtain ⟨x37,hx37,x38,hx38,x39,hx39,h⟩:=eood h;refine cC M [nd1 [0] 24 (.slice false (a0.map aE.d)),nd1 [4] 25 (.int .i64 v27),nd1 [24,25] 26 (.fptr [.int .i64 x37.From,.int .i64 x37.To]),nd1 [26] 27 (.fptr [.int .i64 x37.To]),nd1 [27] 28 (.int .i64 x37.To),nd1 [0] 29 (.slice false (a0.map aE.d)),nd1 [4] 30 (.int .i64 v27),nd1 [29,30] 31 (.fptr [.int .i64 x38.From,.int .i64 x38.To]),nd1 [31] 32 (.fptr [.int .i64 x38.From]),nd1 [32] 33 (.int .i64 x38.From),nd1 [28,33] 34 (.bool x39)] M ?_ (by kernel_rfl) ?_
       ·refine .cons (dMv M)<|.cons (dMv M)<|.cons (lop M M fun S hA=>(bQ aE (cs:=q25) M M (lb M) un63 mY (svaL hA M M) (svaI hA M M) hx37 M M))<|.cons (lop M M fun S hA=>(bG (cs':=[.int _ _]) M M (lb M) nO M ti3 (by decide) (sv (d:=.fptr q25) (agr hA M M)) M))<|.cons (lop M M fun S hA=>(bU M M (lb M) un3 ag3 ti3 (by decide) (sv (d:=.fptr [.int _ _]) (agr hA M M)) (nle M)))<|.cons (dMv M)<|.cons (dMv M)<|.cons (lop M M fun S hA=>(bQ aE (cs:=q25) M M (lb M) un63 mY (svaL hA M M) (svaI hA M M) hx38 M M))<|.cons (lop M M fun S hA=>(bG (cs':=[.int _ _]) M M (lb M) nO M ti3 (by decide) (sv (d:=.fptr q25) (agr hA M M)) M))<|.cons (lop M M fun S hA=>(bU M M (lb M) un3 ag3 ti3 (by decide) (sv (d:=.fptr [.int _ _]) (agr hA M M)) (nle M)))<|.cons (lop M M fun S hA=>(cU M M (lb M) (svaI hA M M) (svaI hA M M) M hx39)) ?_
        exact .nil
       refine aK h M (fun h=>?_) (fun h=>?_)
       ·
        refine aC (cAs (.int _ 4) M<|aB ?_);refine aM<|bM<|aT<|aT<|bM<|aT ?_;obtain rfl:=sj_ h;refine ⟨.inr M,(.cons (sv M) .nil)⟩
       ·
        refine aO<|bW<|aJ ?_;obtain ⟨x41,hx41,h⟩:=bF h;refine aZ (cI M<|aA M (aX M M (lb M) (svI M) (sv (d:=.int _ 1) M) M hx41)<|cAI M<|bN ?_);refine aJ ⟨(n1,x41),(fun i=>i),⟨(.sames M M),.nil,bX [] M (by decide),fun _ _=>M⟩,?_,?_⟩;exact h;exact Nat.lt_succ_self _
      ·
       refine cR<|bP<|bP<|cS<|aJ<|aP<|aC (cAs (.int _ 1) M<|aB ?_);refine bD<|cK (α:=Nat×Int) (fun z=>⟨[(0,.slice false (a0.map aE.d)),(5,.int .i64 z.2)],[]⟩) (fun z=>dV a0 z.1 z.2=some r) (fun z=>z.1) (fuel,1) (fun i=>i) ⟨(.sames M M),.nil,bX [] M (by decide),fun _ _=>M⟩ ?_ ?_
       ·exact h
       ·
        rintro ⟨n2,v50⟩ h
        cases n2 with
        | zero=>exact absurd h (by unfold dV; exact nofun)
        | succ n2 =>
         unfold dV at h;refine aP ?_;obtain ⟨x59,hx59,h⟩:=bF h;refine aC (cI M<|aA M (mvL M M M M)<|aA M (bY aE (l:=a0) M M (lb M) un63 (svL M))<|cCm M hx59<|aB ?_);refine aK h M (fun h=>?_) (fun h=>?_)
         ·
          refine aO<|aJ<|aP<|bD ?_;obtain ⟨x61,hx61,x62,hx62,x63,hx63,h⟩:=eodo h;obtain ⟨x64,hx64,h⟩:=bF h;refine cC M [nd1 [0] 41 (.slice false (a0.map aE.d)),nd1 [5] 42 (.int .i64 v50),nd1 [41,42] 43 (.fptr [.int .i64 x61.From,.int .i64 x61.To]),nd1 [43] 44 (.fptr [.int .i64 x61.From]),nd1 [44] 45 (.int .i64 x61.From),nd1 [0] 46 (.slice false (a0.map aE.d)),nd1 [5] 47 (.int .i64 v50),nd1 [47] 48 (.int .i64 x62),nd1 [46,48] 49 (.fptr [.int .i64 x63.From,.int .i64 x63.To]),nd1 [49] 50 (.fptr [.int .i64 x63.To]),nd1 [50] 51 (.int .i64 x63.To),nd1 [45,51] 52 (.bool x64)] M ?_ (by kernel_rfl) ?_
          ·refine .cons (dMv M)<|.cons (dMv M)<|.cons (lop M M fun S hA=>(bQ aE (cs:=q25) M M (lb M) un63 mY (svaL hA M M) (svaI hA M M) hx61 M M))<|.cons (lop M M fun S hA=>(bG (cs':=[.int _ _]) M M (lb M) nO M ti3 (by decide) (sv (d:=.fptr q25) (agr hA M M)) M))<|.cons (lop M M fun S hA=>(bU M M (lb M) un3 ag3 ti3 (by decide) (sv (d:=.fptr [.int _ _]) (agr hA M M)) (nle M)))<|.cons (dMv M)<|.cons (dMv M)<|.cons (lop M M fun S hA=>(aX M M (lb M) (svaI hA M M) (sv (d:=.int _ 1) M) M hx62))<|.cons (lop M M fun S hA=>(bQ aE (cs:=q25) M M (lb M) un63 mY (svaL hA M M) (svaI hA M M) hx63 M M))<|.cons (lop M M fun S hA=>(bG (cs':=[.int _ _]) M M (lb M) nO M ti3 (by decide) (sv (d:=.fptr q25) (agr hA M M)) M))<|.cons (lop M M fun S hA=>(bU M M (lb M) un3 ag3 ti3 (by decide) (sv (d:=.fptr [.int _ _]) (agr hA M M)) (nle M)))<|.cons (lop M M fun S hA=>(cU M M (lb M) (svaI hA M M) (svaI hA M M) M hx64)) ?_
           exact .nil
          refine aK h M (fun h=>?_) (fun h=>?_)
          ·
           refine aC (cAs (.int _ 10) M<|aB ?_);refine aM<|bM<|aT<|aT<|bM<|aT ?_;obtain rfl:=sj_ h;refine ⟨.inr M,(.cons (sv M) .nil)⟩
          ·
           refine aO<|bW<|aJ ?_;obtain ⟨x66,hx66,h⟩:=bF h;refine aZ (cI M<|aA M (aX M M (lb M) (svI M) (sv (d:=.int _ 1) M) M hx66)<|cAI M<|bN ?_);refine aJ ⟨(n2,x66),(fun i=>i),⟨(.sames M M),.nil,bX [] M (by decide),fun _ _=>M⟩,?_,?_⟩;exact h;exact Nat.lt_succ_self _
         ·
          refine cR<|bP<|bP<|cS<|aJ<|aC (cAs (.int _ 0) M<|aB ?_);refine aM ?_;obtain rfl:=sj_ h;refine ⟨.inr M,(.cons (sv M) .nil)⟩
end Go.Proofs.YtnokcmkfkfeaiaaGreat
