/-
  A part of the proof: rules and plain facts. No condition.
-/
import Derived.Test.YtgooaecafbjhjaaGreatDoorProg
import Derived.KernelRfl
import Derived.Test.YtgooaecafbjhjaaGreatDoorIlTm
import Derived.Test.YtgooaecafbjhjaaGreatDoorIlP1
import Derived.Test.YtgooaecafbjhjaaGreatDoorIlSc
import Derived.Test.YtgooaecafbjhjaaGreatDoorIlIt35b
import Derived.Test.YtgooaecafbjhjaaGreatDoorIlA35bC1
set_option linter.all false
set_option maxRecDepth 8000
set_option maxHeartbeats 2000000
open Go Go.IL Go.Fn Go.Proofs
namespace Go.Proofs.YtgooaecafbjhjaaGreatDoor
theorem ti83 : TI Tryz.prog 83 (some (.slice none 0 0)) 1 24:=by unfold TI; kernel_rfl
theorem ti88 : TI Tryz.prog 88 (some (.slice none 0 0)) 1 24:=by unfold TI; kernel_rfl
theorem ti94 : TI Tryz.prog 94 (some (.agg #[.string ⟨#[]⟩,.int .i64 0,.int .i64 0])) 3 32:=by unfold TI; kernel_rfl
theorem rG : TI Tryz.prog 129 (some (.agg #[.int .i64 0,.string ⟨#[]⟩,.int .i64 0,.slice none 0 0,.slice none 0 0,.bool false,.bool false,.bool false,.bool false,.int .i64 0,.string ⟨#[]⟩,.slice none 0 0,.int .i64 0,.string ⟨#[]⟩,.int .i64 0,.int .i64 0,.bool false,.int .i64 0,.int .i64 0,.slice none 0 0,.slice none 0 0,.int .i64 0,.int .i64 0,.int .i64 0,.int .i64 0,.slice none 0 0,.slice none 0 0,.slice none 0 0,.slice none 0 0,.bool false,.bool false,.int .i64 0,.int .i64 0,.bool false,.bool false,.int .i64 0,.int .i64 0,.bool false,.bool false,.int .i64 0,.int .i64 0,.bool false,.bool false,.int .i64 0,.int .i64 0,.int .i64 0,.slice none 0 0,.int .u8 0,.int .i64 0,.int .i64 0,.int .u32 0,.int .u32 0,.int .i64 0,.string ⟨#[]⟩,.int .i64 0,.slice none 0 0,.slice none 0 0,.int .i64 0,.string ⟨#[]⟩,.slice none 0 0,.int .i64 0,.int .i64 0,.bool false,.int .i64 0,.int .i64 0,.int .i64 0,.int .i64 0,.int .i64 0,.int .i64 0,.int .i64 0,.int .i64 0,.int .i64 0,.bool false,.int .u8 0,.int .i64 0,.int .i64 0,.int .u32 0,.int .u32 0,.int .i64 0,.string ⟨#[]⟩,.int .i64 0,.slice none 0 0,.slice none 0 0,.int .i64 0,.string ⟨#[]⟩,.slice none 0 0,.int .i64 0,.int .i64 0,.bool false,.int .i64 0,.int .i64 0,.int .i64 0,.int .i64 0,.int .i64 0,.int .i64 0,.int .i64 0,.int .i64 0,.int .i64 0,.bool false,.int .u8 0,.int .i64 0,.int .i64 0,.int .u32 0,.int .u32 0,.int .i64 0,.string ⟨#[]⟩,.int .i64 0,.slice none 0 0,.slice none 0 0,.int .i64 0,.string ⟨#[]⟩,.slice none 0 0,.int .i64 0,.int .i64 0,.bool false,.int .i64 0,.int .i64 0,.int .i64 0,.int .i64 0,.int .i64 0,.int .i64 0,.int .i64 0,.int .i64 0,.int .i64 0,.bool false,.int .u8 0,.int .i64 0,.int .i64 0,.int .u32 0,.int .u32 0,.int .i64 0,.string ⟨#[]⟩,.int .i64 0,.slice none 0 0,.slice none 0 0,.int .i64 0,.string ⟨#[]⟩,.slice none 0 0,.int .i64 0,.int .i64 0,.bool false,.int .i64 0,.int .i64 0,.int .i64 0,.int .i64 0,.int .i64 0,.int .i64 0,.int .i64 0,.int .i64 0,.int .i64 0,.bool false,.string ⟨#[]⟩,.int .i64 0,.int .i64 0,.string ⟨#[]⟩,.int .i64 0,.int .i64 0,.string ⟨#[]⟩,.int .i64 0,.int .i64 0,.string ⟨#[]⟩,.int .i64 0,.int .i64 0,.int .i64 0,.int .i64 0,.int .i64 0,.int .i64 0,.int .i64 0,.int .i64 0,.int .i64 0,.int .i64 0,.int .i64 0,.int .i64 0,.int .i64 0,.int .i64 0,.int .i64 0,.int .i64 0,.int .i64 0,.int .i64 0,.slice none 0 0,.slice none 0 0,.slice none 0 0,.slice none 0 0,.slice none 0 0,.slice none 0 0,.int .i64 0,.int .i64 0,.int .i64 0,.int .i64 0,.int .i64 0,.bool false])) 191 2008:=by unfold TI; kernel_rfl
theorem xH : TI Tryz.prog 145 (some (.slice none 0 0)) 1 24:=by unfold TI; kernel_rfl
theorem kO : TI Tryz.prog 148 (some (.agg #[.int .u8 0,.bool false,.int .i64 0,.int .i64 0,.int .i64 0,.int .i64 0,.int .i64 0,.int .i64 0,.slice none 0 0,.string ⟨#[]⟩])) 10 96:=by unfold TI; kernel_rfl
theorem aFs : TI Tryz.prog 167 (some (.agg #[.slice none 0 0,.int .i64 0,.int .i64 0])) 3 40:=by unfold TI; kernel_rfl
theorem oG : TI Tryz.prog 243 (some (.pointer none)) 1 8:=by unfold TI; kernel_rfl
theorem aCN : TI Tryz.prog 258 (some (.agg #[.int .i64 0,.string ⟨#[]⟩])) 2 24:=by unfold TI; kernel_rfl
theorem aFr : TI Tryz.prog 260 (some (.agg #[.int .i64 0,.string ⟨#[]⟩,.slice none 0 0,.int .i64 0])) 4 56:=by unfold TI; kernel_rfl
theorem ag83 : eA Tryz.prog 83 = false:=by kernel_rfl
theorem ag88 : eA Tryz.prog 88 = false:=by kernel_rfl
theorem ag94 : eA Tryz.prog 94 = true:=by kernel_rfl
theorem ag145 : eA Tryz.prog 145 = false:=by kernel_rfl
theorem aGq : eA Tryz.prog 148 = true:=by kernel_rfl
theorem ag167 : eA Tryz.prog 167 = true:=by kernel_rfl
theorem ag243 : eA Tryz.prog 243 = false:=by kernel_rfl
theorem ag258 : eA Tryz.prog 258 = true:=by kernel_rfl
theorem ag260 : eA Tryz.prog 260 = true:=by kernel_rfl
theorem aBg : ∀ w,(Array.mapM (m:=Sem) (fun (f : Field)=>Functor.map (Prod.mk f.offset) (sizeOf f.type)) (fieldsOf Tryz.prog 148)).run Tryz.prog w = .ok #[(0,1),(1,1),(2,1),(3,1),(4,1),(5,1),(6,1),(7,1),(8,1),(9,1)] w:=fun w=>by kernel_rfl
theorem pl167 : ∀ w,(Array.mapM (m:=Sem) (fun (f : Field)=>Functor.map (Prod.mk f.offset) (sizeOf f.type)) (fieldsOf Tryz.prog 167)).run Tryz.prog w = .ok #[(0,1),(1,1),(2,1)] w:=fun w=>by kernel_rfl
theorem pl260 : ∀ w,(Array.mapM (m:=Sem) (fun (f : Field)=>Functor.map (Prod.mk f.offset) (sizeOf f.type)) (fieldsOf Tryz.prog 260)).run Tryz.prog w = .ok #[(0,3),(3,1)] w:=fun w=>by kernel_rfl
theorem st180 : Tryz.prog.stoodInHeld 180 = false ∧ Tryz.prog.eqGuardType Tryz.prog.depth 180 = false:=⟨by kernel_rfl,by kernel_rfl⟩
theorem cl53 : aV Tryz.prog 53:=⟨Tryz.f53,Tryz.func53,rfl,rfl⟩
theorem cl64 : aV Tryz.prog 64:=⟨Tryz.f64,Tryz.func64,rfl,rfl⟩
theorem cl78 : aV Tryz.prog 78:=⟨Tryz.f78,Tryz.func78,rfl,rfl⟩
theorem cl79 : aV Tryz.prog 79:=⟨Tryz.f79,Tryz.func79,rfl,rfl⟩
theorem cl80 : aV Tryz.prog 80:=⟨Tryz.f80,Tryz.func80,rfl,rfl⟩
theorem cl81 : aV Tryz.prog 81:=⟨Tryz.f81,Tryz.func81,rfl,rfl⟩
theorem cl82 : aV Tryz.prog 82:=⟨Tryz.f82,Tryz.func82,rfl,rfl⟩
theorem cl85 : aV Tryz.prog 85:=⟨Tryz.f85,Tryz.func85,rfl,rfl⟩
theorem cl95 : aV Tryz.prog 95:=⟨Tryz.f95,Tryz.func95,rfl,rfl⟩
theorem cl96 : aV Tryz.prog 96:=⟨Tryz.f96,Tryz.func96,rfl,rfl⟩
theorem cl97 : aV Tryz.prog 97:=⟨Tryz.f97,Tryz.func97,rfl,rfl⟩
theorem cl98 : aV Tryz.prog 98:=⟨Tryz.f98,Tryz.func98,rfl,rfl⟩
theorem cl99 : aV Tryz.prog 99:=⟨Tryz.f99,Tryz.func99,rfl,rfl⟩
theorem cl100 : aV Tryz.prog 100:=⟨Tryz.f100,Tryz.func100,rfl,rfl⟩
theorem cl101 : aV Tryz.prog 101:=⟨Tryz.f101,Tryz.func101,rfl,rfl⟩
theorem cl102 : aV Tryz.prog 102:=⟨Tryz.f102,Tryz.func102,rfl,rfl⟩
theorem cl103 : aV Tryz.prog 103:=⟨Tryz.f103,Tryz.func103,rfl,rfl⟩
theorem cl108 : aV Tryz.prog 108:=⟨Tryz.f108,Tryz.func108,rfl,rfl⟩
theorem cl109 : aV Tryz.prog 109:=⟨Tryz.f109,Tryz.func109,rfl,rfl⟩
theorem cl110 : aV Tryz.prog 110:=⟨Tryz.f110,Tryz.func110,rfl,rfl⟩
theorem cl111 : aV Tryz.prog 111:=⟨Tryz.f111,Tryz.func111,rfl,rfl⟩
theorem cl112 : aV Tryz.prog 112:=⟨Tryz.f112,Tryz.func112,rfl,rfl⟩
theorem cl113 : aV Tryz.prog 113:=⟨Tryz.f113,Tryz.func113,rfl,rfl⟩
theorem cl114 : aV Tryz.prog 114:=⟨Tryz.f114,Tryz.func114,rfl,rfl⟩
theorem cl115 : aV Tryz.prog 115:=⟨Tryz.f115,Tryz.func115,rfl,rfl⟩
theorem cl116 : aV Tryz.prog 116:=⟨Tryz.f116,Tryz.func116,rfl,rfl⟩
theorem cl117 : aV Tryz.prog 117:=⟨Tryz.f117,Tryz.func117,rfl,rfl⟩
theorem cl118 : aV Tryz.prog 118:=⟨Tryz.f118,Tryz.func118,rfl,rfl⟩
theorem cl119 : aV Tryz.prog 119:=⟨Tryz.f119,Tryz.func119,rfl,rfl⟩
theorem cl120 : aV Tryz.prog 120:=⟨Tryz.f120,Tryz.func120,rfl,rfl⟩
theorem cl121 : aV Tryz.prog 121:=⟨Tryz.f121,Tryz.func121,rfl,rfl⟩
theorem cl122 : aV Tryz.prog 122:=⟨Tryz.f122,Tryz.func122,rfl,rfl⟩
theorem cl129 : aV Tryz.prog 129:=⟨Tryz.f129,Tryz.func129,rfl,rfl⟩
theorem cl130 : aV Tryz.prog 130:=⟨Tryz.f130,Tryz.func130,rfl,rfl⟩
theorem cl131 : aV Tryz.prog 131:=⟨Tryz.f131,Tryz.func131,rfl,rfl⟩
theorem cl132 : aV Tryz.prog 132:=⟨Tryz.f132,Tryz.func132,rfl,rfl⟩
theorem cl133 : aV Tryz.prog 133:=⟨Tryz.f133,Tryz.func133,rfl,rfl⟩
theorem cl134 : aV Tryz.prog 134:=⟨Tryz.f134,Tryz.func134,rfl,rfl⟩
theorem aCI : aV Tryz.prog 135:=⟨Tryz.f135,Tryz.func135,rfl,rfl⟩
theorem cl136 : aV Tryz.prog 136:=⟨Tryz.f136,Tryz.func136,rfl,rfl⟩
theorem cl137 : aV Tryz.prog 137:=⟨Tryz.f137,Tryz.func137,rfl,rfl⟩
theorem cl138 : aV Tryz.prog 138:=⟨Tryz.f138,Tryz.func138,rfl,rfl⟩
theorem cl139 : aV Tryz.prog 139:=⟨Tryz.f139,Tryz.func139,rfl,rfl⟩
theorem cl140 : aV Tryz.prog 140:=⟨Tryz.f140,Tryz.func140,rfl,rfl⟩
theorem cl141 : aV Tryz.prog 141:=⟨Tryz.f141,Tryz.func141,rfl,rfl⟩
theorem cl148 : aV Tryz.prog 148:=⟨Tryz.f148,Tryz.func148,rfl,rfl⟩
theorem cl149 : aV Tryz.prog 149:=⟨Tryz.f149,Tryz.func149,rfl,rfl⟩
theorem cl150 : aV Tryz.prog 150:=⟨Tryz.f150,Tryz.func150,rfl,rfl⟩
theorem cl155 : aV Tryz.prog 155:=⟨Tryz.f155,Tryz.func155,rfl,rfl⟩
def la83:=LA.mk Tryz.underlying83 ag83 ti83 (by decide)
def la88:=LA.mk Tryz.underlying88 ag88 ti88 (by decide)
def la94:=LA.mk Tryz.underlying94 ag94 ti94 (by decide)
def la145:=LA.mk Tryz.underlying145 ag145 xH (by decide)
def lE:=LA.mk Tryz.underlying148 aGq kO (by decide)
def la167:=LA.mk Tryz.underlying167 ag167 aFs (by decide)
def la233:=LA.mk Tryz.underlying233 aFk vV (by decide)
def la258:=LA.mk Tryz.underlying258 ag258 aCN (by decide)
def la260:=LA.mk Tryz.underlying260 ag260 aFr (by decide)


theorem wE (a0 : cJ) (r : Bool) (h : mB a0 = some r) : bR Tryz.prog 110 [.agg (tv7 a0)] (.bool r):=by
 refine aN (rs:=[.bool r]) Tryz.func110 rfl Tryz.ntmps110 (nle rfl) rfl fun O hO=>?_
 show IWP _ _ _ _ ⟨[(0,.agg (tv7 a0))],[]⟩ _
 unfold mB at h
 refine aC (cBx (cs:=q34) q34 0 rfl <|cAs (.bool false) rfl <|aB ?_)
 refine aC (cAs (.int _ 0) rfl <|aB ?_)
 refine aK <| aC (cFa 3 un87 rfl ti83 rfl <|aA rfl (lrL la83 rfl rfl rfl rfl rfl (nle rfl) rfl) <|aA rfl (dD cS (l:=a0.Pieces) rfl rfl (lb rfl) un83 (svL rfl)) <|cMv (.int _ 0) rfl <|aB ?_)
 refine aU <| cP (α:=Nat × Int × Int) (fun z=>⟨[(1,.ref 0 0),(3,.int .i64 z.2.1),(8,.slice false (a0.Pieces.map cS.d)),(9,.int .i64 (a0.Pieces.length : Int)),(10,.int .i64 z.2.2)],[(0,.blk 87 (tv7 a0))]⟩) (fun z=>eG a0 z.1 z.2.1 z.2.2 = some r) (fun z=>z.1) (fuel,0,0) (fun i=>i) ⟨(.sames rfl rfl),(.cons (.blk rfl rfl rfl) .nil),bS [0] rfl (by decide),fun _ _=>rfl⟩ ?_ ?_
 ·exact h
 ·
  rintro ⟨n0,v11,v12⟩ h
  cases n0 with
  | zero=>exact absurd h (by unfold eG; exact nofun)
  | succ n0 =>
   unfold eG at h
   obtain ⟨x23,hx23,h⟩:=bE h
   refine aC (cCm rfl hx23 <|aB ?_)
   refine aK <| aH h rfl (fun h=>?_) (fun h=>?_)
   ·
    refine aJ <| aE <| aK <| aU ?_
    obtain ⟨x25,hx25,h⟩:=bT h
    refine aC (aA rfl (cW cS (cs:=q46) rfl rfl (lb rfl) un83 vV (svL rfl) (svI rfl) hx25 rfl rfl) <|aA rfl (fD (cs:=q46) rfl rfl (lb rfl) rO aFk vV (by decide) (sv (d:=.fptr q46) rfl) (nle rfl) rfl) <|aA rfl (aZ (cs:=q46) (cs':=[.int .i64 0,.int .i64 0,.int .i64 0,.bool false]) 1 rfl rfl (lb rfl) rfl vV rfl rfl (.all _)) <|cSt q46 q46 vV rfl <|aB ?_)
    refine aC (cFa 3 rO rfl ti4 rfl <|cLd (d:=.bool _) un4 ag4 ti4 rfl <|aB ?_)
    refine aH h rfl (fun h=>?_) (fun h=>?_)
    ·
     obtain ⟨x27,hx27,h⟩:=bE h
     refine aC (cI rfl <|aA rfl (bB rfl rfl (lb rfl) (svI rfl) (sv (d:=.int _ 1) rfl) rfl hx27) <|cAI rfl <|aB ?_)
     obtain ⟨x28,hx28,x29,hx29,h⟩:=eod h
     refine eI rfl [nd1 [5] 18 (.ref 1 1),nd2 [18] [1] 19 (.int .i64 x25.To),nd2 [1] [0] 20 (.agg (tv7 a0)),nd1 [20] 21 (.int .i64 x28),nd1 [19,21] 22 (.bool x29)] rfl ?_ (by kernel_rfl) ?_
     ·refine .cons (dFa 1 rO rfl ti3 rfl) <| .cons (dLd un3 ag3 ti3 rfl) <| .cons (dLa un87 ag87 ti87 rfl) <| .cons (lop rfl rfl fun S hA=>(aL (r:=.int _ _) rfl rfl (lb rfl) cl103 (.cons (svaA q34 hA rfl rfl) .nil) rfl (oB _ _ hx28))) <| .cons (lop rfl rfl fun S hA=>(fF rfl rfl (lb rfl) (svaI hA rfl rfl) (svaI hA rfl rfl) rfl hx29)) ?_
      exact .nil
     refine aH h rfl (fun h=>?_) (fun h=>?_)
     ·
      refine aC (cAs (.bool false) rfl <|aB ?_)
      refine aI <| bJ <| aQ <| aQ <| bJ <| aQ ?_
      obtain rfl:=Option.some.inj h
      refine ⟨.inr rfl,(.cons (sv rfl) .nil)⟩
     ·
      refine aJ <| bM <| aE ?_
      obtain ⟨x31,hx31,h⟩:=bE h
      refine aR (aA rfl (bB rfl rfl (lb rfl) (svI rfl) (sv (d:=.int _ 1) rfl) rfl hx31) <|cI rfl <|bK ?_)
      refine aE ⟨(n0,x27,x31),(fun i=>i),⟨(.sames rfl rfl),(.cons (.blk rfl rfl rfl) .nil),bS [0] rfl (by decide),fun _ _=>rfl⟩,?_,?_⟩
      exact h
      exact Nat.lt_succ_self _
    ·
     refine aJ <| bM <| aE ?_
     obtain ⟨x32,hx32,h⟩:=bE h
     refine aR (aA rfl (bB rfl rfl (lb rfl) (svI rfl) (sv (d:=.int _ 1) rfl) rfl hx32) <|cI rfl <|bK ?_)
     refine aE ⟨(n0,v11,x32),(fun i=>i),⟨(.sames rfl rfl),(.cons (.blk rfl rfl rfl) .nil),bS [0] rfl (by decide),fun _ _=>rfl⟩,?_,?_⟩
     exact h
     exact Nat.lt_succ_self _
   ·
    refine cC <| aW <| aW <| cD <| aE <| aK <| aC (cFa 6 un87 rfl ti4 rfl <|cLd (d:=.bool _) un4 ag4 ti4 rfl <|aA rfl (dJ rfl rfl (lb rfl) (svB rfl)) <|aB ?_)
    refine aH h rfl (fun h=>?_) (fun h=>?_)
    ·
     obtain ⟨x34,hx34,x35,hx35,x36,hx36,h⟩:=eddd h
     refine aC (cI rfl <|cCm (b:=0) rfl hx34 <|cB rfl <|gG rfl (fun hb=>(tFa 7 un87 rfl ti4 rfl)) <|gG rfl (fun hb=>(tLc (d:=.bool _) un4 ag4 ti4 rfl hb)) <|gG rfl (fun hb=>(dJ rfl rfl (lb rfl) (svcB rfl hb))) <|cAn rfl hx35 <|cB rfl <|gG rfl (fun hb=>(tFa 8 un87 rfl ti4 rfl)) <|gG rfl (fun hb=>(tLc (d:=.bool _) un4 ag4 ti4 rfl hb)) <|gG rfl (fun hb=>(dJ rfl rfl (lb rfl) (svcB rfl hb))) <|cAn rfl hx36 <|cAB rfl <|aB ?_)
     refine aI <| aQ ?_
     obtain rfl:=Option.some.inj h
     refine ⟨.inr rfl,(.cons (sv rfl) .nil)⟩
    ·
     refine aJ <| aE <| aK ?_
     obtain ⟨x37,hx37,x38,hx38,x39,hx39,h⟩:=eodd h
     obtain ⟨x40,hx40,x41,hx41,h⟩:=edd h
     refine eI rfl [nd1 [1] 39 (.ref 0 5),nd2 [39] [0] 40 (.bool a0.Closed),nd1 [40] 41 (.bool (!a0.Closed)),nd1 [41] 42 (.bool (!a0.Closed)),nd1 [1,42] 43 (.cnd ((!a0.Closed) == false) (.ref 0 2)),nd2 [42,43] [0] 44 (.cnd ((!a0.Closed) == false) (.int .i64 a0.Next)),nd2 [1,42] [0] 45 (.cnd ((!a0.Closed) == false) (.agg (tv7 a0))),nd1 [42,45] 46 (.cnd ((!a0.Closed) == false) (.int .i64 x37)),nd1 [42,44,46] 47 (.cnd ((!a0.Closed) == false) (.bool x38)),nd1 [42,47] 48 (.bool x39),nd1 [48] 49 (.bool x39),nd1 [1,49] 50 (.cnd (x39 == false) (.ref 0 7)),nd2 [49,50] [0] 51 (.cnd (x39 == false) (.bool a0.Again)),nd1 [49,51] 52 (.cnd (x39 == false) (.bool a0.Again)),nd1 [1,52] 53 (.cnd (((x39 == false) && (a0.Again == true))) (.ref 0 8)),nd2 [52,53] [0] 54 (.cnd (((x39 == false) && (a0.Again == true))) (.bool a0.Done)),nd1 [49,52,54] 55 (.cnd (x39 == false) (.bool x40)),nd1 [49,55] 56 (.bool x41)] rfl ?_ (by kernel_rfl) ?_
     ·refine .cons (dFa 5 un87 rfl ti4 rfl) <| .cons (dLd un4 ag4 ti4 rfl) <| .cons (lop rfl rfl fun S hA=>(dJ rfl rfl (lb rfl) (svaB hA rfl rfl))) <| .cons (dMv rfl) <| .cons (gD rfl (fun S hA hb=>(cX rfl rfl (lb rfl) un87 rfl ti3 (by decide) (svaR hA rfl rfl) (off':=2) rfl))) <| .cons (gD rfl (fun S hA hb=>(eC (d:=.int _ _) rfl rfl (lb rfl) un3 ag3 ti3 (by decide) (svc (d:=.ref _ _) (agr hA rfl rfl) hb) (agi hA rfl rfl) (nle rfl) rfl))) <| .cons (gD rfl (fun S hA hb=>(jN (cs:=q34) rfl rfl (lb rfl) un87 ag87 ti87 (by decide) (svaR hA rfl rfl) (agi hA rfl rfl) (nle rfl) rfl))) <| .cons (gD rfl (fun S hA hb=>(aL (r:=.int _ _) rfl rfl (lb rfl) cl103 (.cons (svc (d:=.agg (tv7 a0)) (agr hA rfl rfl) hb) .nil) rfl (oB _ _ (gd_t hx37 hb))))) <| .cons (gD rfl (fun S hA hb=>(fF rfl rfl (lb rfl) (svc (d:=.int _ _) (agr hA rfl rfl) hb) (svc (d:=.int _ _) (agr hA rfl rfl) hb) rfl hx38))) <| .cons (lop rfl rfl fun S hA=>(aBA rfl rfl (lb rfl) (svaB hA rfl rfl) rfl (agr hA rfl rfl) hx39)) <| .cons (dMv rfl) <| .cons (gD rfl (fun S hA hb=>(cX rfl rfl (lb rfl) un87 rfl ti4 (by decide) (svaR hA rfl rfl) (off':=7) rfl))) <| .cons (gD rfl (fun S hA hb=>(eC (d:=.bool _) rfl rfl (lb rfl) un4 ag4 ti4 (by decide) (svc (d:=.ref _ _) (agr hA rfl rfl) hb) (agi hA rfl rfl) (nle rfl) rfl))) <| .cons (gD rfl (fun S hA hb=>(dR rfl rfl (lb rfl) (svc (d:=.bool _) (agr hA rfl rfl) hb)))) <| .cons (lopg rfl rfl rfl rfl (by decide) (fun S hA=>grd2 hA rfl rfl) (fun S hA hb=>(cX rfl rfl (lb rfl) un87 rfl ti4 (by decide) (svaR hA rfl rfl) (off':=8) rfl))) <| .cons (lopg rfl rfl rfl rfl (by decide) (fun S hA=>grd2 hA rfl rfl) (fun S hA hb=>(eC (d:=.bool _) rfl rfl (lb rfl) un4 ag4 ti4 (by decide) (svc (d:=.ref _ _) (agr hA rfl rfl) hb) (agi hA rfl rfl) (nle rfl) rfl))) <| .cons (gD rfl (fun S hA hb=>(qE rfl rfl (lb rfl) hb (svc (d:=.bool _) (agr hA rfl rfl) hb) (agr hA rfl rfl) rfl hx40))) <| .cons (lop rfl rfl fun S hA=>(aBA rfl rfl (lb rfl) (svaB hA rfl rfl) rfl (agr hA rfl rfl) hx41)) ?_
      exact .nil
     refine aH h rfl (fun h=>?_) (fun h=>?_)
     ·
      refine aC (cAs (.bool false) rfl <|aB ?_)
      refine aI <| aQ ?_
      obtain rfl:=Option.some.inj h
      refine ⟨.inr rfl,(.cons (sv rfl) .nil)⟩
     ·
      refine aJ <| aE ?_
      obtain ⟨x43,hx43,h⟩:=bE h
      refine aC (cFa 7 un87 rfl ti4 rfl <|cLd (d:=.bool _) un4 ag4 ti4 rfl <|aA rfl (dJ rfl rfl (lb rfl) (svB rfl)) <|cB rfl <|gG rfl (fun hb=>(tFa 8 un87 rfl ti4 rfl)) <|gG rfl (fun hb=>(tLc (d:=.bool _) un4 ag4 ti4 rfl hb)) <|gG rfl (fun hb=>(dJ rfl rfl (lb rfl) (svcB rfl hb))) <|cAn rfl hx43 <|cAB rfl <|aB ?_)
      obtain ⟨x44,hx44,x45,hx45,x46,hx46,h⟩:=eddd h
      obtain ⟨x47,hx47,x48,hx48,h⟩:=edd h
      refine aC (cB rfl <|cB rfl <|gG rfl (fun hb=>(tI rfl)) <|gG rfl (fun hb=>(tCg (b:=1) rfl hb hx44)) <|cAn rfl hx45 <|cB rfl <|gG rfl (fun hb=>(tB rfl)) <|gG rfl (fun hb=>(dJ rfl rfl (lb rfl) (svcB rfl hb))) <|gG rfl (fun hb=>(dR rfl rfl (lb rfl) (svcB rfl hb))) <|iC rfl rfl (.two rfl) rfl (by decide) (fun hb=>(tI rfl)) <|iC rfl rfl (.two rfl) rfl (by decide) (fun hb=>(tCg (b:=0) rfl hb hx46)) <|gG rfl (fun hb=>(qE rfl rfl (lb rfl) hb (svcB rfl hb) rfl rfl hx47)) <|cOr rfl hx48 <|cAB rfl <|aB ?_)
      refine aI ?_
      obtain rfl:=Option.some.inj h
      refine ⟨.inr rfl,(.cons (sv rfl) .nil)⟩

theorem wX (a0 : cJ) (r : Int) (h : oP a0 = some r) : bR Tryz.prog 95 [.agg (tv7 a0)] (.int .i64 r) := by
 refine aN (rs:=[.int .i64 r]) Tryz.func95 rfl Tryz.ntmps95 (nle rfl) rfl fun O hO=>?_
 show IWP _ _ _ _ ⟨[(0,.agg (tv7 a0))],[]⟩ _
 unfold oP at h
 refine aC (cBx (cs:=q34) q34 0 rfl <|cAs (.int _ 0) rfl <|aB ?_)
 refine aK <| aU <| iT (α:=Bool) (fun z=>⟨[(1,.ref 0 0),(6,.bool z)],[(0,.blk 87 (tv7 a0))]⟩) (fun z=>jK a0 z = some r) ?_ ?_
 ·
  obtain ⟨x37,hx37,h⟩:=bE h
  refine aC (cFa 0 un87 rfl ti3 rfl <|cLd (d:=.int _ _) un3 ag3 ti3 rfl <|cCm (b:=0) rfl hx37 <|cAB rfl <|aB ?_)
  refine aH h rfl (fun h=>?_) (fun h=>?_)
  ·
   refine aJ <| aE ⟨x37,(fun i=>i),⟨(.sames rfl rfl),(.cons (.blk rfl rfl rfl) .nil),bS [0] rfl (by decide),fun _ _=>rfl⟩,?_⟩
   exact h
  ·
   obtain ⟨x39,hx39,h⟩:=bE h
   refine aC (cFa 0 un87 rfl ti3 rfl <|cLd (d:=.int _ _) un3 ag3 ti3 rfl <|cCm (b:=1099511623680) rfl hx39 <|cAB rfl <|aB ?_)
   refine aH h rfl (fun h=>?_) (fun h=>?_)
   ·
    refine aJ <| aE ⟨x39,(fun i=>i),⟨(.sames rfl rfl),(.cons (.blk rfl rfl rfl) .nil),bS [0] rfl (by decide),fun _ _=>rfl⟩,?_⟩
    exact h
   ·
    obtain ⟨x41,hx41,h⟩:=bE h
    refine aC (cFa 2 un87 rfl ti3 rfl <|cLd (d:=.int _ _) un3 ag3 ti3 rfl <|cFa 0 un87 rfl ti3 rfl <|cLd (d:=.int _ _) un3 ag3 ti3 rfl <|cCm rfl hx41 <|cAB rfl <|aB ?_)
    refine aH h rfl (fun h=>?_) (fun h=>?_)
    ·
     refine aJ <| aE ⟨x41,(fun i=>i),⟨(.sames rfl rfl),(.cons (.blk rfl rfl rfl) .nil),bS [0] rfl (by decide),fun _ _=>rfl⟩,?_⟩
     exact h
    ·
     obtain ⟨x43,hx43,x44,hx44,h⟩:=edd h
     refine aR (cFa 2 un87 rfl ti3 rfl <|cLd (d:=.int _ _) un3 ag3 ti3 rfl <|cFa 0 un87 rfl ti3 rfl <|cLd (d:=.int _ _) un3 ag3 ti3 rfl <|aA rfl (bB rfl rfl (lb rfl) (svI rfl) (svI rfl) rfl hx43) <|cFa 1 un87 rfl ti9 rfl <|cLd (d:=.str _) un9 ag9 ti9 rfl <|aA rfl (cQ rfl rfl (lb rfl) un9 (sv (d:=.str _) rfl) rfl) <|cCm rfl hx44 <|cAB rfl <|bK ?_)
     refine aE ⟨x44,(fun i=>i),⟨(.sames rfl rfl),(.cons (.blk rfl rfl rfl) .nil),bS [0] rfl (by decide),fun _ _=>rfl⟩,?_⟩
     exact h
 ·
  rintro v9 h
  unfold jK at h
  refine aH h rfl (fun h=>?_) (fun h=>?_)
  ·
   refine aC (cAs (.int _ 8) rfl <|aB ?_)
   refine aI <| bJ <| aQ ?_
   obtain rfl:=Option.some.inj h
   refine ⟨.inr rfl,(.cons (sv rfl) .nil)⟩
  ·
   obtain ⟨x11,hx11,h⟩:=bE h
   refine aC (cFa 1 un87 rfl ti9 rfl <|cLd (d:=.str _) un9 ag9 ti9 rfl <|aA rfl (cQ rfl rfl (lb rfl) un9 (sv (d:=.str _) rfl) rfl) <|cCm (b:=4096) rfl hx11 <|cAB rfl <|aB ?_)
   refine aH h rfl (fun h=>?_) (fun h=>?_)
   ·
    refine aC (cAs (.int _ 5) rfl <|aB ?_)
    refine aI <| bJ <| aQ ?_
    obtain rfl:=Option.some.inj h
    refine ⟨.inr rfl,(.cons (sv rfl) .nil)⟩
   ·
    obtain ⟨x13,hx13,h⟩:=bT h
    refine aC (cLr q34 la87 rfl <|aA rfl (aL (r:=.bool _) rfl rfl (lb rfl) cl108 (.cons (svA q34 rfl) .nil) rfl (wC _ _ hx13)) <|aA rfl (dJ rfl rfl (lb rfl) (svB rfl)) <|cAB rfl <|aB ?_)
    refine aH h rfl (fun h=>?_) (fun h=>?_)
    ·
     refine aC (cAs (.int _ 4) rfl <|aB ?_)
     refine aI <| bJ <| aQ ?_
     obtain rfl:=Option.some.inj h
     refine ⟨.inr rfl,(.cons (sv rfl) .nil)⟩
    ·
     refine aJ <| bM <| aE <| aC (cFa 0 un87 rfl ti3 rfl <|cLd (d:=.int _ _) un3 ag3 ti3 rfl <|cAI rfl <|aB ?_)
     refine aK <| aC (cFa 3 un87 rfl ti83 rfl <|aA rfl (lrL la83 rfl rfl rfl rfl rfl (nle rfl) rfl) <|aA rfl (dD cS (l:=a0.Pieces) rfl rfl (lb rfl) un83 (svL rfl)) <|cMv (.int _ 0) rfl <|aB ?_)
     refine aU <| cP (α:=Nat × Int × Int) (fun z=>⟨[(1,.ref 0 0),(3,.int .i64 z.2.1),(39,.slice false (a0.Pieces.map cS.d)),(40,.int .i64 (a0.Pieces.length : Int)),(41,.int .i64 z.2.2)],[(0,.blk 87 (tv7 a0))]⟩) (fun z=>hU a0 z.1 z.2.1 z.2.2 = some r) (fun z=>z.1) (fuel,a0.Base,0) (fun i=>i) ⟨(.sames rfl rfl),(.cons (.blk rfl rfl rfl) .nil),bS [0] rfl (by decide),fun _ _=>rfl⟩ ?_ ?_
     ·exact h
     ·
      rintro ⟨n1,v21,v22⟩ h
      cases n1 with
      | zero=>exact absurd h (by unfold hU; exact nofun)
      | succ n1 =>
       unfold hU at h
       obtain ⟨x29,hx29,h⟩:=bE h
       refine aC (cCm rfl hx29 <|aB ?_)
       refine aK <| aH h rfl (fun h=>?_) (fun h=>?_)
       ·
        refine aJ <| aE <| aK <| aU ?_
        obtain ⟨x31,hx31,h⟩:=bT h
        refine aC (aA rfl (cW cS (cs:=q46) rfl rfl (lb rfl) un83 vV (svL rfl) (svI rfl) hx31 rfl rfl) <|aA rfl (fD (cs:=q46) rfl rfl (lb rfl) rO aFk vV (by decide) (sv (d:=.fptr q46) rfl) (nle rfl) rfl) <|aA rfl (aZ (cs:=q46) (cs':=[.int .i64 0,.int .i64 0,.int .i64 0,.bool false]) 1 rfl rfl (lb rfl) rfl vV rfl rfl (.all _)) <|cSt q46 q46 vV rfl <|aB ?_)
        refine aK ?_
        obtain ⟨x32,hx32,h⟩:=bT h
        refine aC (cLr q34 la87 rfl <|cLr q46 la233 rfl <|cI rfl <|aA rfl (aL (r:=.bool _) rfl rfl (lb rfl) cl109 (.cons (svA q34 rfl) (.cons (svA q46 rfl) (.cons (svI rfl) .nil))) rfl (wD _ _ _ _ hx32)) <|aA rfl (dJ rfl rfl (lb rfl) (svB rfl)) <|aB ?_)
        refine aH h rfl (fun h=>?_) (fun h=>?_)
        ·
         refine aC (cAs (.int _ 10) rfl <|aB ?_)
         refine aI <| aQ <| bJ <| aQ <| aQ <| bJ <| aQ ?_
         obtain rfl:=Option.some.inj h
         refine ⟨.inr rfl,(.cons (sv rfl) .nil)⟩
        ·
         refine aJ <| aE <| aR (cFa 1 rO rfl ti3 rfl <|cLd (d:=.int _ _) un3 ag3 ti3 rfl <|cAI rfl <|bK ?_)
         refine bM <| aE ?_
         obtain ⟨x34,hx34,h⟩:=bE h
         refine aR (aA rfl (bB rfl rfl (lb rfl) (svI rfl) (sv (d:=.int _ 1) rfl) rfl hx34) <|cI rfl <|bK ?_)
         refine aE ⟨(n1,x31.To,x34),(fun i=>i),⟨(.sames rfl rfl),(.cons (.blk rfl rfl rfl) .nil),bS [0] rfl (by decide),fun _ _=>rfl⟩,?_,?_⟩
         exact h
         exact Nat.lt_succ_self _
       ·
        refine cC <| aW <| aW <| cD <| aE <| aK ?_
        obtain ⟨x35,hx35,h⟩:=bT h
        refine aC (cLr q34 la87 rfl <|aA rfl (aL (r:=.bool _) rfl rfl (lb rfl) cl110 (.cons (svA q34 rfl) .nil) rfl (wE _ _ hx35)) <|aA rfl (dJ rfl rfl (lb rfl) (svB rfl)) <|aB ?_)
        refine aH h rfl (fun h=>?_) (fun h=>?_)
        ·
         refine aC (cAs (.int _ 9) rfl <|aB ?_)
         refine aI <| aQ ?_
         obtain rfl:=Option.some.inj h
         refine ⟨.inr rfl,(.cons (sv rfl) .nil)⟩
        ·
         refine aJ <| aE <| aC (cAs (.int _ 0) rfl <|aB ?_)
         refine aI ?_
         obtain rfl:=Option.some.inj h
         refine ⟨.inr rfl,(.cons (sv rfl) .nil)⟩

theorem aA1 (a0 : cM) (r : Int) (h : oV a0 = some r) : bR Tryz.prog 129 [.agg (tv16 a0)] (.int .i64 r):=by
 refine aN (rs:=[.int .i64 r]) Tryz.func129 rfl Tryz.ntmps129 (nle rfl) rfl fun O hO=>?_
 show IWP _ _ _ _ ⟨[(0,.agg (tv16 a0))],[]⟩ _
 unfold oV at h
 refine aC (cBx (cs:=q47) q47 0 rfl <|cAs (.int _ 0) rfl <|aB ?_)
 obtain ⟨x1,hx1,x2,hx2,x3,hx3,h⟩:=eddd h
 refine aC (cFa 0 un90 rfl ti3 rfl <|cLd (d:=.int _ _) un3 ag3 ti3 rfl <|cFa 1 un90 rfl ti9 rfl <|cLd (d:=.str _) un9 ag9 ti9 rfl <|aA rfl (cQ rfl rfl (lb rfl) un9 (sv (d:=.str _) rfl) rfl) <|aA rfl (bB rfl rfl (lb rfl) (svI rfl) (svI rfl) rfl hx1) <|aA rfl (bB rfl rfl (lb rfl) (svI rfl) (sv (d:=.int _ 4096) rfl) rfl hx2) <|aA rfl (sT rfl rfl (lb rfl) (svI rfl) (sv (d:=.int _ 1099511627776) rfl) hx3) <|cAI rfl <|aB ?_)
 refine aI ?_
 obtain rfl:=Option.some.inj h
 refine ⟨.inr rfl,(.cons (sv rfl) .nil)⟩

theorem xK (a0 : cE) (r : Int) (h : lC a0 = some r) : bR Tryz.prog 130 [.agg [.int .i64 a0.At,.str a0.Data]] (.int .i64 r):=by
 refine aN (rs:=[.int .i64 r]) Tryz.func130 rfl Tryz.ntmps130 (nle rfl) rfl fun O hO=>?_
 show IWP _ _ _ _ ⟨[(0,.agg [.int .i64 a0.At,.str a0.Data])],[]⟩ _
 unfold lC at h
 refine aC (cBx (cs:=q54) q54 0 rfl <|cAs (.int _ 0) rfl <|aB ?_)
 obtain ⟨x1,hx1,h⟩:=bE h
 refine aC (cFa 0 aAI rfl ti3 rfl <|cLd (d:=.int _ _) un3 ag3 ti3 rfl <|cFa 1 aAI rfl ti9 rfl <|cLd (d:=.str _) un9 ag9 ti9 rfl <|aA rfl (cQ rfl rfl (lb rfl) un9 (sv (d:=.str _) rfl) rfl) <|aA rfl (bB rfl rfl (lb rfl) (svI rfl) (svI rfl) rfl hx1) <|cAI rfl <|aB ?_)
 refine aI ?_
 obtain rfl:=Option.some.inj h
 refine ⟨.inr rfl,(.cons (sv rfl) .nil)⟩

theorem aA2 (a0 : cM) (r : Int) (h : oW a0 = some r) : bR Tryz.prog 111 [.agg (tv16 a0)] (.int .i64 r):=by
 refine aN (rs:=[.int .i64 r]) Tryz.func111 rfl Tryz.ntmps111 (nle rfl) rfl fun O hO=>?_
 show IWP _ _ _ _ ⟨[(0,.agg (tv16 a0))],[]⟩ _
 unfold oW at h
 refine aC (cBx (cs:=q47) q47 0 rfl <|cAs (.int _ 0) rfl <|aB ?_)
 refine aK ?_
 obtain ⟨x1,hx1,x2,hx2,x3,hx3,h⟩:=eddd h
 obtain ⟨x4,hx4,x5,hx5,x6,hx6,h⟩:=eddd h
 refine aC (cFa 0 un90 rfl ti3 rfl <|cLd (d:=.int _ _) un3 ag3 ti3 rfl <|cCm (b:=0) rfl hx1 <|cB rfl <|gG rfl (fun hb=>(tFa 0 un90 rfl ti3 rfl)) <|gG rfl (fun hb=>(tLc (d:=.int _ _) un3 ag3 ti3 rfl hb)) <|gG rfl (fun hb=>(tCg (b:=1099511627776) rfl hb hx2)) <|cOr rfl hx3 <|cB rfl <|gG rfl (fun hb=>(tFa 1 un90 rfl ti9 rfl)) <|gG rfl (fun hb=>(tLc (d:=.str _) un9 ag9 ti9 rfl hb)) <|gG rfl (fun hb=>(cQ rfl rfl (lb rfl) un9 (svc (d:=.str _) rfl hb) rfl)) <|gG rfl (fun hb=>(tFa 0 un90 rfl ti3 rfl)) <|gG rfl (fun hb=>(tLc (d:=.int _ _) un3 ag3 ti3 rfl hb)) <|gG rfl (fun hb=>(sT rfl rfl (lb rfl) (svcI rfl hb) (sv (d:=.int _ 4096) rfl) hx4)) <|gG rfl (fun hb=>(tCh rfl hb hx5)) <|cOr rfl hx6 <|aB ?_)
 refine aH h rfl (fun h=>?_) (fun h=>?_)
 ·
  refine aC (cAs (.int _ 8) rfl <|aB ?_)
  refine aI <| aQ ?_
  obtain rfl:=Option.some.inj h
  refine ⟨.inr rfl,(.cons (sv rfl) .nil)⟩
 ·
  refine aJ <| aE ?_
  obtain ⟨x8,hx8,h⟩:=bT h
  refine eI rfl [nd1 [1] 24 (.ref 0 0),nd2 [24] [0] 25 (.int .i64 a0.Base),nd2 [1] [0] 26 (.agg (tv16 a0)),nd1 [26] 27 (.int .i64 x8),nd1 [25] 3 (.int .i64 a0.Base),nd1 [27] 4 (.int .i64 x8)] rfl ?_ (by kernel_rfl) ?_
  ·refine .cons (dFa 0 un90 rfl ti3 rfl) <| .cons (dLd un3 ag3 ti3 rfl) <| .cons (dLa un90 ag90 ti90 rfl) <| .cons (lop rfl rfl fun S hA=>(aL (r:=.int _ _) rfl rfl (lb rfl) cl129 (.cons (svaA q47 hA rfl rfl) .nil) rfl (aA1 _ _ hx8))) <| .cons (lop rfl rfl fun S hA=>(bV rfl rfl (lb rfl) (svaI hA rfl rfl))) <| .cons (lop rfl rfl fun S hA=>(bV rfl rfl (lb rfl) (svaI hA rfl rfl))) ?_
   exact .nil
  refine aK <| aC (cFa 2 un90 rfl ti88 rfl <|aA rfl (lrL la88 rfl rfl rfl rfl rfl (nle rfl) rfl) <|aA rfl (dD cY (l:=a0.Parts) rfl rfl (lb rfl) un88 (svL rfl)) <|cMv (.int _ 0) rfl <|aB ?_)
  refine aU <| cP (α:=Nat × Int × Int) (fun z=>⟨[(3,.int .i64 z.2.1),(4,.int .i64 x8),(29,.slice false (a0.Parts.map cY.d)),(30,.int .i64 (a0.Parts.length : Int)),(31,.int .i64 z.2.2)],[]⟩) (fun z=>gN a0 x8 z.1 z.2.1 z.2.2 = some r) (fun z=>z.1) (fuel,a0.Base,0) (fun i=>i) ⟨(.sames rfl rfl),.nil,bS [] rfl (by decide),fun _ _=>rfl⟩ ?_ ?_
  ·exact h
  ·
   rintro ⟨n0,v23,v24⟩ h
   cases n0 with
   | zero=>exact absurd h (by unfold gN; exact nofun)
   | succ n0 =>
    unfold gN at h
    obtain ⟨x39,hx39,h⟩:=bE h
    refine aC (cCm rfl hx39 <|aB ?_)
    refine aK <| aH h rfl (fun h=>?_) (fun h=>?_)
    ·
     refine aJ <| aE <| aK <| aU ?_
     obtain ⟨x41,hx41,h⟩:=bT h
     refine aC (aA rfl (cW cY (cs:=q54) rfl rfl (lb rfl) un88 aCN (svL rfl) (svI rfl) hx41 rfl rfl) <|aA rfl (fD (cs:=q54) rfl rfl (lb rfl) aAI ag258 aCN (by decide) (sv (d:=.fptr q54) rfl) (nle rfl) rfl) <|aA rfl (aZ (cs:=q54) (cs':=[.int .i64 0,.str []]) 0 rfl rfl (lb rfl) rfl aCN rfl rfl (.all _)) <|cSt q54 q54 aCN rfl <|aB ?_)
     refine aK ?_
     obtain ⟨x42,hx42,x43,hx43,x44,hx44,h⟩:=eddd h
     obtain ⟨x45,hx45,x46,hx46,x47,hx47,h⟩:=eddd h
     obtain ⟨x48,hx48,x49,hx49,h⟩:=edd h
     refine aC (cFa 0 aAI rfl ti3 rfl <|cLd (d:=.int _ _) un3 ag3 ti3 rfl <|cI rfl <|cCm rfl hx42 <|cB rfl <|gG rfl (fun hb=>(tFa 1 aAI rfl ti9 rfl)) <|gG rfl (fun hb=>(tLc (d:=.str _) un9 ag9 ti9 rfl hb)) <|gG rfl (fun hb=>(gF rfl rfl (lb rfl) (svc (d:=.str _) rfl hb) (sv (d:=.str []) rfl) rfl hx43)) <|cOr rfl hx44 <|cB rfl <|gG rfl (fun hb=>(tFa 0 aAI rfl ti3 rfl)) <|gG rfl (fun hb=>(tLc (d:=.int _ _) un3 ag3 ti3 rfl hb)) <|gG rfl (fun hb=>(tI rfl)) <|gG rfl (fun hb=>(tCh rfl hb hx45)) <|cOr rfl hx46 <|cB rfl <|gG rfl (fun hb=>(tFa 1 aAI rfl ti9 rfl)) <|gG rfl (fun hb=>(tLc (d:=.str _) un9 ag9 ti9 rfl hb)) <|gG rfl (fun hb=>(cQ rfl rfl (lb rfl) un9 (svc (d:=.str _) rfl hb) rfl)) <|gG rfl (fun hb=>(tI rfl)) <|gG rfl (fun hb=>(tFa 0 aAI rfl ti3 rfl)) <|gG rfl (fun hb=>(tLc (d:=.int _ _) un3 ag3 ti3 rfl hb)) <|gG rfl (fun hb=>(bB rfl rfl (lb rfl) (svcI rfl hb) (svcI rfl hb) rfl hx47)) <|gG rfl (fun hb=>(tCh rfl hb hx48)) <|cOr rfl hx49 <|aB ?_)
     refine aH h rfl (fun h=>?_) (fun h=>?_)
     ·
      refine aC (cAs (.int _ 10) rfl <|aB ?_)
      refine aI <| aQ <| bJ <| aQ <| aQ <| bJ <| aQ ?_
      obtain rfl:=Option.some.inj h
      refine ⟨.inr rfl,(.cons (sv rfl) .nil)⟩
     ·
      refine aJ <| aE ?_
      obtain ⟨x51,hx51,h⟩:=bT h
      refine aR (cLr q54 la258 rfl <|aA rfl (aL (r:=.int _ _) rfl rfl (lb rfl) cl130 (.cons (svA q54 rfl) .nil) rfl (xK _ _ hx51)) <|cAI rfl <|bK ?_)
      refine bM <| aE ?_
      obtain ⟨x52,hx52,h⟩:=bE h
      refine aR (aA rfl (bB rfl rfl (lb rfl) (svI rfl) (sv (d:=.int _ 1) rfl) rfl hx52) <|cI rfl <|bK ?_)
      refine aE ⟨(n0,x51,x52),(fun i=>i),⟨(.sames rfl rfl),.nil,bS [] rfl (by decide),fun _ _=>rfl⟩,?_,?_⟩
      exact h
      exact Nat.lt_succ_self _
    ·
     refine cC <| aW <| aW <| cD <| aE <| aC (cAs (.int _ 0) rfl <|aB ?_)
     refine aI ?_
     obtain rfl:=Option.some.inj h
     refine ⟨.inr rfl,(.cons (sv rfl) .nil)⟩

theorem aCa (a0 : eO) (r : kY) (h : uK a0 = some r) : bR Tryz.prog 131 [.agg (tv12 a0)] (.agg (tv11 r)):=by
 refine aN (rs:=[.agg (tv11 r)]) Tryz.func131 rfl Tryz.ntmps131 (nle rfl) rfl fun O hO=>?_
 show IWP _ _ _ _ ⟨[(0,.agg (tv12 a0))],[]⟩ _
 unfold uK at h
 refine aC (cBx (cs:=q44) q44 0 rfl <|aA rfl (aZ (cs:=[.int _ _,.str _,.nils,.int _ _]) (cs':=[.int .i64 0,.str [],.slice false (([] : List cE).map cY.d),.int .i64 0]) 1 rfl rfl (lb rfl) rfl aFr rfl rfl (.k (.k (.cons (.nils _) (.all _))))) <|aB ?_)
 refine aC (cFa 0 un92 rfl ti90 rfl <|cLr q47 la90 rfl <|cFa 3 un92 rfl ti3 rfl <|cLd (d:=.int _ _) un3 ag3 ti3 rfl <|aA rfl (aY (cs:=q44) rfl rfl (lb rfl) aEF aFr pl260 rfl (.cons (svA q47 rfl) (.cons (svI rfl) .nil)) rfl) <|cSt q44 q44 aFr rfl <|aB ?_)
 refine aI ?_
 obtain rfl:=Option.some.inj h
 refine ⟨.inr rfl,(.cons (rva la260 rfl rfl (nle rfl) rfl) .nil)⟩

theorem uW (a0 : kY) (r : Int) (h : hB a0 = some r) : bR Tryz.prog 132 [.agg (tv11 a0)] (.int .i64 r):=by
 refine aN (rs:=[.int .i64 r]) Tryz.func132 rfl Tryz.ntmps132 (nle rfl) rfl fun O hO=>?_
 show IWP _ _ _ _ ⟨[(0,.agg (tv11 a0))],[]⟩ _
 unfold hB at h
 refine aC (cBx (cs:=q44) q44 0 rfl <|cAs (.int _ 0) rfl <|aB ?_)
 refine aK <| aC (cFa 0 aEF rfl ti90 rfl <|cFa 2 un90 rfl ti88 rfl <|aA rfl (lrL la88 rfl rfl rfl rfl rfl (nle rfl) rfl) <|aA rfl (dD cY (l:=a0.State.Parts) rfl rfl (lb rfl) un88 (svL rfl)) <|cAI rfl <|aB ?_)
 obtain ⟨x1,hx1,h⟩:=bE h
 refine aC (cI rfl <|cCm (b:=0) rfl hx1 <|aB ?_)
 refine aH h rfl (fun h=>?_) (fun h=>?_)
 ·
  obtain ⟨x3,hx3,x4,hx4,x5,hx5,h⟩:=edod h
  obtain ⟨x6,hx6,x7,hx7,h⟩:=eod h
  refine eI rfl [nd1 [1] 10 (.ref 0 0),nd1 [10] 11 (.ref 0 2),nd2 [11] [0] 12 (.slice false (a0.State.Parts.map cY.d)),nd1 [3] 13 (.int .i64 (a0.State.Parts.length : Int)),nd1 [13] 14 (.int .i64 x3),nd1 [12,14] 15 (.fptr [.int .i64 x4.At,.str x4.Data]),nd1 [15] 16 (.fptr [.int .i64 x4.At]),nd1 [16] 17 (.int .i64 x4.At),nd1 [1] 18 (.ref 0 0),nd1 [18] 19 (.ref 0 2),nd2 [19] [0] 20 (.slice false (a0.State.Parts.map cY.d)),nd1 [3] 21 (.int .i64 (a0.State.Parts.length : Int)),nd1 [21] 22 (.int .i64 x5),nd1 [20,22] 23 (.fptr [.int .i64 x6.At,.str x6.Data]),nd1 [23] 24 (.fptr [.str x6.Data]),nd1 [24] 25 (.str x6.Data),nd1 [25] 26 (.int .i64 (x6.Data.length : Int)),nd1 [17,26] 27 (.int .i64 x7),nd1 [27] 2 (.int .i64 x7)] rfl ?_ (by kernel_rfl) ?_
  ·refine .cons (dFa 0 aEF rfl ti90 rfl) <| .cons (dFa 2 un90 rfl ti88 rfl) <| .cons (dLd un88 ag88 ti88 rfl) <| .cons (dMv rfl) <| .cons (lop rfl rfl fun S hA=>(bB rfl rfl (lb rfl) (svaI hA rfl rfl) (sv (d:=.int _ 1) rfl) rfl hx3)) <| .cons (lop rfl rfl fun S hA=>(cW cY (cs:=q54) rfl rfl (lb rfl) un88 aCN (svaL hA rfl rfl) (svaI hA rfl rfl) hx4 rfl rfl)) <| .cons (lop rfl rfl fun S hA=>(gH (cs':=[.int _ _]) rfl rfl (lb rfl) aAI rfl ti3 (by decide) (sv (d:=.fptr q54) (agr hA rfl rfl)) rfl)) <| .cons (lop rfl rfl fun S hA=>(cN rfl rfl (lb rfl) un3 ag3 ti3 (by decide) (sv (d:=.fptr [.int _ _]) (agr hA rfl rfl)) (nle rfl))) <| .cons (dFa 0 aEF rfl ti90 rfl) <| .cons (dFa 2 un90 rfl ti88 rfl) <| .cons (dLd un88 ag88 ti88 rfl) <| .cons (dMv rfl) <| .cons (lop rfl rfl fun S hA=>(bB rfl rfl (lb rfl) (svaI hA rfl rfl) (sv (d:=.int _ 1) rfl) rfl hx5)) <| .cons (lop rfl rfl fun S hA=>(cW cY (cs:=q54) rfl rfl (lb rfl) un88 aCN (svaL hA rfl rfl) (svaI hA rfl rfl) hx6 rfl rfl)) <| .cons (lop rfl rfl fun S hA=>(gH (cs':=[.str _]) rfl rfl (lb rfl) aAI rfl ti9 (by decide) (sv (d:=.fptr q54) (agr hA rfl rfl)) rfl)) <| .cons (lop rfl rfl fun S hA=>(cN rfl rfl (lb rfl) un9 ag9 ti9 (by decide) (sv (d:=.fptr [.str _]) (agr hA rfl rfl)) (nle rfl))) <| .cons (lop rfl rfl fun S hA=>(cQ rfl rfl (lb rfl) un9 (sv (d:=.str _) (agr hA rfl rfl)) rfl)) <| .cons (lop rfl rfl fun S hA=>(bB rfl rfl (lb rfl) (svaI hA rfl rfl) (svaI hA rfl rfl) rfl hx7)) <| .cons (lop rfl rfl fun S hA=>(bV rfl rfl (lb rfl) (svaI hA rfl rfl))) ?_
   exact .nil
  refine aI <| aQ ?_
  obtain rfl:=Option.some.inj h
  refine ⟨.inr rfl,(.cons (sv rfl) .nil)⟩
 ·
  refine aJ <| aE <| aC (cFa 0 aEF rfl ti90 rfl <|cFa 0 un90 rfl ti3 rfl <|cLd (d:=.int _ _) un3 ag3 ti3 rfl <|cAI rfl <|aB ?_)
  refine aI ?_
  obtain rfl:=Option.some.inj h
  refine ⟨.inr rfl,(.cons (sv rfl) .nil)⟩

theorem aCb (a0 : eO) (r : Int) (h : uL a0 = some r) : bR Tryz.prog 112 [.agg (tv12 a0)] (.int .i64 r):=by
 refine aN (rs:=[.int .i64 r]) Tryz.func112 rfl Tryz.ntmps112 (nle rfl) rfl fun O hO=>?_
 show IWP _ _ _ _ ⟨[(0,.agg (tv12 a0))],[]⟩ _
 unfold uL at h
 refine aC (cBx (cs:=q44) q44 0 rfl <|cAs (.int _ 0) rfl <|aB ?_)
 obtain ⟨x1,hx1,x2,hx2,h⟩:=eoo h
 refine aC (cLr q44 la92 rfl <|aA rfl (aL (r:=.agg q44) rfl rfl (lb rfl) cl131 (.cons (svA q44 rfl) .nil) rfl (aCa _ _ hx1)) <|aA rfl (aL (r:=.int _ _) rfl rfl (lb rfl) cl132 (.cons (svA q44 rfl) .nil) rfl (uW _ _ hx2)) <|cAI rfl <|aB ?_)
 refine aI ?_
 obtain rfl:=Option.some.inj h
 refine ⟨.inr rfl,(.cons (sv rfl) .nil)⟩

theorem aBn (a0 : eO) (r : Int) (h : oQ a0 = some r) : bR Tryz.prog 96 [.agg (tv12 a0)] (.int .i64 r):=by
 refine aN (rs:=[.int .i64 r]) Tryz.func96 rfl Tryz.ntmps96 (nle rfl) rfl fun O hO=>?_
 show IWP _ _ _ _ ⟨[(0,.agg (tv12 a0))],[]⟩ _
 unfold oQ at h
 refine aC (cBx (cs:=q44) q44 0 rfl <|cAs (.int _ 0) rfl <|aB ?_)
 refine aK ?_
 obtain ⟨x1,hx1,h⟩:=bT h
 refine aC (cFa 0 un92 rfl ti90 rfl <|cLr q47 la90 rfl <|aA rfl (aL (r:=.int _ _) rfl rfl (lb rfl) cl111 (.cons (svA q47 rfl) .nil) rfl (aA2 _ _ hx1)) <|cAI rfl <|aB ?_)
 obtain ⟨x2,hx2,h⟩:=bE h
 refine aC (cI rfl <|cCm (b:=0) rfl hx2 <|aB ?_)
 refine aH h rfl (fun h=>?_) (fun h=>?_)
 ·
  refine aC (cI rfl <|cAI rfl <|aB ?_)
  refine aI <| aQ ?_
  obtain rfl:=Option.some.inj h
  refine ⟨.inr rfl,(.cons (sv rfl) .nil)⟩
 ·
  refine aJ <| aE <| aK ?_
  obtain ⟨x4,hx4,x5,hx5,x6,hx6,h⟩:=edod h
  obtain ⟨x7,hx7,x8,hx8,x9,hx9,h⟩:=eddd h
  refine eI rfl [nd1 [1] 10 (.ref 0 3),nd2 [10] [0] 11 (.int .i64 a0.End),nd1 [11] 12 (.bool x4),nd1 [12] 13 (.bool x4),nd1 [1,13] 14 (.cnd (x4 == true) (.ref 0 3)),nd2 [13,14] [0] 15 (.cnd (x4 == true) (.int .i64 a0.End)),nd2 [1,13] [0] 16 (.cnd (x4 == true) (.agg (tv12 a0))),nd1 [13,16] 17 (.cnd (x4 == true) (.int .i64 x5)),nd1 [13,15,17] 18 (.cnd (x4 == true) (.bool x6)),nd1 [13,18] 19 (.cnd (x4 == true) (.bool x6)),nd1 [1,19] 20 (.cnd (((x4 == true) && (x6 == false))) (.ref 0 3)),nd2 [19,20] [0] 21 (.cnd (((x4 == true) && (x6 == false))) (.int .i64 a0.End)),nd1 [19,21] 22 (.cnd (((x4 == true) && (x6 == false))) (.bool x7)),nd1 [13,19,22] 23 (.cnd (x4 == true) (.bool x8)),nd1 [13,23] 24 (.bool x9)] rfl ?_ (by kernel_rfl) ?_
  ·refine .cons (dFa 3 un92 rfl ti3 rfl) <| .cons (dLd un3 ag3 ti3 rfl) <| .cons (lop rfl rfl fun S hA=>(fF rfl rfl (lb rfl) (svaI hA rfl rfl) (sv (d:=.int _ (-1)) rfl) rfl hx4)) <| .cons (dMv rfl) <| .cons (gD rfl (fun S hA hb=>(cX rfl rfl (lb rfl) un92 rfl ti3 (by decide) (svaR hA rfl rfl) (off':=3) rfl))) <| .cons (gD rfl (fun S hA hb=>(eC (d:=.int _ _) rfl rfl (lb rfl) un3 ag3 ti3 (by decide) (svc (d:=.ref _ _) (agr hA rfl rfl) hb) (agi hA rfl rfl) (nle rfl) rfl))) <| .cons (gD rfl (fun S hA hb=>(jN (cs:=q44) rfl rfl (lb rfl) un92 ag92 ti92 (by decide) (svaR hA rfl rfl) (agi hA rfl rfl) (nle rfl) rfl))) <| .cons (gD rfl (fun S hA hb=>(aL (r:=.int _ _) rfl rfl (lb rfl) cl112 (.cons (svc (d:=.agg (tv12 a0)) (agr hA rfl rfl) hb) .nil) rfl (aCb _ _ (gd_t hx5 hb))))) <| .cons (gD rfl (fun S hA hb=>(fF rfl rfl (lb rfl) (svc (d:=.int _ _) (agr hA rfl rfl) hb) (svc (d:=.int _ _) (agr hA rfl rfl) hb) rfl hx6))) <| .cons (gD rfl (fun S hA hb=>(dR rfl rfl (lb rfl) (svc (d:=.bool _) (agr hA rfl rfl) hb)))) <| .cons (lopg rfl rfl rfl rfl (by decide) (fun S hA=>grd2 hA rfl rfl) (fun S hA hb=>(cX rfl rfl (lb rfl) un92 rfl ti3 (by decide) (svaR hA rfl rfl) (off':=3) rfl))) <| .cons (lopg rfl rfl rfl rfl (by decide) (fun S hA=>grd2 hA rfl rfl) (fun S hA hb=>(eC (d:=.int _ _) rfl rfl (lb rfl) un3 ag3 ti3 (by decide) (svc (d:=.ref _ _) (agr hA rfl rfl) hb) (agi hA rfl rfl) (nle rfl) rfl))) <| .cons (lopg rfl rfl rfl rfl (by decide) (fun S hA=>grd2 hA rfl rfl) (fun S hA hb=>(fF rfl rfl (lb rfl) (svc (d:=.int _ _) (agr hA rfl rfl) hb) (sv (d:=.int _ 1099511627776) rfl) rfl hx7))) <| .cons (gD rfl (fun S hA hb=>(aGM rfl rfl (lb rfl) hb (svc (d:=.bool _) (agr hA rfl rfl) hb) rfl (agr hA rfl rfl) hx8))) <| .cons (lop rfl rfl fun S hA=>(nK rfl rfl (lb rfl) (svaB hA rfl rfl) (agr hA rfl rfl) rfl hx9)) ?_
   exact .nil
  refine aH h rfl (fun h=>?_) (fun h=>?_)
  ·
   refine aC (cAs (.int _ 8) rfl <|aB ?_)
   refine aI <| aQ ?_
   obtain rfl:=Option.some.inj h
   refine ⟨.inr rfl,(.cons (sv rfl) .nil)⟩
  ·
   refine aJ <| aE <| aC (cAs (.int _ 0) rfl <|aB ?_)
   refine aI ?_
   obtain rfl:=Option.some.inj h
   refine ⟨.inr rfl,(.cons (sv rfl) .nil)⟩

theorem uX (a0 : Int) (r : Bool) (h : pD a0 = some r) : bR Tryz.prog 114 [.int .u8 a0] (.bool r):=by
 refine aN (rs:=[.bool r]) Tryz.func114 rfl Tryz.ntmps114 (nle rfl) rfl fun O hO=>?_
 show IWP _ _ _ _ ⟨[(0,.int .u8 a0)],[]⟩ _
 unfold pD at h
 refine aC (cAs (.bool false) rfl <|aB ?_)
 obtain ⟨x1,hx1,x2,hx2,x3,hx3,h⟩:=eddd h
 refine aC (cI rfl <|cCm (b:=10) rfl hx1 <|cB rfl <|gG rfl (fun hb=>(tI rfl)) <|gG rfl (fun hb=>(tCg (b:=5) rfl hb hx2)) <|cAn rfl hx3 <|cAB rfl <|aB ?_)
 refine aI ?_
 obtain rfl:=Option.some.inj h
 refine ⟨.inr rfl,(.cons (sv rfl) .nil)⟩

theorem wF (a0 : Int) (r : Int) (h : kK a0 = some r) : bR Tryz.prog 85 [.int .u64 a0] (.int .i64 r):=by
 refine aN (rs:=[.int .i64 r]) Tryz.func85 rfl Tryz.ntmps85 (nle rfl) rfl fun O hO=>?_
 show IWP _ _ _ _ ⟨[(0,.int .u64 a0)],[]⟩ _
 unfold kK at h
 refine aC (cAs (.int _ 0) rfl <|aB ?_)
 refine iT (α:=Int × Int) (fun z=>⟨[(0,.int .u64 z.1),(2,.int .i64 z.2)],[]⟩) (fun z=>gB z.1 z.2 = some r) ?_ ?_
 ·
  obtain ⟨x30,hx30,h⟩:=bE h
  refine aC (cI rfl <|cCm (b:=4294967296) rfl hx30 <|aB ?_)
  refine aH h rfl (fun h=>?_) (fun h=>?_)
  ·
   obtain ⟨x32,hx32,h⟩:=bT h
   refine aC (cI rfl <|aA rfl (qX rfl rfl (lb rfl) (svI rfl) (sv (d:=.int _ 32) rfl) hx32) <|cAI rfl <|aB ?_)
   refine aR (cAs (.int _ 32) rfl <|bK ?_)
   refine aE ⟨(x32,32),(fun i=>i),⟨(.sames rfl rfl),.nil,bS [] rfl (by decide),fun _ _=>rfl⟩,?_⟩
   exact h
  ·
   refine aJ <| aE ⟨(a0,0),(fun i=>i),⟨(.sames rfl rfl),.nil,bS [] rfl (by decide),fun _ _=>rfl⟩,?_⟩
   exact h
 ·
  rintro ⟨v4,v5⟩ h
  unfold gB at h
  refine iT (α:=Int × Int) (fun z=>⟨[(0,.int .u64 z.1),(2,.int .i64 z.2)],[]⟩) (fun z=>gA z.1 z.2 = some r) ?_ ?_
  ·
   obtain ⟨x26,hx26,h⟩:=bE h
   refine aC (cI rfl <|cCm (b:=65536) rfl hx26 <|aB ?_)
   refine aH h rfl (fun h=>?_) (fun h=>?_)
   ·
    obtain ⟨x28,hx28,h⟩:=bT h
    refine aC (cI rfl <|aA rfl (qX rfl rfl (lb rfl) (svI rfl) (sv (d:=.int _ 16) rfl) hx28) <|cAI rfl <|aB ?_)
    obtain ⟨x29,hx29,h⟩:=bE h
    refine aR (cI rfl <|aA rfl (bB rfl rfl (lb rfl) (svI rfl) (sv (d:=.int _ 16) rfl) rfl hx29) <|cAI rfl <|bK ?_)
    refine aE ⟨(x28,x29),(fun i=>i),⟨(.sames rfl rfl),.nil,bS [] rfl (by decide),fun _ _=>rfl⟩,?_⟩
    exact h
   ·
    refine aJ <| aE ⟨(v4,v5),(fun i=>i),⟨(.sames rfl rfl),.nil,bS [] rfl (by decide),fun _ _=>rfl⟩,?_⟩
    exact h
  ·
   rintro ⟨v10,v11⟩ h
   unfold gA at h
   refine iT (α:=Int × Int) (fun z=>⟨[(0,.int .u64 z.1),(2,.int .i64 z.2)],[]⟩) (fun z=>fZ z.1 z.2 = some r) ?_ ?_
   ·
    obtain ⟨x22,hx22,h⟩:=bE h
    refine aC (cI rfl <|cCm (b:=256) rfl hx22 <|aB ?_)
    refine aH h rfl (fun h=>?_) (fun h=>?_)
    ·
     obtain ⟨x24,hx24,h⟩:=bT h
     refine aC (cI rfl <|aA rfl (qX rfl rfl (lb rfl) (svI rfl) (sv (d:=.int _ 8) rfl) hx24) <|cAI rfl <|aB ?_)
     obtain ⟨x25,hx25,h⟩:=bE h
     refine aR (cI rfl <|aA rfl (bB rfl rfl (lb rfl) (svI rfl) (sv (d:=.int _ 8) rfl) rfl hx25) <|cAI rfl <|bK ?_)
     refine aE ⟨(x24,x25),(fun i=>i),⟨(.sames rfl rfl),.nil,bS [] rfl (by decide),fun _ _=>rfl⟩,?_⟩
     exact h
    ·
     refine aJ <| aE ⟨(v10,v11),(fun i=>i),⟨(.sames rfl rfl),.nil,bS [] rfl (by decide),fun _ _=>rfl⟩,?_⟩
     exact h
   ·
    rintro ⟨v16,v17⟩ h
    unfold fZ at h
    obtain ⟨x18,hx18,x19,hx19,x20,hx20,h⟩:=edod h
    obtain ⟨x21,hx21,h⟩:=bE h
    refine aC (cI rfl <|cI rfl <|aA rfl (eJ rfl rfl (lb rfl) ⟨_,Tryz.underlying188⟩ un5 (svI rfl) hx18) <|aA rfl (iX rfl rfl (lb rfl) un9 (sv (d:=.str [0,1,2,2,3,3,3,3,4,4,4,4,4,4,4,4,5,5,5,5,5,5,5,5,5,5,5,5,5,5,5,5,6,6,6,6,6,6,6,6,6,6,6,6,6,6,6,6,6,6,6,6,6,6,6,6,6,6,6,6,6,6,6,6,7,7,7,7,7,7,7,7,7,7,7,7,7,7,7,7,7,7,7,7,7,7,7,7,7,7,7,7,7,7,7,7,7,7,7,7,7,7,7,7,7,7,7,7,7,7,7,7,7,7,7,7,7,7,7,7,7,7,7,7,7,7,7,7,8,8,8,8,8,8,8,8,8,8,8,8,8,8,8,8,8,8,8,8,8,8,8,8,8,8,8,8,8,8,8,8,8,8,8,8,8,8,8,8,8,8,8,8,8,8,8,8,8,8,8,8,8,8,8,8,8,8,8,8,8,8,8,8,8,8,8,8,8,8,8,8,8,8,8,8,8,8,8,8,8,8,8,8,8,8,8,8,8,8,8,8,8,8,8,8,8,8,8,8,8,8,8,8,8,8,8,8,8,8,8,8,8,8,8,8,8,8,8,8,8,8,8,8,8,8,8,8]) rfl) (svI rfl) hx19) <|aA rfl (eJ rfl rfl (lb rfl) ⟨_,un5⟩ un3 (svI rfl) hx20) <|aA rfl (bB rfl rfl (lb rfl) (svI rfl) (svI rfl) rfl hx21) <|cAI rfl <|aB ?_)
    refine aI ?_
    obtain rfl:=Option.some.inj h
    refine ⟨.inr rfl,(.cons (sv rfl) .nil)⟩

theorem zH (a0 : Int) (r : Int) (h : mI a0 = some r) : bR Tryz.prog 141 [.int .u64 a0] (.int .i64 r):=by
 refine aN (rs:=[.int .i64 r]) Tryz.func141 rfl Tryz.ntmps141 (nle rfl) rfl fun O hO=>?_
 show IWP _ _ _ _ ⟨[(0,.int .u64 a0)],[]⟩ _
 unfold mI at h
 refine aC (cAs (.int _ 0) rfl <|aB ?_)
 refine aK <| sR rfl rfl <| aJ <| aE ?_
 obtain ⟨x1,hx1,h⟩:=bT h
 refine aC (cI rfl <|aA rfl (aL (r:=.int _ _) rfl rfl (lb rfl) cl85 (.cons (svI rfl) .nil) rfl (wF _ _ hx1)) <|cAI rfl <|aB ?_)
 refine aI ?_
 obtain rfl:=Option.some.inj h
 refine ⟨.inr rfl,(.cons (sv rfl) .nil)⟩

theorem uO (a0 : Int) (r : Int) (h : mX a0 = some r) : bR Tryz.prog 120 [.int .i64 a0] (.int .i64 r):=by
 refine aN (rs:=[.int .i64 r]) Tryz.func120 rfl Tryz.ntmps120 (nle rfl) rfl fun O hO=>?_
 show IWP _ _ _ _ ⟨[(0,.int .i64 a0)],[]⟩ _
 unfold mX at h
 refine aC (cAs (.int _ 0) rfl <|aB ?_)
 refine aK ?_
 obtain ⟨x1,hx1,x2,hx2,x3,hx3,h⟩:=eddd h
 refine aC (cI rfl <|cCm (b:=0) rfl hx1 <|cB rfl <|gG rfl (fun hb=>(tI rfl)) <|gG rfl (fun hb=>(tCg (b:=4611686018427387903) rfl hb hx2)) <|cOr rfl hx3 <|aB ?_)
 refine aH h rfl (fun h=>?_) (fun h=>?_)
 ·
  refine aC (cAs (.int _ (-1)) rfl <|aB ?_)
  refine aI <| aQ ?_
  obtain rfl:=Option.some.inj h
  refine ⟨.inr rfl,(.cons (sv rfl) .nil)⟩
 ·
  refine aJ <| aE <| aK <| aC (cMv (.int _ 0) rfl <|aB ?_)
  refine aU <| cP (α:=Nat × Int) (fun z=>⟨[(0,.int .i64 a0),(10,.int .i64 z.2)],[]⟩) (fun z=>iN a0 z.1 z.2 = some r) (fun z=>z.1) (fuel,0) (fun i=>i) ⟨(.sames rfl rfl),.nil,bS [] rfl (by decide),fun _ _=>rfl⟩ ?_ ?_
  ·exact h
  ·
   rintro ⟨n0,v14⟩ h
   cases n0 with
   | zero=>exact absurd h (by unfold iN; exact nofun)
   | succ n0 =>
    unfold iN at h
    obtain ⟨x24,hx24,h⟩:=bE h
    refine aC (cCm (b:=4) rfl hx24 <|aB ?_)
    refine aK <| aH h rfl (fun h=>?_) (fun h=>?_)
    ·
     refine aJ <| aE <| aK <| aU <| aC (cI rfl <|cAI rfl <|aB ?_)
     obtain ⟨x26,hx26,x27,hx27,x28,hx28,h⟩:=edoo h
     obtain ⟨x29,hx29,x30,hx30,h⟩:=edd h
     refine eI rfl [nd1 [0] 13 (.int .i64 a0),nd1 [13] 14 (.int .u64 x26),nd1 [14] 15 (.int .i64 x27),nd1 [3] 16 (.int .i64 v14),nd1 [16] 17 (.int .i64 x28),nd1 [17] 18 (.int .i64 x29),nd1 [15,18] 19 (.bool x30)] rfl ?_ (by kernel_rfl) ?_
     ·refine .cons (dMv rfl) <| .cons (lop rfl rfl fun S hA=>(eJ rfl rfl (lb rfl) ⟨_,un3⟩ Tryz.underlying211 (svaI hA rfl rfl) hx26)) <| .cons (lop rfl rfl fun S hA=>(aL (r:=.int _ _) rfl rfl (lb rfl) cl141 (.cons (svaI hA rfl rfl) .nil) rfl (zH _ _ hx27))) <| .cons (dMv rfl) <| .cons (lop rfl rfl fun S hA=>(vE rfl rfl (lb rfl) (sv (d:=.int _ 8) rfl) (svaI hA rfl rfl) hx28)) <| .cons (lop rfl rfl fun S hA=>(bB rfl rfl (lb rfl) (svaI hA rfl rfl) (sv (d:=.int _ 2) rfl) rfl hx29)) <| .cons (lop rfl rfl fun S hA=>(fF rfl rfl (lb rfl) (svaI hA rfl rfl) (svaI hA rfl rfl) rfl hx30)) ?_
      exact .nil
     refine aH h rfl (fun h=>?_) (fun h=>?_)
     ·
      refine aC (cI rfl <|cAI rfl <|aB ?_)
      refine aI <| bJ <| aQ <| aQ <| bJ <| aQ ?_
      obtain rfl:=Option.some.inj h
      refine ⟨.inr rfl,(.cons (sv rfl) .nil)⟩
     ·
      refine aJ <| bM <| aE ?_
      obtain ⟨x32,hx32,h⟩:=bE h
      refine aR (aA rfl (bB rfl rfl (lb rfl) (svI rfl) (sv (d:=.int _ 1) rfl) rfl hx32) <|cI rfl <|bK ?_)
      refine aE ⟨(n0,x32),(fun i=>i),⟨(.sames rfl rfl),.nil,bS [] rfl (by decide),fun _ _=>rfl⟩,?_,?_⟩
      exact h
      exact Nat.lt_succ_self _
    ·
     refine cC <| aW <| aW <| cD <| aE <| aC (cAs (.int _ (-1)) rfl <|aB ?_)
     refine aI ?_
     obtain rfl:=Option.some.inj h
     refine ⟨.inr rfl,(.cons (sv rfl) .nil)⟩

theorem rW (a0 : (List UInt8)) (r : (Int × Int × Int)) (h : mZ a0 = some r) : bR Tryz.prog 148 [.str a0] (retD [.int .i64 r.1,.int .i64 r.2.1,.int .i64 r.2.2]):=by
 refine aN (rs:=[.int .i64 r.1,.int .i64 r.2.1,.int .i64 r.2.2]) Tryz.func148 rfl Tryz.ntmps148 (nle rfl) rfl fun O hO=>?_
 show IWP _ _ _ _ ⟨[(0,.str a0)],[]⟩ _
 unfold mZ at h
 refine aC (cAs (.int _ 0) rfl <|cAs (.int _ 0) rfl <|cAs (.int _ 0) rfl <|aB ?_)
 refine aK ?_
 obtain ⟨x1,hx1,h⟩:=bE h
 refine aC (cMv (.str _) rfl <|aA rfl (gF rfl rfl (lb rfl) (sv (d:=.str _) rfl) (sv (d:=.str []) rfl) rfl hx1) <|aB ?_)
 refine aH h rfl (fun h=>?_) (fun h=>?_)
 ·
  refine aC (cAs (.int _ 0) rfl <|cAs (.int _ 0) rfl <|cAs (.int _ 3) rfl <|aB ?_)
  refine aI <| aQ ?_
  obtain rfl:=Option.some.inj h
  refine ⟨.inr rfl,(.cons (sv rfl) (.cons (sv rfl) (.cons (sv rfl) .nil)))⟩
 ·
  refine aJ <| aE ?_
  obtain ⟨x3,hx3,x4,hx4,x5,hx5,h⟩:=eood h
  refine aC (cMv (.str _) rfl <|aA rfl (iX rfl rfl (lb rfl) un9 (sv (d:=.str _) rfl) (sv (d:=.int _ 0) rfl) hx3) <|aA rfl (qX rfl rfl (lb rfl) (svI rfl) (sv (d:=.int _ 6) rfl) hx4) <|aA rfl (eJ rfl rfl (lb rfl) ⟨_,un5⟩ un3 (svI rfl) hx5) <|cAI rfl <|aB ?_)
  obtain ⟨x6,hx6,h⟩:=bT h
  refine aC (cI rfl <|aA rfl (vE rfl rfl (lb rfl) (sv (d:=.int _ 1) rfl) (svI rfl) hx6) <|cAI rfl <|aB ?_)
  refine aK ?_
  obtain ⟨x7,hx7,h⟩:=bE h
  refine aC (cMv (.str _) rfl <|aA rfl (cQ rfl rfl (lb rfl) un9 (sv (d:=.str _) rfl) rfl) <|cI rfl <|cCm rfl hx7 <|aB ?_)
  refine aH h rfl (fun h=>?_) (fun h=>?_)
  ·
   refine aC (cAs (.int _ 0) rfl <|cAs (.int _ 0) rfl <|cAs (.int _ 3) rfl <|aB ?_)
   refine aI <| aQ ?_
   obtain rfl:=Option.some.inj h
   refine ⟨.inr rfl,(.cons (sv rfl) (.cons (sv rfl) (.cons (sv rfl) .nil)))⟩
  ·
   refine aJ <| aE ?_
   obtain ⟨x9,hx9,x10,hx10,x11,hx11,h⟩:=eodd h
   refine aC (cMv (.str _) rfl <|aA rfl (iX rfl rfl (lb rfl) un9 (sv (d:=.str _) rfl) (sv (d:=.int _ 0) rfl) hx9) <|aA rfl (bB rfl rfl (lb rfl) (svI rfl) (sv (d:=.int _ 63) rfl) rfl hx10) <|aA rfl (eJ rfl rfl (lb rfl) ⟨_,un5⟩ un3 (svI rfl) hx11) <|cAI rfl <|aB ?_)
   refine aK ?_
   obtain ⟨x12,hx12,h⟩:=bT h
   refine aC (cMv (.str _) rfl <|cI rfl <|aA rfl (mL rfl rfl (lb rfl) un9 (sv (d:=.str _) rfl) ⟨_,(sv (d:=.int _ 1) rfl)⟩ ⟨_,(svI rfl)⟩ hx12) <|aA rfl (qV rfl rfl (lb rfl) un9 un71 un5 (sv (d:=.str _) rfl)) <|aA rfl (dD gI (l:=x12) rfl rfl (lb rfl) un71 (svL rfl)) <|cMv (.int _ 0) rfl <|aB ?_)
   refine aU <| cP (α:=Nat × Int × Int) (fun z=>⟨[(5,.int .i64 x5),(6,.int .i64 x6),(7,.int .i64 z.2.1),(29,.slice false (x12.map gI.d)),(30,.int .i64 (x12.length : Int)),(31,.int .i64 z.2.2)],[]⟩) (fun z=>jH x5 x6 x12 z.1 z.2.1 z.2.2 = some r) (fun z=>z.1) (fuel,x11,0) (fun i=>i) ⟨(.sames rfl rfl),.nil,bS [] rfl (by decide),fun _ _=>rfl⟩ ?_ ?_
   ·exact h
   ·
    rintro ⟨n0,v20,v21⟩ h
    cases n0 with
    | zero=>exact absurd h (by unfold jH; exact nofun)
    | succ n0 =>
     unfold jH at h
     obtain ⟨x29,hx29,h⟩:=bE h
     refine aC (cCm rfl hx29 <|aB ?_)
     refine aK <| aH h rfl (fun h=>?_) (fun h=>?_)
     ·
      refine aJ <| aE <| aK <| aU ?_
      obtain ⟨x31,hx31,h⟩:=bT h
      refine aC (aA rfl (cW gI (cs:=[.int _ _]) rfl rfl (lb rfl) un71 ti5 (svL rfl) (svI rfl) hx31 rfl rfl) <|aA rfl (cN rfl rfl (lb rfl) un5 ag5 ti5 (by decide) (sv (d:=.fptr [.int _ _]) rfl) (nle rfl)) <|cAI rfl <|aB ?_)
      obtain ⟨x32,hx32,x33,hx33,x34,hx34,h⟩:=eodd h
      refine aR (cI rfl <|aA rfl (vE rfl rfl (lb rfl) (svI rfl) (sv (d:=.int _ 8) rfl) hx32) <|cI rfl <|aA rfl (eJ rfl rfl (lb rfl) ⟨_,un5⟩ un3 (svI rfl) hx33) <|aA rfl (bB rfl rfl (lb rfl) (svI rfl) (svI rfl) rfl hx34) <|cAI rfl <|bK ?_)
      refine bM <| aE ?_
      obtain ⟨x35,hx35,h⟩:=bE h
      refine aR (aA rfl (bB rfl rfl (lb rfl) (svI rfl) (sv (d:=.int _ 1) rfl) rfl hx35) <|cI rfl <|bK ?_)
      refine aE ⟨(n0,x34,x35),(fun i=>i),⟨(.sames rfl rfl),.nil,bS [] rfl (by decide),fun _ _=>rfl⟩,?_,?_⟩
      exact h
      exact Nat.lt_succ_self _
     ·
      refine cC <| aW <| aW <| cD <| aE <| aK ?_
      obtain ⟨x36,hx36,x37,hx37,h⟩:=eod h
      refine aC (cI rfl <|aA rfl (aL (r:=.int _ _) rfl rfl (lb rfl) cl120 (.cons (svI rfl) .nil) rfl (uO _ _ hx36)) <|cI rfl <|cCm rfl hx37 <|aB ?_)
      refine aH h rfl (fun h=>?_) (fun h=>?_)
      ·
       refine aC (cAs (.int _ 0) rfl <|cAs (.int _ 0) rfl <|cAs (.int _ 4) rfl <|aB ?_)
       refine aI <| aQ ?_
       obtain rfl:=Option.some.inj h
       refine ⟨.inr rfl,(.cons (sv rfl) (.cons (sv rfl) (.cons (sv rfl) .nil)))⟩
      ·
       refine aJ <| aE <| aC (cI rfl <|cI rfl <|cAI rfl <|cAI rfl <|cAs (.int _ 0) rfl <|aB ?_)
       refine aI ?_
       obtain rfl:=Option.some.inj h
       refine ⟨.inr rfl,(.cons (sv rfl) (.cons (sv rfl) (.cons (sv rfl) .nil)))⟩

theorem aBq (a0 : (List UInt8)) (r : (aD × Int × Int × Int)) (h : sX a0 = some r) : bR Tryz.prog 133 [.str a0] (retD [.agg (tv6 r.1), .int .i64 r.2.1, .int .i64 r.2.2.1, .int .i64 r.2.2.2]) := by
 refine aN (rs:=[.agg (tv6 r.1),.int .i64 r.2.1,.int .i64 r.2.2.1,.int .i64 r.2.2.2]) Tryz.func133 rfl Tryz.ntmps133 (nle rfl) rfl fun O hO=>?_
 show IWP _ _ _ _ ⟨[(0,.str a0)],[]⟩ _
 unfold sX at h
 refine aC (aA rfl (aZ (cs:=q32) (cs':=zs6) 0 rfl rfl (lb rfl) rfl kO rfl rfl (.k4 (.k4 (.cons (.nils _) (.all _))))) <|cAs (.int _ 0) rfl <|cAs (.int _ 0) rfl <|cAs (.int _ 0) rfl <|aB ?_)
 refine aC (aA rfl (aZ (cs:=q32) (cs':=zs6) 1 rfl rfl (lb rfl) rfl kO rfl rfl (.k4 (.k4 (.cons (.nils _) (.all _))))) <|aB ?_)
 refine aK ?_
 obtain ⟨x1,hx1,h⟩:=bE h
 refine aC (cMv (.str _) rfl <|aA rfl (gF rfl rfl (lb rfl) (sv (d:=.str _) rfl) (sv (d:=.str []) rfl) rfl hx1) <|aB ?_)
 refine aH h rfl (fun h=>?_) (fun h=>?_)
 ·
  refine aC (cLr q31 lE rfl <|aA rfl (cH (ds':=[.int _ _,.bool _,.int _ _,.int _ _,.int _ _,.int _ _,.int _ _,.int _ _,.slice false (([] : List aT).map bA.d),.str _]) rfl rfl kO (svR rfl) rfl (svA q31 rfl) rfl rfl rfl (nle rfl) rfl) <|cAs (.int _ 0) rfl <|cAs (.int _ 0) rfl <|cAs (.int _ 3) rfl <|aB ?_)
  refine aI <| aQ ?_
  obtain rfl:=Option.some.inj h
  refine ⟨.inr rfl,(.cons (rva lE rfl rfl (nle rfl) rfl) (.cons (sv rfl) (.cons (sv rfl) (.cons (sv rfl) .nil))))⟩
 ·
  refine aJ <| aE <| aK ?_
  obtain ⟨x3,hx3,x4,hx4,h⟩:=eoo h
  refine aC (cMv (.str _) rfl <|aA rfl (iX rfl rfl (lb rfl) un9 (sv (d:=.str _) rfl) (sv (d:=.int _ 0) rfl) hx3) <|aA rfl (aL (r:=.bool _) rfl rfl (lb rfl) cl114 (.cons (svI rfl) .nil) rfl (uX _ _ hx4)) <|aA rfl (dJ rfl rfl (lb rfl) (svB rfl)) <|aB ?_)
  refine aH h rfl (fun h=>?_) (fun h=>?_)
  ·
   refine aC (cLr q31 lE rfl <|aA rfl (cH (ds':=[.int _ _,.bool _,.int _ _,.int _ _,.int _ _,.int _ _,.int _ _,.int _ _,.slice false (([] : List aT).map bA.d),.str _]) rfl rfl kO (svR rfl) rfl (svA q31 rfl) rfl rfl rfl (nle rfl) rfl) <|cAs (.int _ 0) rfl <|cAs (.int _ 0) rfl <|cAs (.int _ 12) rfl <|aB ?_)
   refine aI <| aQ ?_
   obtain rfl:=Option.some.inj h
   refine ⟨.inr rfl,(.cons (rva lE rfl rfl (nle rfl) rfl) (.cons (sv rfl) (.cons (sv rfl) (.cons (sv rfl) .nil))))⟩
  ·
   refine aJ <| aE <| aK ?_
   obtain ⟨x6,hx6,h⟩:=bE h
   refine aC (cMv (.str _) rfl <|aA rfl (cQ rfl rfl (lb rfl) un9 (sv (d:=.str _) rfl) rfl) <|cCm (b:=2) rfl hx6 <|aB ?_)
   refine aH h rfl (fun h=>?_) (fun h=>?_)
   ·
    refine aC (cLr q31 lE rfl <|aA rfl (cH (ds':=[.int _ _,.bool _,.int _ _,.int _ _,.int _ _,.int _ _,.int _ _,.int _ _,.slice false (([] : List aT).map bA.d),.str _]) rfl rfl kO (svR rfl) rfl (svA q31 rfl) rfl rfl rfl (nle rfl) rfl) <|cAs (.int _ 0) rfl <|cAs (.int _ 0) rfl <|cAs (.int _ 3) rfl <|aB ?_)
    refine aI <| aQ ?_
    obtain rfl:=Option.some.inj h
    refine ⟨.inr rfl,(.cons (rva lE rfl rfl (nle rfl) rfl) (.cons (sv rfl) (.cons (sv rfl) (.cons (sv rfl) .nil))))⟩
   ·
    refine aJ <| aE <| aK ?_
    obtain ⟨x8,hx8,x9,hx9,h⟩:=eod h
    refine aC (cMv (.str _) rfl <|aA rfl (iX rfl rfl (lb rfl) un9 (sv (d:=.str _) rfl) (sv (d:=.int _ 1) rfl) hx8) <|cCm (b:=1) rfl hx9 <|aB ?_)
    refine aH h rfl (fun h=>?_) (fun h=>?_)
    ·
     refine aC (cLr q31 lE rfl <|aA rfl (cH (ds':=[.int _ _,.bool _,.int _ _,.int _ _,.int _ _,.int _ _,.int _ _,.int _ _,.slice false (([] : List aT).map bA.d),.str _]) rfl rfl kO (svR rfl) rfl (svA q31 rfl) rfl rfl rfl (nle rfl) rfl) <|cAs (.int _ 0) rfl <|cAs (.int _ 0) rfl <|cAs (.int _ 4) rfl <|aB ?_)
     refine aI <| aQ ?_
     obtain rfl:=Option.some.inj h
     refine ⟨.inr rfl,(.cons (rva lE rfl rfl (nle rfl) rfl) (.cons (sv rfl) (.cons (sv rfl) (.cons (sv rfl) .nil))))⟩
    ·
     refine aJ <| aE ?_
     obtain ⟨x11,hx11,x12,hx12,h⟩:=eoo h
     refine aC (cMv (.str _) rfl <|aA rfl (mL rfl rfl (lb rfl) un9 (sv (d:=.str _) rfl) ⟨_,(sv (d:=.int _ 2) rfl)⟩ rfl hx11) <|aA rfl (aL (r:=.tuple q48) rfl rfl (lb rfl) cl148 (.cons (sv (d:=.str _) rfl) .nil) rfl (rW _ _ hx12)) <|cMv (.tuple q48) rfl <|cEx (d:=.int _ _) (cs:=q48) rfl <|cEx (d:=.int _ _) (cs:=q48) rfl <|cEx (d:=.int _ _) (cs:=q48) rfl <|cAI rfl <|cAI rfl <|cAI rfl <|aB ?_)
     refine aK <| aU ?_
     obtain ⟨x13,hx13,h⟩:=bE h
     refine aC (cI rfl <|cCm (b:=0) rfl hx13 <|cAB rfl <|aB ?_)
     refine aH h rfl (fun h=>?_) (fun h=>?_)
     ·
      refine aC (cLr q31 lE rfl <|cI rfl <|aA rfl (cH (ds':=[.int _ _,.bool _,.int _ _,.int _ _,.int _ _,.int _ _,.int _ _,.int _ _,.slice false (([] : List aT).map bA.d),.str _]) rfl rfl kO (svR rfl) rfl (svA q31 rfl) rfl rfl rfl (nle rfl) rfl) <|cAs (.int _ 0) rfl <|cAs (.int _ 0) rfl <|cAI rfl <|aB ?_)
      refine aI <| bJ <| aQ ?_
      obtain rfl:=Option.some.inj h
      refine ⟨.inr rfl,(.cons (rva lE rfl rfl (nle rfl) rfl) (.cons (sv rfl) (.cons (sv rfl) (.cons (sv rfl) .nil))))⟩
     ·
      obtain ⟨x15,hx15,h⟩:=bE h
      refine aC (cI rfl <|cCm (b:=64) rfl hx15 <|cAB rfl <|aB ?_)
      refine aH h rfl (fun h=>?_) (fun h=>?_)
      ·
       refine aC (cLr q31 lE rfl <|aA rfl (cH (ds':=[.int _ _,.bool _,.int _ _,.int _ _,.int _ _,.int _ _,.int _ _,.int _ _,.slice false (([] : List aT).map bA.d),.str _]) rfl rfl kO (svR rfl) rfl (svA q31 rfl) rfl rfl rfl (nle rfl) rfl) <|cAs (.int _ 0) rfl <|cAs (.int _ 0) rfl <|cAs (.int _ 5) rfl <|aB ?_)
       refine aI <| bJ <| aQ ?_
       obtain rfl:=Option.some.inj h
       refine ⟨.inr rfl,(.cons (rva lE rfl rfl (nle rfl) rfl) (.cons (sv rfl) (.cons (sv rfl) (.cons (sv rfl) .nil))))⟩
      ·
       obtain ⟨x17,hx17,x18,hx18,x19,hx19,h⟩:=eddd h
       refine aC (cI rfl <|cMv (.str _) rfl <|aA rfl (cQ rfl rfl (lb rfl) un9 (sv (d:=.str _) rfl) rfl) <|aA rfl (bB rfl rfl (lb rfl) (svI rfl) (sv (d:=.int _ 2) rfl) rfl hx17) <|cI rfl <|aA rfl (bB rfl rfl (lb rfl) (svI rfl) (svI rfl) rfl hx18) <|cCm rfl hx19 <|cAB rfl <|aB ?_)
       refine aH h rfl (fun h=>?_) (fun h=>?_)
       ·
        refine aC (cLr q31 lE rfl <|aA rfl (cH (ds':=[.int _ _,.bool _,.int _ _,.int _ _,.int _ _,.int _ _,.int _ _,.int _ _,.slice false (([] : List aT).map bA.d),.str _]) rfl rfl kO (svR rfl) rfl (svA q31 rfl) rfl rfl rfl (nle rfl) rfl) <|cAs (.int _ 0) rfl <|cAs (.int _ 0) rfl <|cAs (.int _ 3) rfl <|aB ?_)
        refine aI <| bJ <| aQ ?_
        obtain rfl:=Option.some.inj h
        refine ⟨.inr rfl,(.cons (rva lE rfl rfl (nle rfl) rfl) (.cons (sv rfl) (.cons (sv rfl) (.cons (sv rfl) .nil))))⟩
       ·
        refine aJ <| bM <| aE ?_
        obtain ⟨x21,hx21,x22,hx22,x23,hx23,h⟩:=eood h
        refine eI rfl [nd1 [0] 51 (.str a0),nd1 [51] 52 (.int .u8 (x21.toNat : Int)),nd1 [0] 53 (.str a0),nd1 [53] 54 (.int .u8 (x22.toNat : Int)),nd1 [54] 55 (.bool x23),nd1 [6] 56 (.ref 1 0),⟨[52,56],[1],[],[(1,.blk 148 (w67 (x21.toNat : Int) false 0 0 0 0 0 0 ([] : List aT) []))]⟩,nd1 [6] 57 (.ref 1 1),⟨[55,57],[1],[],[(1,.blk 148 (w67 (x21.toNat : Int) x23 0 0 0 0 0 0 ([] : List aT) []))]⟩] rfl ?_ (by kernel_rfl) ?_
        ·refine .cons (lop rfl rfl fun S hA=>(dR rfl rfl (lb rfl) (sv (d:=.str _) (agr hA rfl rfl)))) <| .cons (lop rfl rfl fun S hA=>(iX rfl rfl (lb rfl) un9 (sv (d:=.str _) (agr hA rfl rfl)) (sv (d:=.int _ 0) rfl) hx21)) <| .cons (lop rfl rfl fun S hA=>(dR rfl rfl (lb rfl) (sv (d:=.str _) (agr hA rfl rfl)))) <| .cons (lop rfl rfl fun S hA=>(iX rfl rfl (lb rfl) un9 (sv (d:=.str _) (agr hA rfl rfl)) (sv (d:=.int _ 1) rfl) hx22)) <| .cons (lop rfl rfl fun S hA=>(fF rfl rfl (lb rfl) (svaI hA rfl rfl) (sv (d:=.int _ 1) rfl) rfl hx23)) <| .cons (dFa 0 dW rfl ti5 rfl) <| .cons (lop rfl rfl fun S hA=>(cH (ds':=[.int _ _,.bool _,.int _ _,.int _ _,.int _ _,.int _ _,.int _ _,.int _ _,.slice false (([] : List aT).map bA.d),.str _]) rfl rfl ti5 (svaR hA rfl rfl) (agi hA rfl rfl) (svaI hA rfl rfl) rfl rfl rfl (nle rfl) rfl)) <| .cons (dFa 1 dW rfl ti4 rfl) <| .cons (lop rfl rfl fun S hA=>(cH (ds':=[.int _ _,.bool _,.int _ _,.int _ _,.int _ _,.int _ _,.int _ _,.int _ _,.slice false (([] : List aT).map bA.d),.str _]) rfl rfl ti4 (svaR hA rfl rfl) (agi hA rfl rfl) (svaB hA rfl rfl) rfl rfl rfl (nle rfl) rfl)) ?_
         exact .nil
        obtain ⟨x24,hx24,x25,hx25,x26,hx26,h⟩:=eddd h
        refine aC (cLr q31 lE rfl <|cI rfl <|aA rfl (bB rfl rfl (lb rfl) (sv (d:=.int _ 2) rfl) (svI rfl) rfl hx24) <|cI rfl <|aA rfl (bB rfl rfl (lb rfl) (sv (d:=.int _ 2) rfl) (svI rfl) rfl hx25) <|cI rfl <|aA rfl (bB rfl rfl (lb rfl) (svI rfl) (svI rfl) rfl hx26) <|aA rfl (cH (ds':=[.int _ _,.bool _,.int _ _,.int _ _,.int _ _,.int _ _,.int _ _,.int _ _,.slice false (([] : List aT).map bA.d),.str _]) rfl rfl kO (svR rfl) rfl (svA q31 rfl) rfl rfl rfl (nle rfl) rfl) <|cAI rfl <|cAI rfl <|cAs (.int _ 0) rfl <|aB ?_)
        refine aI ?_
        obtain rfl:=Option.some.inj h
        refine ⟨.inr rfl,(.cons (rva lE rfl rfl (nle rfl) rfl) (.cons (sv rfl) (.cons (sv rfl) (.cons (sv rfl) .nil))))⟩

theorem jM (a0 : aD) (r : (List Nat)) (h : eL a0 = some r) : FnH Tryz.prog 118 [.ref 1000 0] [(1000, .blk 148 (tv6 a0))] (.osl 0 (eRef 1000).sz r.length) [(1000, .blk 148 (tv6 a0)), (0, .blk 243 (D.flat (r.map (eRef 1000).d)))] := by
 refine iZ (rs:=[.osl 0 (eRef 1000).sz r.length]) Tryz.func118 rfl Tryz.ntmps118 (nle rfl) fun O hO=>?_
 show IWP _ _ _ _ ⟨[(0,.ref 1000 0)],[(1000,.blk 148 (tv6 a0))]⟩ _
 unfold eL at h
 refine aC (cAs (.nils) rfl <|aB ?_)
 refine aC (cAs (.nils) rfl <|aB ?_)
 refine aK <| aC (aA rfl (mvR rfl rfl rfl rfl) <|aA rfl (aS rfl rfl (lb rfl) (svR rfl)) <|cFa 0 dW rfl ti5 rfl <|cLd (d:=.int _ _) un5 ag5 ti5 rfl <|aB ?_)
 refine aU <| aK <| aU <| iT (α:=(List Nat)) (fun z=>⟨[(0,.ref 1000 0),(3,.osl 1 (eRef 1000).sz z.length)],[(1000,.blk 148 (tv6 a0)),(1,.blk 243 (D.flat (z.map (eRef 1000).d)))]⟩) (fun z=>eZ z = some r) ?_ ?_
 ·
  refine aU <| aK <| aU <| aK <| aU <| aK <| aU <| aK <| aU <| aK <| aU <| aK <| aK <| aK ?_
  obtain ⟨x28,hx28,h⟩:=bE h
  refine aC (cCm (b:=0) rfl hx28 <|cAB rfl <|aB ?_)
  refine gE (b:=_) rfl (fun hc29=>?_) (fun hc29=>?_)
  ·
   replace h:=tG h hc29
   refine aJ <| aE <| gC rfl hc29 <| cC <| aW <| aW <| cD <| aE ?_
   obtain ⟨x30,hx30,h⟩:=bT h
   refine eI rfl [nd1 [3] 24 .nils,nd1 [0] 25 (.ref 1000 0),nd1 [25] 26 (.ref 1000 0),nd1 [26] 27 (.ref 1000 2),nd1 [0] 28 (.ref 1000 0),nd1 [28] 29 (.ref 1000 0),nd1 [29] 30 (.ref 1000 3),⟨[27,30],[0],[(31,.osl 0 (eRef 1000).sz (([2,3] : (List Nat)).length))],[(0,.blk 243 (D.flat (([2,3] : (List Nat)).map (eRef 1000).d)))]⟩,⟨[24,31],[0,1],[(32,.osl 1 (eRef 1000).sz x30.length)],[(1,.blk 243 (D.flat (x30.map (eRef 1000).d)))]⟩,nd1 [32] 3 (.osl 1 (eRef 1000).sz x30.length)] rfl ?_ (by kernel_rfl) ?_
   ·refine .cons (lop rfl rfl fun S hA=>(dR rfl rfl (lb rfl) (sv (d:=.nils) (agr hA rfl rfl)))) <| .cons (dMv rfl) <| .cons (lop rfl rfl fun S hA=>(aS rfl rfl (lb rfl) (svaR hA rfl rfl))) <| .cons (dFa 2 dW rfl ti3 rfl) <| .cons (dMv rfl) <| .cons (lop rfl rfl fun S hA=>(aS rfl rfl (lb rfl) (svaR hA rfl rfl))) <| .cons (dFa 3 dW rfl ti3 rfl) <| .cons (lop rfl rfl fun S hA=>(nF (eRef 1000) ([2,3] : (List Nat)) 0 rfl rfl (lb rfl) oF oG (agi hA rfl rfl) (.cons (svaR hA rfl rfl) (.cons (svaR hA rfl rfl) .nil)) rfl rfl (by decide))) <| .cons (lop rfl rfl fun S hA=>(nR (eRef 1000) 1 rfl rfl (lb rfl) oF oG rfl (agr hA rfl rfl) (agi hA rfl rfl) (yN (eRef 1000) (agr hA rfl rfl) rfl (agi hA rfl rfl)) hx30)) <| .cons (lop rfl rfl fun S hA=>(bV rfl rfl (lb rfl) (sv (d:=.osl _ _ _) (agr hA rfl rfl)))) ?_
    exact .nil
   refine cC <| cA rfl <| aW <| cA rfl <| aW <| cA rfl <| aW <| cA rfl <| aW <| cA rfl <| aW <| cA rfl <| aW <| cD <| aE <| aC (cMv (.osl _ _ _) rfl <|cAs (.osl _ _ _) rfl <|aB ?_)
   refine aI ?_
   obtain rfl:=Option.some.inj h
   refine ⟨.inr rfl,(fun i=>if i = 0 then 1 else i),⟨.nil,(.cons (.blk rfl rfl rfl) (.cons (EntW.lstR rfl rfl) .nil)),bS [1000,1] rfl (by decide),(fun i hi=>by first | rfl | (show (if _ then _ else _) = _; (repeat' split) <;> omega))⟩,(.cons (sv rfl) .nil),rfl⟩
  ·
   replace h:=tH h hc29
   obtain ⟨x31,hx31,h⟩:=bE h
   refine aR (cCm (b:=9) rfl hx31 <|cAB rfl <|bK ?_)
   refine aE <| aH h rfl (fun h=>?_) (fun h=>?_)
   ·
    refine cC <| aW <| aW <| cD <| aE ?_
    obtain ⟨x33,hx33,h⟩:=bT h
    refine eI rfl [nd1 [3] 24 .nils,nd1 [0] 25 (.ref 1000 0),nd1 [25] 26 (.ref 1000 0),nd1 [26] 27 (.ref 1000 2),nd1 [0] 28 (.ref 1000 0),nd1 [28] 29 (.ref 1000 0),nd1 [29] 30 (.ref 1000 3),⟨[27,30],[0],[(31,.osl 0 (eRef 1000).sz (([2,3] : (List Nat)).length))],[(0,.blk 243 (D.flat (([2,3] : (List Nat)).map (eRef 1000).d)))]⟩,⟨[24,31],[0,1],[(32,.osl 1 (eRef 1000).sz x33.length)],[(1,.blk 243 (D.flat (x33.map (eRef 1000).d)))]⟩,nd1 [32] 3 (.osl 1 (eRef 1000).sz x33.length)] rfl ?_ (by kernel_rfl) ?_
    ·refine .cons (lop rfl rfl fun S hA=>(dR rfl rfl (lb rfl) (sv (d:=.nils) (agr hA rfl rfl)))) <| .cons (dMv rfl) <| .cons (lop rfl rfl fun S hA=>(aS rfl rfl (lb rfl) (svaR hA rfl rfl))) <| .cons (dFa 2 dW rfl ti3 rfl) <| .cons (dMv rfl) <| .cons (lop rfl rfl fun S hA=>(aS rfl rfl (lb rfl) (svaR hA rfl rfl))) <| .cons (dFa 3 dW rfl ti3 rfl) <| .cons (lop rfl rfl fun S hA=>(nF (eRef 1000) ([2,3] : (List Nat)) 0 rfl rfl (lb rfl) oF oG (agi hA rfl rfl) (.cons (svaR hA rfl rfl) (.cons (svaR hA rfl rfl) .nil)) rfl rfl (by decide))) <| .cons (lop rfl rfl fun S hA=>(nR (eRef 1000) 1 rfl rfl (lb rfl) oF oG rfl (agr hA rfl rfl) (agi hA rfl rfl) (yN (eRef 1000) (agr hA rfl rfl) rfl (agi hA rfl rfl)) hx33)) <| .cons (lop rfl rfl fun S hA=>(bV rfl rfl (lb rfl) (sv (d:=.osl _ _ _) (agr hA rfl rfl)))) ?_
     exact .nil
    refine cC <| cA rfl <| aW <| cA rfl <| aW <| cA rfl <| aW <| cA rfl <| aW <| cA rfl <| aW <| cA rfl <| aW <| cD <| aE <| aC (cMv (.osl _ _ _) rfl <|cAs (.osl _ _ _) rfl <|aB ?_)
    refine aI ?_
    obtain rfl:=Option.some.inj h
    refine ⟨.inr rfl,(fun i=>if i = 0 then 1 else i),⟨.nil,(.cons (.blk rfl rfl rfl) (.cons (EntW.lstR rfl rfl) .nil)),bS [1000,1] rfl (by decide),(fun i hi=>by first | rfl | (show (if _ then _ else _) = _; (repeat' split) <;> omega))⟩,(.cons (sv rfl) .nil),rfl⟩
   ·
    refine aJ <| aE <| aK <| aK ?_
    obtain ⟨x34,hx34,h⟩:=bE h
    refine aC (cCm (b:=1) rfl hx34 <|cAB rfl <|aB ?_)
    refine gE (b:=_) rfl (fun hc35=>?_) (fun hc35=>?_)
    ·
     replace h:=tG h hc35
     refine aJ <| aE <| gC rfl hc35 <| cC <| aW <| aW <| cA rfl <| aW <| cD <| aE ?_
     obtain ⟨x36,hx36,h⟩:=bT h
     refine eI rfl [nd1 [3] 33 .nils,nd1 [0] 34 (.ref 1000 0),nd1 [34] 35 (.ref 1000 0),nd1 [35] 36 (.ref 1000 2),nd1 [0] 37 (.ref 1000 0),nd1 [37] 38 (.ref 1000 0),nd1 [38] 39 (.ref 1000 4),nd1 [0] 40 (.ref 1000 0),nd1 [40] 41 (.ref 1000 0),nd1 [41] 42 (.ref 1000 5),⟨[36,39,42],[0],[(43,.osl 0 (eRef 1000).sz (([2,4,5] : (List Nat)).length))],[(0,.blk 243 (D.flat (([2,4,5] : (List Nat)).map (eRef 1000).d)))]⟩,⟨[33,43],[0,1],[(44,.osl 1 (eRef 1000).sz x36.length)],[(1,.blk 243 (D.flat (x36.map (eRef 1000).d)))]⟩,nd1 [44] 3 (.osl 1 (eRef 1000).sz x36.length)] rfl ?_ (by kernel_rfl) ?_
     ·refine .cons (lop rfl rfl fun S hA=>(dR rfl rfl (lb rfl) (sv (d:=.nils) (agr hA rfl rfl)))) <| .cons (dMv rfl) <| .cons (lop rfl rfl fun S hA=>(aS rfl rfl (lb rfl) (svaR hA rfl rfl))) <| .cons (dFa 2 dW rfl ti3 rfl) <| .cons (dMv rfl) <| .cons (lop rfl rfl fun S hA=>(aS rfl rfl (lb rfl) (svaR hA rfl rfl))) <| .cons (dFa 4 dW rfl ti3 rfl) <| .cons (dMv rfl) <| .cons (lop rfl rfl fun S hA=>(aS rfl rfl (lb rfl) (svaR hA rfl rfl))) <| .cons (dFa 5 dW rfl ti3 rfl) <| .cons (lop rfl rfl fun S hA=>(nF (eRef 1000) ([2,4,5] : (List Nat)) 0 rfl rfl (lb rfl) oF oG (agi hA rfl rfl) (.cons (svaR hA rfl rfl) (.cons (svaR hA rfl rfl) (.cons (svaR hA rfl rfl) .nil))) rfl rfl (by decide))) <| .cons (lop rfl rfl fun S hA=>(nR (eRef 1000) 1 rfl rfl (lb rfl) oF oG rfl (agr hA rfl rfl) (agi hA rfl rfl) (yN (eRef 1000) (agr hA rfl rfl) rfl (agi hA rfl rfl)) hx36)) <| .cons (lop rfl rfl fun S hA=>(bV rfl rfl (lb rfl) (sv (d:=.osl _ _ _) (agr hA rfl rfl)))) ?_
      exact .nil
     refine cC <| cA rfl <| aW <| cA rfl <| aW <| cA rfl <| aW <| cA rfl <| aW <| cA rfl <| aW <| cD <| aE <| aC (cMv (.osl _ _ _) rfl <|cAs (.osl _ _ _) rfl <|aB ?_)
     refine aI ?_
     obtain rfl:=Option.some.inj h
     refine ⟨.inr rfl,(fun i=>if i = 0 then 1 else i),⟨.nil,(.cons (.blk rfl rfl rfl) (.cons (EntW.lstR rfl rfl) .nil)),bS [1000,1] rfl (by decide),(fun i hi=>by first | rfl | (show (if _ then _ else _) = _; (repeat' split) <;> omega))⟩,(.cons (sv rfl) .nil),rfl⟩
    ·
     replace h:=tH h hc35
     obtain ⟨x37,hx37,h⟩:=bE h
     refine aR (cCm (b:=2) rfl hx37 <|cAB rfl <|bK ?_)
     refine aE <| aH h rfl (fun h=>?_) (fun h=>?_)
     ·
      refine cC <| aW <| aW <| cA rfl <| aW <| cD <| aE ?_
      obtain ⟨x39,hx39,h⟩:=bT h
      refine eI rfl [nd1 [3] 33 .nils,nd1 [0] 34 (.ref 1000 0),nd1 [34] 35 (.ref 1000 0),nd1 [35] 36 (.ref 1000 2),nd1 [0] 37 (.ref 1000 0),nd1 [37] 38 (.ref 1000 0),nd1 [38] 39 (.ref 1000 4),nd1 [0] 40 (.ref 1000 0),nd1 [40] 41 (.ref 1000 0),nd1 [41] 42 (.ref 1000 5),⟨[36,39,42],[0],[(43,.osl 0 (eRef 1000).sz (([2,4,5] : (List Nat)).length))],[(0,.blk 243 (D.flat (([2,4,5] : (List Nat)).map (eRef 1000).d)))]⟩,⟨[33,43],[0,1],[(44,.osl 1 (eRef 1000).sz x39.length)],[(1,.blk 243 (D.flat (x39.map (eRef 1000).d)))]⟩,nd1 [44] 3 (.osl 1 (eRef 1000).sz x39.length)] rfl ?_ (by kernel_rfl) ?_
      ·refine .cons (lop rfl rfl fun S hA=>(dR rfl rfl (lb rfl) (sv (d:=.nils) (agr hA rfl rfl)))) <| .cons (dMv rfl) <| .cons (lop rfl rfl fun S hA=>(aS rfl rfl (lb rfl) (svaR hA rfl rfl))) <| .cons (dFa 2 dW rfl ti3 rfl) <| .cons (dMv rfl) <| .cons (lop rfl rfl fun S hA=>(aS rfl rfl (lb rfl) (svaR hA rfl rfl))) <| .cons (dFa 4 dW rfl ti3 rfl) <| .cons (dMv rfl) <| .cons (lop rfl rfl fun S hA=>(aS rfl rfl (lb rfl) (svaR hA rfl rfl))) <| .cons (dFa 5 dW rfl ti3 rfl) <| .cons (lop rfl rfl fun S hA=>(nF (eRef 1000) ([2,4,5] : (List Nat)) 0 rfl rfl (lb rfl) oF oG (agi hA rfl rfl) (.cons (svaR hA rfl rfl) (.cons (svaR hA rfl rfl) (.cons (svaR hA rfl rfl) .nil))) rfl rfl (by decide))) <| .cons (lop rfl rfl fun S hA=>(nR (eRef 1000) 1 rfl rfl (lb rfl) oF oG rfl (agr hA rfl rfl) (agi hA rfl rfl) (yN (eRef 1000) (agr hA rfl rfl) rfl (agi hA rfl rfl)) hx39)) <| .cons (lop rfl rfl fun S hA=>(bV rfl rfl (lb rfl) (sv (d:=.osl _ _ _) (agr hA rfl rfl)))) ?_
       exact .nil
      refine cC <| cA rfl <| aW <| cA rfl <| aW <| cA rfl <| aW <| cA rfl <| aW <| cA rfl <| aW <| cD <| aE <| aC (cMv (.osl _ _ _) rfl <|cAs (.osl _ _ _) rfl <|aB ?_)
      refine aI ?_
      obtain rfl:=Option.some.inj h
      refine ⟨.inr rfl,(fun i=>if i = 0 then 1 else i),⟨.nil,(.cons (.blk rfl rfl rfl) (.cons (EntW.lstR rfl rfl) .nil)),bS [1000,1] rfl (by decide),(fun i hi=>by first | rfl | (show (if _ then _ else _) = _; (repeat' split) <;> omega))⟩,(.cons (sv rfl) .nil),rfl⟩
     ·
      refine aJ <| aE <| aK ?_
      obtain ⟨x40,hx40,h⟩:=bE h
      refine aC (cCm (b:=3) rfl hx40 <|cAB rfl <|aB ?_)
      refine aH h rfl (fun h=>?_) (fun h=>?_)
      ·
       refine cC <| aW <| aW <| cA rfl <| aW <| cA rfl <| aW <| cD <| aE ?_
       obtain ⟨x42,hx42,h⟩:=bT h
       refine eI rfl [nd1 [3] 45 .nils,nd1 [0] 46 (.ref 1000 0),nd1 [46] 47 (.ref 1000 0),nd1 [47] 48 (.ref 1000 2),nd1 [0] 49 (.ref 1000 0),nd1 [49] 50 (.ref 1000 0),nd1 [50] 51 (.ref 1000 6),nd1 [0] 52 (.ref 1000 0),nd1 [52] 53 (.ref 1000 0),nd1 [53] 54 (.ref 1000 7),⟨[48,51,54],[0],[(55,.osl 0 (eRef 1000).sz (([2,6,7] : (List Nat)).length))],[(0,.blk 243 (D.flat (([2,6,7] : (List Nat)).map (eRef 1000).d)))]⟩,⟨[45,55],[0,1],[(56,.osl 1 (eRef 1000).sz x42.length)],[(1,.blk 243 (D.flat (x42.map (eRef 1000).d)))]⟩,nd1 [56] 3 (.osl 1 (eRef 1000).sz x42.length)] rfl ?_ (by kernel_rfl) ?_
       ·refine .cons (lop rfl rfl fun S hA=>(dR rfl rfl (lb rfl) (sv (d:=.nils) (agr hA rfl rfl)))) <| .cons (dMv rfl) <| .cons (lop rfl rfl fun S hA=>(aS rfl rfl (lb rfl) (svaR hA rfl rfl))) <| .cons (dFa 2 dW rfl ti3 rfl) <| .cons (dMv rfl) <| .cons (lop rfl rfl fun S hA=>(aS rfl rfl (lb rfl) (svaR hA rfl rfl))) <| .cons (dFa 6 dW rfl ti3 rfl) <| .cons (dMv rfl) <| .cons (lop rfl rfl fun S hA=>(aS rfl rfl (lb rfl) (svaR hA rfl rfl))) <| .cons (dFa 7 dW rfl ti3 rfl) <| .cons (lop rfl rfl fun S hA=>(nF (eRef 1000) ([2,6,7] : (List Nat)) 0 rfl rfl (lb rfl) oF oG (agi hA rfl rfl) (.cons (svaR hA rfl rfl) (.cons (svaR hA rfl rfl) (.cons (svaR hA rfl rfl) .nil))) rfl rfl (by decide))) <| .cons (lop rfl rfl fun S hA=>(nR (eRef 1000) 1 rfl rfl (lb rfl) oF oG rfl (agr hA rfl rfl) (agi hA rfl rfl) (yN (eRef 1000) (agr hA rfl rfl) rfl (agi hA rfl rfl)) hx42)) <| .cons (lop rfl rfl fun S hA=>(bV rfl rfl (lb rfl) (sv (d:=.osl _ _ _) (agr hA rfl rfl)))) ?_
        exact .nil
       refine cC <| cA rfl <| aW <| cA rfl <| aW <| cA rfl <| aW <| cA rfl <| aW <| cD <| aE <| aC (cMv (.osl _ _ _) rfl <|cAs (.osl _ _ _) rfl <|aB ?_)
       refine aI ?_
       obtain rfl:=Option.some.inj h
       refine ⟨.inr rfl,(fun i=>if i = 0 then 1 else i),⟨.nil,(.cons (.blk rfl rfl rfl) (.cons (EntW.lstR rfl rfl) .nil)),bS [1000,1] rfl (by decide),(fun i hi=>by first | rfl | (show (if _ then _ else _) = _; (repeat' split) <;> omega))⟩,(.cons (sv rfl) .nil),rfl⟩
      ·
       refine aJ <| aE <| aK ?_
       obtain ⟨x43,hx43,h⟩:=bE h
       refine aC (cCm (b:=7) rfl hx43 <|cAB rfl <|aB ?_)
       refine aH h rfl (fun h=>?_) (fun h=>?_)
       ·
        refine cC <| aW <| aW <| cA rfl <| aW <| cA rfl <| aW <| cA rfl <| aW <| cD <| aE ?_
        obtain ⟨x45,hx45,h⟩:=bT h
        refine eI rfl [nd1 [3] 57 .nils,nd1 [0] 58 (.ref 1000 0),nd1 [58] 59 (.ref 1000 0),nd1 [59] 60 (.ref 1000 2),nd1 [0] 61 (.ref 1000 0),nd1 [61] 62 (.ref 1000 0),nd1 [62] 63 (.ref 1000 7),⟨[60,63],[0],[(64,.osl 0 (eRef 1000).sz (([2,7] : (List Nat)).length))],[(0,.blk 243 (D.flat (([2,7] : (List Nat)).map (eRef 1000).d)))]⟩,⟨[57,64],[0,1],[(65,.osl 1 (eRef 1000).sz x45.length)],[(1,.blk 243 (D.flat (x45.map (eRef 1000).d)))]⟩,nd1 [65] 3 (.osl 1 (eRef 1000).sz x45.length)] rfl ?_ (by kernel_rfl) ?_
        ·refine .cons (lop rfl rfl fun S hA=>(dR rfl rfl (lb rfl) (sv (d:=.nils) (agr hA rfl rfl)))) <| .cons (dMv rfl) <| .cons (lop rfl rfl fun S hA=>(aS rfl rfl (lb rfl) (svaR hA rfl rfl))) <| .cons (dFa 2 dW rfl ti3 rfl) <| .cons (dMv rfl) <| .cons (lop rfl rfl fun S hA=>(aS rfl rfl (lb rfl) (svaR hA rfl rfl))) <| .cons (dFa 7 dW rfl ti3 rfl) <| .cons (lop rfl rfl fun S hA=>(nF (eRef 1000) ([2,7] : (List Nat)) 0 rfl rfl (lb rfl) oF oG (agi hA rfl rfl) (.cons (svaR hA rfl rfl) (.cons (svaR hA rfl rfl) .nil)) rfl rfl (by decide))) <| .cons (lop rfl rfl fun S hA=>(nR (eRef 1000) 1 rfl rfl (lb rfl) oF oG rfl (agr hA rfl rfl) (agi hA rfl rfl) (yN (eRef 1000) (agr hA rfl rfl) rfl (agi hA rfl rfl)) hx45)) <| .cons (lop rfl rfl fun S hA=>(bV rfl rfl (lb rfl) (sv (d:=.osl _ _ _) (agr hA rfl rfl)))) ?_
         exact .nil
        refine cC <| cA rfl <| aW <| cA rfl <| aW <| cA rfl <| aW <| cD <| aE <| aC (cMv (.osl _ _ _) rfl <|cAs (.osl _ _ _) rfl <|aB ?_)
        refine aI ?_
        obtain rfl:=Option.some.inj h
        refine ⟨.inr rfl,(fun i=>if i = 0 then 1 else i),⟨.nil,(.cons (.blk rfl rfl rfl) (.cons (EntW.lstR rfl rfl) .nil)),bS [1000,1] rfl (by decide),(fun i hi=>by first | rfl | (show (if _ then _ else _) = _; (repeat' split) <;> omega))⟩,(.cons (sv rfl) .nil),rfl⟩
       ·
        refine aJ <| aE <| aK ?_
        obtain ⟨x46,hx46,h⟩:=bE h
        refine aC (cCm (b:=8) rfl hx46 <|cAB rfl <|aB ?_)
        refine aH h rfl (fun h=>?_) (fun h=>?_)
        ·
         refine cC <| aW <| aW <| cA rfl <| aW <| cA rfl <| aW <| cA rfl <| aW <| cA rfl <| aW <| cD <| aE ?_
         obtain ⟨x48,hx48,h⟩:=bT h
         refine aR (cMv (.nils) rfl <|aA rfl (mvR rfl rfl rfl rfl) <|aA rfl (aS rfl rfl (lb rfl) (svR rfl)) <|cFa 2 dW rfl ti3 rfl <|aA rfl (nF (eRef 1000) ([2] : (List Nat)) 0 rfl rfl (lb rfl) oF oG rfl (.cons (svR rfl) .nil) rfl rfl (by decide)) <|aA rfl (nR (eRef 1000) 1 rfl rfl (lb rfl) oF oG rfl rfl rfl (yN (eRef 1000) rfl rfl rfl) hx48) <|cAs (.osl _ _ _) rfl <|bK ?_)
         refine bM <| aE ⟨x48,(fun i=>i),⟨(.sames rfl rfl),(.cons (.blk rfl rfl rfl) (.cons (EntW.lstR rfl rfl) .nil)),bS [1000,1] rfl (by decide),fun _ _=>rfl⟩,?_⟩
         exact h
        ·
         refine aJ <| aE <| aK ?_
         obtain ⟨x49,hx49,h⟩:=bE h
         refine aC (cCm (b:=6) rfl hx49 <|cAB rfl <|aB ?_)
         refine aH h rfl (fun h=>?_) (fun h=>?_)
         ·
          refine cC <| aW <| aW <| cA rfl <| aW <| cA rfl <| aW <| cA rfl <| aW <| cA rfl <| aW <| cA rfl <| aW <| cD <| aE ⟨([] : (List Nat)),(fun i=>if i = 1 then 51 else i),⟨(.s rfl rfl (.cons (.nilo rfl) .nil)),(.cons (.blk rfl rfl rfl) (.cons (.nilb rfl) .nil)),bS [1000,51] rfl (by decide),(fun i hi=>by first | rfl | (show (if _ then _ else _) = _; (repeat' split) <;> omega))⟩,?_⟩
          exact h
         ·
          refine aJ <| aE ?_
          obtain ⟨x51,hx51,h⟩:=bE h
          refine aC (cCm (b:=10) rfl hx51 <|cAB rfl <|aB ?_)
          refine aH h rfl (fun h=>?_) (fun h=>?_)
          ·
           refine cC <| aW <| cA rfl <| aW <| cA rfl <| aW <| cA rfl <| aW <| cA rfl <| aW <| cA rfl <| aW <| cA rfl <| aW <| cD <| aE ?_
           obtain ⟨x53,hx53,h⟩:=bT h
           refine eI rfl [nd1 [3] 78 .nils,nd1 [0] 79 (.ref 1000 0),nd1 [79] 80 (.ref 1000 0),nd1 [80] 81 (.ref 1000 6),nd1 [0] 82 (.ref 1000 0),nd1 [82] 83 (.ref 1000 0),nd1 [83] 84 (.ref 1000 7),⟨[81,84],[0],[(85,.osl 0 (eRef 1000).sz (([6,7] : (List Nat)).length))],[(0,.blk 243 (D.flat (([6,7] : (List Nat)).map (eRef 1000).d)))]⟩,⟨[78,85],[0,1],[(86,.osl 1 (eRef 1000).sz x53.length)],[(1,.blk 243 (D.flat (x53.map (eRef 1000).d)))]⟩,nd1 [86] 3 (.osl 1 (eRef 1000).sz x53.length)] rfl ?_ (by kernel_rfl) ?_
           ·refine .cons (lop rfl rfl fun S hA=>(dR rfl rfl (lb rfl) (sv (d:=.nils) (agr hA rfl rfl)))) <| .cons (dMv rfl) <| .cons (lop rfl rfl fun S hA=>(aS rfl rfl (lb rfl) (svaR hA rfl rfl))) <| .cons (dFa 6 dW rfl ti3 rfl) <| .cons (dMv rfl) <| .cons (lop rfl rfl fun S hA=>(aS rfl rfl (lb rfl) (svaR hA rfl rfl))) <| .cons (dFa 7 dW rfl ti3 rfl) <| .cons (lop rfl rfl fun S hA=>(nF (eRef 1000) ([6,7] : (List Nat)) 0 rfl rfl (lb rfl) oF oG (agi hA rfl rfl) (.cons (svaR hA rfl rfl) (.cons (svaR hA rfl rfl) .nil)) rfl rfl (by decide))) <| .cons (lop rfl rfl fun S hA=>(nR (eRef 1000) 1 rfl rfl (lb rfl) oF oG rfl (agr hA rfl rfl) (agi hA rfl rfl) (yN (eRef 1000) (agr hA rfl rfl) rfl (agi hA rfl rfl)) hx53)) <| .cons (lop rfl rfl fun S hA=>(bV rfl rfl (lb rfl) (sv (d:=.osl _ _ _) (agr hA rfl rfl)))) ?_
            exact .nil
           refine cC <| cD <| aE <| aC (cMv (.osl _ _ _) rfl <|cAs (.osl _ _ _) rfl <|aB ?_)
           refine aI ?_
           obtain rfl:=Option.some.inj h
           refine ⟨.inr rfl,(fun i=>if i = 0 then 1 else i),⟨.nil,(.cons (.blk rfl rfl rfl) (.cons (EntW.lstR rfl rfl) .nil)),bS [1000,1] rfl (by decide),(fun i hi=>by first | rfl | (show (if _ then _ else _) = _; (repeat' split) <;> omega))⟩,(.cons (sv rfl) .nil),rfl⟩
          ·
           refine aJ <| aE <| cC <| cA rfl <| aW <| cA rfl <| aW <| cA rfl <| aW <| cA rfl <| aW <| cA rfl <| aW <| cA rfl <| aW <| cA rfl <| aW <| cD <| aE <| aC (cMv (.nils) rfl <|cAs (.nils) rfl <|aB ?_)
           refine aI ?_
           obtain rfl:=Option.some.inj h
           refine ⟨.inr rfl,(fun i=>if i = 0 then 50 else i),⟨.nil,(.cons (.blk rfl rfl rfl) (.cons (.nilb rfl) .nil)),bS [1000,50] rfl (by decide),(fun i hi=>by first | rfl | (show (if _ then _ else _) = _; (repeat' split) <;> omega))⟩,(.cons (svno rfl) .nil),rfl⟩
 ·
  rintro v26 h
  unfold eZ at h
  obtain ⟨x27,hx27,h⟩:=bT h
  refine aC (cMv (.osl _ _ _) rfl <|aA rfl (mvR rfl rfl rfl rfl) <|aA rfl (aS rfl rfl (lb rfl) (svR rfl)) <|cFa 6 dW rfl ti3 rfl <|aA rfl (nF (eRef 1000) ([6] : (List Nat)) 2 rfl rfl (lb rfl) oF oG rfl (.cons (svR rfl) .nil) rfl rfl (by decide)) <|aA rfl (sW (eRef 1000) 3 rfl rfl (lb rfl) oF oG rfl rfl rfl rfl rfl (yN (eRef 1000) rfl rfl rfl) hx27) <|cAs (.osl _ _ _) rfl <|aB ?_)
  refine cC <| cA rfl <| aW <| cD <| aE <| aC (cMv (.osl _ _ _) rfl <|cAs (.osl _ _ _) rfl <|aB ?_)
  refine aI ?_
  obtain rfl:=Option.some.inj h
  refine ⟨.inr rfl,(fun i=>if i = 0 then 3 else i),⟨.nil,(.cons (.blk rfl rfl rfl) (.cons (EntW.lstR rfl rfl) .nil)),bS [1000,3] rfl (by decide),(fun i hi=>by first | rfl | (show (if _ then _ else _) = _; (repeat' split) <;> omega))⟩,(.cons (sv rfl) .nil),rfl⟩

theorem aBj (a0 : (List UInt8)) (r : ((List Int) × Int)) (h : pR a0 = some r) : bR Tryz.prog 155 [.str a0] (retD [.slice false (r.1.map (eInt .i64).d),.int .i64 r.2]):=by
 refine aN (rs:=[.slice false (r.1.map (eInt .i64).d),.int .i64 r.2]) Tryz.func155 rfl Tryz.ntmps155 (nle rfl) rfl fun O hO=>?_
 show IWP _ _ _ _ ⟨[(0,.str a0)],[]⟩ _
 unfold pR at h
 refine aC (cAs (.nils) rfl <|cAs (.int _ 0) rfl <|aB ?_)
 refine aC (cAs (.nils) rfl <|aB ?_)
 refine aK <| aU <| cP (α:=Nat × (List UInt8) × (List Int)) (fun z=>⟨[(0,.str z.2.1),(4,.gsl 21 (eInt .i64).sz (z.2.2.map (eInt .i64).d))],[(21,.tail 3 (eInt .i64).sz z.2.2.length)]⟩) (fun z=>jI z.1 z.2.1 z.2.2 = some r) (fun z=>z.1) (fuel,a0,([] : (List Int))) (fun i=>if i = 21 then 71 else i) ⟨(.s rfl rfl (.cons (.nils rfl) .nil)),(.cons (.nils rfl) .nil),bS [71] rfl (by decide),(fun i hi=>by first | rfl | (show (if _ then _ else _) = _; (repeat' split) <;> omega))⟩ ?_ ?_
 ·exact h
 ·
  rintro ⟨n0,v8,v9⟩ h
  cases n0 with
  | zero=>exact absurd h (by unfold jI; exact nofun)
  | succ n0 =>
   unfold jI at h
   refine aK ?_
   obtain ⟨x17,hx17,h⟩:=bE h
   refine aC (cMv (.str _) rfl <|aA rfl (gF rfl rfl (lb rfl) (sv (d:=.str _) rfl) (sv (d:=.str []) rfl) rfl hx17) <|aB ?_)
   refine aH h rfl (fun h=>?_) (fun h=>?_)
   ·
    refine aJ <| aE <| aU ?_
    obtain ⟨x19,hx19,h⟩:=bT h
    refine aC (cMv (.str _) rfl <|aA rfl (aL (r:=.tuple q48) rfl rfl (lb rfl) cl148 (.cons (sv (d:=.str _) rfl) .nil) rfl (rW _ _ hx19)) <|cMv (.tuple q48) rfl <|cEx (d:=.int _ _) (cs:=q48) rfl <|cEx (d:=.int _ _) (cs:=q48) rfl <|cEx (d:=.int _ _) (cs:=q48) rfl <|cAI rfl <|cAI rfl <|cAI rfl <|aB ?_)
    refine aK ?_
    obtain ⟨x20,hx20,h⟩:=bE h
    refine aC (cI rfl <|cCm (b:=0) rfl hx20 <|aB ?_)
    refine aH h rfl (fun h=>?_) (fun h=>?_)
    ·
     refine aC (cI rfl <|cAs (.nils) rfl <|cAI rfl <|aB ?_)
     refine aI <| aQ <| bJ <| aQ <| bJ <| aQ ?_
     obtain rfl:=Option.some.inj h
     refine ⟨.inr rfl,(.cons (yK rfl rfl) (.cons (sv rfl) .nil))⟩
    ·
     refine aJ <| aE ?_
     obtain ⟨x22,hx22,h⟩:=bT h
     refine aC (cMv (.gsl _ _ _) rfl <|cI rfl <|aA rfl (mM (eInt .i64) ([x19.1] : (List Int)) 22 rfl rfl (lb rfl) un72 ti3 rfl (.cons (svI rfl) .nil) rfl rfl (by decide)) <|aA rfl (oK (eInt .i64) 23 rfl rfl (lb rfl) un72 ti3 rfl rfl rfl rfl (svg rfl) hx22) <|cAs (.gsl _ _ _) rfl <|aB ?_)
     obtain ⟨x23,hx23,h⟩:=bT h
     refine aR (cMv (.str _) rfl <|cI rfl <|aA rfl (mL rfl rfl (lb rfl) un9 (sv (d:=.str _) rfl) ⟨_,(svI rfl)⟩ rfl hx23) <|cAs (.str _) rfl <|bK ?_)
     refine bM <| aE ⟨(n0,x23,x22),(fun i=>if i = 21 then 23 else i),⟨(.sames rfl rfl),(.cons (.tail rfl) .nil),bS [23] rfl (by decide),(fun i hi=>by first | rfl | (show (if _ then _ else _) = _; (repeat' split) <;> omega))⟩,?_,?_⟩
     exact h
     exact Nat.lt_succ_self _
   ·
    refine cC <| aW <| aW <| cD <| aE <| aC (cMv (.gsl _ _ _) rfl <|cAs (.gsl _ _ _) rfl <|cAs (.int _ 0) rfl <|aB ?_)
    refine aI ?_
    obtain rfl:=Option.some.inj h
    refine ⟨.inr rfl,(.cons (yL rfl rfl) (.cons (sv rfl) .nil))⟩

theorem xL (a0 : (List UInt8)) (r : ((List aT) × Bool)) (h : jW a0 = some r) : bR Tryz.prog 149 [.str a0] (retD [.slice false (r.1.map bA.d),.bool r.2]):=by
 refine aN (rs:=[.slice false (r.1.map bA.d),.bool r.2]) Tryz.func149 rfl Tryz.ntmps149 (nle rfl) rfl fun O hO=>?_
 show IWP _ _ _ _ ⟨[(0,.str a0)],[]⟩ _
 unfold jW at h
 refine aC (cAs (.nils) rfl <|cAs (.bool false) rfl <|aB ?_)
 obtain ⟨x1,hx1,h⟩:=bT h
 refine aC (cMv (.str _) rfl <|aA rfl (aL (r:=.tuple q50) rfl rfl (lb rfl) cl155 (.cons (sv (d:=.str _) rfl) .nil) rfl (aBj _ _ hx1)) <|cMv (.tuple q50) rfl <|cEx (d:=.slice _ _) (cs:=q50) rfl <|cEx (d:=.int _ _) (cs:=q50) rfl <|aA rfl (bV rfl rfl (lb rfl) (svL rfl)) <|cAI rfl <|aB ?_)
 refine aK ?_
 obtain ⟨x2,hx2,x3,hx3,x4,hx4,h⟩:=edod h
 obtain ⟨x5,hx5,h⟩:=bE h
 refine aC (cI rfl <|cCm (b:=0) rfl hx2 <|cB rfl <|gG rfl (fun hb=>(mvL rfl rfl rfl rfl)) <|gG rfl (fun hb=>(dD (eInt .i64) (l:=x1.1) rfl rfl (lb rfl) un72 (svcL rfl hb))) <|gG rfl (fun hb=>(aGL rfl rfl (lb rfl) (svcI rfl hb) (sv (d:=.int _ 2) rfl) (gd_t hx3 hb))) <|gG rfl (fun hb=>(tCg (b:=1) rfl hb hx4)) <|cOr rfl hx5 <|aB ?_)
 refine aH h rfl (fun h=>?_) (fun h=>?_)
 ·
  refine aC (cAs (.nils) rfl <|cAs (.bool false) rfl <|aB ?_)
  refine aI <| aQ ?_
  obtain rfl:=Option.some.inj h
  refine ⟨.inr rfl,(.cons (yK rfl rfl) (.cons (sv rfl) .nil))⟩
 ·
  refine aJ <| aE <| aC (cAs (.nils) rfl <|aB ?_)
  refine aK <| aU <| cP (α:=Nat × (List Int) × (List aT)) (fun z=>⟨[(4,.slice false (z.2.1.map (eInt .i64).d)),(6,.gsl 21 bA.sz (z.2.2.map bA.d))],[(21,.tail 180 bA.sz z.2.2.length)]⟩) (fun z=>fR z.1 z.2.1 z.2.2 = some r) (fun z=>z.1) (fuel,x1.1,([] : (List aT))) (fun i=>if i = 21 then 71 else i) ⟨(.s rfl rfl (.cons (.nils rfl) .nil)),(.cons (.nils rfl) .nil),bS [71] rfl (by decide),(fun i hi=>by first | rfl | (show (if _ then _ else _) = _; (repeat' split) <;> omega))⟩ ?_ ?_
  ·exact h
  ·
   rintro ⟨n0,v13,v14⟩ h
   cases n0 with
   | zero=>exact absurd h (by unfold fR; exact nofun)
   | succ n0 =>
    unfold fR at h
    refine aK ?_
    obtain ⟨x21,hx21,h⟩:=bE h
    refine aC (aA rfl (mvL rfl rfl rfl rfl) <|aA rfl (dD (eInt .i64) (l:=v13) rfl rfl (lb rfl) un72 (svL rfl)) <|cCm (b:=0) rfl hx21 <|aB ?_)
    refine aH h rfl (fun h=>?_) (fun h=>?_)
    ·
     refine aJ <| aE <| aK <| aU ?_
     obtain ⟨x23,hx23,x24,hx24,x25,hx25,h⟩:=eooo h
     refine sQ rfl [nd1 [6] 25 (.gsl 21 bA.sz (v14.map bA.d)),nd1 [4] 26 (.slice false (v13.map (eInt .i64).d)),nd1 [26] 27 (.fptr [.int .i64 x23]),nd1 [27] 28 (.int .i64 x23),nd1 [4] 29 (.slice false (v13.map (eInt .i64).d)),nd1 [29] 30 (.fptr [.int .i64 x24]),nd1 [30] 31 (.int .i64 x24),nd1 [28,31] 32 (.agg [.int .i64 x23,.int .i64 x24]),⟨[32],[22],[(33,.gsl 22 bA.sz ((([(⟨x23,x24⟩ : aT)] : (List aT))).map bA.d))],[(22,.tail 180 bA.sz (([(⟨x23,x24⟩ : aT)] : (List aT))).length)]⟩,⟨[25,33],[21,23],[(34,.gsl 23 bA.sz (x25.map bA.d))],[(23,.tail 180 bA.sz x25.length),(21,.none)]⟩,nd1 [34] 6 (.gsl 23 bA.sz (x25.map bA.d))] rfl ?_ (by kernel_rfl) ?_
     ·refine .cons (lop rfl rfl fun S hA=>(dR rfl rfl (lb rfl) (sv (d:=.gsl _ _ _) (agr hA rfl rfl)))) <| .cons (dMv rfl) <| .cons (lop rfl rfl fun S hA=>(cW (eInt .i64) (cs:=[.int _ _]) rfl rfl (lb rfl) un72 ti3 (svaL hA rfl rfl) (sv (d:=.int _ 0) rfl) hx23 rfl rfl)) <| .cons (lop rfl rfl fun S hA=>(cN rfl rfl (lb rfl) un3 ag3 ti3 (by decide) (sv (d:=.fptr [.int _ _]) (agr hA rfl rfl)) (nle rfl))) <| .cons (dMv rfl) <| .cons (lop rfl rfl fun S hA=>(cW (eInt .i64) (cs:=[.int _ _]) rfl rfl (lb rfl) un72 ti3 (svaL hA rfl rfl) (sv (d:=.int _ 1) rfl) hx24 rfl rfl)) <| .cons (lop rfl rfl fun S hA=>(cN rfl rfl (lb rfl) un3 ag3 ti3 (by decide) (sv (d:=.fptr [.int _ _]) (agr hA rfl rfl)) (nle rfl))) <| .cons (lop rfl rfl fun S hA=>(aY (cs:=q52) rfl rfl (lb rfl) uA oS pl180 rfl (.cons (svaI hA rfl rfl) (.cons (svaI hA rfl rfl) .nil)) rfl)) <| .cons (lop rfl rfl fun S hA=>(mM bA ([(⟨x23,x24⟩ : aT)] : (List aT)) 22 rfl rfl (lb rfl) pS oS (agi hA rfl rfl) (.cons (svaA q52 hA rfl rfl) .nil) rfl rfl (by decide))) <| .cons (lop rfl rfl fun S hA=>(oK bA 23 rfl rfl (lb rfl) pS oS rfl (agr hA rfl rfl) (agi hA rfl rfl) (agi hA rfl rfl) (svg (agr hA rfl rfl)) hx25)) <| .cons (lop rfl rfl fun S hA=>(bV rfl rfl (lb rfl) (sv (d:=.gsl _ _ _) (agr hA rfl rfl)))) ?_
      exact .nil
     refine bM <| aE ?_
     obtain ⟨x26,hx26,h⟩:=bT h
     refine aR (aA rfl (mvL rfl rfl rfl rfl) <|aA rfl (aBG (eInt .i64) rfl rfl (lb rfl) un72 ti3 (svL rfl) ⟨_,(sv (d:=.int _ 2) rfl)⟩ rfl hx26) <|aA rfl (bV rfl rfl (lb rfl) (svL rfl)) <|bK ?_)
     refine aE ⟨(n0,x26,x25),(fun i=>if i = 21 then 23 else i),⟨(.sames rfl rfl),(.cons (.tail rfl) .nil),bS [23] rfl (by decide),(fun i hi=>by first | rfl | (show (if _ then _ else _) = _; (repeat' split) <;> omega))⟩,?_,?_⟩
     exact h
     exact Nat.lt_succ_self _
    ·
     refine cC <| aW <| aW <| cD <| aE <| aC (cMv (.gsl _ _ _) rfl <|cAs (.gsl _ _ _) rfl <|cAs (.bool true) rfl <|aB ?_)
     refine aI ?_
     obtain rfl:=Option.some.inj h
     refine ⟨.inr rfl,(.cons (yL rfl rfl) (.cons (sv rfl) .nil))⟩

theorem tC (a0 : (List UInt8)) (a1 : aD) (r : (Bool × aD)) (h : iE a0 a1 = some r) : FnH Tryz.prog 134 [.ref 1000 0,.str a0] [(1000,.blk 148 (tv6 a1))] (.bool r.1) [(1000,.blk 148 (tv6 r.2))]:=by
 refine iZ (rs:=[.bool r.1]) Tryz.func134 rfl Tryz.ntmps134 (nle rfl) fun O hO=>?_
 show IWP _ _ _ _ ⟨[(0,.ref 1000 0),(1,.str a0)],[(1000,.blk 148 (tv6 a1))]⟩ _
 unfold iE at h
 refine aC (cAs (.bool false) rfl <|aB ?_)
 refine aK ?_
 obtain ⟨x1,hx1,h⟩:=bT h
 refine aC (aA rfl (mvR rfl rfl rfl rfl) <|aA rfl (fQ (r':=.osl 0 (eRef 1000).sz x1.length) (H1':=[(1000,.blk 148 (tv6 a1)),(0,.blk 243 (D.flat (x1.map (eRef 1000).d)))]) 0 [1000] rfl rfl (lb rfl) cl118 (.cons (svR rfl) .nil) rfl rfl ⟨rfl,rfl,by decide,rfl,List.forall_mem_cons.2 ⟨⟨rfl,rfl,rfl,rfl⟩,List.forall_mem_nil _⟩⟩ (jM _ _ hx1) rfl rfl (List.forall_mem_cons.2 ⟨⟨rfl,rfl⟩,List.forall_mem_cons.2 ⟨⟨rfl,(aFI rfl)⟩,List.forall_mem_nil _⟩⟩) (by simp only [List.map_cons,List.map_nil,Ent.ren,iV,jL]; rfl)) <|aA rfl (xY rfl rfl (lb rfl) oF (sv (d:=.osl _ _ _) rfl)) <|cMv (.int _ 0) rfl <|aB ?_)
 refine aU <| cP (α:=Nat × (List UInt8) × Int × Int × Int × Int × Int × Int × Int) (fun z=>⟨[(0,.ref 1000 0),(1,.str z.2.1),(13,.osl 0 (eRef 1000).sz x1.length),(14,.int .i64 (x1.length : Int)),(15,.int .i64 z.2.2.1)],[(1000,.blk 148 (w67 a1.Kind a1.Flag z.2.2.2.1 z.2.2.2.2.1 z.2.2.2.2.2.1 z.2.2.2.2.2.2.1 z.2.2.2.2.2.2.2.1 z.2.2.2.2.2.2.2.2 a1.Pairs a1.Data)),(0,.blk 243 (D.flat (x1.map (eRef 1000).d)))]⟩) (fun z=>eK a1 x1 z.1 z.2.1 z.2.2.1 z.2.2.2.1 z.2.2.2.2.1 z.2.2.2.2.2.1 z.2.2.2.2.2.2.1 z.2.2.2.2.2.2.2.1 z.2.2.2.2.2.2.2.2 = some r) (fun z=>z.1) (fuel,a0,0,a1.Stream,a1.Offset,a1.Dep,a1.Weight,a1.N,a1.Code) (fun i=>i) ⟨(.sames rfl rfl),(.cons (.blk rfl rfl rfl) (.cons (EntW.lstR rfl rfl) .nil)),bS [1000,0] rfl (by decide),fun _ _=>rfl⟩ ?_ ?_
 ·exact h
 ·
  rintro ⟨n0,v12,v13,v14,v15,v16,v17,v18,v19⟩ h
  cases n0 with
  | zero=>exact absurd h (by unfold eK; exact nofun)
  | succ n0 =>
   unfold eK at h
   obtain ⟨x30,hx30,h⟩:=bE h
   refine aC (cCm rfl hx30 <|aB ?_)
   refine aK <| aH h rfl (fun h=>?_) (fun h=>?_)
   ·
    refine aJ <| aE <| aK <| aU ?_
    obtain ⟨x32,hx32,x33,hx33,h⟩:=eoo h
    refine aC (aA rfl (pK (eRef 1000) rfl rfl (lb rfl) oF oG (sv (d:=.osl _ _ _) rfl) rfl (svI rfl) hx32) <|aA rfl (sU (eRef 1000) (d:=.ref _ _) rfl rfl (lb rfl) Tryz.underlying243 ag243 oG (by decide) (svR rfl) rfl hx33 (nle rfl) rfl) <|aA rfl (bV rfl rfl (lb rfl) (svR rfl)) <|aB ?_)
    obtain ⟨x34,hx34,h⟩:=bT h
    refine aC (cMv (.str _) rfl <|aA rfl (aL (r:=.tuple q48) rfl rfl (lb rfl) cl148 (.cons (sv (d:=.str _) rfl) .nil) rfl (rW _ _ hx34)) <|cMv (.tuple q48) rfl <|cEx (d:=.int _ _) (cs:=q48) rfl <|cEx (d:=.int _ _) (cs:=q48) rfl <|cEx (d:=.int _ _) (cs:=q48) rfl <|cAI rfl <|cAI rfl <|cAI rfl <|aB ?_)
    refine aK ?_
    obtain ⟨x35,hx35,h⟩:=bE h
    refine aC (cI rfl <|cCm (b:=0) rfl hx35 <|aB ?_)
    refine aH h rfl (fun h=>?_) (fun h=>?_)
    ·
     refine aC (cAs (.bool false) rfl <|aB ?_)
     refine aI <| aQ <| bJ <| aQ <| aQ <| bJ <| aQ ?_
     obtain rfl:=Option.some.inj h
     refine ⟨.inr rfl,(fun i=>i),⟨.nil,(.cons (.blk rfl rfl rfl) .nil),bS [1000] rfl (by decide),fun _ _=>rfl⟩,(.cons (sv rfl) .nil),rfl⟩
    ·
     refine aJ <| aE ?_
     obtain ⟨x37,hx37,h⟩:=bT h
     refine aC (aA rfl (mvR rfl rfl rfl rfl) <|cI rfl <|aA rfl (aS rfl rfl (lb rfl) (svR rfl)) <|aA rfl (vD (cs':=(w67 a1.Kind a1.Flag (bif Nat.beq x33 2 then x34.1 else v14) (bif Nat.beq x33 3 then x34.1 else v15) (bif Nat.beq x33 4 then x34.1 else v16) (bif Nat.beq x33 5 then x34.1 else v17) (bif Nat.beq x33 6 then x34.1 else v18) (bif Nat.beq x33 7 then x34.1 else v19) a1.Pairs a1.Data)) rfl rfl ti3 (svR rfl) rfl (svI rfl) hx37 rfl) <|aB ?_)
     obtain ⟨x38,hx38,h⟩:=bT h
     refine aR (cMv (.str _) rfl <|cI rfl <|aA rfl (mL rfl rfl (lb rfl) un9 (sv (d:=.str _) rfl) ⟨_,(svI rfl)⟩ rfl hx38) <|cAs (.str _) rfl <|bK ?_)
     refine bM <| aE ?_
     obtain ⟨x39,hx39,h⟩:=bE h
     refine aR (aA rfl (bB rfl rfl (lb rfl) (svI rfl) (sv (d:=.int _ 1) rfl) rfl hx39) <|cI rfl <|bK ?_)
     refine aE ⟨(n0,x38,x39,(bif Nat.beq x33 2 then x34.1 else v14),(bif Nat.beq x33 3 then x34.1 else v15),(bif Nat.beq x33 4 then x34.1 else v16),(bif Nat.beq x33 5 then x34.1 else v17),(bif Nat.beq x33 6 then x34.1 else v18),(bif Nat.beq x33 7 then x34.1 else v19)),(fun i=>i),⟨(.sames rfl rfl),(.cons (.blk rfl rfl rfl) (.cons (EntW.lstR rfl rfl) .nil)),bS [1000,0] rfl (by decide),fun _ _=>rfl⟩,?_,?_⟩
     exact h
     exact Nat.lt_succ_self _
   ·
    refine cC <| aW <| aW <| cD <| aE <| aK <| aC (aA rfl (mvR rfl rfl rfl rfl) <|aA rfl (aS rfl rfl (lb rfl) (svR rfl)) <|cFa 0 dW rfl ti5 rfl <|cLd (d:=.int _ _) un5 ag5 ti5 rfl <|aB ?_)
    refine aU ?_
    obtain ⟨x40,hx40,h⟩:=bE h
    refine aC (cCm (b:=0) rfl hx40 <|cAB rfl <|aB ?_)
    refine aH h rfl (fun h=>?_) (fun h=>?_)
    ·
     refine aC (aA rfl (mvR rfl rfl rfl rfl) <|cMv (.str _) rfl <|aA rfl (aS rfl rfl (lb rfl) (svR rfl)) <|cFa 9 dW rfl ti9 rfl <|aA rfl (cH (ds':=q31) rfl rfl ti9 (svR rfl) rfl (sv (d:=.str _) rfl) rfl rfl rfl (nle rfl) rfl) <|aB ?_)
     refine aC (cAs (.bool true) rfl <|aB ?_)
     refine aI <| bJ <| aQ ?_
     obtain rfl:=Option.some.inj h
     refine ⟨.inr rfl,(fun i=>i),⟨.nil,(.cons (.blk rfl rfl rfl) .nil),bS [1000] rfl (by decide),fun _ _=>rfl⟩,(.cons (sv rfl) .nil),rfl⟩
    ·
     obtain ⟨x42,hx42,h⟩:=bE h
     refine aC (cCm (b:=4) rfl hx42 <|cAB rfl <|aB ?_)
     refine aH h rfl (fun h=>?_) (fun h=>?_)
     ·
      obtain ⟨x44,hx44,h⟩:=bT h
      refine aC (cMv (.str _) rfl <|aA rfl (aL (r:=.tuple q51) rfl rfl (lb rfl) cl149 (.cons (sv (d:=.str _) rfl) .nil) rfl (xL _ _ hx44)) <|cMv (.tuple q51) rfl <|cEx (d:=.slice _ _) (cs:=q51) rfl <|cEx (d:=.bool _) (cs:=q51) rfl <|aA rfl (bV rfl rfl (lb rfl) (svL rfl)) <|cAB rfl <|aB ?_)
      refine aC (aA rfl (mvR rfl rfl rfl rfl) <|aA rfl (mvL rfl rfl rfl rfl) <|aA rfl (aS rfl rfl (lb rfl) (svR rfl)) <|cFa 8 dW rfl xH rfl <|aA rfl (cH (ds':=q31) rfl rfl xH (svR rfl) rfl (svL rfl) rfl rfl rfl (nle rfl) rfl) <|aB ?_)
      refine aC (cB rfl <|cAB rfl <|aB ?_)
      refine aI <| bJ <| aQ ?_
      obtain rfl:=Option.some.inj h
      refine ⟨.inr rfl,(fun i=>i),⟨.nil,(.cons (.blk rfl rfl rfl) .nil),bS [1000] rfl (by decide),fun _ _=>rfl⟩,(.cons (sv rfl) .nil),rfl⟩
     ·
      refine aJ <| bM <| aE ?_
      obtain ⟨x45,hx45,h⟩:=bE h
      refine aC (cMv (.str _) rfl <|aA rfl (gF rfl rfl (lb rfl) (sv (d:=.str _) rfl) (sv (d:=.str []) rfl) rfl hx45) <|cAB rfl <|aB ?_)
      refine aI ?_
      obtain rfl:=Option.some.inj h
      refine ⟨.inr rfl,(fun i=>i),⟨.nil,(.cons (.blk rfl rfl rfl) .nil),bS [1000] rfl (by decide),fun _ _=>rfl⟩,(.cons (sv rfl) .nil),rfl⟩

theorem lR (a0 : Int) (a1 : Int) (a2 : Int) (r : Bool) (h : mN a0 a1 a2 = some r) : bR Tryz.prog 135 [.int .i64 a0,.int .i64 a1,.int .i64 a2] (.bool r):=by
 refine aN (rs:=[.bool r]) Tryz.func135 rfl Tryz.ntmps135 (nle rfl) rfl fun O hO=>?_
 show IWP _ _ _ _ ⟨[(0,.int .i64 a0),(1,.int .i64 a1),(2,.int .i64 a2)],[]⟩ _
 unfold mN at h
 refine aC (cAs (.bool false) rfl <|aB ?_)
 obtain ⟨x1,hx1,x2,hx2,x3,hx3,h⟩:=eddd h
 refine aC (cI rfl <|cI rfl <|cCm rfl hx1 <|cB rfl <|gG rfl (fun hb=>(tI rfl)) <|gG rfl (fun hb=>(tI rfl)) <|gG rfl (fun hb=>(tCh rfl hb hx2)) <|cAn rfl hx3 <|cAB rfl <|aB ?_)
 refine aI ?_
 obtain rfl:=Option.some.inj h
 refine ⟨.inr rfl,(.cons (sv rfl) .nil)⟩

theorem rI (a0 : aT) (r : Bool) (h : gK a0 = some r) : bR Tryz.prog 136 [.agg [.int .i64 a0.ID,.int .i64 a0.Value]] (.bool r):=by
 refine aN (rs:=[.bool r]) Tryz.func136 rfl Tryz.ntmps136 (nle rfl) rfl fun O hO=>?_
 show IWP _ _ _ _ ⟨[(0,.agg [.int .i64 a0.ID,.int .i64 a0.Value])],[]⟩ _
 unfold gK at h
 refine aC (cBx (cs:=q52) q52 0 rfl <|cAs (.bool false) rfl <|aB ?_)
 obtain ⟨x1,hx1,x2,hx2,x3,hx3,h⟩:=eood h
 refine aC (cFa 0 uA rfl ti3 rfl <|cLd (d:=.int _ _) un3 ag3 ti3 rfl <|aA rfl (aL (r:=.bool _) rfl rfl (lb rfl) aCI (.cons (svI rfl) (.cons (sv (d:=.int _ 0) rfl) (.cons (sv (d:=.int _ 1099511627776) rfl) .nil))) rfl (lR _ _ _ _ hx1)) <|aA rfl (dJ rfl rfl (lb rfl) (svB rfl)) <|cB rfl <|gG rfl (fun hb=>(tFa 1 uA rfl ti3 rfl)) <|gG rfl (fun hb=>(tLc (d:=.int _ _) un3 ag3 ti3 rfl hb)) <|gG rfl (fun hb=>(aL (r:=.bool _) rfl rfl (lb rfl) aCI (.cons (svcI rfl hb) (.cons (sv (d:=.int _ 0) rfl) (.cons (sv (d:=.int _ 1099511627776) rfl) .nil))) rfl (lR _ _ _ _ (gd_t hx2 hb)))) <|gG rfl (fun hb=>(dJ rfl rfl (lb rfl) (svcB rfl hb))) <|cOr rfl hx3 <|cAB rfl <|aB ?_)
 refine aI ?_
 obtain rfl:=Option.some.inj h
 refine ⟨.inr rfl,(.cons (sv rfl) .nil)⟩

theorem iW (a0 : (List aT)) (r : Int) (h : dH a0 = some r) : bR Tryz.prog 150 [.slice false (a0.map bA.d),.fn 136 []] (.int .i64 r):=by
 refine aN (rs:=[.int .i64 r]) Tryz.func150 rfl Tryz.ntmps150 (nle rfl) rfl fun O hO=>?_
 show IWP _ _ _ _ ⟨[(0,.slice false (a0.map bA.d)),(1,.fn 136 [])],[]⟩ _
 unfold dH at h
 refine aC (cAs (.int _ 0) rfl <|aB ?_)
 refine aK <| aC (aA rfl (mvL rfl rfl rfl rfl) <|aA rfl (dD bA (l:=a0) rfl rfl (lb rfl) pS (svL rfl)) <|cMv (.int _ 0) rfl <|aB ?_)
 refine aU <| cP (α:=Nat × Int) (fun z=>⟨[(0,.slice false (a0.map bA.d)),(1,.fn 136 []),(7,.int .i64 (a0.length : Int)),(8,.int .i64 z.2)],[]⟩) (fun z=>bY a0 z.1 z.2 = some r) (fun z=>z.1) (fuel,0) (fun i=>i) ⟨(.sames rfl rfl),.nil,bS [] rfl (by decide),fun _ _=>rfl⟩ ?_ ?_
 ·exact h
 ·
  rintro ⟨n0,v7⟩ h
  cases n0 with
  | zero=>exact absurd h (by unfold bY; exact nofun)
  | succ n0 =>
   unfold bY at h
   obtain ⟨x14,hx14,h⟩:=bE h
   refine aC (cCm rfl hx14 <|aB ?_)
   refine aK <| aH h rfl (fun h=>?_) (fun h=>?_)
   ·
    refine aJ <| aE <| aK <| aU <| aC (cI rfl <|cAI rfl <|aB ?_)
    obtain ⟨x16,hx16,x17,hx17,h⟩:=eoo h
    refine aC (cMv (.fn 136 []) rfl <|aA rfl (mvL rfl rfl rfl rfl) <|cI rfl <|aA rfl (cW bA (cs:=q52) rfl rfl (lb rfl) pS oS (svL rfl) (svI rfl) hx16 rfl rfl) <|aA rfl (fD (cs:=q52) rfl rfl (lb rfl) uA aD7 oS (by decide) (sv (d:=.fptr q52) rfl) (nle rfl) rfl) <|aA rfl (zY (r:=.bool _) rfl rfl (lb rfl) cl136 (sv (d:=.fn 136 []) rfl) (.cons (svA q52 rfl) .nil) rfl (rI _ _ hx17)) <|aB ?_)
    refine aH h rfl (fun h=>?_) (fun h=>?_)
    ·
     refine aC (cI rfl <|cAI rfl <|aB ?_)
     refine aI <| bJ <| aQ <| aQ <| bJ <| aQ ?_
     obtain rfl:=Option.some.inj h
     refine ⟨.inr rfl,(.cons (sv rfl) .nil)⟩
    ·
     refine aJ <| bM <| aE ?_
     obtain ⟨x19,hx19,h⟩:=bE h
     refine aR (aA rfl (bB rfl rfl (lb rfl) (svI rfl) (sv (d:=.int _ 1) rfl) rfl hx19) <|cI rfl <|bK ?_)
     refine aE ⟨(n0,x19),(fun i=>i),⟨(.sames rfl rfl),.nil,bS [] rfl (by decide),fun _ _=>rfl⟩,?_,?_⟩
     exact h
     exact Nat.lt_succ_self _
   ·
    refine cC <| aW <| aW <| cD <| aE <| aC (cAs (.int _ (-1)) rfl <|aB ?_)
    refine aI ?_
    obtain rfl:=Option.some.inj h
    refine ⟨.inr rfl,(.cons (sv rfl) .nil)⟩

theorem hZ (a0 : (List aT)) (r : Bool) (h : cT a0 = some r) : bR Tryz.prog 137 [.slice false (a0.map bA.d),.fn 136 []] (.bool r):=by
 refine aN (rs:=[.bool r]) Tryz.func137 rfl Tryz.ntmps137 (nle rfl) rfl fun O hO=>?_
 show IWP _ _ _ _ ⟨[(0,.slice false (a0.map bA.d)),(1,.fn 136 [])],[]⟩ _
 unfold cT at h
 refine aC (cAs (.bool false) rfl <|aB ?_)
 obtain ⟨x1,hx1,x2,hx2,h⟩:=eod h
 refine aC (aA rfl (mvL rfl rfl rfl rfl) <|cMv (.fn 136 []) rfl <|aA rfl (aL (r:=.int _ _) rfl rfl (lb rfl) cl150 (.cons (svL rfl) (.cons (sv (d:=.fn 136 []) rfl) .nil)) rfl (iW _ _ hx1)) <|cCm (b:=0) rfl hx2 <|cAB rfl <|aB ?_)
 refine aI ?_
 obtain rfl:=Option.some.inj h
 refine ⟨.inr rfl,(.cons (sv rfl) .nil)⟩

theorem tD (a0 : aD) (r : Bool) (h : iF a0 = some r) : bR Tryz.prog 115 [.agg (tv6 a0)] (.bool r):=by
 refine aN (rs:=[.bool r]) Tryz.func115 rfl Tryz.ntmps115 (nle rfl) rfl fun O hO=>?_
 show IWP _ _ _ _ ⟨[(0,.agg (tv6 a0))],[]⟩ _
 unfold iF at h
 refine aC (cBx (cs:=q31) q31 0 rfl <|cAs (.bool false) rfl <|aB ?_)
 refine aC (cAs (.int _ 0) rfl <|cAs (.int _ 1099511627776) rfl <|cAs (.int _ 255) rfl <|aB ?_)
 refine iT (α:=Int × Int × Int) (fun z=>⟨[(1,.ref 0 0),(3,.int .i64 z.1),(4,.int .i64 z.2.1),(5,.int .i64 z.2.2)],[(0,.blk 148 (tv6 a0))]⟩) (fun z=>dV a0 z.1 z.2.1 z.2.2 = some r) ?_ ?_
 ·
  refine aC (cFa 0 dW rfl ti5 rfl <|cLd (d:=.int _ _) un5 ag5 ti5 rfl <|aB ?_)
  refine aU ?_
  obtain ⟨x29,hx29,h⟩:=bE h
  refine aC (cCm (b:=8) rfl hx29 <|cAB rfl <|aB ?_)
  refine aH h rfl (fun h=>?_) (fun h=>?_)
  ·
   refine aR (cAs (.int _ 1) rfl <|bK ?_)
   refine bM <| aE ⟨(1,1099511627776,255),(fun i=>i),⟨(.sames rfl rfl),(.cons (.blk rfl rfl rfl) .nil),bS [0] rfl (by decide),fun _ _=>rfl⟩,?_⟩
   exact h
  ·
   obtain ⟨x31,hx31,h⟩:=bE h
   refine aC (cCm (b:=10) rfl hx31 <|cAB rfl <|aB ?_)
   refine aH h rfl (fun h=>?_) (fun h=>?_)
   ·
    refine aR (cAs (.int _ 3) rfl <|cAs (.int _ 1) rfl <|bK ?_)
    refine bM <| aE ⟨(0,3,1),(fun i=>i),⟨(.sames rfl rfl),(.cons (.blk rfl rfl rfl) .nil),bS [0] rfl (by decide),fun _ _=>rfl⟩,?_⟩
    exact h
   ·
    refine iT (α:=Bool) (fun z=>⟨[(1,.ref 0 0),(3,.int .i64 0),(4,.int .i64 1099511627776),(5,.int .i64 255),(13,.bool z)],[(0,.blk 148 (tv6 a0))]⟩) (fun z=>fU a0 z = some r) ?_ ?_
    ·
     obtain ⟨x40,hx40,h⟩:=bE h
     refine aC (cCm (b:=1) rfl hx40 <|cAB rfl <|aB ?_)
     refine aH h rfl (fun h=>?_) (fun h=>?_)
     ·
      refine aJ <| aE ⟨x40,(fun i=>i),⟨(.sames rfl rfl),(.cons (.blk rfl rfl rfl) .nil),bS [0] rfl (by decide),fun _ _=>rfl⟩,?_⟩
      exact h
     ·
      obtain ⟨x42,hx42,h⟩:=bE h
      refine aR (cCm (b:=2) rfl hx42 <|cAB rfl <|bK ?_)
      refine aE ⟨x42,(fun i=>i),⟨(.sames rfl rfl),(.cons (.blk rfl rfl rfl) .nil),bS [0] rfl (by decide),fun _ _=>rfl⟩,?_⟩
      exact h
    ·
     rintro v36 h
     unfold fU at h
     refine aH h rfl (fun h=>?_) (fun h=>?_)
     ·
      obtain ⟨x38,hx38,h⟩:=bT h
      refine aC (cFa 5 dW rfl ti3 rfl <|cLd (d:=.int _ _) un3 ag3 ti3 rfl <|aA rfl (aL (r:=.bool _) rfl rfl (lb rfl) aCI (.cons (svI rfl) (.cons (sv (d:=.int _ 1) rfl) (.cons (sv (d:=.int _ 256) rfl) .nil))) rfl (lR _ _ _ _ hx38)) <|aA rfl (dJ rfl rfl (lb rfl) (svB rfl)) <|aB ?_)
      refine aH h rfl (fun h=>?_) (fun h=>?_)
      ·
       refine aC (cAs (.bool false) rfl <|aB ?_)
       refine aI <| bJ <| aQ ?_
       obtain rfl:=Option.some.inj h
       refine ⟨.inr rfl,(.cons (sv rfl) .nil)⟩
      ·
       refine aJ <| bM <| aE ⟨(0,1099511627776,255),(fun i=>i),⟨(.sames rfl rfl),(.cons (.blk rfl rfl rfl) .nil),bS [0] rfl (by decide),fun _ _=>rfl⟩,?_⟩
       exact h
     ·
      refine aJ <| bM <| aE ⟨(0,1099511627776,255),(fun i=>i),⟨(.sames rfl rfl),(.cons (.blk rfl rfl rfl) .nil),bS [0] rfl (by decide),fun _ _=>rfl⟩,?_⟩
      exact h
 ·
  rintro ⟨v15,v16,v17⟩ h
  unfold dV at h
  refine aC (cAs (.fn 136 []) rfl <|aB ?_)
  refine aK ?_
  obtain ⟨x18,hx18,x19,hx19,x20,hx20,h⟩:=eood h
  obtain ⟨x21,hx21,x22,hx22,h⟩:=eod h
  refine aC (cFa 8 dW rfl xH rfl <|aA rfl (lrL la145 rfl rfl rfl rfl rfl (nle rfl) rfl) <|cMv (.fn 136 []) rfl <|aA rfl (aL (r:=.bool _) rfl rfl (lb rfl) cl137 (.cons (svL rfl) (.cons (sv (d:=.fn 136 []) rfl) .nil)) rfl (hZ _ _ hx18)) <|cB rfl <|gG rfl (fun hb=>(tFa 6 dW rfl ti3 rfl)) <|gG rfl (fun hb=>(tLc (d:=.int _ _) un3 ag3 ti3 rfl hb)) <|gG rfl (fun hb=>(tI rfl)) <|gG rfl (fun hb=>(tI rfl)) <|gG rfl (fun hb=>(aL (r:=.bool _) rfl rfl (lb rfl) aCI (.cons (svcI rfl hb) (.cons (svcI rfl hb) (.cons (svcI rfl hb) .nil))) rfl (lR _ _ _ _ (gd_t hx19 hb)))) <|gG rfl (fun hb=>(dJ rfl rfl (lb rfl) (svcB rfl hb))) <|cOr rfl hx20 <|cB rfl <|gG rfl (fun hb=>(tFa 7 dW rfl ti3 rfl)) <|gG rfl (fun hb=>(tLc (d:=.int _ _) un3 ag3 ti3 rfl hb)) <|gG rfl (fun hb=>(tI rfl)) <|gG rfl (fun hb=>(aL (r:=.bool _) rfl rfl (lb rfl) aCI (.cons (svcI rfl hb) (.cons (sv (d:=.int _ 0) rfl) (.cons (svcI rfl hb) .nil))) rfl (lR _ _ _ _ (gd_t hx21 hb)))) <|gG rfl (fun hb=>(dJ rfl rfl (lb rfl) (svcB rfl hb))) <|cOr rfl hx22 <|aB ?_)
  refine aH h rfl (fun h=>?_) (fun h=>?_)
  ·
   refine aC (cAs (.bool false) rfl <|aB ?_)
   refine aI <| aQ ?_
   obtain rfl:=Option.some.inj h
   refine ⟨.inr rfl,(.cons (sv rfl) .nil)⟩
  ·
   refine aJ <| aE ?_
   obtain ⟨x24,hx24,x25,hx25,x26,hx26,h⟩:=eood h
   obtain ⟨x27,hx27,x28,hx28,h⟩:=eod h
   refine aC (cFa 2 dW rfl ti3 rfl <|cLd (d:=.int _ _) un3 ag3 ti3 rfl <|aA rfl (aL (r:=.bool _) rfl rfl (lb rfl) aCI (.cons (svI rfl) (.cons (sv (d:=.int _ 0) rfl) (.cons (sv (d:=.int _ 1048576) rfl) .nil))) rfl (lR _ _ _ _ hx24)) <|cB rfl <|gG rfl (fun hb=>(tFa 4 dW rfl ti3 rfl)) <|gG rfl (fun hb=>(tLc (d:=.int _ _) un3 ag3 ti3 rfl hb)) <|gG rfl (fun hb=>(aL (r:=.bool _) rfl rfl (lb rfl) aCI (.cons (svcI rfl hb) (.cons (sv (d:=.int _ 0) rfl) (.cons (sv (d:=.int _ 1048576) rfl) .nil))) rfl (lR _ _ _ _ (gd_t hx25 hb)))) <|cAn rfl hx26 <|cB rfl <|gG rfl (fun hb=>(tFa 3 dW rfl ti3 rfl)) <|gG rfl (fun hb=>(tLc (d:=.int _ _) un3 ag3 ti3 rfl hb)) <|gG rfl (fun hb=>(aL (r:=.bool _) rfl rfl (lb rfl) aCI (.cons (svcI rfl hb) (.cons (sv (d:=.int _ 0) rfl) (.cons (sv (d:=.int _ 1099511627776) rfl) .nil))) rfl (lR _ _ _ _ (gd_t hx27 hb)))) <|cAn rfl hx28 <|cAB rfl <|aB ?_)
   refine aI ?_
   obtain rfl:=Option.some.inj h
   refine ⟨.inr rfl,(.cons (sv rfl) .nil)⟩

theorem zK (a0 : Int) (r : Bool) (h : mO a0 = some r) : bR Tryz.prog 139 [.int .u8 a0] (.bool r):=by
 refine aN (rs:=[.bool r]) Tryz.func139 rfl Tryz.ntmps139 (nle rfl) rfl fun O hO=>?_
 show IWP _ _ _ _ ⟨[(0,.int .u8 a0)],[]⟩ _
 unfold mO at h
 refine aC (cAs (.bool false) rfl <|aB ?_)
 refine aK <| aC (cI rfl <|aB ?_)
 refine aU <| aK ?_
 obtain ⟨x1,hx1,h⟩:=bE h
 refine aC (cCm (b:=0) rfl hx1 <|cAB rfl <|aB ?_)
 refine gE (b:=_) rfl (fun hc2=>?_) (fun hc2=>?_)
 ·
  replace h:=tG h hc2
  refine aJ <| aE <| gC rfl hc2 <| aC (cAs (.bool true) rfl <|aB ?_)
  refine aI <| bJ <| aQ ?_
  obtain rfl:=Option.some.inj h
  refine ⟨.inr rfl,(.cons (sv rfl) .nil)⟩
 ·
  replace h:=tH h hc2
  obtain ⟨x3,hx3,h⟩:=bE h
  refine aC (cCm (b:=1) rfl hx3 <|cAB rfl <|aB ?_)
  refine gE (b:=_) rfl (fun hc4=>?_) (fun hc4=>?_)
  ·
   replace h:=tG h hc4
   refine aJ <| aE <| gC rfl hc4 <| aC (cAs (.bool true) rfl <|aB ?_)
   refine aI <| bJ <| aQ ?_
   obtain rfl:=Option.some.inj h
   refine ⟨.inr rfl,(.cons (sv rfl) .nil)⟩
  ·
   replace h:=tH h hc4
   obtain ⟨x5,hx5,h⟩:=bE h
   refine aC (cCm (b:=2) rfl hx5 <|cAB rfl <|aB ?_)
   refine gE (b:=_) rfl (fun hc6=>?_) (fun hc6=>?_)
   ·
    replace h:=tG h hc6
    refine aJ <| aE <| gC rfl hc6 <| aC (cAs (.bool true) rfl <|aB ?_)
    refine aI <| bJ <| aQ ?_
    obtain rfl:=Option.some.inj h
    refine ⟨.inr rfl,(.cons (sv rfl) .nil)⟩
   ·
    replace h:=tH h hc6
    obtain ⟨x7,hx7,h⟩:=bE h
    refine aC (cCm (b:=4) rfl hx7 <|cAB rfl <|aB ?_)
    refine gE (b:=_) rfl (fun hc8=>?_) (fun hc8=>?_)
    ·
     replace h:=tG h hc8
     refine aJ <| aE <| gC rfl hc8 <| aC (cAs (.bool true) rfl <|aB ?_)
     refine aI <| bJ <| aQ ?_
     obtain rfl:=Option.some.inj h
     refine ⟨.inr rfl,(.cons (sv rfl) .nil)⟩
    ·
     replace h:=tH h hc8
     obtain ⟨x9,hx9,h⟩:=bE h
     refine aC (cCm (b:=6) rfl hx9 <|cAB rfl <|aB ?_)
     refine gE (b:=_) rfl (fun hc10=>?_) (fun hc10=>?_)
     ·
      replace h:=tG h hc10
      refine aJ <| aE <| gC rfl hc10 <| aC (cAs (.bool true) rfl <|aB ?_)
      refine aI <| bJ <| aQ ?_
      obtain rfl:=Option.some.inj h
      refine ⟨.inr rfl,(.cons (sv rfl) .nil)⟩
     ·
      replace h:=tH h hc10
      obtain ⟨x11,hx11,h⟩:=bE h
      refine aR (cCm (b:=9) rfl hx11 <|cAB rfl <|bK ?_)
      refine aE <| aH h rfl (fun h=>?_) (fun h=>?_)
      ·
       refine aC (cAs (.bool true) rfl <|aB ?_)
       refine aI <| bJ <| aQ ?_
       obtain rfl:=Option.some.inj h
       refine ⟨.inr rfl,(.cons (sv rfl) .nil)⟩
      ·
       refine aJ <| bM <| aE <| aC (cAs (.bool false) rfl <|aB ?_)
       refine aI ?_
       obtain rfl:=Option.some.inj h
       refine ⟨.inr rfl,(.cons (sv rfl) .nil)⟩

theorem uY (a0 : aD) (r : aD) (h : jV a0 = some r) : bR Tryz.prog 117 [.agg (tv6 a0)] (.agg (tv6 r)) := by
 refine aN (rs:=[.agg (tv6 r)]) Tryz.func117 rfl Tryz.ntmps117 (nle rfl) rfl fun O hO=>?_
 show IWP _ _ _ _ ⟨[(0,.agg (tv6 a0))],[]⟩ _
 unfold jV at h
 refine aC (cBx (cs:=q31) q31 0 rfl <|aA rfl (aZ (cs:=q32) (cs':=zs6) 1 rfl rfl (lb rfl) rfl kO rfl rfl (.k4 (.k4 (.cons (.nils _) (.all _))))) <|aB ?_)
 refine aK ?_
 obtain ⟨x1,hx1,h⟩:=bT h
 refine aC (aA rfl (fQ (r':=.osl 2 (eRef 0).sz x1.length) (H1':=[(0,.blk 148 (tv6 a0)),(2,.blk 243 (D.flat (x1.map (eRef 0).d)))]) 2 [0] rfl rfl (lb rfl) cl118 (.cons (svR rfl) .nil) rfl rfl ⟨rfl,rfl,by decide,rfl,List.forall_mem_cons.2 ⟨⟨rfl,rfl,rfl,rfl⟩,List.forall_mem_nil _⟩⟩ (jM _ _ hx1) rfl rfl (List.forall_mem_cons.2 ⟨⟨rfl,rfl⟩,List.forall_mem_cons.2 ⟨⟨rfl,(aFI rfl)⟩,List.forall_mem_nil _⟩⟩) (by simp only [List.map_cons,List.map_nil,Ent.ren,iV,jL]; rfl)) <|aA rfl (xY rfl rfl (lb rfl) oF (sv (d:=.osl _ _ _) rfl)) <|cMv (.int _ 0) rfl <|aB ?_)
 refine aU <| cP (α:=Nat × Int × Int × Int × Int × Int × Int × Int) (fun z=>⟨[(1,.ref 0 0),(2,.ref 1 0),(5,.osl 2 (eRef 0).sz x1.length),(6,.int .i64 (x1.length : Int)),(7,.int .i64 z.2.1)],[(0,.blk 148 (w67 a0.Kind a0.Flag z.2.2.1 z.2.2.2.1 z.2.2.2.2.1 z.2.2.2.2.2.1 z.2.2.2.2.2.2.1 z.2.2.2.2.2.2.2 a0.Pairs a0.Data)),(1,.blk 148 zs6),(2,.blk 243 (D.flat (x1.map (eRef 0).d)))]⟩) (fun z=>dY a0 x1 z.1 z.2.1 z.2.2.1 z.2.2.2.1 z.2.2.2.2.1 z.2.2.2.2.2.1 z.2.2.2.2.2.2.1 z.2.2.2.2.2.2.2 = some r) (fun z=>z.1) (fuel,0,a0.Stream,a0.Offset,a0.Dep,a0.Weight,a0.N,a0.Code) (fun i=>i) ⟨(.sames rfl rfl),(.cons (.blk rfl rfl rfl) (.cons (.blk rfl rfl rfl) (.cons (EntW.lstR rfl rfl) .nil))),bS [0,1,2] rfl (by decide),fun _ _=>rfl⟩ ?_ ?_
 ·exact h
 ·
  rintro ⟨n0,v8,v9,v10,v11,v12,v13,v14⟩ h
  cases n0 with
  | zero=>exact absurd h (by unfold dY; exact nofun)
  | succ n0 =>
   unfold dY at h
   obtain ⟨x21,hx21,h⟩:=bE h
   refine aC (cCm rfl hx21 <|aB ?_)
   refine aK <| aH h rfl (fun h=>?_) (fun h=>?_)
   ·
    refine aJ <| aE <| aK <| aU ?_
    obtain ⟨x23,hx23,x24,hx24,h⟩:=eoo h
    refine aC (aA rfl (pK (eRef 0) rfl rfl (lb rfl) oF oG (sv (d:=.osl _ _ _) rfl) rfl (svI rfl) hx23) <|aA rfl (sU (eRef 0) (d:=.ref _ _) rfl rfl (lb rfl) Tryz.underlying243 ag243 oG (by decide) (svR rfl) rfl hx24 (nle rfl) rfl) <|aA rfl (bV rfl rfl (lb rfl) (svR rfl)) <|aB ?_)
    obtain ⟨x25,hx25,h⟩:=bT h
    refine aR (aA rfl (mvR rfl rfl rfl rfl) <|aA rfl (aS rfl rfl (lb rfl) (svR rfl)) <|aA rfl (vD (cs':=(w67 a0.Kind a0.Flag (bif Nat.beq x24 2 then 0 else v9) (bif Nat.beq x24 3 then 0 else v10) (bif Nat.beq x24 4 then 0 else v11) (bif Nat.beq x24 5 then 0 else v12) (bif Nat.beq x24 6 then 0 else v13) (bif Nat.beq x24 7 then 0 else v14) a0.Pairs a0.Data)) rfl rfl ti3 (svR rfl) rfl (sv (d:=.int _ 0) rfl) hx25 rfl) <|bK ?_)
    refine bM <| aE ?_
    obtain ⟨x26,hx26,h⟩:=bE h
    refine aR (aA rfl (bB rfl rfl (lb rfl) (svI rfl) (sv (d:=.int _ 1) rfl) rfl hx26) <|cI rfl <|bK ?_)
    refine aE ⟨(n0,x26,(bif Nat.beq x24 2 then 0 else v9),(bif Nat.beq x24 3 then 0 else v10),(bif Nat.beq x24 4 then 0 else v11),(bif Nat.beq x24 5 then 0 else v12),(bif Nat.beq x24 6 then 0 else v13),(bif Nat.beq x24 7 then 0 else v14)),(fun i=>i),⟨(.sames rfl rfl),(.cons (.blk rfl rfl rfl) (.cons (.blk rfl rfl rfl) (.cons (EntW.lstR rfl rfl) .nil))),bS [0,1,2] rfl (by decide),fun _ _=>rfl⟩,?_,?_⟩
    exact h
    exact Nat.lt_succ_self _
   ·
    refine cC <| aW <| aW <| cD <| aE <| iT (α:=(List aT) × (List UInt8)) (fun z=>⟨[(1,.ref 0 0),(2,.ref 1 0)],[(0,.blk 148 (w67 a0.Kind a0.Flag v9 v10 v11 v12 v13 v14 z.1 z.2)),(1,.blk 148 zs6)]⟩) (fun z=>eM a0 v9 v10 v11 v12 v13 v14 z.1 z.2 = some r) ?_ ?_
    ·
     refine aC (cFa 0 dW rfl ti5 rfl <|cLd (d:=.int _ _) un5 ag5 ti5 rfl <|aB ?_)
     refine aU ?_
     obtain ⟨x36,hx36,h⟩:=bE h
     refine aC (cCm (b:=0) rfl hx36 <|cAB rfl <|aB ?_)
     refine aH h rfl (fun h=>?_) (fun h=>?_)
     ·
      refine aR (cFa 9 dW rfl ti9 rfl <|aA rfl (cH (ds':=q31) rfl rfl ti9 (svR rfl) rfl (sv (d:=.str []) rfl) rfl rfl rfl (nle rfl) rfl) <|bK ?_)
      refine bM <| aE ⟨(a0.Pairs,([] : (List UInt8))),(fun i=>i),⟨(.sames rfl rfl),(.cons (.blk rfl rfl rfl) (.cons (.blk rfl rfl rfl) .nil)),bS [0,1] rfl (by decide),fun _ _=>rfl⟩,?_⟩
      exact h
     ·
      obtain ⟨x38,hx38,h⟩:=bE h
      refine aC (cCm (b:=4) rfl hx38 <|cAB rfl <|aB ?_)
      refine aH h rfl (fun h=>?_) (fun h=>?_)
      ·
       refine aC (cFa 1 dW rfl ti4 rfl <|cLd (d:=.bool _) un4 ag4 ti4 rfl <|aA rfl (dJ rfl rfl (lb rfl) (svB rfl)) <|aB ?_)
       refine aH h rfl (fun h=>?_) (fun h=>?_)
       ·
        refine aR (cFa 8 dW rfl xH rfl <|aA rfl (cH (ds':=[.int _ _,.bool _,.int _ _,.int _ _,.int _ _,.int _ _,.int _ _,.int _ _,.slice false (([] : List aT).map bA.d),.str _]) rfl rfl xH (svR rfl) rfl (svn rfl) rfl rfl rfl (nle rfl) rfl) <|bK ?_)
        refine bM <| aE ⟨(([] : (List aT)),a0.Data),(fun i=>i),⟨(.sames rfl rfl),(.cons (.blk rfl rfl rfl) (.cons (.blk rfl rfl rfl) .nil)),bS [0,1] rfl (by decide),fun _ _=>rfl⟩,?_⟩
        exact h
       ·
        refine aJ <| bM <| aE ⟨(a0.Pairs,a0.Data),(fun i=>i),⟨(.sames rfl rfl),(.cons (.blk rfl rfl rfl) (.cons (.blk rfl rfl rfl) .nil)),bS [0,1] rfl (by decide),fun _ _=>rfl⟩,?_⟩
        exact h
      ·
       refine aJ <| bM <| aE ⟨(a0.Pairs,a0.Data),(fun i=>i),⟨(.sames rfl rfl),(.cons (.blk rfl rfl rfl) (.cons (.blk rfl rfl rfl) .nil)),bS [0,1] rfl (by decide),fun _ _=>rfl⟩,?_⟩
       exact h
    ·
     rintro ⟨v32,v33⟩ h
     unfold eM at h
     refine aK ?_
     obtain ⟨x34,hx34,h⟩:=bT h
     refine aC (cFa 0 dW rfl ti5 rfl <|cLd (d:=.int _ _) un5 ag5 ti5 rfl <|aA rfl (aL (r:=.bool _) rfl rfl (lb rfl) cl139 (.cons (svI rfl) .nil) rfl (zK _ _ hx34)) <|aB ?_)
     refine aH h rfl (fun h=>?_) (fun h=>?_)
     ·
      refine aR (cFa 1 dW rfl ti4 rfl <|aA rfl (cH (ds':=q31) rfl rfl ti4 (svR rfl) rfl (sv (d:=.bool false) rfl) rfl rfl rfl (nle rfl) rfl) <|bK ?_)
      refine aE <| aC (cLr q31 lE rfl <|cSt q31 q31 kO rfl <|aB ?_)
      refine aI ?_
      obtain rfl:=Option.some.inj h
      refine ⟨.inr rfl,(.cons (rva lE rfl rfl (nle rfl) rfl) .nil)⟩
     ·
      refine aJ <| aE <| aC (cLr q31 lE rfl <|cSt q31 q31 kO rfl <|aB ?_)
      refine aI ?_
      obtain rfl:=Option.some.inj h
      refine ⟨.inr rfl,(.cons (rva lE rfl rfl (nle rfl) rfl) .nil)⟩

theorem mS (a0 : (List aT)) (a1 : (List aT)) (r : Bool) (h : dT a0 a1 = some r) : bR Tryz.prog 138 [.slice false (a0.map bA.d),.slice false (a1.map bA.d)] (.bool r):=by
 refine aN (rs:=[.bool r]) Tryz.func138 rfl Tryz.ntmps138 (nle rfl) rfl fun O hO=>?_
 show IWP _ _ _ _ ⟨[(0,.slice false (a0.map bA.d)),(1,.slice false (a1.map bA.d))],[]⟩ _
 unfold dT at h
 refine aC (cAs (.bool false) rfl <|aB ?_)
 refine aK ?_
 obtain ⟨x1,hx1,h⟩:=bE h
 refine aC (aA rfl (mvL rfl rfl rfl rfl) <|aA rfl (dD bA (l:=a0) rfl rfl (lb rfl) pS (svL rfl)) <|aA rfl (mvL rfl rfl rfl rfl) <|aA rfl (dD bA (l:=a1) rfl rfl (lb rfl) pS (svL rfl)) <|cCm rfl hx1 <|aB ?_)
 refine aH h rfl (fun h=>?_) (fun h=>?_)
 ·
  refine aC (cAs (.bool false) rfl <|aB ?_)
  refine aI <| aQ ?_
  obtain rfl:=Option.some.inj h
  refine ⟨.inr rfl,(.cons (sv rfl) .nil)⟩
 ·
  refine aJ <| aE <| aK <| aC (aA rfl (mvL rfl rfl rfl rfl) <|aA rfl (dD bA (l:=a0) rfl rfl (lb rfl) pS (svL rfl)) <|cMv (.int _ 0) rfl <|aB ?_)
  refine aU <| cP (α:=Nat × Int) (fun z=>⟨[(0,.slice false (a0.map bA.d)),(1,.slice false (a1.map bA.d)),(12,.int .i64 (a0.length : Int)),(13,.int .i64 z.2)],[]⟩) (fun z=>cV a0 a1 z.1 z.2 = some r) (fun z=>z.1) (fuel,0) (fun i=>i) ⟨(.sames rfl rfl),.nil,bS [] rfl (by decide),fun _ _=>rfl⟩ ?_ ?_
  ·exact h
  ·
   rintro ⟨n0,v10⟩ h
   cases n0 with
   | zero=>exact absurd h (by unfold cV; exact nofun)
   | succ n0 =>
    unfold cV at h
    obtain ⟨x18,hx18,h⟩:=bE h
    refine aC (cCm rfl hx18 <|aB ?_)
    refine aK <| aH h rfl (fun h=>?_) (fun h=>?_)
    ·
     refine aJ <| aE <| aK <| aU <| aC (cI rfl <|cAI rfl <|aB ?_)
     obtain ⟨x20,hx20,x21,hx21,x22,hx22,h⟩:=eood h
     refine eI rfl [nd1 [0] 16 (.slice false (a0.map bA.d)),nd1 [5] 17 (.int .i64 v10),nd1 [16,17] 18 (.fptr [.int .i64 x20.ID,.int .i64 x20.Value]),nd1 [18] 19 (.agg [.int .i64 x20.ID,.int .i64 x20.Value]),nd1 [1] 20 (.slice false (a1.map bA.d)),nd1 [5] 21 (.int .i64 v10),nd1 [20,21] 22 (.fptr [.int .i64 x21.ID,.int .i64 x21.Value]),nd1 [22] 23 (.agg [.int .i64 x21.ID,.int .i64 x21.Value]),nd1 [19,23] 24 (.bool (!x22))] rfl ?_ (by kernel_rfl) ?_
     ·refine .cons (dMv rfl) <| .cons (dMv rfl) <| .cons (lop rfl rfl fun S hA=>(cW bA (cs:=q52) rfl rfl (lb rfl) pS oS (svaL hA rfl rfl) (svaI hA rfl rfl) hx20 rfl rfl)) <| .cons (lop rfl rfl fun S hA=>(fD (cs:=q52) rfl rfl (lb rfl) uA aD7 oS (by decide) (sv (d:=.fptr q52) (agr hA rfl rfl)) (nle rfl) rfl)) <| .cons (dMv rfl) <| .cons (dMv rfl) <| .cons (lop rfl rfl fun S hA=>(cW bA (cs:=q52) rfl rfl (lb rfl) pS oS (svaL hA rfl rfl) (svaI hA rfl rfl) hx21 rfl rfl)) <| .cons (lop rfl rfl fun S hA=>(fD (cs:=q52) rfl rfl (lb rfl) uA aD7 oS (by decide) (sv (d:=.fptr q52) (agr hA rfl rfl)) (nle rfl) rfl)) <| .cons (lop rfl rfl fun S hA=>(aFC rfl rfl (lb rfl) uA st180.1 st180.2 (svaA q52 hA rfl rfl) (svaA q52 hA rfl rfl) (congrArg some hx22))) ?_
      exact .nil
     refine aH h rfl (fun h=>?_) (fun h=>?_)
     ·
      refine aC (cAs (.bool false) rfl <|aB ?_)
      refine aI <| bJ <| aQ <| aQ <| bJ <| aQ ?_
      obtain rfl:=Option.some.inj h
      refine ⟨.inr rfl,(.cons (sv rfl) .nil)⟩
     ·
      refine aJ <| bM <| aE ?_
      obtain ⟨x24,hx24,h⟩:=bE h
      refine aR (aA rfl (bB rfl rfl (lb rfl) (svI rfl) (sv (d:=.int _ 1) rfl) rfl hx24) <|cI rfl <|bK ?_)
      refine aE ⟨(n0,x24),(fun i=>i),⟨(.sames rfl rfl),.nil,bS [] rfl (by decide),fun _ _=>rfl⟩,?_,?_⟩
      exact h
      exact Nat.lt_succ_self _
    ·
     refine cC <| aW <| aW <| cD <| aE <| aC (cAs (.bool true) rfl <|aB ?_)
     refine aI ?_
     obtain rfl:=Option.some.inj h
     refine ⟨.inr rfl,(.cons (sv rfl) .nil)⟩

theorem aBr (a0 : aD) (a1 : aD) (r : Bool) (h : qG a0 a1 = some r) : bR Tryz.prog 116 [.agg (tv6 a0),.agg (tv6 a1)] (.bool r):=by
 refine aN (rs:=[.bool r]) Tryz.func116 rfl Tryz.ntmps116 (nle rfl) rfl fun O hO=>?_
 show IWP _ _ _ _ ⟨[(0,.agg (tv6 a0)),(1,.agg (tv6 a1))],[]⟩ _
 unfold qG at h
 refine aC (cBx (cs:=q31) q31 0 rfl <|cBx (cs:=q31) q31 1 rfl <|cAs (.bool false) rfl <|aB ?_)
 refine aK ?_
 obtain ⟨x1,hx1,x2,hx2,x3,hx3,h⟩:=eddd h
 obtain ⟨x4,hx4,x5,hx5,h⟩:=eod h
 refine aC (cFa 0 dW rfl ti5 rfl <|cLd (d:=.int _ _) un5 ag5 ti5 rfl <|cFa 0 dW rfl ti5 rfl <|cLd (d:=.int _ _) un5 ag5 ti5 rfl <|cCm rfl hx1 <|cB rfl <|gG rfl (fun hb=>(tFa 1 dW rfl ti4 rfl)) <|gG rfl (fun hb=>(tLc (d:=.bool _) un4 ag4 ti4 rfl hb)) <|gG rfl (fun hb=>(tFa 1 dW rfl ti4 rfl)) <|gG rfl (fun hb=>(tLc (d:=.bool _) un4 ag4 ti4 rfl hb)) <|gG rfl (fun hb=>(aGO rfl rfl (lb rfl) un4 (svcB rfl hb) (svcB rfl hb) hx2)) <|cOr rfl hx3 <|cB rfl <|gG rfl (fun hb=>(tFa 8 dW rfl xH rfl)) <|gG rfl (fun hb=>(tLc (d:=.slice _ _) pS ag145 xH rfl hb)) <|gG rfl (fun hb=>(tFa 8 dW rfl xH rfl)) <|gG rfl (fun hb=>(tLc (d:=.slice _ _) pS ag145 xH rfl hb)) <|gG rfl (fun hb=>(aL (r:=.bool _) rfl rfl (lb rfl) cl138 (.cons (svcL rfl hb) (.cons (svcL rfl hb) .nil)) rfl (mS _ _ _ (gd_t hx4 hb)))) <|gG rfl (fun hb=>(dJ rfl rfl (lb rfl) (svcB rfl hb))) <|cOr rfl hx5 <|aB ?_)
 refine aH h rfl (fun h=>?_) (fun h=>?_)
 ·
  refine aC (cAs (.bool false) rfl <|aB ?_)
  refine aI <| aQ ?_
  obtain rfl:=Option.some.inj h
  refine ⟨.inr rfl,(.cons (sv rfl) .nil)⟩
 ·
  refine aJ <| aE ?_
  obtain ⟨x7,hx7,x8,hx8,x9,hx9,h⟩:=eddd h
  obtain ⟨x10,hx10,x11,hx11,x12,hx12,h⟩:=eddd h
  obtain ⟨x13,hx13,h⟩:=bE h
  refine aC (cFa 2 dW rfl ti3 rfl <|cLd (d:=.int _ _) un3 ag3 ti3 rfl <|cFa 2 dW rfl ti3 rfl <|cLd (d:=.int _ _) un3 ag3 ti3 rfl <|cCm rfl hx7 <|cB rfl <|gG rfl (fun hb=>(tFa 3 dW rfl ti3 rfl)) <|gG rfl (fun hb=>(tLc (d:=.int _ _) un3 ag3 ti3 rfl hb)) <|gG rfl (fun hb=>(tFa 3 dW rfl ti3 rfl)) <|gG rfl (fun hb=>(tLc (d:=.int _ _) un3 ag3 ti3 rfl hb)) <|gG rfl (fun hb=>(tCh rfl hb hx8)) <|cAn rfl hx9 <|cB rfl <|gG rfl (fun hb=>(tFa 4 dW rfl ti3 rfl)) <|gG rfl (fun hb=>(tLc (d:=.int _ _) un3 ag3 ti3 rfl hb)) <|gG rfl (fun hb=>(tFa 4 dW rfl ti3 rfl)) <|gG rfl (fun hb=>(tLc (d:=.int _ _) un3 ag3 ti3 rfl hb)) <|gG rfl (fun hb=>(tCh rfl hb hx10)) <|cAn rfl hx11 <|cB rfl <|gG rfl (fun hb=>(tFa 5 dW rfl ti3 rfl)) <|gG rfl (fun hb=>(tLc (d:=.int _ _) un3 ag3 ti3 rfl hb)) <|gG rfl (fun hb=>(tFa 5 dW rfl ti3 rfl)) <|gG rfl (fun hb=>(tLc (d:=.int _ _) un3 ag3 ti3 rfl hb)) <|gG rfl (fun hb=>(tCh rfl hb hx12)) <|cAn rfl hx13 <|cAB rfl <|aB ?_)
  obtain ⟨x14,hx14,x15,hx15,x16,hx16,h⟩:=eddd h
  obtain ⟨x17,hx17,x18,hx18,x19,hx19,h⟩:=eddd h
  refine aC (cB rfl <|cB rfl <|gG rfl (fun hb=>(tFa 6 dW rfl ti3 rfl)) <|gG rfl (fun hb=>(tLc (d:=.int _ _) un3 ag3 ti3 rfl hb)) <|gG rfl (fun hb=>(tFa 6 dW rfl ti3 rfl)) <|gG rfl (fun hb=>(tLc (d:=.int _ _) un3 ag3 ti3 rfl hb)) <|gG rfl (fun hb=>(tCh rfl hb hx14)) <|cAn rfl hx15 <|cB rfl <|gG rfl (fun hb=>(tFa 7 dW rfl ti3 rfl)) <|gG rfl (fun hb=>(tLc (d:=.int _ _) un3 ag3 ti3 rfl hb)) <|gG rfl (fun hb=>(tFa 7 dW rfl ti3 rfl)) <|gG rfl (fun hb=>(tLc (d:=.int _ _) un3 ag3 ti3 rfl hb)) <|gG rfl (fun hb=>(tCh rfl hb hx16)) <|cAn rfl hx17 <|cB rfl <|gG rfl (fun hb=>(tFa 9 dW rfl ti9 rfl)) <|gG rfl (fun hb=>(tLc (d:=.str _) un9 ag9 ti9 rfl hb)) <|gG rfl (fun hb=>(tFa 9 dW rfl ti9 rfl)) <|gG rfl (fun hb=>(tLc (d:=.str _) un9 ag9 ti9 rfl hb)) <|gG rfl (fun hb=>(gF rfl rfl (lb rfl) (svc (d:=.str _) rfl hb) (svc (d:=.str _) rfl hb) rfl hx18)) <|cAn rfl hx19 <|cAB rfl <|aB ?_)
  refine aI ?_
  obtain rfl:=Option.some.inj h
  refine ⟨.inr rfl,(.cons (sv rfl) .nil)⟩

theorem uZ (a0 : aD) (r : Int) (h : nG a0 = some r) : bR Tryz.prog 98 [.agg (tv6 a0)] (.int .i64 r):=by
 refine aN (rs:=[.int .i64 r]) Tryz.func98 rfl Tryz.ntmps98 (nle rfl) rfl fun O hO=>?_
 show IWP _ _ _ _ ⟨[(0,.agg (tv6 a0))],[]⟩ _
 unfold nG at h
 refine aC (cBx (cs:=q31) q31 0 rfl <|cAs (.int _ 0) rfl <|aB ?_)
 refine aK <| aU ?_
 obtain ⟨x1,hx1,h⟩:=bT h
 refine aC (cFa 0 dW rfl ti5 rfl <|cLd (d:=.int _ _) un5 ag5 ti5 rfl <|aA rfl (aL (r:=.bool _) rfl rfl (lb rfl) cl114 (.cons (svI rfl) .nil) rfl (uX _ _ hx1)) <|aA rfl (dJ rfl rfl (lb rfl) (svB rfl)) <|cAB rfl <|aB ?_)
 refine aH h rfl (fun h=>?_) (fun h=>?_)
 ·
  refine aC (cAs (.int _ 12) rfl <|aB ?_)
  refine aI <| bJ <| aQ ?_
  obtain rfl:=Option.some.inj h
  refine ⟨.inr rfl,(.cons (sv rfl) .nil)⟩
 ·
  obtain ⟨x3,hx3,h⟩:=bT h
  refine aC (cLr q31 lE rfl <|aA rfl (aL (r:=.bool _) rfl rfl (lb rfl) cl115 (.cons (svA q31 rfl) .nil) rfl (tD _ _ hx3)) <|aA rfl (dJ rfl rfl (lb rfl) (svB rfl)) <|cAB rfl <|aB ?_)
  refine aH h rfl (fun h=>?_) (fun h=>?_)
  ·
   refine aC (cAs (.int _ 8) rfl <|aB ?_)
   refine aI <| bJ <| aQ ?_
   obtain rfl:=Option.some.inj h
   refine ⟨.inr rfl,(.cons (sv rfl) .nil)⟩
  ·
   refine iT (α:=Bool) (fun z=>⟨[(1,.ref 0 0),(12,.bool z)],[(0,.blk 148 (tv6 a0))]⟩) (fun z=>jX a0 z = some r) ?_ ?_
   ·
    obtain ⟨x13,hx13,h⟩:=bE h
    refine aC (cFa 9 dW rfl ti9 rfl <|cLd (d:=.str _) un9 ag9 ti9 rfl <|aA rfl (cQ rfl rfl (lb rfl) un9 (sv (d:=.str _) rfl) rfl) <|cCm (b:=32) rfl hx13 <|cAB rfl <|aB ?_)
    refine aH h rfl (fun h=>?_) (fun h=>?_)
    ·
     refine aJ <| aE ⟨x13,(fun i=>i),⟨(.sames rfl rfl),(.cons (.blk rfl rfl rfl) .nil),bS [0] rfl (by decide),fun _ _=>rfl⟩,?_⟩
     exact h
    ·
     obtain ⟨x15,hx15,h⟩:=bE h
     refine aR (cFa 8 dW rfl xH rfl <|aA rfl (lrL la145 rfl rfl rfl rfl rfl (nle rfl) rfl) <|aA rfl (dD bA (l:=a0.Pairs) rfl rfl (lb rfl) pS (svL rfl)) <|cCm (b:=4) rfl hx15 <|cAB rfl <|bK ?_)
     refine aE ⟨x15,(fun i=>i),⟨(.sames rfl rfl),(.cons (.blk rfl rfl rfl) .nil),bS [0] rfl (by decide),fun _ _=>rfl⟩,?_⟩
     exact h
   ·
    rintro v8 h
    unfold jX at h
    refine aH h rfl (fun h=>?_) (fun h=>?_)
    ·
     refine aC (cAs (.int _ 5) rfl <|aB ?_)
     refine aI <| bJ <| aQ ?_
     obtain rfl:=Option.some.inj h
     refine ⟨.inr rfl,(.cons (sv rfl) .nil)⟩
    ·
     obtain ⟨x10,hx10,x11,hx11,h⟩:=eoo h
     refine eI rfl [nd2 [1] [0] 22 (.agg (tv6 a0)),nd1 [22] 23 (.agg (tv6 x10)),nd1 [1] 24 (.ref 0 0),nd2 [24] [0] 25 (.int .u8 a0.Kind),nd1 [25] 26 (.agg (w67 a0.Kind false 0 0 0 0 0 0 ([] : List aT) [])),nd1 [23,26] 27 (.bool x11),nd1 [27] 28 (.bool (!x11)),nd1 [28] 21 (.bool (!x11))] rfl ?_ (by kernel_rfl) ?_
     ·refine .cons (dLa dW aGq kO rfl) <| .cons (lop rfl rfl fun S hA=>(aL (r:=.agg q31) rfl rfl (lb rfl) cl117 (.cons (svaA q31 hA rfl rfl) .nil) rfl (uY _ _ hx10))) <| .cons (dFa 0 dW rfl ti5 rfl) <| .cons (dLd un5 ag5 ti5 rfl) <| .cons (lop rfl rfl fun S hA=>(kM (d':=.agg (w67 a0.Kind false 0 0 0 0 0 0 ([] : List aT) [])) (aY (cs:=q32) rfl rfl (lb rfl) dW kO aBg rfl (.cons (svaI hA rfl rfl) .nil) rfl) (.agg (.k4 (.k4 (.cons (.nils _) (.all _))))))) <| .cons (lop rfl rfl fun S hA=>(aL (r:=.bool _) rfl rfl (lb rfl) cl116 (.cons (svaA q31 hA rfl rfl) (.cons (svaA q31 hA rfl rfl) .nil)) rfl (aBr _ _ _ hx11))) <| .cons (lop rfl rfl fun S hA=>(dJ rfl rfl (lb rfl) (svaB hA rfl rfl))) <| .cons (lop rfl rfl fun S hA=>(bV rfl rfl (lb rfl) (svaB hA rfl rfl))) ?_
      exact .nil
     refine aH h rfl (fun h=>?_) (fun h=>?_)
     ·
      refine aC (cAs (.int _ 4) rfl <|aB ?_)
      refine aI <| bJ <| aQ ?_
      obtain rfl:=Option.some.inj h
      refine ⟨.inr rfl,(.cons (sv rfl) .nil)⟩
     ·
      refine aJ <| bM <| aE <| aC (cAs (.int _ 0) rfl <|aB ?_)
      refine aI ?_
      obtain rfl:=Option.some.inj h
      refine ⟨.inr rfl,(.cons (sv rfl) .nil)⟩

theorem aCg (a0 : (List UInt8)) (r : (aD × Int × Int)) (h : sG a0 = some r) : bR Tryz.prog 113 [.str a0] (retD [.agg (tv6 r.1),.int .i64 r.2.1,.int .i64 r.2.2]):=by
 refine aN (rs:=[.agg (tv6 r.1),.int .i64 r.2.1,.int .i64 r.2.2]) Tryz.func113 rfl Tryz.ntmps113 (nle rfl) rfl fun O hO=>?_
 show IWP _ _ _ _ ⟨[(0,.str a0)],[]⟩ _
 unfold sG at h
 refine aC (aA rfl (aZ (cs:=q32) (cs':=zs6) 0 rfl rfl (lb rfl) rfl kO rfl rfl (.k4 (.k4 (.cons (.nils _) (.all _))))) <|cAs (.int _ 0) rfl <|cAs (.int _ 0) rfl <|aB ?_)
 obtain ⟨x1,hx1,h⟩:=bT h
 refine aC (cMv (.str _) rfl <|aA rfl (aL (r:=.tuple q55) rfl rfl (lb rfl) cl133 (.cons (sv (d:=.str _) rfl) .nil) rfl (aBq _ _ hx1)) <|cMv (.tuple q55) rfl <|cEx (d:=.agg q31) (cs:=q55) rfl <|cEx (d:=.int _ _) (cs:=q55) rfl <|cEx (d:=.int _ _) (cs:=q55) rfl <|cEx (d:=.int _ _) (cs:=q55) rfl <|aA rfl (aZ (cs:=q32) (cs':=zs6) 1 rfl rfl (lb rfl) rfl kO rfl rfl (.k4 (.k4 (.cons (.nils _) (.all _))))) <|cSt q31 q31 kO rfl <|cAI rfl <|cAI rfl <|cAI rfl <|aB ?_)
 refine aK ?_
 obtain ⟨x2,hx2,h⟩:=bE h
 refine aC (cI rfl <|cCm (b:=0) rfl hx2 <|aB ?_)
 refine aH h rfl (fun h=>?_) (fun h=>?_)
 ·
  refine aC (aA rfl (kM (d':=.agg zs6) (aY (cs:=q32) rfl rfl (lb rfl) dW kO aBg rfl .nil rfl) (.agg (.k4 (.k4 (.cons (.nils _) (.all _)))))) <|cI rfl <|aA rfl (cH (ds':=[.int _ _,.bool _,.int _ _,.int _ _,.int _ _,.int _ _,.int _ _,.int _ _,.slice false (([] : List aT).map bA.d),.str _]) rfl rfl kO (svR rfl) rfl (svA q31 rfl) rfl rfl rfl (nle rfl) rfl) <|cAs (.int _ 0) rfl <|cAI rfl <|aB ?_)
  refine aI <| aQ ?_
  obtain rfl:=Option.some.inj h
  refine ⟨.inr rfl,(.cons (rva lE rfl rfl (nle rfl) rfl) (.cons (sv rfl) (.cons (sv rfl) .nil)))⟩
 ·
  refine aJ <| aE <| aK ?_
  obtain ⟨x4,hx4,x5,hx5,h⟩:=eoo h
  refine aC (cMv (.str _) rfl <|cI rfl <|cI rfl <|aA rfl (mL rfl rfl (lb rfl) un9 (sv (d:=.str _) rfl) ⟨_,(svI rfl)⟩ ⟨_,(svI rfl)⟩ hx4) <|aA rfl (fQ (r':=.bool x5.1) (H1':=[(1,.blk 148 (tv6 x5.2))]) 2 [1] rfl rfl (lb rfl) cl134 (.cons (svR rfl) (.cons (sv (d:=.str _) rfl) .nil)) rfl rfl ⟨rfl,rfl,by decide,rfl,List.forall_mem_cons.2 ⟨⟨rfl,rfl,rfl,rfl⟩,List.forall_mem_nil _⟩⟩ (tC _ _ _ hx5) rfl rfl (List.forall_mem_cons.2 ⟨⟨rfl,rfl⟩,List.forall_mem_nil _⟩) rfl) <|aA rfl (dJ rfl rfl (lb rfl) (svB rfl)) <|aB ?_)
  refine aH h rfl (fun h=>?_) (fun h=>?_)
  ·
   refine aC (aA rfl (kM (d':=.agg zs6) (aY (cs:=q32) rfl rfl (lb rfl) dW kO aBg rfl .nil rfl) (.agg (.k4 (.k4 (.cons (.nils _) (.all _)))))) <|aA rfl (cH (ds':=[.int _ _,.bool _,.int _ _,.int _ _,.int _ _,.int _ _,.int _ _,.int _ _,.slice false (([] : List aT).map bA.d),.str _]) rfl rfl kO (svR rfl) rfl (svA q31 rfl) rfl rfl rfl (nle rfl) rfl) <|cAs (.int _ 0) rfl <|cAs (.int _ 4) rfl <|aB ?_)
   refine aI <| aQ ?_
   obtain rfl:=Option.some.inj h
   refine ⟨.inr rfl,(.cons (rva lE rfl rfl (nle rfl) rfl) (.cons (sv rfl) (.cons (sv rfl) .nil)))⟩
  ·
   refine aJ <| aE <| aK ?_
   obtain ⟨x7,hx7,h⟩:=bT h
   refine aC (cLr q31 lE rfl <|aA rfl (aL (r:=.int _ _) rfl rfl (lb rfl) cl98 (.cons (svA q31 rfl) .nil) rfl (uZ _ _ hx7)) <|cAI rfl <|aB ?_)
   obtain ⟨x8,hx8,h⟩:=bE h
   refine aC (cI rfl <|cCm (b:=0) rfl hx8 <|aB ?_)
   refine aH h rfl (fun h=>?_) (fun h=>?_)
   ·
    refine aC (aA rfl (kM (d':=.agg zs6) (aY (cs:=q32) rfl rfl (lb rfl) dW kO aBg rfl .nil rfl) (.agg (.k4 (.k4 (.cons (.nils _) (.all _)))))) <|cI rfl <|aA rfl (cH (ds':=[.int _ _,.bool _,.int _ _,.int _ _,.int _ _,.int _ _,.int _ _,.int _ _,.slice false (([] : List aT).map bA.d),.str _]) rfl rfl kO (svR rfl) rfl (svA q31 rfl) rfl rfl rfl (nle rfl) rfl) <|cAs (.int _ 0) rfl <|cAI rfl <|aB ?_)
    refine aI <| aQ ?_
    obtain rfl:=Option.some.inj h
    refine ⟨.inr rfl,(.cons (rva lE rfl rfl (nle rfl) rfl) (.cons (sv rfl) (.cons (sv rfl) .nil)))⟩
   ·
    refine aJ <| aE <| aC (cLr q31 lE rfl <|cI rfl <|cSt q31 q31 kO rfl <|cAI rfl <|cAs (.int _ 0) rfl <|aB ?_)
    refine aI ?_
    obtain rfl:=Option.some.inj h
    refine ⟨.inr rfl,(.cons (rva lE rfl rfl (nle rfl) rfl) (.cons (sv rfl) (.cons (sv rfl) .nil)))⟩

theorem zL (a0 : fG) (r : Int) (h : kU a0 = some r) : bR Tryz.prog 97 [.agg (tv22 a0)] (.int .i64 r):=by
 refine aN (rs:=[.int .i64 r]) Tryz.func97 rfl Tryz.ntmps97 (nle rfl) rfl fun O hO=>?_
 show IWP _ _ _ _ ⟨[(0,.agg (tv22 a0))],[]⟩ _
 unfold kU at h
 refine aC (cBx (cs:=q49) q49 0 rfl <|cAs (.int _ 0) rfl <|aB ?_)
 refine aK ?_
 obtain ⟨x1,hx1,x2,hx2,x3,hx3,h⟩:=eddd h
 refine aC (cFa 1 un94 rfl ti34 rfl <|cLd (d:=.int _ _) un34 ag34 ti34 rfl <|cCm (b:=0) rfl hx1 <|cB rfl <|gG rfl (fun hb=>(tFa 0 un94 rfl ti9 rfl)) <|gG rfl (fun hb=>(tLc (d:=.str _) un9 ag9 ti9 rfl hb)) <|gG rfl (fun hb=>(gF rfl rfl (lb rfl) (svc (d:=.str _) rfl hb) (sv (d:=.str []) rfl) rfl hx2)) <|cAn rfl hx3 <|aB ?_)
 refine aH h rfl (fun h=>?_) (fun h=>?_)
 ·
  refine aC (cAs (.int _ 4) rfl <|aB ?_)
  refine aI <| aQ ?_
  obtain rfl:=Option.some.inj h
  refine ⟨.inr rfl,(.cons (sv rfl) .nil)⟩
 ·
  refine aJ <| aE <| aK ?_
  obtain ⟨x5,hx5,h⟩:=bT h
  refine aC (cFa 0 un94 rfl ti9 rfl <|cLd (d:=.str _) un9 ag9 ti9 rfl <|aA rfl (aL (r:=.tuple q57) rfl rfl (lb rfl) cl113 (.cons (sv (d:=.str _) rfl) .nil) rfl (aCg _ _ hx5)) <|cMv (.tuple q57) rfl <|cEx (d:=.agg q31) (cs:=q57) rfl <|cEx (d:=.int _ _) (cs:=q57) rfl <|cEx (d:=.int _ _) (cs:=q57) rfl <|aA rfl (aZ (cs:=q32) (cs':=zs6) 1 rfl rfl (lb rfl) rfl kO rfl rfl (.k4 (.k4 (.cons (.nils _) (.all _))))) <|cSt q31 q31 kO rfl <|cAI rfl <|cAI rfl <|aB ?_)
  obtain ⟨x6,hx6,x7,hx7,x8,hx8,h⟩:=eddd h
  refine aC (cI rfl <|cCm (b:=3) rfl hx6 <|cB rfl <|gG rfl (fun hb=>(tFa 0 un94 rfl ti9 rfl)) <|gG rfl (fun hb=>(tLc (d:=.str _) un9 ag9 ti9 rfl hb)) <|gG rfl (fun hb=>(cQ rfl rfl (lb rfl) un9 (svc (d:=.str _) rfl hb) rfl)) <|gG rfl (fun hb=>(tCg (b:=80) rfl hb hx7)) <|cOr rfl hx8 <|aB ?_)
  refine aH h rfl (fun h=>?_) (fun h=>?_)
  ·
   refine aC (cAs (.int _ 5) rfl <|aB ?_)
   refine aI <| aQ ?_
   obtain rfl:=Option.some.inj h
   refine ⟨.inr rfl,(.cons (sv rfl) .nil)⟩
  ·
   refine aJ <| aE <| aK ?_
   obtain ⟨x10,hx10,h⟩:=bE h
   refine aC (cFa 2 un94 rfl ti3 rfl <|cLd (d:=.int _ _) un3 ag3 ti3 rfl <|cCm (b:=0) rfl hx10 <|aB ?_)
   refine aH h rfl (fun h=>?_) (fun h=>?_)
   ·
    refine aC (cAs (.int _ 8) rfl <|aB ?_)
    refine aI <| aQ ?_
    obtain rfl:=Option.some.inj h
    refine ⟨.inr rfl,(.cons (sv rfl) .nil)⟩
   ·
    refine aJ <| aE <| aC (cAs (.int _ 0) rfl <|aB ?_)
    refine aI ?_
    obtain rfl:=Option.some.inj h
    refine ⟨.inr rfl,(.cons (sv rfl) .nil)⟩

theorem zM (a0 : dM) (r : Int) (h : iG a0 = some r) : bR Tryz.prog 78 [.agg (tv3 a0)] (.int .i64 r):=by
 refine aN (rs:=[.int .i64 r]) Tryz.func78 rfl Tryz.ntmps78 (nle rfl) rfl fun O hO=>?_
 show IWP _ _ _ _ ⟨[(0,.agg (tv3 a0))],[]⟩ _
 unfold iG at h
 refine aC (cBx (cs:=q27) q27 0 rfl <|cAs (.int _ 0) rfl <|aB ?_)
 refine aK ?_
 obtain ⟨x1,hx1,h⟩:=bT h
 refine aC (cFa 0 un96 rfl ti87 rfl <|cLr q34 la87 rfl <|aA rfl (aL (r:=.int _ _) rfl rfl (lb rfl) cl95 (.cons (svA q34 rfl) .nil) rfl (wX _ _ hx1)) <|cAI rfl <|aB ?_)
 obtain ⟨x2,hx2,h⟩:=bE h
 refine aC (cI rfl <|cCm (b:=0) rfl hx2 <|aB ?_)
 refine aH h rfl (fun h=>?_) (fun h=>?_)
 ·
  refine aC (cI rfl <|cAI rfl <|aB ?_)
  refine aI <| aQ ?_
  obtain rfl:=Option.some.inj h
  refine ⟨.inr rfl,(.cons (sv rfl) .nil)⟩
 ·
  refine aJ <| aE <| aK ?_
  obtain ⟨x4,hx4,h⟩:=bT h
  refine aC (cFa 9 un96 rfl ti92 rfl <|cLr q44 la92 rfl <|aA rfl (aL (r:=.int _ _) rfl rfl (lb rfl) cl96 (.cons (svA q44 rfl) .nil) rfl (aBn _ _ hx4)) <|cAI rfl <|aB ?_)
  obtain ⟨x5,hx5,h⟩:=bE h
  refine aC (cI rfl <|cCm (b:=0) rfl hx5 <|aB ?_)
  refine aH h rfl (fun h=>?_) (fun h=>?_)
  ·
   refine aC (cI rfl <|cAI rfl <|aB ?_)
   refine aI <| aQ ?_
   obtain rfl:=Option.some.inj h
   refine ⟨.inr rfl,(.cons (sv rfl) .nil)⟩
  ·
   refine aJ <| aE <| aK ?_
   obtain ⟨x7,hx7,h⟩:=bT h
   refine aC (cFa 13 un96 rfl ti94 rfl <|cLr q49 la94 rfl <|aA rfl (aL (r:=.int _ _) rfl rfl (lb rfl) cl97 (.cons (svA q49 rfl) .nil) rfl (zL _ _ hx7)) <|cAI rfl <|aB ?_)
   obtain ⟨x8,hx8,h⟩:=bE h
   refine aC (cI rfl <|cCm (b:=0) rfl hx8 <|aB ?_)
   refine aH h rfl (fun h=>?_) (fun h=>?_)
   ·
    refine aC (cI rfl <|cAI rfl <|aB ?_)
    refine aI <| aQ ?_
    obtain rfl:=Option.some.inj h
    refine ⟨.inr rfl,(.cons (sv rfl) .nil)⟩
   ·
    refine aJ <| aE ?_
    obtain ⟨x10,hx10,x11,hx11,h⟩:=edd h
    refine aC (cFa 0 un96 rfl ti87 rfl <|cFa 5 un87 rfl ti4 rfl <|cLd (d:=.bool _) un4 ag4 ti4 rfl <|cB rfl <|gG rfl (fun hb=>(tFa 9 un96 rfl ti92 rfl)) <|gG rfl (fun hb=>(cX rfl rfl (lb rfl) un92 rfl ti3 (by decide) (svcR rfl hb) (off':=12) rfl)) <|gG rfl (fun hb=>(tLc (d:=.int _ _) un3 ag3 ti3 rfl hb)) <|gG rfl (fun hb=>(tCg (b:=0) rfl hb hx10)) <|cOr rfl hx11 <|cAB rfl <|aB ?_)
    refine aK ?_
    obtain ⟨x12,hx12,x13,hx13,x14,hx14,h⟩:=eddd h
    obtain ⟨x15,hx15,h⟩:=bE h
    refine aC (cB rfl <|cB rfl <|gG rfl (fun hb=>(tFa 9 un96 rfl ti92 rfl)) <|gG rfl (fun hb=>(cX rfl rfl (lb rfl) un92 rfl ti90 (by decide) (svcR rfl hb) (off':=9) rfl)) <|gG rfl (fun hb=>(cX rfl rfl (lb rfl) un90 rfl ti9 (by decide) (svcR rfl hb) (off':=10) rfl)) <|gG rfl (fun hb=>(tLc (d:=.str _) un9 ag9 ti9 rfl hb)) <|gG rfl (fun hb=>(gF rfl rfl (lb rfl) (svc (d:=.str _) rfl hb) (sv (d:=.str []) rfl) rfl hx12)) <|cOr rfl hx13 <|cB rfl <|gG rfl (fun hb=>(tFa 13 un96 rfl ti94 rfl)) <|gG rfl (fun hb=>(cX rfl rfl (lb rfl) un94 rfl ti34 (by decide) (svcR rfl hb) (off':=14) rfl)) <|gG rfl (fun hb=>(tLc (d:=.int _ _) un34 ag34 ti34 rfl hb)) <|gG rfl (fun hb=>(tCg (b:=0) rfl hb hx14)) <|cOr rfl hx15 <|aB ?_)
    refine aH h rfl (fun h=>?_) (fun h=>?_)
    ·
     refine aC (cAs (.int _ 4) rfl <|aB ?_)
     refine aI <| aQ ?_
     obtain rfl:=Option.some.inj h
     refine ⟨.inr rfl,(.cons (sv rfl) .nil)⟩
    ·
     refine aJ <| aE <| aC (cAs (.int _ 0) rfl <|aB ?_)
     refine aI ?_
     obtain rfl:=Option.some.inj h
     refine ⟨.inr rfl,(.cons (sv rfl) .nil)⟩

theorem zE (a0 : Int) (r : Bool) (h : mC a0 = some r) : bR Tryz.prog 79 [.int .u8 a0] (.bool r) := by
 refine aN (rs:=[.bool r]) Tryz.func79 rfl Tryz.ntmps79 (nle rfl) rfl fun O hO=>?_
 show IWP _ _ _ _ ⟨[(0,.int .u8 a0)],[]⟩ _
 unfold mC at h
 refine aC (cAs (.bool false) rfl <|aB ?_)
 refine aK <| aC (cI rfl <|aB ?_)
 refine aU <| aK ?_
 obtain ⟨x1,hx1,h⟩:=bE h
 refine aC (cCm (b:=1) rfl hx1 <|cAB rfl <|aB ?_)
 refine gE (b:=_) rfl (fun hc2=>?_) (fun hc2=>?_)
 ·
  replace h:=tG h hc2
  refine aJ <| aE <| gC rfl hc2 <| aC (cAs (.bool true) rfl <|aB ?_)
  refine aI <| bJ <| aQ ?_
  obtain rfl:=Option.some.inj h
  refine ⟨.inr rfl,(.cons (sv rfl) .nil)⟩
 ·
  replace h:=tH h hc2
  obtain ⟨x3,hx3,h⟩:=bE h
  refine aC (cCm (b:=2) rfl hx3 <|cAB rfl <|aB ?_)
  refine gE (b:=_) rfl (fun hc4=>?_) (fun hc4=>?_)
  ·
   replace h:=tG h hc4
   refine aJ <| aE <| gC rfl hc4 <| aC (cAs (.bool true) rfl <|aB ?_)
   refine aI <| bJ <| aQ ?_
   obtain rfl:=Option.some.inj h
   refine ⟨.inr rfl,(.cons (sv rfl) .nil)⟩
  ·
   replace h:=tH h hc4
   obtain ⟨x5,hx5,h⟩:=bE h
   refine aC (cCm (b:=3) rfl hx5 <|cAB rfl <|aB ?_)
   refine gE (b:=_) rfl (fun hc6=>?_) (fun hc6=>?_)
   ·
    replace h:=tG h hc6
    refine aJ <| aE <| gC rfl hc6 <| aC (cAs (.bool true) rfl <|aB ?_)
    refine aI <| bJ <| aQ ?_
    obtain rfl:=Option.some.inj h
    refine ⟨.inr rfl,(.cons (sv rfl) .nil)⟩
   ·
    replace h:=tH h hc6
    obtain ⟨x7,hx7,h⟩:=bE h
    refine aC (cCm (b:=4) rfl hx7 <|cAB rfl <|aB ?_)
    refine gE (b:=_) rfl (fun hc8=>?_) (fun hc8=>?_)
    ·
     replace h:=tG h hc8
     refine aJ <| aE <| gC rfl hc8 <| aC (cAs (.bool true) rfl <|aB ?_)
     refine aI <| bJ <| aQ ?_
     obtain rfl:=Option.some.inj h
     refine ⟨.inr rfl,(.cons (sv rfl) .nil)⟩
    ·
     replace h:=tH h hc8
     obtain ⟨x9,hx9,h⟩:=bE h
     refine aC (cCm (b:=6) rfl hx9 <|cAB rfl <|aB ?_)
     refine gE (b:=_) rfl (fun hc10=>?_) (fun hc10=>?_)
     ·
      replace h:=tG h hc10
      refine aJ <| aE <| gC rfl hc10 <| aC (cAs (.bool true) rfl <|aB ?_)
      refine aI <| bJ <| aQ ?_
      obtain rfl:=Option.some.inj h
      refine ⟨.inr rfl,(.cons (sv rfl) .nil)⟩
     ·
      replace h:=tH h hc10
      obtain ⟨x11,hx11,h⟩:=bE h
      refine aC (cCm (b:=7) rfl hx11 <|cAB rfl <|aB ?_)
      refine gE (b:=_) rfl (fun hc12=>?_) (fun hc12=>?_)
      ·
       replace h:=tG h hc12
       refine aJ <| aE <| gC rfl hc12 <| aC (cAs (.bool true) rfl <|aB ?_)
       refine aI <| bJ <| aQ ?_
       obtain rfl:=Option.some.inj h
       refine ⟨.inr rfl,(.cons (sv rfl) .nil)⟩
      ·
       replace h:=tH h hc12
       obtain ⟨x13,hx13,h⟩:=bE h
       refine aR (cCm (b:=8) rfl hx13 <|cAB rfl <|bK ?_)
       refine aE <| aH h rfl (fun h=>?_) (fun h=>?_)
       ·
        refine aC (cAs (.bool true) rfl <|aB ?_)
        refine aI <| bJ <| aQ ?_
        obtain rfl:=Option.some.inj h
        refine ⟨.inr rfl,(.cons (sv rfl) .nil)⟩
       ·
        refine aJ <| bM <| aE <| aC (cAs (.bool false) rfl <|aB ?_)
        refine aI ?_
        obtain rfl:=Option.some.inj h
        refine ⟨.inr rfl,(.cons (sv rfl) .nil)⟩

theorem wV (a0 : Int) (r : ((List UInt8) × Int)) (h : oO a0 = some r) : bR Tryz.prog 100 [.int .i64 a0] (retD [.slice false (r.1.map gI.d),.int .i64 r.2]):=by
 refine lQ (rs:=[.slice false (r.1.map gI.d),.int .i64 r.2]) Tryz.func100 rfl Tryz.ntmps100 (nle rfl) rfl fun O hO=>?_
 show IWP _ _ _ _ ⟨[(0,.int .i64 a0)],[]⟩ _
 unfold oO at h
 refine aC (cAs (.nils) rfl <|cAs (.int _ 0) rfl <|aB ?_)
 obtain ⟨x1,hx1,h⟩:=bT h
 refine aC (cI rfl <|aA rfl (aL (r:=.int _ _) rfl rfl (lb rfl) cl120 (.cons (svI rfl) .nil) rfl (uO _ _ hx1)) <|cAI rfl <|aB ?_)
 refine aK ?_
 obtain ⟨x2,hx2,h⟩:=bE h
 refine aC (cI rfl <|cCm (b:=0) rfl hx2 <|aB ?_)
 refine aH h rfl (fun h=>?_) (fun h=>?_)
 ·
  refine aC (cAs (.nils) rfl <|cAs (.int _ 8) rfl <|aB ?_)
  refine aI <| aQ ?_
  obtain rfl:=Option.some.inj h
  refine ⟨.inr rfl,_,(.cons (sv rfl) (.cons (sv rfl) .nil)),(.cons (.nils _) (.all _))⟩
 ·
  refine aJ <| aE ?_
  obtain ⟨x4,hx4,x5,hx5,h⟩:=eoo h
  refine aC (cI rfl <|aA rfl (vE rfl rfl (lb rfl) (sv (d:=.int _ 1) rfl) (svI rfl) hx4) <|aA rfl (zU gI.toEnc0 (0 : UInt8) 0 rfl rfl (lb rfl) un71 ti5 rfl rfl (svI rfl) hx5 (.all _)) <|cAs (.osl _ _ _) rfl <|aB ?_)
  refine aK ?_
  obtain ⟨x6,hx6,h⟩:=bE h
  refine aC (cMv (.osl _ _ _) rfl <|aA rfl (xY rfl rfl (lb rfl) un71 (sv (d:=.osl _ _ _) rfl)) <|aA rfl (bB rfl rfl (lb rfl) (svI rfl) (sv (d:=.int _ 1) rfl) rfl hx6) <|cAI rfl <|aB ?_)
  refine aU <| cP (α:=Nat × Int × (List UInt8) × Int) (fun z=>⟨[(0,.int .i64 z.2.1),(4,.int .i64 x1),(5,.osl 0 gI.sz z.2.2.1.length),(6,.int .i64 z.2.2.2)],[(0,.blk 5 (D.flat (z.2.2.1.map gI.d)))]⟩) (fun z=>jG x1 z.1 z.2.1 z.2.2.1 z.2.2.2 = some r) (fun z=>z.1) (fuel,a0,x5,x6) (fun i=>i) ⟨(.sames rfl rfl),(.cons (EntW.lst rfl) .nil),bS [0] rfl (by decide),fun _ _=>rfl⟩ ?_ ?_
  ·exact h
  ·
   rintro ⟨n0,v16,v17,v18⟩ h
   cases n0 with
   | zero=>exact absurd h (by unfold jG; exact nofun)
   | succ n0 =>
    unfold jG at h
    refine aK ?_
    obtain ⟨x28,hx28,h⟩:=bE h
    refine aC (cI rfl <|cCm (b:=0) rfl hx28 <|aB ?_)
    refine aH h rfl (fun h=>?_) (fun h=>?_)
    ·
     refine aJ <| aE <| aK <| aU ?_
     obtain ⟨x30,hx30,x31,hx31,x32,hx32,h⟩:=edoo h
     obtain ⟨x33,hx33,x34,hx34,h⟩:=eod h
     refine aC (cMv (.osl _ _ _) rfl <|cI rfl <|cI rfl <|aA rfl (eJ rfl rfl (lb rfl) ⟨_,un3⟩ un5 (svI rfl) hx30) <|aA rfl (pK gI.toEnc0 rfl rfl (lb rfl) un71 ti5 (sv (d:=.osl _ _ _) rfl) rfl (svI rfl) hx31) <|aA rfl (sS gI.toEnc0 (a':=x33) rfl rfl ti5 (svR rfl) rfl (aEO (svI rfl) (aEH hx33)) rfl rfl rfl hx32 (nle rfl) rfl hx34) <|aB ?_)
     obtain ⟨x35,hx35,h⟩:=bT h
     refine aR (cI rfl <|aA rfl (qX rfl rfl (lb rfl) (svI rfl) (sv (d:=.int _ 8) rfl) hx35) <|cAI rfl <|bK ?_)
     refine bM <| aE ?_
     obtain ⟨x36,hx36,h⟩:=bE h
     refine aR (cI rfl <|aA rfl (bB rfl rfl (lb rfl) (svI rfl) (sv (d:=.int _ 1) rfl) rfl hx36) <|cAI rfl <|bK ?_)
     refine aE ⟨(n0,x35,x34,x36),(fun i=>i),⟨(.s rfl rfl (.s rfl rfl (.cons (.same (congrArg (D.osl _ _) (wI hx34 rfl).symm) rfl) (.sames rfl rfl)))),(.cons (EntW.lst rfl) .nil),bS [0] rfl (by decide),fun _ _=>rfl⟩,?_,?_⟩
     exact h
     exact Nat.lt_succ_self _
    ·
     refine cC <| aW <| aW <| cD <| aE ?_
     obtain ⟨x37,hx37,x38,hx38,x39,hx39,h⟩:=eooo h
     obtain ⟨x40,hx40,x41,hx41,x42,hx42,h⟩:=eddo h
     obtain ⟨x43,hx43,x44,hx44,x45,hx45,h⟩:=eood h
     refine aC (cMv (.osl _ _ _) rfl <|aA rfl (pK gI.toEnc0 rfl rfl (lb rfl) un71 ti5 (sv (d:=.osl _ _ _) rfl) rfl (sv (d:=.int _ 0) rfl) hx37) <|aA rfl (sU gI.toEnc0 (d:=.int _ _) rfl rfl (lb rfl) un5 ag5 ti5 (by decide) (svR rfl) rfl hx38 (nle rfl) rfl) <|cI rfl <|aA rfl (vE rfl rfl (lb rfl) (svI rfl) (sv (d:=.int _ 6) rfl) hx39) <|aA rfl (eJ rfl rfl (lb rfl) ⟨_,un3⟩ un5 (svI rfl) hx40) <|aA rfl (bB rfl rfl (lb rfl) (svI rfl) (svI rfl) rfl hx41) <|aA rfl (pK gI.toEnc0 rfl rfl (lb rfl) un71 ti5 (sv (d:=.osl _ _ _) rfl) rfl (sv (d:=.int _ 0) rfl) hx42) <|aA rfl (sS gI.toEnc0 (a':=x44) rfl rfl ti5 (svR rfl) rfl (aEO (svI rfl) (aEH hx44)) rfl rfl rfl hx43 (nle rfl) rfl hx45) <|aB ?_)
     refine aC (cMv (.osl _ _ _) rfl <|cAs (.osl _ _ _) rfl <|cAs (.int _ 0) rfl <|aB ?_)
     refine aI ?_
     obtain rfl:=Option.some.inj h
     refine ⟨.inr rfl,_,(.cons (sv rfl) (.cons (sv rfl) .nil)),(.cons (FDT gI rfl (wI hx45 rfl)) (.all _))⟩

theorem aAy (a0 : (List Int)) (r : ((List UInt8) × Int)) (h : qL a0 = some r) : bR Tryz.prog 140 [.slice false (a0.map (eInt .i64).d)] (retD [.slice false (r.1.map gI.d),.int .i64 r.2]):=by
 refine aN (rs:=[.slice false (r.1.map gI.d),.int .i64 r.2]) Tryz.func140 rfl Tryz.ntmps140 (nle rfl) rfl fun O hO=>?_
 show IWP _ _ _ _ ⟨[(0,.slice false (a0.map (eInt .i64).d))],[]⟩ _
 unfold qL at h
 refine aC (cAs (.nils) rfl <|cAs (.int _ 0) rfl <|aB ?_)
 refine aC (cAs (.nils) rfl <|aB ?_)
 refine aK <| aC (aA rfl (mvL rfl rfl rfl rfl) <|aA rfl (dD (eInt .i64) (l:=a0) rfl rfl (lb rfl) un72 (svL rfl)) <|cMv (.int _ 0) rfl <|aB ?_)
 refine aU <| cP (α:=Nat × (List UInt8) × Int) (fun z=>⟨[(4,.gsl 21 gI.sz (z.2.1.map gI.d)),(9,.slice false (a0.map (eInt .i64).d)),(10,.int .i64 (a0.length : Int)),(11,.int .i64 z.2.2)],[(21,.tail 5 gI.sz z.2.1.length)]⟩) (fun z=>iO a0 z.1 z.2.1 z.2.2 = some r) (fun z=>z.1) (fuel,([] : (List UInt8)),0) (fun i=>if i = 21 then 71 else i) ⟨(.cons (.nils rfl) (.sames rfl rfl)),(.cons (.nils rfl) .nil),bS [71] rfl (by decide),(fun i hi=>by first | rfl | (show (if _ then _ else _) = _; (repeat' split) <;> omega))⟩ ?_ ?_
 ·exact h
 ·
  rintro ⟨n0,v9,v10⟩ h
  cases n0 with
  | zero=>exact absurd h (by unfold iO; exact nofun)
  | succ n0 =>
   unfold iO at h
   obtain ⟨x19,hx19,h⟩:=bE h
   refine aC (cCm rfl hx19 <|aB ?_)
   refine aK <| aH h rfl (fun h=>?_) (fun h=>?_)
   ·
    refine aJ <| aE <| aK <| aU ?_
    obtain ⟨x21,hx21,h⟩:=bT h
    refine aC (aA rfl (cW (eInt .i64) (cs:=[.int _ _]) rfl rfl (lb rfl) un72 ti3 (svL rfl) (svI rfl) hx21 rfl rfl) <|aA rfl (cN rfl rfl (lb rfl) un3 ag3 ti3 (by decide) (sv (d:=.fptr [.int _ _]) rfl) (nle rfl)) <|cAI rfl <|aB ?_)
    obtain ⟨x22,hx22,h⟩:=bT h
    refine aC (cI rfl <|aA rfl (aL (r:=.tuple q50) rfl rfl (lb rfl) cl100 (.cons (svI rfl) .nil) rfl (wV _ _ hx22)) <|cMv (.tuple q50) rfl <|cEx (d:=.slice _ _) (cs:=q50) rfl <|cEx (d:=.int _ _) (cs:=q50) rfl <|aA rfl (bV rfl rfl (lb rfl) (svL rfl)) <|cAI rfl <|aB ?_)
    refine aK ?_
    obtain ⟨x23,hx23,h⟩:=bE h
    refine aC (cI rfl <|cCm (b:=0) rfl hx23 <|aB ?_)
    refine aH h rfl (fun h=>?_) (fun h=>?_)
    ·
     refine aC (cI rfl <|cAs (.nils) rfl <|cAI rfl <|aB ?_)
     refine aI <| aQ <| bJ <| aQ <| aQ <| bJ <| aQ ?_
     obtain rfl:=Option.some.inj h
     refine ⟨.inr rfl,(.cons (yK rfl rfl) (.cons (sv rfl) .nil))⟩
    ·
     refine aJ <| aE ?_
     obtain ⟨x25,hx25,h⟩:=bT h
     refine aR (cMv (.gsl _ _ _) rfl <|aA rfl (mvL rfl rfl rfl rfl) <|aA rfl (oK gI 22 rfl rfl (lb rfl) un71 ti5 rfl rfl rfl rfl (svL rfl) hx25) <|cAs (.gsl _ _ _) rfl <|bK ?_)
     refine bM <| aE ?_
     obtain ⟨x26,hx26,h⟩:=bE h
     refine aR (aA rfl (bB rfl rfl (lb rfl) (svI rfl) (sv (d:=.int _ 1) rfl) rfl hx26) <|cI rfl <|bK ?_)
     refine aE ⟨(n0,x25,x26),(fun i=>if i = 21 then 22 else i),⟨(.sames rfl rfl),(.cons (.tail rfl) .nil),bS [22] rfl (by decide),(fun i hi=>by first | rfl | (show (if _ then _ else _) = _; (repeat' split) <;> omega))⟩,?_,?_⟩
     exact h
     exact Nat.lt_succ_self _
   ·
    refine cC <| aW <| aW <| cD <| aE <| aC (cMv (.gsl _ _ _) rfl <|cAs (.gsl _ _ _) rfl <|cAs (.int _ 0) rfl <|aB ?_)
    refine aI ?_
    obtain rfl:=Option.some.inj h
    refine ⟨.inr rfl,(.cons (yL rfl rfl) (.cons (sv rfl) .nil))⟩

theorem aAz (a0 : (List Int)) (r : ((List UInt8) × Int)) (h : mY a0 = some r) : bR Tryz.prog 119 [.slice false (a0.map (eInt .i64).d)] (retD [.slice false (r.1.map gI.d),.int .i64 r.2]):=by
 refine aN (rs:=[.slice false (r.1.map gI.d),.int .i64 r.2]) Tryz.func119 rfl Tryz.ntmps119 (nle rfl) rfl fun O hO=>?_
 show IWP _ _ _ _ ⟨[(0,.slice false (a0.map (eInt .i64).d))],[]⟩ _
 unfold mY at h
 refine aC (cAs (.nils) rfl <|cAs (.int _ 0) rfl <|aB ?_)
 obtain ⟨x1,hx1,h⟩:=bT h
 refine aC (aA rfl (mvL rfl rfl rfl rfl) <|aA rfl (aL (r:=.tuple q50) rfl rfl (lb rfl) cl140 (.cons (svL rfl) .nil) rfl (aAy _ _ hx1)) <|cEx (d:=.slice _ _) (cs:=q50) rfl <|cEx (d:=.int _ _) (cs:=q50) rfl <|aA rfl (bV rfl rfl (lb rfl) (svL rfl)) <|cAI rfl <|aB ?_)
 refine aI ?_
 obtain rfl:=Option.some.inj h
 refine ⟨.inr rfl,(.cons (sv rfl) (.cons (sv rfl) .nil))⟩

theorem rZ (a0 : aD) (r : (List UInt8)) (h : gX a0 = some r) : bR Tryz.prog 99 [.agg (tv6 a0)] (.str r):=by
 refine aN (rs:=[.str r]) Tryz.func99 rfl Tryz.ntmps99 (nle rfl) rfl fun O hO=>?_
 show IWP _ _ _ _ ⟨[(0,.agg (tv6 a0))],[]⟩ _
 unfold gX at h
 refine aC (cBx (cs:=q31) q31 0 rfl <|cAs (.str []) rfl <|aB ?_)
 refine aC (cAs (.nils) rfl <|aB ?_)
 refine aK ?_
 obtain ⟨x1,hx1,h⟩:=bT h
 refine aC (aA rfl (fQ (r':=.osl 1 (eRef 0).sz x1.length) (H1':=[(0,.blk 148 (tv6 a0)),(1,.blk 243 (D.flat (x1.map (eRef 0).d)))]) 1 [0] rfl rfl (lb rfl) cl118 (.cons (svR rfl) .nil) rfl rfl ⟨rfl,rfl,by decide,rfl,List.forall_mem_cons.2 ⟨⟨rfl,rfl,rfl,rfl⟩,List.forall_mem_nil _⟩⟩ (jM _ _ hx1) rfl rfl (List.forall_mem_cons.2 ⟨⟨rfl,rfl⟩,List.forall_mem_cons.2 ⟨⟨rfl,(aFI rfl)⟩,List.forall_mem_nil _⟩⟩) (by simp only [List.map_cons,List.map_nil,Ent.ren,iV,jL]; rfl)) <|aA rfl (xY rfl rfl (lb rfl) oF (sv (d:=.osl _ _ _) rfl)) <|cMv (.int _ 0) rfl <|aB ?_)
 refine aU <| cP (α:=Nat × (List Int) × Int) (fun z=>⟨[(1,.ref 0 0),(3,.gsl 23 (eInt .i64).sz (z.2.1.map (eInt .i64).d)),(10,.osl 1 (eRef 0).sz x1.length),(11,.int .i64 (x1.length : Int)),(12,.int .i64 z.2.2)],[(0,.blk 148 (tv6 a0)),(23,.tail 3 (eInt .i64).sz z.2.1.length),(1,.blk 243 (D.flat (x1.map (eRef 0).d)))]⟩) (fun z=>eE a0 x1 z.1 z.2.1 z.2.2 = some r) (fun z=>z.1) (fuel,([] : (List Int)),0) (fun i=>if i = 23 then 75 else i) ⟨(.s rfl rfl (.cons (.nils rfl) (.sames rfl rfl))),(.cons (.blk rfl rfl rfl) (.cons (.nils rfl) (.cons (EntW.lstR rfl rfl) .nil))),bS [0,75,1] rfl (by decide),(fun i hi=>by first | rfl | (show (if _ then _ else _) = _; (repeat' split) <;> omega))⟩ ?_ ?_
 ·exact h
 ·
  rintro ⟨n0,v9,v10⟩ h
  cases n0 with
  | zero=>exact absurd h (by unfold eE; exact nofun)
  | succ n0 =>
   unfold eE at h
   obtain ⟨x18,hx18,h⟩:=bE h
   refine aC (cCm rfl hx18 <|aB ?_)
   refine aK <| aH h rfl (fun h=>?_) (fun h=>?_)
   ·
    refine aJ <| aE <| aK <| aU ?_
    obtain ⟨x20,hx20,x21,hx21,h⟩:=eoo h
    refine aC (aA rfl (pK (eRef 0) rfl rfl (lb rfl) oF oG (sv (d:=.osl _ _ _) rfl) rfl (svI rfl) hx20) <|aA rfl (sU (eRef 0) (d:=.ref _ _) rfl rfl (lb rfl) Tryz.underlying243 ag243 oG (by decide) (svR rfl) rfl hx21 (nle rfl) rfl) <|aA rfl (bV rfl rfl (lb rfl) (svR rfl)) <|aB ?_)
    obtain ⟨x22,hx22,x23,hx23,h⟩:=eoo h
    refine aR (cMv (.gsl _ _ _) rfl <|aA rfl (mvR rfl rfl rfl rfl) <|aA rfl (aS rfl rfl (lb rfl) (svR rfl)) <|aA rfl (aB1 rfl rfl (lb rfl) un3 ag3 ti3 (svR rfl) rfl hx22) <|aA rfl (mM (eInt .i64) ([x22] : (List Int)) 24 rfl rfl (lb rfl) un72 ti3 rfl (.cons (svI rfl) .nil) rfl rfl (by decide)) <|aA rfl (oK (eInt .i64) 25 rfl rfl (lb rfl) un72 ti3 rfl rfl rfl rfl (svg rfl) hx23) <|cAs (.gsl _ _ _) rfl <|bK ?_)
    refine bM <| aE ?_
    obtain ⟨x24,hx24,h⟩:=bE h
    refine aR (aA rfl (bB rfl rfl (lb rfl) (svI rfl) (sv (d:=.int _ 1) rfl) rfl hx24) <|cI rfl <|bK ?_)
    refine aE ⟨(n0,x23,x24),(fun i=>if i = 23 then 25 else i),⟨(.sames rfl rfl),(.cons (.blk rfl rfl rfl) (.cons (.tail rfl) (.cons (EntW.lstR rfl rfl) .nil))),bS [0,25,1] rfl (by decide),(fun i hi=>by first | rfl | (show (if _ then _ else _) = _; (repeat' split) <;> omega))⟩,?_,?_⟩
    exact h
    exact Nat.lt_succ_self _
   ·
    refine cC <| aW <| aW <| cD <| aE <| aK <| aC (cFa 8 dW rfl xH rfl <|aA rfl (lrL la145 rfl rfl rfl rfl rfl (nle rfl) rfl) <|aA rfl (dD bA (l:=a0.Pairs) rfl rfl (lb rfl) pS (svL rfl)) <|cMv (.int _ 0) rfl <|aB ?_)
    refine aU <| cP (α:=Nat × (List Int) × Int) (fun z=>⟨[(1,.ref 0 0),(3,.gsl 23 (eInt .i64).sz (z.2.1.map (eInt .i64).d)),(24,.slice false (a0.Pairs.map bA.d)),(25,.int .i64 (a0.Pairs.length : Int)),(26,.int .i64 z.2.2)],[(0,.blk 148 (tv6 a0)),(23,.tail 3 (eInt .i64).sz z.2.1.length)]⟩) (fun z=>eD a0 z.1 z.2.1 z.2.2 = some r) (fun z=>z.1) (fuel,v9,0) (fun i=>i) ⟨(.sames rfl rfl),(.cons (.blk rfl rfl rfl) (.cons (.tail rfl) .nil)),bS [0,23] rfl (by decide),fun _ _=>rfl⟩ ?_ ?_
    ·exact h
    ·
     rintro ⟨n1,v30,v31⟩ h
     cases n1 with
     | zero=>exact absurd h (by unfold eD; exact nofun)
     | succ n1 =>
      unfold eD at h
      obtain ⟨x37,hx37,h⟩:=bE h
      refine aC (cCm rfl hx37 <|aB ?_)
      refine aK <| aH h rfl (fun h=>?_) (fun h=>?_)
      ·
       refine aJ <| aE <| aK <| aU ?_
       obtain ⟨x39,hx39,h⟩:=bT h
       refine aC (aA rfl (cW bA (cs:=q52) rfl rfl (lb rfl) pS oS (svL rfl) (svI rfl) hx39 rfl rfl) <|aA rfl (fD (cs:=q52) rfl rfl (lb rfl) uA aD7 oS (by decide) (sv (d:=.fptr q52) rfl) (nle rfl) rfl) <|aA rfl (aZ (cs:=q52) (cs':=[.int .i64 0,.int .i64 0]) 24 rfl rfl (lb rfl) rfl oS rfl rfl (.all _)) <|cSt q52 q52 oS rfl <|aB ?_)
       obtain ⟨x40,hx40,h⟩:=bT h
       refine aR (cMv (.gsl _ _ _) rfl <|cFa 0 uA rfl ti3 rfl <|cLd (d:=.int _ _) un3 ag3 ti3 rfl <|cFa 1 uA rfl ti3 rfl <|cLd (d:=.int _ _) un3 ag3 ti3 rfl <|aA rfl (mM (eInt .i64) ([x39.ID,x39.Value] : (List Int)) 25 rfl rfl (lb rfl) un72 ti3 rfl (.cons (svI rfl) (.cons (svI rfl) .nil)) rfl rfl (by decide)) <|aA rfl (oK (eInt .i64) 26 rfl rfl (lb rfl) un72 ti3 rfl rfl rfl rfl (svg rfl) hx40) <|cAs (.gsl _ _ _) rfl <|bK ?_)
       refine bM <| aE ?_
       obtain ⟨x41,hx41,h⟩:=bE h
       refine aR (aA rfl (bB rfl rfl (lb rfl) (svI rfl) (sv (d:=.int _ 1) rfl) rfl hx41) <|cI rfl <|bK ?_)
       refine aE ⟨(n1,x40,x41),(fun i=>if i = 23 then 26 else i),⟨(.sames rfl rfl),(.cons (.blk rfl rfl rfl) (.cons (.tail rfl) .nil)),bS [0,26] rfl (by decide),(fun i hi=>by first | rfl | (show (if _ then _ else _) = _; (repeat' split) <;> omega))⟩,?_,?_⟩
       exact h
       exact Nat.lt_succ_self _
      ·
       refine cC <| aW <| aW <| cD <| aE ?_
       obtain ⟨x42,hx42,h⟩:=bT h
       refine aC (cMv (.gsl _ _ _) rfl <|aA rfl (aL (r:=.tuple q50) rfl rfl (lb rfl) cl119 (.cons (svg rfl) .nil) rfl (aAz _ _ hx42)) <|cMv (.tuple q50) rfl <|cEx (d:=.slice _ _) (cs:=q50) rfl <|cEx (d:=.int _ _) (cs:=q50) rfl <|aA rfl (bV rfl rfl (lb rfl) (svL rfl)) <|cAI rfl <|aB ?_)
       obtain ⟨x43,hx43,h⟩:=bT h
       refine aC (aA rfl (mvL rfl rfl rfl rfl) <|aA rfl (qY (l:=x42.1) rfl rfl (lb rfl) un71 un5 un9 (svL rfl)) <|cFa 9 dW rfl ti9 rfl <|cLd (d:=.str _) un9 ag9 ti9 rfl <|aA rfl (oJ rfl rfl (lb rfl) (sv (d:=.str _) rfl) (sv (d:=.str _) rfl) hx43) <|cAs (.str _) rfl <|aB ?_)
       refine aI ?_
       obtain rfl:=Option.some.inj h
       refine ⟨.inr rfl,(.cons (sv rfl) .nil)⟩

theorem pG (a0 : (List UInt8)) (r : (List UInt8)) (h : eX a0 = some r) : FnH Tryz.prog 121 [.slice false (a0.map gI.d)] [] (.osl 0 gI.sz r.length) [(0,.blk 5 (D.flat (r.map gI.d)))]:=by
 refine iZ (rs:=[.osl 0 gI.sz r.length]) Tryz.func121 rfl Tryz.ntmps121 (nle rfl) fun O hO=>?_
 show IWP _ _ _ _ ⟨[(0,.slice false (a0.map gI.d))],[]⟩ _
 unfold eX at h
 refine aC (cAs (.nils) rfl <|aB ?_)
 refine aK <| aC (aA rfl (mvL rfl rfl rfl rfl) <|aAB rfl rfl rfl (by decide) un71 (svL rfl) rfl <| fun bn1 hbn1 =>
  aB ?_)
 refine gE (b:=_) rfl (fun hc2=>?_) (fun hc2=>?_)
 ·
  replace h:=aCt h (mapE (hbn1 hc2))
  refine aC (cAs (.nils) rfl <|aB ?_)
  refine aI <| aQ ?_
  obtain rfl:=Option.some.inj h
  refine ⟨.inr rfl,(fun i=>if i = 0 then 50 else i),⟨.nil,(.cons (.nilb rfl) .nil),bS [50] rfl (by decide),(fun i hi=>by first | rfl | (show (if _ then _ else _) = _; (repeat' split) <;> omega))⟩,(.cons (svno rfl) .nil),rfl⟩
 ·
  replace h:=aCu h
  refine aJ <| aE ?_
  obtain ⟨x3,hx3,h⟩:=bT h
  refine aC (aA rfl (nF gI.toEnc0 ([] : (List UInt8)) 0 rfl rfl (lb rfl) un71 ti5 rfl .nil rfl rfl (by decide)) <|aA rfl (mvL rfl rfl rfl rfl) <|aA rfl (sW gI.toEnc0 1 rfl rfl (lb rfl) un71 ti5 rfl rfl rfl rfl rfl (aFy gI (ys:=a0) (svL rfl)) hx3) <|cAs (.osl _ _ _) rfl <|aB ?_)
  refine aI ?_
  obtain rfl:=Option.some.inj h
  refine ⟨.inr rfl,(fun i=>if i = 0 then 1 else i),⟨.nil,(.cons (EntW.lst rfl) .nil),bS [1] rfl (by decide),(fun i hi=>by first | rfl | (show (if _ then _ else _) = _; (repeat' split) <;> omega))⟩,(.cons (sv rfl) .nil),rfl⟩

theorem aA3 (a0 : Int) (a1 : Int) (r : Bool) (h : pE a0 a1 = some r) : bR Tryz.prog 122 [.int .i64 a0,.int .i64 a1] (.bool r):=by
 refine aN (rs:=[.bool r]) Tryz.func122 rfl Tryz.ntmps122 (nle rfl) rfl fun O hO=>?_
 show IWP _ _ _ _ ⟨[(0,.int .i64 a0),(1,.int .i64 a1)],[]⟩ _
 unfold pE at h
 refine aC (cAs (.bool false) rfl <|aB ?_)
 obtain ⟨x1,hx1,x2,hx2,x3,hx3,h⟩:=eddd h
 obtain ⟨x4,hx4,x5,hx5,x6,hx6,h⟩:=eddd h
 obtain ⟨x7,hx7,x8,hx8,x9,hx9,h⟩:=eodd h
 refine aC (cI rfl <|cCm (b:=0) rfl hx1 <|cB rfl <|gG rfl (fun hb=>(tI rfl)) <|gG rfl (fun hb=>(tCg (b:=1) rfl hb hx2)) <|cAn rfl hx3 <|cB rfl <|gG rfl (fun hb=>(tI rfl)) <|gG rfl (fun hb=>(tCg (b:=7) rfl hb hx4)) <|cAn rfl hx5 <|cB rfl <|gG rfl (fun hb=>(tI rfl)) <|gG rfl (fun hb=>(tI rfl)) <|gG rfl (fun hb=>(bB rfl rfl (lb rfl) (sv (d:=.int _ 8) rfl) (svcI rfl hb) rfl hx6)) <|gG rfl (fun hb=>(qX rfl rfl (lb rfl) (svcI rfl hb) (svcI rfl hb) (gd_t hx7 hb))) <|gG rfl (fun hb=>(tCg (b:=0) rfl hb hx8)) <|cAn rfl hx9 <|cAB rfl <|aB ?_)
 refine aI ?_
 obtain rfl:=Option.some.inj h
 refine ⟨.inr rfl,(.cons (sv rfl) .nil)⟩

theorem wY (a0 : (List UInt8)) (a1 : Int) (a2 : Int) (r : (List UInt8)) (h : oR a0 a1 a2 = some r) : bR Tryz.prog 101 [.slice false (a0.map gI.d),.int .i64 a1,.int .i64 a2] (.slice false (r.map gI.d)):=by
 refine lQ (rs:=[.slice false (r.map gI.d)]) Tryz.func101 rfl Tryz.ntmps101 (nle rfl) rfl fun O hO=>?_
 show IWP _ _ _ _ ⟨[(0,.slice false (a0.map gI.d)),(1,.int .i64 a1),(2,.int .i64 a2)],[]⟩ _
 unfold oR at h
 refine aC (cAs (.nils) rfl <|aB ?_)
 obtain ⟨x1,hx1,h⟩:=bT h
 refine aC (aA rfl (mvL rfl rfl rfl rfl) <|aA rfl (fQ (r':=.osl 0 gI.sz x1.length) (H1':=[(0,.blk 5 (D.flat (x1.map gI.d)))]) 0 [] rfl rfl (lb rfl) cl121 (.cons (svL rfl) .nil) rfl rfl ⟨rfl,rfl,by decide,rfl,List.forall_mem_nil _⟩ (pG _ _ hx1) rfl rfl (List.forall_mem_cons.2 ⟨⟨rfl,(aDF gI)⟩,List.forall_mem_nil _⟩) (by simp only [List.map_cons,List.map_nil,Ent.ren,iV,jL]; rfl)) <|cAs (.osl _ _ _) rfl <|aB ?_)
 refine aK ?_
 obtain ⟨x2,hx2,h⟩:=bT h
 refine aC (cI rfl <|cI rfl <|aA rfl (aL (r:=.bool _) rfl rfl (lb rfl) cl122 (.cons (svI rfl) (.cons (svI rfl) .nil)) rfl (aA3 _ _ _ hx2)) <|aA rfl (dJ rfl rfl (lb rfl) (svB rfl)) <|aB ?_)
 refine aH h rfl (fun h=>?_) (fun h=>?_)
 ·
  refine aC (cMv (.osl _ _ _) rfl <|cAs (.osl _ _ _) rfl <|aB ?_)
  refine aI <| aQ ?_
  obtain rfl:=Option.some.inj h
  refine ⟨.inr rfl,_,(.cons (sv rfl) .nil),(.cons (FDT gI rfl rfl) .nil)⟩
 ·
  refine aJ <| aE <| aK <| aC (cI rfl <|cMv (.int _ 0) rfl <|aB ?_)
  refine aU <| cP (α:=Nat × (List UInt8) × Int) (fun z=>⟨[(1,.int .i64 a1),(2,.int .i64 a2),(7,.osl 0 gI.sz z.2.1.length),(16,.int .i64 a2),(17,.int .i64 z.2.2)],[(0,.blk 5 (D.flat (z.2.1.map gI.d)))]⟩) (fun z=>kW a1 a2 z.1 z.2.1 z.2.2 = some r) (fun z=>z.1) (fuel,x1,0) (fun i=>i) ⟨(.sames rfl rfl),(.cons (EntW.lst rfl) .nil),bS [0] rfl (by decide),fun _ _=>rfl⟩ ?_ ?_
  ·exact h
  ·
   rintro ⟨n0,v14,v15⟩ h
   cases n0 with
   | zero=>exact absurd h (by unfold kW; exact nofun)
   | succ n0 =>
    unfold kW at h
    obtain ⟨x26,hx26,h⟩:=bE h
    refine aC (cCm rfl hx26 <|aB ?_)
    refine aK <| aH h rfl (fun h=>?_) (fun h=>?_)
    ·
     refine aJ <| aE <| aK <| aU <| aC (cI rfl <|cAI rfl <|aB ?_)
     obtain ⟨x28,hx28,x29,hx29,x30,hx30,h⟩:=eddd h
     obtain ⟨x31,hx31,x32,hx32,x33,hx33,h⟩:=eodo h
     obtain ⟨x34,hx34,h⟩:=bT h
     refine aR (cMv (.osl _ _ _) rfl <|cI rfl <|cI rfl <|aA rfl (bB rfl rfl (lb rfl) (svI rfl) (sv (d:=.int _ 1) rfl) rfl hx28) <|cI rfl <|aA rfl (bB rfl rfl (lb rfl) (svI rfl) (svI rfl) rfl hx29) <|aA rfl (bB rfl rfl (lb rfl) (sv (d:=.int _ 8) rfl) (svI rfl) rfl hx30) <|aA rfl (qX rfl rfl (lb rfl) (svI rfl) (svI rfl) hx31) <|aA rfl (eJ rfl rfl (lb rfl) ⟨_,un3⟩ un5 (svI rfl) hx32) <|aA rfl (nF gI.toEnc0 ([x33] : (List UInt8)) 1 rfl rfl (lb rfl) un71 ti5 rfl (.cons (aEO (svI rfl) (aEH hx33)) .nil) rfl rfl (by decide)) <|aA rfl (sW gI.toEnc0 2 rfl rfl (lb rfl) un71 ti5 rfl rfl rfl rfl rfl (yN gI.toEnc0 rfl rfl rfl) hx34) <|cAs (.osl _ _ _) rfl <|bK ?_)
     refine bM <| aE ?_
     obtain ⟨x35,hx35,h⟩:=bE h
     refine aR (aA rfl (bB rfl rfl (lb rfl) (svI rfl) (sv (d:=.int _ 1) rfl) rfl hx35) <|cI rfl <|bK ?_)
     refine aE ⟨(n0,x34,x35),(fun i=>if i = 0 then 2 else i),⟨(.sames rfl rfl),(.cons (EntW.lst rfl) .nil),bS [2] rfl (by decide),(fun i hi=>by first | rfl | (show (if _ then _ else _) = _; (repeat' split) <;> omega))⟩,?_,?_⟩
     exact h
     exact Nat.lt_succ_self _
    ·
     refine cC <| aW <| aW <| cD <| aE <| aC (cMv (.osl _ _ _) rfl <|cAs (.osl _ _ _) rfl <|aB ?_)
     refine aI ?_
     obtain rfl:=Option.some.inj h
     refine ⟨.inr rfl,_,(.cons (sv rfl) .nil),(.cons (FDT gI rfl rfl) .nil)⟩

theorem aCf (a0 : aD) (r : ((List UInt8) × Int)) (h : sF a0 = some r) : bR Tryz.prog 80 [.agg (tv6 a0)] (retD [.str r.1,.int .i64 r.2]):=by
 refine aN (rs:=[.str r.1,.int .i64 r.2]) Tryz.func80 rfl Tryz.ntmps80 (nle rfl) rfl fun O hO=>?_
 show IWP _ _ _ _ ⟨[(0,.agg (tv6 a0))],[]⟩ _
 unfold sF at h
 refine aC (cBx (cs:=q31) q31 0 rfl <|cAs (.str []) rfl <|cAs (.int _ 0) rfl <|aB ?_)
 refine aK ?_
 obtain ⟨x1,hx1,h⟩:=bT h
 refine aC (cLr q31 lE rfl <|aA rfl (aL (r:=.int _ _) rfl rfl (lb rfl) cl98 (.cons (svA q31 rfl) .nil) rfl (uZ _ _ hx1)) <|cAI rfl <|aB ?_)
 obtain ⟨x2,hx2,h⟩:=bE h
 refine aC (cI rfl <|cCm (b:=0) rfl hx2 <|aB ?_)
 refine aH h rfl (fun h=>?_) (fun h=>?_)
 ·
  refine aC (cI rfl <|cAs (.str []) rfl <|cAI rfl <|aB ?_)
  refine aI <| aQ ?_
  obtain rfl:=Option.some.inj h
  refine ⟨.inr rfl,(.cons (sv rfl) (.cons (sv rfl) .nil))⟩
 ·
  refine aJ <| aE <| aC (cAs (.int _ 0) rfl <|aB ?_)
  refine iT (α:=Int) (fun z=>⟨[(1,.ref 0 0),(5,.int .i64 z)],[(0,.blk 148 (tv6 a0))]⟩) (fun z=>lU a0 z = some r) ?_ ?_
  ·
   refine aC (cFa 1 dW rfl ti4 rfl <|cLd (d:=.bool _) un4 ag4 ti4 rfl <|aB ?_)
   refine aH h rfl (fun h=>?_) (fun h=>?_)
   ·
    refine aR (cAs (.int _ 1) rfl <|bK ?_)
    refine aE ⟨1,(fun i=>i),⟨(.sames rfl rfl),(.cons (.blk rfl rfl rfl) .nil),bS [0] rfl (by decide),fun _ _=>rfl⟩,?_⟩
    exact h
   ·
    refine aJ <| aE ⟨0,(fun i=>i),⟨(.sames rfl rfl),(.cons (.blk rfl rfl rfl) .nil),bS [0] rfl (by decide),fun _ _=>rfl⟩,?_⟩
    exact h
  ·
   rintro v5 h
   unfold lU at h
   obtain ⟨x6,hx6,h⟩:=bT h
   refine aC (cLr q31 lE rfl <|aA rfl (aL (r:=.str _) rfl rfl (lb rfl) cl99 (.cons (svA q31 rfl) .nil) rfl (rZ _ _ hx6)) <|cAs (.str _) rfl <|aB ?_)
   obtain ⟨x7,hx7,h⟩:=bT h
   refine aC (cMv (.str _) rfl <|aA rfl (cQ rfl rfl (lb rfl) un9 (sv (d:=.str _) rfl) rfl) <|aA rfl (aL (r:=.tuple q50) rfl rfl (lb rfl) cl100 (.cons (svI rfl) .nil) rfl (wV _ _ hx7)) <|cMv (.tuple q50) rfl <|cEx (d:=.slice _ _) (cs:=q50) rfl <|cEx (d:=.int _ _) (cs:=q50) rfl <|aA rfl (bV rfl rfl (lb rfl) (svL rfl)) <|cAI rfl <|aB ?_)
   refine aK ?_
   obtain ⟨x8,hx8,h⟩:=bE h
   refine aC (cI rfl <|cCm (b:=0) rfl hx8 <|aB ?_)
   refine aH h rfl (fun h=>?_) (fun h=>?_)
   ·
    refine aC (cI rfl <|cAs (.str []) rfl <|cAI rfl <|aB ?_)
    refine aI <| aQ ?_
    obtain rfl:=Option.some.inj h
    refine ⟨.inr rfl,(.cons (sv rfl) (.cons (sv rfl) .nil))⟩
   ·
    refine aJ <| aE ?_
    obtain ⟨x10,hx10,x11,hx11,x12,hx12,h⟩:=edoo h
    refine aC (cFa 0 dW rfl ti5 rfl <|cLd (d:=.int _ _) un5 ag5 ti5 rfl <|aA rfl (eJ rfl rfl (lb rfl) ⟨_,un5⟩ un3 (svI rfl) hx10) <|aA rfl (aL (r:=.slice _ _) rfl rfl (lb rfl) cl101 (.cons (svn rfl) (.cons (svI rfl) (.cons (sv (d:=.int _ 1) rfl) .nil))) rfl (wY _ _ _ _ hx11)) <|cI rfl <|aA rfl (aL (r:=.slice _ _) rfl rfl (lb rfl) cl101 (.cons (svL rfl) (.cons (svI rfl) (.cons (sv (d:=.int _ 1) rfl) .nil))) rfl (wY _ _ _ _ hx12)) <|aA rfl (bV rfl rfl (lb rfl) (svL rfl)) <|aB ?_)
    obtain ⟨x13,hx13,x14,hx14,h⟩:=eoo h
    refine aC (aA rfl (mvL rfl rfl rfl rfl) <|aA rfl (qY (l:=x12) rfl rfl (lb rfl) un71 un5 un9 (svL rfl)) <|aA rfl (mvL rfl rfl rfl rfl) <|aA rfl (qY (l:=x7.1) rfl rfl (lb rfl) un71 un5 un9 (svL rfl)) <|aA rfl (oJ rfl rfl (lb rfl) (sv (d:=.str _) rfl) (sv (d:=.str _) rfl) hx13) <|cMv (.str _) rfl <|aA rfl (oJ rfl rfl (lb rfl) (sv (d:=.str _) rfl) (sv (d:=.str _) rfl) hx14) <|cAs (.str _) rfl <|cAs (.int _ 0) rfl <|aB ?_)
    refine aI ?_
    obtain rfl:=Option.some.inj h
    refine ⟨.inr rfl,(.cons (sv rfl) (.cons (sv rfl) .nil))⟩

theorem zD (a0 : cJ) (r : Int) (h : pX a0 = some r) : bR Tryz.prog 81 [.agg (tv7 a0)] (.int .i64 r):=by
 refine aN (rs:=[.int .i64 r]) Tryz.func81 rfl Tryz.ntmps81 (nle rfl) rfl fun O hO=>?_
 show IWP _ _ _ _ ⟨[(0,.agg (tv7 a0))],[]⟩ _
 unfold pX at h
 refine aC (cBx (cs:=q34) q34 0 rfl <|cAs (.int _ 0) rfl <|aB ?_)
 refine aK <| aC (cFa 5 un87 rfl ti4 rfl <|cLd (d:=.bool _) un4 ag4 ti4 rfl <|aB ?_)
 refine aH h rfl (fun h=>?_) (fun h=>?_)
 ·
  refine aC (cAs (.int _ 0) rfl <|aB ?_)
  refine aI <| aQ ?_
  obtain rfl:=Option.some.inj h
  refine ⟨.inr rfl,(.cons (sv rfl) .nil)⟩
 ·
  refine aJ <| aE ?_
  obtain ⟨x2,hx2,h⟩:=bE h
  refine aC (cFa 1 un87 rfl ti9 rfl <|cLd (d:=.str _) un9 ag9 ti9 rfl <|aA rfl (cQ rfl rfl (lb rfl) un9 (sv (d:=.str _) rfl) rfl) <|aA rfl (bB rfl rfl (lb rfl) (sv (d:=.int _ 4096) rfl) (svI rfl) rfl hx2) <|cAI rfl <|aB ?_)
  refine aI ?_
  obtain rfl:=Option.some.inj h
  refine ⟨.inr rfl,(.cons (sv rfl) .nil)⟩

theorem lN (a0 : (List aG)) (r : (List aG)) (h : dP a0 = some r) : bR Tryz.prog 123 [.slice false (a0.map aF.d)] (.slice false (r.map aF.d)):=by
 refine aN (rs:=[.slice false (r.map aF.d)]) Tryz.func123 rfl Tryz.ntmps123 (nle rfl) rfl fun O hO=>?_
 show IWP _ _ _ _ ⟨[(0,.slice false (a0.map aF.d))],[]⟩ _
 unfold dP at h
 refine aC (cAs (.nils) rfl <|aB ?_)
 refine aK <| aC (aA rfl (mvL rfl rfl rfl rfl) <|aAB rfl rfl rfl (by decide) un85 (svL rfl) rfl <| fun bn1 hbn1 =>
  aB ?_)
 refine gE (b:=_) rfl (fun hc2=>?_) (fun hc2=>?_)
 ·
  replace h:=aCt h (mapE (hbn1 hc2))
  refine aC (cAs (.nils) rfl <|aB ?_)
  refine aI <| aQ ?_
  obtain rfl:=Option.some.inj h
  refine ⟨.inr rfl,(.cons (yK rfl rfl) .nil)⟩
 ·
  replace h:=aCu h
  refine aJ <| aE ?_
  obtain ⟨x3,hx3,h⟩:=bT h
  refine aC (aA rfl (mM aF ([] : (List aG)) 0 rfl rfl (lb rfl) un85 jC rfl .nil rfl rfl (by decide)) <|aA rfl (mvL rfl rfl rfl rfl) <|aA rfl (oK aF 1 rfl rfl (lb rfl) un85 jC rfl rfl rfl rfl (svL rfl) hx3) <|cAs (.gsl _ _ _) rfl <|aB ?_)
  refine aI ?_
  obtain rfl:=Option.some.inj h
  refine ⟨.inr rfl,(.cons (yL rfl rfl) .nil)⟩

theorem uV (a0 : cJ) (r : (Int × (List UInt8) × Int × (List bX) × (List aG) × Bool × Bool × Bool × Bool)) (h : jT a0 = some r) : FnH Tryz.prog 102 [.agg (tv7 a0)] [] (.agg (w70 r.1 r.2.1 r.2.2.1 (.osl 0 cS.sz r.2.2.2.1.length) r.2.2.2.2.1 r.2.2.2.2.2.1 r.2.2.2.2.2.2.1 r.2.2.2.2.2.2.2.1 r.2.2.2.2.2.2.2.2)) [(0,.blk 233 (D.flat (r.2.2.2.1.map cS.d)))]:=by
 refine iZ (rs:=[.agg (w70 r.1 r.2.1 r.2.2.1 (.osl 0 cS.sz r.2.2.2.1.length) r.2.2.2.2.1 r.2.2.2.2.2.1 r.2.2.2.2.2.2.1 r.2.2.2.2.2.2.2.1 r.2.2.2.2.2.2.2.2)]) Tryz.func102 rfl Tryz.ntmps102 (nle rfl) fun O hO=>?_
 show IWP _ _ _ _ ⟨[(0,.agg (tv7 a0))],[]⟩ _
 unfold jT at h
 refine aC (cBx (cs:=q34) q34 0 rfl <|aA rfl (aZ (cs:=q38) (cs':=zs1) 1 rfl rfl (lb rfl) rfl ti87 rfl rfl (.k (.k (.k (.cons (.nils _) (.cons (.nils _) (.all _))))))) <|aB ?_)
 obtain ⟨x1,hx1,h⟩:=bT h
 refine aC (cFa 3 un87 rfl ti83 rfl <|aA rfl (lrL la83 rfl rfl rfl rfl rfl (nle rfl) rfl) <|aA rfl (dD cS (l:=a0.Pieces) rfl rfl (lb rfl) un83 (svL rfl)) <|aA rfl (zU cS.toEnc0 ((⟨0,0,0,false⟩ : bX) : bX) 2 rfl rfl (lb rfl) un83 vV rfl rfl (svI rfl) hx1 (.all _)) <|cAs (.osl _ _ _) rfl <|aB ?_)
 obtain ⟨x2,hx2,h⟩:=bE h
 refine aC (cMv (.osl _ _ _) rfl <|cFa 3 un87 rfl ti83 rfl <|aA rfl (lrL la83 rfl rfl rfl rfl rfl (nle rfl) rfl) <|aA rfl (aFD cS.toEnc0 rfl rfl (lb rfl) un83 vV rfl rfl rfl (aFy cS (ys:=a0.Pieces) (svL rfl)) hx2) <|aB ?_)
 refine aC (cMv (.osl _ _ _) rfl <|cFa 3 un87 rfl ti83 rfl <|aA rfl (cH (ds':=q35) rfl rfl ti83 (svR rfl) rfl (sv (d:=.osl _ _ _) rfl) rfl rfl rfl (nle rfl) rfl) <|aB ?_)
 obtain ⟨x3,hx3,h⟩:=bT h
 refine aC (cFa 4 un87 rfl ti85 rfl <|aA rfl (lrL la85 rfl rfl rfl rfl rfl (nle rfl) rfl) <|aA rfl (aL (r:=.slice _ _) rfl rfl (lb rfl) cl123 (.cons (svL rfl) .nil) rfl (lN _ _ hx3)) <|cFa 4 un87 rfl ti85 rfl <|aA rfl (cH (ds':=q35) rfl rfl ti85 (svR rfl) rfl (svL rfl) rfl rfl rfl (nle rfl) rfl) <|aB ?_)
 refine aC (cLr q35 la87 rfl <|cSt q35 q35 ti87 rfl <|aB ?_)
 refine aI ?_
 obtain rfl:=Option.some.inj h
 refine ⟨.inr rfl,(fun i=>if i = 0 then 2 else i),⟨.nil,(.cons (EntW.lst rfl) .nil),bS [2] rfl (by decide),(fun i hi=>by first | rfl | (show (if _ then _ else _) = _; (repeat' split) <;> omega))⟩,(.cons (rva la87 rfl rfl (nle rfl) (by rw [← (aGe hx2 rfl)]; rfl)) .nil),rfl⟩

theorem aBm (a0 : cJ) (a1 : (List UInt8)) (r : (cJ × Int)) (h : pW a0 a1 = some r) : bR Tryz.prog 82 [.agg (tv7 a0),.str a1] (retD [.agg (tv7 r.1),.int .i64 r.2]):=by
 refine lQ (rs:=[.agg (tv7 r.1),.int .i64 r.2]) Tryz.func82 rfl Tryz.ntmps82 (nle rfl) rfl fun O hO=>?_
 show IWP _ _ _ _ ⟨[(0,.agg (tv7 a0)),(1,.str a1)],[]⟩ _
 unfold pW at h
 refine aC (cBx (cs:=q34) q34 0 rfl <|aA rfl (aZ (cs:=q38) (cs':=zs1) 1 rfl rfl (lb rfl) rfl ti87 rfl rfl (.k (.k (.k (.cons (.nils _) (.cons (.nils _) (.all _))))))) <|cAs (.int _ 0) rfl <|aB ?_)
 obtain ⟨x1,hx1,h⟩:=bT h
 refine aC (cLr q34 la87 rfl <|aA rfl (fQ (r':=.agg (w70 x1.1 x1.2.1 x1.2.2.1 (.osl 2 cS.sz x1.2.2.2.1.length) x1.2.2.2.2.1 x1.2.2.2.2.2.1 x1.2.2.2.2.2.2.1 x1.2.2.2.2.2.2.2.1 x1.2.2.2.2.2.2.2.2)) (H1':=[(2,.blk 233 (D.flat (x1.2.2.2.1.map cS.d)))]) 2 [] rfl rfl (lb rfl) cl102 (.cons (svA q34 rfl) .nil) rfl rfl ⟨rfl,rfl,by decide,rfl,List.forall_mem_nil _⟩ (uV _ _ hx1) rfl rfl (List.forall_mem_cons.2 ⟨⟨rfl,(aDF cS)⟩,List.forall_mem_nil _⟩) (by simp only [List.map_cons,List.map_nil,Ent.ren,iV,jL]; rfl)) <|aA rfl (aZ (cs:=q38) (cs':=zs1) 3 rfl rfl (lb rfl) rfl ti87 rfl rfl (.k (.k (.k (.cons (.nils _) (.cons (.nils _) (.all _))))))) <|cSt q35 q35 ti87 rfl <|aB ?_)
 refine aK ?_
 obtain ⟨x2,hx2,x3,hx3,h⟩:=eod h
 refine aC (cLr q34 la87 rfl <|aA rfl (aL (r:=.int _ _) rfl rfl (lb rfl) cl95 (.cons (svA q34 rfl) .nil) rfl (wX _ _ hx2)) <|cCm (b:=0) rfl hx3 <|aB ?_)
 refine aH h rfl (fun h=>?_) (fun h=>?_)
 ·
  refine aC (cLr q35 la87 rfl <|cSt q35 q35 ti87 rfl <|cAs (.int _ 0) rfl <|aB ?_)
  refine aI <| aQ ?_
  obtain rfl:=Option.some.inj h
  refine ⟨.inr rfl,_,(.cons (rva la87 rfl rfl (nle rfl) rfl) (.cons (sv rfl) .nil)),(.cons (.agg (.k (.k (.k (.cons (FDT cS rfl rfl) (.all _)))))) (.all _))⟩
 ·
  refine aJ <| aE ?_
  obtain ⟨x5,hx5,x6,hx6,h⟩:=eod h
  refine aC (cLr q34 la87 rfl <|aA rfl (aL (r:=.int _ _) rfl rfl (lb rfl) cl81 (.cons (svA q34 rfl) .nil) rfl (zD _ _ hx5)) <|cMv (.str _) rfl <|aA rfl (cQ rfl rfl (lb rfl) un9 (sv (d:=.str _) rfl) rfl) <|aA rfl (sT rfl rfl (lb rfl) (svI rfl) (svI rfl) hx6) <|cAI rfl <|aB ?_)
  refine aK ?_
  obtain ⟨x7,hx7,x8,hx8,x9,hx9,h⟩:=eodd h
  refine aC (cLr q34 la87 rfl <|aA rfl (aL (r:=.int _ _) rfl rfl (lb rfl) cl103 (.cons (svA q34 rfl) .nil) rfl (oB _ _ hx7)) <|cI rfl <|aA rfl (bB rfl rfl (lb rfl) (sv (d:=.int _ 1099511623680) rfl) (svI rfl) rfl hx8) <|cCm rfl hx9 <|aB ?_)
  refine aH h rfl (fun h=>?_) (fun h=>?_)
  ·
   refine aC (cLr q35 la87 rfl <|cSt q35 q35 ti87 rfl <|cAs (.int _ 0) rfl <|aB ?_)
   refine aI <| aQ ?_
   obtain rfl:=Option.some.inj h
   refine ⟨.inr rfl,_,(.cons (rva la87 rfl rfl (nle rfl) rfl) (.cons (sv rfl) .nil)),(.cons (.agg (.k (.k (.k (.cons (FDT cS rfl rfl) (.all _)))))) (.all _))⟩
  ·
   refine aJ <| aE ?_
   obtain ⟨x11,hx11,x12,hx12,h⟩:=eoo h
   refine eI rfl [nd1 [6] 25 (.ref 3 1),nd2 [25] [3] 26 (.str x1.2.1),nd1 [1] 27 (.str a1),nd1 [7] 28 (.int .i64 x6),nd1 [27,28] 29 (.str x11),nd1 [26,29] 30 (.str x12),nd1 [6] 31 (.ref 3 1),⟨[30,31],[3],[],[(3,.blk 87 (w70 x1.1 x12 x1.2.2.1 (.osl 2 cS.sz x1.2.2.2.1.length) x1.2.2.2.2.1 x1.2.2.2.2.2.1 x1.2.2.2.2.2.2.1 x1.2.2.2.2.2.2.2.1 x1.2.2.2.2.2.2.2.2))]⟩] rfl ?_ (by kernel_rfl) ?_
   ·refine .cons (dFa 1 un87 rfl ti9 rfl) <| .cons (dLd un9 ag9 ti9 rfl) <| .cons (lop rfl rfl fun S hA=>(dR rfl rfl (lb rfl) (sv (d:=.str _) (agr hA rfl rfl)))) <| .cons (dMv rfl) <| .cons (lop rfl rfl fun S hA=>(mL rfl rfl (lb rfl) un9 (sv (d:=.str _) (agr hA rfl rfl)) rfl ⟨_,(svaI hA rfl rfl)⟩ hx11)) <| .cons (lop rfl rfl fun S hA=>(oJ rfl rfl (lb rfl) (sv (d:=.str _) (agr hA rfl rfl)) (sv (d:=.str _) (agr hA rfl rfl)) hx12)) <| .cons (dFa 1 un87 rfl ti9 rfl) <| .cons (lop rfl rfl fun S hA=>(cH (ds':=q35) rfl rfl ti9 (svaR hA rfl rfl) (agi hA rfl rfl) (sv (d:=.str _) (agr hA rfl rfl)) rfl rfl rfl (nle rfl) rfl)) ?_
    exact .nil
   refine aC (cLr q35 la87 rfl <|cI rfl <|cSt q35 q35 ti87 rfl <|cAI rfl <|aB ?_)
   refine aI ?_
   obtain rfl:=Option.some.inj h
   refine ⟨.inr rfl,_,(.cons (rva la87 rfl rfl (nle rfl) rfl) (.cons (sv rfl) .nil)),(.cons (.agg (.k (.k (.k (.cons (FDT cS rfl rfl) (.all _)))))) (.all _))⟩

theorem tL (a0 : dM) (a1 : aD) (r : (dM × Int)) (h : gP a0 a1 = some r) : bR Tryz.prog 64 [.agg (tv3 a0),.agg (tv6 a1)] (retD [.agg (tv3 r.1),.int .i64 r.2]):=by
 refine aN (rs:=[.agg (tv3 r.1),.int .i64 r.2]) Tryz.func64 rfl Tryz.ntmps64 (nle rfl) rfl fun O hO=>?_
 show IWP _ _ _ _ ⟨[(0,.agg (tv3 a0)),(1,.agg (tv6 a1))],[]⟩ _
 unfold gP at h
 refine aC (cBx (cs:=q27) q27 0 rfl <|cBx (cs:=q31) q31 1 rfl <|aA rfl (aZ (cs:=q29) (cs':=zs2) 2 rfl rfl (lb rfl) rfl ti96 rfl rfl (.k (.k (.k (.cons (.nils _) (.cons (.nils _) (.k4 (.k (.k (.cons (.nils _) (.all _))))))))))) <|cAs (.int _ 0) rfl <|aB ?_)
 refine aK ?_
 obtain ⟨x1,hx1,h⟩:=bT h
 refine aC (cLr q27 la96 rfl <|aA rfl (aL (r:=.int _ _) rfl rfl (lb rfl) cl78 (.cons (svA q27 rfl) .nil) rfl (zM _ _ hx1)) <|cAI rfl <|aB ?_)
 obtain ⟨x2,hx2,h⟩:=bE h
 refine aC (cI rfl <|cCm (b:=0) rfl hx2 <|aB ?_)
 refine aH h rfl (fun h=>?_) (fun h=>?_)
 ·
  refine aC (cLr q27 la96 rfl <|cI rfl <|cSt q27 q27 ti96 rfl <|cAI rfl <|aB ?_)
  refine aI <| aQ ?_
  obtain rfl:=Option.some.inj h
  refine ⟨.inr rfl,(.cons (rva la96 rfl rfl (nle rfl) rfl) (.cons (sv rfl) .nil))⟩
 ·
  refine aJ <| aE <| aK ?_
  obtain ⟨x4,hx4,h⟩:=bT h
  refine aC (cFa 0 dW rfl ti5 rfl <|cLd (d:=.int _ _) un5 ag5 ti5 rfl <|aA rfl (aL (r:=.bool _) rfl rfl (lb rfl) cl79 (.cons (svI rfl) .nil) rfl (zE _ _ hx4)) <|aA rfl (dJ rfl rfl (lb rfl) (svB rfl)) <|aB ?_)
  refine aH h rfl (fun h=>?_) (fun h=>?_)
  ·
   refine aC (cLr q27 la96 rfl <|cSt q27 q27 ti96 rfl <|cAs (.int _ 12) rfl <|aB ?_)
   refine aI <| aQ ?_
   obtain rfl:=Option.some.inj h
   refine ⟨.inr rfl,(.cons (rva la96 rfl rfl (nle rfl) rfl) (.cons (sv rfl) .nil))⟩
  ·
   refine aJ <| aE ?_
   obtain ⟨x6,hx6,h⟩:=bT h
   refine aC (cLr q31 lE rfl <|aA rfl (aL (r:=.tuple q53) rfl rfl (lb rfl) cl80 (.cons (svA q31 rfl) .nil) rfl (aCf _ _ hx6)) <|cMv (.tuple q53) rfl <|cEx (d:=.str _) (cs:=q53) rfl <|cEx (d:=.int _ _) (cs:=q53) rfl <|cAs (.str _) rfl <|cAI rfl <|aB ?_)
   refine aK <| aU ?_
   obtain ⟨x7,hx7,h⟩:=bE h
   refine aC (cI rfl <|cCm (b:=0) rfl hx7 <|cAB rfl <|aB ?_)
   refine aH h rfl (fun h=>?_) (fun h=>?_)
   ·
    refine aC (cLr q27 la96 rfl <|cI rfl <|cSt q27 q27 ti96 rfl <|cAI rfl <|aB ?_)
    refine aI <| bJ <| aQ ?_
    obtain rfl:=Option.some.inj h
    refine ⟨.inr rfl,(.cons (rva la96 rfl rfl (nle rfl) rfl) (.cons (sv rfl) .nil))⟩
   ·
    obtain ⟨x9,hx9,x10,hx10,h⟩:=eod h
    refine aC (cFa 0 un96 rfl ti87 rfl <|cLr q34 la87 rfl <|aA rfl (aL (r:=.int _ _) rfl rfl (lb rfl) cl81 (.cons (svA q34 rfl) .nil) rfl (zD _ _ hx9)) <|cMv (.str _) rfl <|aA rfl (cQ rfl rfl (lb rfl) un9 (sv (d:=.str _) rfl) rfl) <|cCm rfl hx10 <|cAB rfl <|aB ?_)
    refine aH h rfl (fun h=>?_) (fun h=>?_)
    ·
     refine aC (cLr q27 la96 rfl <|cSt q27 q27 ti96 rfl <|cAs (.int _ 7) rfl <|aB ?_)
     refine aI <| bJ <| aQ ?_
     obtain rfl:=Option.some.inj h
     refine ⟨.inr rfl,(.cons (rva la96 rfl rfl (nle rfl) rfl) (.cons (sv rfl) .nil))⟩
    ·
     refine aJ <| bM <| aE ?_
     obtain ⟨x12,hx12,h⟩:=bT h
     refine aC (cFa 0 un96 rfl ti87 rfl <|cLr q34 la87 rfl <|cMv (.str _) rfl <|aA rfl (aL (r:=.tuple [.agg q34,.int _ _]) rfl rfl (lb rfl) cl82 (.cons (svA q34 rfl) (.cons (sv (d:=.str _) rfl) .nil)) rfl (aBm _ _ _ hx12)) <|cMv (.tuple [.agg q34,.int _ _]) rfl <|aA rfl (dL (d:=.agg q34) rfl rfl (lb rfl) (sv (d:=.tuple [.agg q34,.int _ _]) rfl) rfl) <|aA rfl (dL (d:=.int _ _) rfl rfl (lb rfl) (sv (d:=.tuple [.agg q34,.int _ _]) rfl) rfl) <|aA rfl (aZ (cs:=q38) (cs':=zs1) 3 rfl rfl (lb rfl) rfl ti87 rfl rfl (.k (.k (.k (.cons (.nils _) (.cons (.nils _) (.all _))))))) <|cSt q34 q34 ti87 rfl <|cAI rfl <|aB ?_)
     refine aK ?_
     obtain ⟨x13,hx13,h⟩:=bE h
     refine aC (cI rfl <|cMv (.str _) rfl <|aA rfl (cQ rfl rfl (lb rfl) un9 (sv (d:=.str _) rfl) rfl) <|cCm rfl hx13 <|aB ?_)
     refine aH h rfl (fun h=>?_) (fun h=>?_)
     ·
      refine aC (cLr q27 la96 rfl <|cSt q27 q27 ti96 rfl <|cAs (.int _ 7) rfl <|aB ?_)
      refine aI <| aQ ?_
      obtain rfl:=Option.some.inj h
      refine ⟨.inr rfl,(.cons (rva la96 rfl rfl (nle rfl) rfl) (.cons (sv rfl) .nil))⟩
     ·
      refine aJ <| aE <| aC (cLr q34 la87 rfl <|cFa 0 un96 rfl ti87 rfl <|cSt q34 q27 ti87 rfl <|aB ?_)
      refine aC (cLr q27 la96 rfl <|cSt q27 q27 ti96 rfl <|cAs (.int _ 0) rfl <|aB ?_)
      refine aI ?_
      obtain rfl:=Option.some.inj h
      refine ⟨.inr rfl,(.cons (rva la96 rfl rfl (nle rfl) rfl) (.cons (sv rfl) .nil))⟩

theorem pY (a0 : aD) (a1 : Int) (a2 : (List UInt8)) (a3 : Int) (a4 : (List bX)) (a5 : (List aG)) (a6 : Bool) (a7 : Bool) (a8 : Bool) (a9 : Bool) (a10 : Int) (a11 : (List UInt8)) (a12 : (List cE)) (a13 : Int) (a14 : (List UInt8)) (a15 : Int) (a16 : Int) (a17 : Bool) (a18 : Int) (a19 : Int) (a20 : (List Int)) (a21 : (List Int)) (a22 : Int) (a23 : Int) (a24 : Int) (a25 : Int) (a26 : (List bU)) (a27 : (List bZ)) (a28 : (List Int)) (a29 : (List bP)) (a30 : Bool) (a31 : Bool) (a32 : Int) (a33 : Int) (a34 : Bool) (a35 : Bool) (a36 : Int) (a37 : Int) (a38 : Bool) (a39 : Bool) (a40 : Int) (a41 : Int) (a42 : Bool) (a43 : Bool) (a44 : Int) (a45 : Int) (a46 : Int) (a47 : (List cR)) (a48 : (List bI)) (a49 : (List UInt8)) (a50 : Int) (a51 : Int) (a52 : (List UInt8)) (a53 : Int) (a54 : Int) (a55 : (List UInt8)) (a56 : Int) (a57 : Int) (a58 : (List UInt8)) (a59 : Int) (a60 : Int) (a61 : Int) (a62 : Int) (a63 : Int) (a64 : Int) (a65 : Int) (a66 : Int) (a67 : Int) (a68 : Int) (a69 : Int) (a70 : Int) (a71 : Int) (a72 : Int) (a73 : Int) (a74 : Int) (a75 : Int) (a76 : Int) (a77 : (List aM)) (a78 : (List bC)) (a79 : (List Int)) (a80 : (List aD)) (a81 : (List aM)) (a82 : (List bD)) (a83 : Int) (a84 : Int) (a85 : Int) (a86 : Int) (a87 : Int) (a88 : Bool) (a89 : Bool) (a90 : Int) (a91 : Int) (a92 : Int) (a93 : Int) (a94 : Int) (a95 : Int) (r : (Int × Int × (List UInt8) × Int × (List bX) × (List aG) × Bool × Bool × Bool × Bool × Int × (List UInt8) × (List cE) × Int × (List UInt8) × Int × Int × Bool × Int × Int × (List Int) × (List Int) × Int × Int × Int × Int × (List bU) × (List bZ) × (List Int) × (List bP) × Bool × Bool × Int × Int × Bool × Bool × Int × Int × Bool × Bool × Int × Int × Bool × Bool × Int × Int × Int × (List cR) × (List bI) × (List UInt8) × Int × Int × (List UInt8) × Int × Int × (List UInt8) × Int × Int × (List UInt8) × Int × Int × Int × Int × Int × Int × Int × Int × Int × Int × Int × Int × Int × Int × Int × Int × Int × Int × (List aM) × (List bC) × (List Int) × (List aD) × (List aM) × (List bD) × Int × Int × Int × Int × Int × Bool × Bool × Int × Int × Int × Int × Int × Int)) (h : jY a0 a1 a2 a3 a4 a5 a6 a7 a8 a9 a10 a11 a12 a13 a14 a15 a16 a17 a18 a19 a20 a21 a22 a23 a24 a25 a26 a27 a28 a29 a30 a31 a32 a33 a34 a35 a36 a37 a38 a39 a40 a41 a42 a43 a44 a45 a46 a47 a48 a49 a50 a51 a52 a53 a54 a55 a56 a57 a58 a59 a60 a61 a62 a63 a64 a65 a66 a67 a68 a69 a70 a71 a72 a73 a74 a75 a76 a77 a78 a79 a80 a81 a82 a83 a84 a85 a86 a87 a88 a89 a90 a91 a92 a93 a94 a95 = some r) : FnH Tryz.prog 53 [.ref 1000 0,.agg (tv6 a0)] [(1000,.blk 132 (mixD aP.toEnc0 (w60 a1 a2 a3 a4 a5 a6 a7 a8 a9 a10 a11 a12 a13 a14 a15 a16 a17 a18 a19 a20 a21 a22 a23 a24 a25 a26 a27 a28 a29 a30 a31 a32 a33 a34 a35 a36 a37 a38 a39 a40 a41 a42 a43 a44 a45 a46 a47) a48 [.str a49,.int .i64 a50,.int .i64 a51,.str a52,.int .i64 a53,.int .i64 a54,.str a55,.int .i64 a56,.int .i64 a57,.str a58,.int .i64 a59,.int .i64 a60,.int .i64 a61,.int .i64 a62,.int .i64 a63,.int .i64 a64,.int .i64 a65,.int .i64 a66,.int .i64 a67,.int .i64 a68,.int .i64 a69,.int .i64 a70,.int .i64 a71,.int .i64 a72,.int .i64 a73,.int .i64 a74,.int .i64 a75,.int .i64 a76,.slice false (a77.map aO.d),.slice false (a78.map bG.d),.slice false (a79.map (eInt .i64).d),.slice false (a80.map bO.d),.slice false (a81.map aO.d),.slice false (a82.map bH.d),.int .i64 a83,.int .i64 a84,.int .i64 a85,.int .i64 a86,.int .i64 a87,.bool a88,.bool a89,.int .i64 a90,.int .i64 a91,.int .i64 a92,.int .i64 a93,.int .i64 a94,.int .u32 a95,.nilp]))] (.int .i64 r.1) [(1000,.blk 132 (mixD aP.toEnc0 (w60 r.2.1 r.2.2.1 r.2.2.2.1 r.2.2.2.2.1 r.2.2.2.2.2.1 r.2.2.2.2.2.2.1 r.2.2.2.2.2.2.2.1 r.2.2.2.2.2.2.2.2.1 r.2.2.2.2.2.2.2.2.2.1 r.2.2.2.2.2.2.2.2.2.2.1 r.2.2.2.2.2.2.2.2.2.2.2.1 r.2.2.2.2.2.2.2.2.2.2.2.2.1 r.2.2.2.2.2.2.2.2.2.2.2.2.2.1 r.2.2.2.2.2.2.2.2.2.2.2.2.2.2.1 r.2.2.2.2.2.2.2.2.2.2.2.2.2.2.2.1 r.2.2.2.2.2.2.2.2.2.2.2.2.2.2.2.2.1 r.2.2.2.2.2.2.2.2.2.2.2.2.2.2.2.2.2.1 r.2.2.2.2.2.2.2.2.2.2.2.2.2.2.2.2.2.2.1 r.2.2.2.2.2.2.2.2.2.2.2.2.2.2.2.2.2.2.2.1 r.2.2.2.2.2.2.2.2.2.2.2.2.2.2.2.2.2.2.2.2.1 r.2.2.2.2.2.2.2.2.2.2.2.2.2.2.2.2.2.2.2.2.2.1 r.2.2.2.2.2.2.2.2.2.2.2.2.2.2.2.2.2.2.2.2.2.2.1 r.2.2.2.2.2.2.2.2.2.2.2.2.2.2.2.2.2.2.2.2.2.2.2.1 r.2.2.2.2.2.2.2.2.2.2.2.2.2.2.2.2.2.2.2.2.2.2.2.2.1 r.2.2.2.2.2.2.2.2.2.2.2.2.2.2.2.2.2.2.2.2.2.2.2.2.2.1 r.2.2.2.2.2.2.2.2.2.2.2.2.2.2.2.2.2.2.2.2.2.2.2.2.2.2.1 r.2.2.2.2.2.2.2.2.2.2.2.2.2.2.2.2.2.2.2.2.2.2.2.2.2.2.2.1 r.2.2.2.2.2.2.2.2.2.2.2.2.2.2.2.2.2.2.2.2.2.2.2.2.2.2.2.2.1 r.2.2.2.2.2.2.2.2.2.2.2.2.2.2.2.2.2.2.2.2.2.2.2.2.2.2.2.2.2.1 r.2.2.2.2.2.2.2.2.2.2.2.2.2.2.2.2.2.2.2.2.2.2.2.2.2.2.2.2.2.2.1 r.2.2.2.2.2.2.2.2.2.2.2.2.2.2.2.2.2.2.2.2.2.2.2.2.2.2.2.2.2.2.2.1 r.2.2.2.2.2.2.2.2.2.2.2.2.2.2.2.2.2.2.2.2.2.2.2.2.2.2.2.2.2.2.2.2.1 r.2.2.2.2.2.2.2.2.2.2.2.2.2.2.2.2.2.2.2.2.2.2.2.2.2.2.2.2.2.2.2.2.2.1 r.2.2.2.2.2.2.2.2.2.2.2.2.2.2.2.2.2.2.2.2.2.2.2.2.2.2.2.2.2.2.2.2.2.2.1 r.2.2.2.2.2.2.2.2.2.2.2.2.2.2.2.2.2.2.2.2.2.2.2.2.2.2.2.2.2.2.2.2.2.2.2.1 r.2.2.2.2.2.2.2.2.2.2.2.2.2.2.2.2.2.2.2.2.2.2.2.2.2.2.2.2.2.2.2.2.2.2.2.2.1 r.2.2.2.2.2.2.2.2.2.2.2.2.2.2.2.2.2.2.2.2.2.2.2.2.2.2.2.2.2.2.2.2.2.2.2.2.2.1 r.2.2.2.2.2.2.2.2.2.2.2.2.2.2.2.2.2.2.2.2.2.2.2.2.2.2.2.2.2.2.2.2.2.2.2.2.2.2.1 r.2.2.2.2.2.2.2.2.2.2.2.2.2.2.2.2.2.2.2.2.2.2.2.2.2.2.2.2.2.2.2.2.2.2.2.2.2.2.2.1 r.2.2.2.2.2.2.2.2.2.2.2.2.2.2.2.2.2.2.2.2.2.2.2.2.2.2.2.2.2.2.2.2.2.2.2.2.2.2.2.2.1 r.2.2.2.2.2.2.2.2.2.2.2.2.2.2.2.2.2.2.2.2.2.2.2.2.2.2.2.2.2.2.2.2.2.2.2.2.2.2.2.2.2.1 r.2.2.2.2.2.2.2.2.2.2.2.2.2.2.2.2.2.2.2.2.2.2.2.2.2.2.2.2.2.2.2.2.2.2.2.2.2.2.2.2.2.2.1 r.2.2.2.2.2.2.2.2.2.2.2.2.2.2.2.2.2.2.2.2.2.2.2.2.2.2.2.2.2.2.2.2.2.2.2.2.2.2.2.2.2.2.2.1 r.2.2.2.2.2.2.2.2.2.2.2.2.2.2.2.2.2.2.2.2.2.2.2.2.2.2.2.2.2.2.2.2.2.2.2.2.2.2.2.2.2.2.2.2.1 r.2.2.2.2.2.2.2.2.2.2.2.2.2.2.2.2.2.2.2.2.2.2.2.2.2.2.2.2.2.2.2.2.2.2.2.2.2.2.2.2.2.2.2.2.2.1 r.2.2.2.2.2.2.2.2.2.2.2.2.2.2.2.2.2.2.2.2.2.2.2.2.2.2.2.2.2.2.2.2.2.2.2.2.2.2.2.2.2.2.2.2.2.2.1 r.2.2.2.2.2.2.2.2.2.2.2.2.2.2.2.2.2.2.2.2.2.2.2.2.2.2.2.2.2.2.2.2.2.2.2.2.2.2.2.2.2.2.2.2.2.2.2.1) r.2.2.2.2.2.2.2.2.2.2.2.2.2.2.2.2.2.2.2.2.2.2.2.2.2.2.2.2.2.2.2.2.2.2.2.2.2.2.2.2.2.2.2.2.2.2.2.2.1 [.str r.2.2.2.2.2.2.2.2.2.2.2.2.2.2.2.2.2.2.2.2.2.2.2.2.2.2.2.2.2.2.2.2.2.2.2.2.2.2.2.2.2.2.2.2.2.2.2.2.2.1,.int .i64 r.2.2.2.2.2.2.2.2.2.2.2.2.2.2.2.2.2.2.2.2.2.2.2.2.2.2.2.2.2.2.2.2.2.2.2.2.2.2.2.2.2.2.2.2.2.2.2.2.2.2.1,.int .i64 r.2.2.2.2.2.2.2.2.2.2.2.2.2.2.2.2.2.2.2.2.2.2.2.2.2.2.2.2.2.2.2.2.2.2.2.2.2.2.2.2.2.2.2.2.2.2.2.2.2.2.2.1,.str r.2.2.2.2.2.2.2.2.2.2.2.2.2.2.2.2.2.2.2.2.2.2.2.2.2.2.2.2.2.2.2.2.2.2.2.2.2.2.2.2.2.2.2.2.2.2.2.2.2.2.2.2.1,.int .i64 r.2.2.2.2.2.2.2.2.2.2.2.2.2.2.2.2.2.2.2.2.2.2.2.2.2.2.2.2.2.2.2.2.2.2.2.2.2.2.2.2.2.2.2.2.2.2.2.2.2.2.2.2.2.1,.int .i64 r.2.2.2.2.2.2.2.2.2.2.2.2.2.2.2.2.2.2.2.2.2.2.2.2.2.2.2.2.2.2.2.2.2.2.2.2.2.2.2.2.2.2.2.2.2.2.2.2.2.2.2.2.2.2.1,.str r.2.2.2.2.2.2.2.2.2.2.2.2.2.2.2.2.2.2.2.2.2.2.2.2.2.2.2.2.2.2.2.2.2.2.2.2.2.2.2.2.2.2.2.2.2.2.2.2.2.2.2.2.2.2.2.1,.int .i64 r.2.2.2.2.2.2.2.2.2.2.2.2.2.2.2.2.2.2.2.2.2.2.2.2.2.2.2.2.2.2.2.2.2.2.2.2.2.2.2.2.2.2.2.2.2.2.2.2.2.2.2.2.2.2.2.2.1,.int .i64 r.2.2.2.2.2.2.2.2.2.2.2.2.2.2.2.2.2.2.2.2.2.2.2.2.2.2.2.2.2.2.2.2.2.2.2.2.2.2.2.2.2.2.2.2.2.2.2.2.2.2.2.2.2.2.2.2.2.1,.str r.2.2.2.2.2.2.2.2.2.2.2.2.2.2.2.2.2.2.2.2.2.2.2.2.2.2.2.2.2.2.2.2.2.2.2.2.2.2.2.2.2.2.2.2.2.2.2.2.2.2.2.2.2.2.2.2.2.2.1,.int .i64 r.2.2.2.2.2.2.2.2.2.2.2.2.2.2.2.2.2.2.2.2.2.2.2.2.2.2.2.2.2.2.2.2.2.2.2.2.2.2.2.2.2.2.2.2.2.2.2.2.2.2.2.2.2.2.2.2.2.2.2.1,.int .i64 r.2.2.2.2.2.2.2.2.2.2.2.2.2.2.2.2.2.2.2.2.2.2.2.2.2.2.2.2.2.2.2.2.2.2.2.2.2.2.2.2.2.2.2.2.2.2.2.2.2.2.2.2.2.2.2.2.2.2.2.2.1,.int .i64 r.2.2.2.2.2.2.2.2.2.2.2.2.2.2.2.2.2.2.2.2.2.2.2.2.2.2.2.2.2.2.2.2.2.2.2.2.2.2.2.2.2.2.2.2.2.2.2.2.2.2.2.2.2.2.2.2.2.2.2.2.2.1,.int .i64 r.2.2.2.2.2.2.2.2.2.2.2.2.2.2.2.2.2.2.2.2.2.2.2.2.2.2.2.2.2.2.2.2.2.2.2.2.2.2.2.2.2.2.2.2.2.2.2.2.2.2.2.2.2.2.2.2.2.2.2.2.2.2.1,.int .i64 r.2.2.2.2.2.2.2.2.2.2.2.2.2.2.2.2.2.2.2.2.2.2.2.2.2.2.2.2.2.2.2.2.2.2.2.2.2.2.2.2.2.2.2.2.2.2.2.2.2.2.2.2.2.2.2.2.2.2.2.2.2.2.2.1,.int .i64 r.2.2.2.2.2.2.2.2.2.2.2.2.2.2.2.2.2.2.2.2.2.2.2.2.2.2.2.2.2.2.2.2.2.2.2.2.2.2.2.2.2.2.2.2.2.2.2.2.2.2.2.2.2.2.2.2.2.2.2.2.2.2.2.2.1,.int .i64 r.2.2.2.2.2.2.2.2.2.2.2.2.2.2.2.2.2.2.2.2.2.2.2.2.2.2.2.2.2.2.2.2.2.2.2.2.2.2.2.2.2.2.2.2.2.2.2.2.2.2.2.2.2.2.2.2.2.2.2.2.2.2.2.2.2.1,.int .i64 r.2.2.2.2.2.2.2.2.2.2.2.2.2.2.2.2.2.2.2.2.2.2.2.2.2.2.2.2.2.2.2.2.2.2.2.2.2.2.2.2.2.2.2.2.2.2.2.2.2.2.2.2.2.2.2.2.2.2.2.2.2.2.2.2.2.2.1,.int .i64 r.2.2.2.2.2.2.2.2.2.2.2.2.2.2.2.2.2.2.2.2.2.2.2.2.2.2.2.2.2.2.2.2.2.2.2.2.2.2.2.2.2.2.2.2.2.2.2.2.2.2.2.2.2.2.2.2.2.2.2.2.2.2.2.2.2.2.2.1,.int .i64 r.2.2.2.2.2.2.2.2.2.2.2.2.2.2.2.2.2.2.2.2.2.2.2.2.2.2.2.2.2.2.2.2.2.2.2.2.2.2.2.2.2.2.2.2.2.2.2.2.2.2.2.2.2.2.2.2.2.2.2.2.2.2.2.2.2.2.2.2.1,.int .i64 r.2.2.2.2.2.2.2.2.2.2.2.2.2.2.2.2.2.2.2.2.2.2.2.2.2.2.2.2.2.2.2.2.2.2.2.2.2.2.2.2.2.2.2.2.2.2.2.2.2.2.2.2.2.2.2.2.2.2.2.2.2.2.2.2.2.2.2.2.2.1,.int .i64 r.2.2.2.2.2.2.2.2.2.2.2.2.2.2.2.2.2.2.2.2.2.2.2.2.2.2.2.2.2.2.2.2.2.2.2.2.2.2.2.2.2.2.2.2.2.2.2.2.2.2.2.2.2.2.2.2.2.2.2.2.2.2.2.2.2.2.2.2.2.2.1,.int .i64 r.2.2.2.2.2.2.2.2.2.2.2.2.2.2.2.2.2.2.2.2.2.2.2.2.2.2.2.2.2.2.2.2.2.2.2.2.2.2.2.2.2.2.2.2.2.2.2.2.2.2.2.2.2.2.2.2.2.2.2.2.2.2.2.2.2.2.2.2.2.2.2.1,.int .i64 r.2.2.2.2.2.2.2.2.2.2.2.2.2.2.2.2.2.2.2.2.2.2.2.2.2.2.2.2.2.2.2.2.2.2.2.2.2.2.2.2.2.2.2.2.2.2.2.2.2.2.2.2.2.2.2.2.2.2.2.2.2.2.2.2.2.2.2.2.2.2.2.2.1,.int .i64 r.2.2.2.2.2.2.2.2.2.2.2.2.2.2.2.2.2.2.2.2.2.2.2.2.2.2.2.2.2.2.2.2.2.2.2.2.2.2.2.2.2.2.2.2.2.2.2.2.2.2.2.2.2.2.2.2.2.2.2.2.2.2.2.2.2.2.2.2.2.2.2.2.2.1,.int .i64 r.2.2.2.2.2.2.2.2.2.2.2.2.2.2.2.2.2.2.2.2.2.2.2.2.2.2.2.2.2.2.2.2.2.2.2.2.2.2.2.2.2.2.2.2.2.2.2.2.2.2.2.2.2.2.2.2.2.2.2.2.2.2.2.2.2.2.2.2.2.2.2.2.2.2.1,.int .i64 r.2.2.2.2.2.2.2.2.2.2.2.2.2.2.2.2.2.2.2.2.2.2.2.2.2.2.2.2.2.2.2.2.2.2.2.2.2.2.2.2.2.2.2.2.2.2.2.2.2.2.2.2.2.2.2.2.2.2.2.2.2.2.2.2.2.2.2.2.2.2.2.2.2.2.2.1,.int .i64 r.2.2.2.2.2.2.2.2.2.2.2.2.2.2.2.2.2.2.2.2.2.2.2.2.2.2.2.2.2.2.2.2.2.2.2.2.2.2.2.2.2.2.2.2.2.2.2.2.2.2.2.2.2.2.2.2.2.2.2.2.2.2.2.2.2.2.2.2.2.2.2.2.2.2.2.2.1,.slice false (r.2.2.2.2.2.2.2.2.2.2.2.2.2.2.2.2.2.2.2.2.2.2.2.2.2.2.2.2.2.2.2.2.2.2.2.2.2.2.2.2.2.2.2.2.2.2.2.2.2.2.2.2.2.2.2.2.2.2.2.2.2.2.2.2.2.2.2.2.2.2.2.2.2.2.2.2.2.1.map aO.d),.slice false (r.2.2.2.2.2.2.2.2.2.2.2.2.2.2.2.2.2.2.2.2.2.2.2.2.2.2.2.2.2.2.2.2.2.2.2.2.2.2.2.2.2.2.2.2.2.2.2.2.2.2.2.2.2.2.2.2.2.2.2.2.2.2.2.2.2.2.2.2.2.2.2.2.2.2.2.2.2.2.1.map bG.d),.slice false (r.2.2.2.2.2.2.2.2.2.2.2.2.2.2.2.2.2.2.2.2.2.2.2.2.2.2.2.2.2.2.2.2.2.2.2.2.2.2.2.2.2.2.2.2.2.2.2.2.2.2.2.2.2.2.2.2.2.2.2.2.2.2.2.2.2.2.2.2.2.2.2.2.2.2.2.2.2.2.2.1.map (eInt .i64).d),.slice false (r.2.2.2.2.2.2.2.2.2.2.2.2.2.2.2.2.2.2.2.2.2.2.2.2.2.2.2.2.2.2.2.2.2.2.2.2.2.2.2.2.2.2.2.2.2.2.2.2.2.2.2.2.2.2.2.2.2.2.2.2.2.2.2.2.2.2.2.2.2.2.2.2.2.2.2.2.2.2.2.2.1.map bO.d),.slice false (r.2.2.2.2.2.2.2.2.2.2.2.2.2.2.2.2.2.2.2.2.2.2.2.2.2.2.2.2.2.2.2.2.2.2.2.2.2.2.2.2.2.2.2.2.2.2.2.2.2.2.2.2.2.2.2.2.2.2.2.2.2.2.2.2.2.2.2.2.2.2.2.2.2.2.2.2.2.2.2.2.2.1.map aO.d),.slice false (r.2.2.2.2.2.2.2.2.2.2.2.2.2.2.2.2.2.2.2.2.2.2.2.2.2.2.2.2.2.2.2.2.2.2.2.2.2.2.2.2.2.2.2.2.2.2.2.2.2.2.2.2.2.2.2.2.2.2.2.2.2.2.2.2.2.2.2.2.2.2.2.2.2.2.2.2.2.2.2.2.2.2.1.map bH.d),.int .i64 r.2.2.2.2.2.2.2.2.2.2.2.2.2.2.2.2.2.2.2.2.2.2.2.2.2.2.2.2.2.2.2.2.2.2.2.2.2.2.2.2.2.2.2.2.2.2.2.2.2.2.2.2.2.2.2.2.2.2.2.2.2.2.2.2.2.2.2.2.2.2.2.2.2.2.2.2.2.2.2.2.2.2.2.1,.int .i64 r.2.2.2.2.2.2.2.2.2.2.2.2.2.2.2.2.2.2.2.2.2.2.2.2.2.2.2.2.2.2.2.2.2.2.2.2.2.2.2.2.2.2.2.2.2.2.2.2.2.2.2.2.2.2.2.2.2.2.2.2.2.2.2.2.2.2.2.2.2.2.2.2.2.2.2.2.2.2.2.2.2.2.2.2.1,.int .i64 r.2.2.2.2.2.2.2.2.2.2.2.2.2.2.2.2.2.2.2.2.2.2.2.2.2.2.2.2.2.2.2.2.2.2.2.2.2.2.2.2.2.2.2.2.2.2.2.2.2.2.2.2.2.2.2.2.2.2.2.2.2.2.2.2.2.2.2.2.2.2.2.2.2.2.2.2.2.2.2.2.2.2.2.2.2.1,.int .i64 r.2.2.2.2.2.2.2.2.2.2.2.2.2.2.2.2.2.2.2.2.2.2.2.2.2.2.2.2.2.2.2.2.2.2.2.2.2.2.2.2.2.2.2.2.2.2.2.2.2.2.2.2.2.2.2.2.2.2.2.2.2.2.2.2.2.2.2.2.2.2.2.2.2.2.2.2.2.2.2.2.2.2.2.2.2.2.1,.int .i64 r.2.2.2.2.2.2.2.2.2.2.2.2.2.2.2.2.2.2.2.2.2.2.2.2.2.2.2.2.2.2.2.2.2.2.2.2.2.2.2.2.2.2.2.2.2.2.2.2.2.2.2.2.2.2.2.2.2.2.2.2.2.2.2.2.2.2.2.2.2.2.2.2.2.2.2.2.2.2.2.2.2.2.2.2.2.2.2.1,.bool r.2.2.2.2.2.2.2.2.2.2.2.2.2.2.2.2.2.2.2.2.2.2.2.2.2.2.2.2.2.2.2.2.2.2.2.2.2.2.2.2.2.2.2.2.2.2.2.2.2.2.2.2.2.2.2.2.2.2.2.2.2.2.2.2.2.2.2.2.2.2.2.2.2.2.2.2.2.2.2.2.2.2.2.2.2.2.2.2.1,.bool r.2.2.2.2.2.2.2.2.2.2.2.2.2.2.2.2.2.2.2.2.2.2.2.2.2.2.2.2.2.2.2.2.2.2.2.2.2.2.2.2.2.2.2.2.2.2.2.2.2.2.2.2.2.2.2.2.2.2.2.2.2.2.2.2.2.2.2.2.2.2.2.2.2.2.2.2.2.2.2.2.2.2.2.2.2.2.2.2.2.1,.int .i64 r.2.2.2.2.2.2.2.2.2.2.2.2.2.2.2.2.2.2.2.2.2.2.2.2.2.2.2.2.2.2.2.2.2.2.2.2.2.2.2.2.2.2.2.2.2.2.2.2.2.2.2.2.2.2.2.2.2.2.2.2.2.2.2.2.2.2.2.2.2.2.2.2.2.2.2.2.2.2.2.2.2.2.2.2.2.2.2.2.2.2.1,.int .i64 r.2.2.2.2.2.2.2.2.2.2.2.2.2.2.2.2.2.2.2.2.2.2.2.2.2.2.2.2.2.2.2.2.2.2.2.2.2.2.2.2.2.2.2.2.2.2.2.2.2.2.2.2.2.2.2.2.2.2.2.2.2.2.2.2.2.2.2.2.2.2.2.2.2.2.2.2.2.2.2.2.2.2.2.2.2.2.2.2.2.2.2.1,.int .i64 r.2.2.2.2.2.2.2.2.2.2.2.2.2.2.2.2.2.2.2.2.2.2.2.2.2.2.2.2.2.2.2.2.2.2.2.2.2.2.2.2.2.2.2.2.2.2.2.2.2.2.2.2.2.2.2.2.2.2.2.2.2.2.2.2.2.2.2.2.2.2.2.2.2.2.2.2.2.2.2.2.2.2.2.2.2.2.2.2.2.2.2.2.1,.int .i64 r.2.2.2.2.2.2.2.2.2.2.2.2.2.2.2.2.2.2.2.2.2.2.2.2.2.2.2.2.2.2.2.2.2.2.2.2.2.2.2.2.2.2.2.2.2.2.2.2.2.2.2.2.2.2.2.2.2.2.2.2.2.2.2.2.2.2.2.2.2.2.2.2.2.2.2.2.2.2.2.2.2.2.2.2.2.2.2.2.2.2.2.2.2.1,.int .i64 r.2.2.2.2.2.2.2.2.2.2.2.2.2.2.2.2.2.2.2.2.2.2.2.2.2.2.2.2.2.2.2.2.2.2.2.2.2.2.2.2.2.2.2.2.2.2.2.2.2.2.2.2.2.2.2.2.2.2.2.2.2.2.2.2.2.2.2.2.2.2.2.2.2.2.2.2.2.2.2.2.2.2.2.2.2.2.2.2.2.2.2.2.2.2.1,.int .u32 r.2.2.2.2.2.2.2.2.2.2.2.2.2.2.2.2.2.2.2.2.2.2.2.2.2.2.2.2.2.2.2.2.2.2.2.2.2.2.2.2.2.2.2.2.2.2.2.2.2.2.2.2.2.2.2.2.2.2.2.2.2.2.2.2.2.2.2.2.2.2.2.2.2.2.2.2.2.2.2.2.2.2.2.2.2.2.2.2.2.2.2.2.2.2.2,.nilp]))]:=by
 refine iZ (rs:=[.int .i64 r.1]) Tryz.func53 rfl Tryz.ntmps53 (nle rfl) fun O hO=>?_
 show IWP _ _ _ _ ⟨[(0,.ref 1000 0),(1,.agg (tv6 a0))],[(1000,.blk 132 (mixD aP.toEnc0 (w60 a1 a2 a3 a4 a5 a6 a7 a8 a9 a10 a11 a12 a13 a14 a15 a16 a17 a18 a19 a20 a21 a22 a23 a24 a25 a26 a27 a28 a29 a30 a31 a32 a33 a34 a35 a36 a37 a38 a39 a40 a41 a42 a43 a44 a45 a46 a47) a48 [.str a49,.int .i64 a50,.int .i64 a51,.str a52,.int .i64 a53,.int .i64 a54,.str a55,.int .i64 a56,.int .i64 a57,.str a58,.int .i64 a59,.int .i64 a60,.int .i64 a61,.int .i64 a62,.int .i64 a63,.int .i64 a64,.int .i64 a65,.int .i64 a66,.int .i64 a67,.int .i64 a68,.int .i64 a69,.int .i64 a70,.int .i64 a71,.int .i64 a72,.int .i64 a73,.int .i64 a74,.int .i64 a75,.int .i64 a76,.slice false (a77.map aO.d),.slice false (a78.map bG.d),.slice false (a79.map (eInt .i64).d),.slice false (a80.map bO.d),.slice false (a81.map aO.d),.slice false (a82.map bH.d),.int .i64 a83,.int .i64 a84,.int .i64 a85,.int .i64 a86,.int .i64 a87,.bool a88,.bool a89,.int .i64 a90,.int .i64 a91,.int .i64 a92,.int .i64 a93,.int .i64 a94,.int .u32 a95,.nilp]))]⟩ _
 unfold jY at h
 refine aC (cBx (cs:=q31) q31 0 rfl <|cAs (.int _ 0) rfl <|aB ?_)
 obtain ⟨x1,hx1,h⟩:=bT h
 refine eI rfl [nd1 [0] 8 (.ref 1000 0),nd1 [8] 9 (.ref 1000 0),nd1 [9] 10 (.ref 1000 0),nd1 [10] 11 (.ref 1000 0),nd2 [11] [1000] 12 (.agg (w62 a1 a2 a3 a4 a5 a6 a7 a8 a9 a10 a11 a12 a13 a14 a15 a16)),nd2 [3] [0] 13 (.agg (tv6 a0)),nd1 [12,13] 14 (.tuple [.agg (tv3 x1.1),.int .i64 x1.2]),nd1 [14] 7 (.tuple [.agg (tv3 x1.1),.int .i64 x1.2]),nd1 [7] 15 (.agg (tv3 x1.1)),nd1 [7] 16 (.int .i64 x1.2),⟨[],[1],[(5,.ref 1 0)],[(1,.blk 96 zs2)]⟩,⟨[5,15],[1],[],[(1,.blk 96 (tv3 x1.1))]⟩,nd1 [16] 6 (.int .i64 x1.2)] rfl ?_ (by kernel_rfl) ?_
 ·refine .cons (dMv rfl) <| .cons (lop rfl rfl fun S hA=>(aS rfl rfl (lb rfl) (svaR hA rfl rfl))) <| .cons (dFa 0 pN rfl rG rfl) <| .cons (dFa 0 rF rfl ti96 rfl) <| .cons (lop rfl rfl fun S hA=>(zW aP.toEnc0 (cs:=q27) rfl rfl (lb rfl) un96 ag96 ti96 (by decide) (svaR hA rfl rfl) (agi hA rfl rfl) (nle rfl) (by rfl))) <| .cons (dLa dW aGq kO rfl) <| .cons (lop rfl rfl fun S hA=>(aL (r:=.tuple q58) rfl rfl (lb rfl) cl64 (.cons (svaA q27 hA rfl rfl) (.cons (svaA q31 hA rfl rfl) .nil)) rfl (tL _ _ _ hx1))) <| .cons (lop rfl rfl fun S hA=>(dR rfl rfl (lb rfl) (sv (d:=.tuple q58) (agr hA rfl rfl)))) <| .cons (lop rfl rfl fun S hA=>(dL (d:=.agg q27) rfl rfl (lb rfl) (sv (d:=.tuple q58) (agr hA rfl rfl)) rfl)) <| .cons (lop rfl rfl fun S hA=>(dL (d:=.int _ _) rfl rfl (lb rfl) (sv (d:=.tuple q58) (agr hA rfl rfl)) rfl)) <| .cons (lop rfl rfl fun S hA=>(aZ (cs:=q29) (cs':=zs2) 1 rfl rfl (lb rfl) (agi hA rfl rfl) ti96 rfl rfl (.k (.k (.k (.cons (.nils _) (.cons (.nils _) (.k4 (.k (.k (.cons (.nils _) (.all _)))))))))))) <| .cons (dSt q27 ti96 rfl) <| .cons (lop rfl rfl fun S hA=>(bV rfl rfl (lb rfl) (svaI hA rfl rfl))) ?_
  exact .nil
 refine aC (aA rfl (mvR rfl rfl rfl rfl) <|cLr q27 la96 rfl <|aA rfl (aS rfl rfl (lb rfl) (svR rfl)) <|cFa 0 pN rfl rG rfl <|cFa 0 rF rfl ti96 rfl <|aA rfl (qD aP.toEnc0 (pre:=(.int _ _ :: .str _ :: .int _ _ :: .slice _ _ :: .slice _ _ :: .bool _ :: .bool _ :: .bool _ :: .bool _ :: .int _ _ :: .str _ :: .slice _ _ :: .int _ _ :: .str _ :: .int _ _ :: .int _ _ :: .bool _ :: .int _ _ :: .int _ _ :: .slice _ _ :: .slice _ _ :: .int _ _ :: .int _ _ :: .int _ _ :: .int _ _ :: .slice _ _ :: .slice _ _ :: .slice _ _ :: .slice _ _ :: .bool _ :: .bool _ :: .int _ _ :: .int _ _ :: .bool _ :: .bool _ :: .int _ _ :: .int _ _ :: .bool _ :: .bool _ :: .int _ _ :: .int _ _ :: .bool _ :: .bool _ :: .int _ _ :: .int _ _ :: .int _ _ :: .slice _ _ :: [])) (pre':=(.int _ _ :: .str _ :: .int _ _ :: .slice _ _ :: .slice _ _ :: .bool _ :: .bool _ :: .bool _ :: .bool _ :: .int _ _ :: .str _ :: .slice _ _ :: .int _ _ :: .str _ :: .int _ _ :: .int _ _ :: .bool _ :: .int _ _ :: .int _ _ :: .slice _ _ :: .slice _ _ :: .int _ _ :: .int _ _ :: .int _ _ :: .int _ _ :: .slice _ _ :: .slice _ _ :: .slice _ _ :: .slice _ _ :: .bool _ :: .bool _ :: .int _ _ :: .int _ _ :: .bool _ :: .bool _ :: .int _ _ :: .int _ _ :: .bool _ :: .bool _ :: .int _ _ :: .int _ _ :: .bool _ :: .bool _ :: .int _ _ :: .int _ _ :: .int _ _ :: .slice _ _ :: [])) rfl rfl ti96 (svR rfl) rfl (svA q27 rfl) rfl rfl rfl (nle rfl) rfl) <|aB ?_)
 refine aC (cI rfl <|cAI rfl <|aB ?_)
 refine aI ?_
 obtain rfl:=Option.some.inj h
 refine ⟨.inr rfl,(fun i=>i),⟨.nil,(.cons (EntW.mix aP rfl (SubC.of_eq rfl) (SubC.of_eq rfl) rfl rfl) .nil),bS [1000] rfl (by decide),fun _ _=>rfl⟩,(.cons (sv rfl) .nil),rfl⟩

theorem mE (a0 : aD) (a1 : Int) (a2 : (List UInt8)) (a3 : Int) (a4 : (List bX)) (a5 : (List aG)) (a6 : Bool) (a7 : Bool) (a8 : Bool) (a9 : Bool) (a10 : Int) (a11 : (List UInt8)) (a12 : (List cE)) (a13 : Int) (a14 : (List UInt8)) (a15 : Int) (a16 : Int) (a17 : Bool) (a18 : Int) (a19 : Int) (a20 : (List Int)) (a21 : (List Int)) (a22 : Int) (a23 : Int) (a24 : Int) (a25 : Int) (a26 : (List bU)) (a27 : (List bZ)) (a28 : (List Int)) (a29 : (List bP)) (a30 : Bool) (a31 : Bool) (a32 : Int) (a33 : Int) (a34 : Bool) (a35 : Bool) (a36 : Int) (a37 : Int) (a38 : Bool) (a39 : Bool) (a40 : Int) (a41 : Int) (a42 : Bool) (a43 : Bool) (a44 : Int) (a45 : Int) (a46 : Int) (a47 : (List cR)) (a48 : (List bI)) (a49 : (List UInt8)) (a50 : Int) (a51 : Int) (a52 : (List UInt8)) (a53 : Int) (a54 : Int) (a55 : (List UInt8)) (a56 : Int) (a57 : Int) (a58 : (List UInt8)) (a59 : Int) (a60 : Int) (a61 : Int) (a62 : Int) (a63 : Int) (a64 : Int) (a65 : Int) (a66 : Int) (a67 : Int) (a68 : Int) (a69 : Int) (a70 : Int) (a71 : Int) (a72 : Int) (a73 : Int) (a74 : Int) (a75 : Int) (a76 : Int) (a77 : (List aM)) (a78 : (List bC)) (a79 : (List Int)) (a80 : (List aD)) (a81 : (List aM)) (a82 : (List bD)) (a83 : Int) (a84 : Int) (a85 : Int) (a86 : Int) (a87 : Int) (a88 : Bool) (a89 : Bool) (a90 : Int) (a91 : Int) (a92 : Int) (a93 : Int) (a94 : Int) (a95 : Int) (r : (Int × (List UInt8) × Int × (List bX) × (List aG) × Bool × Bool × Bool × Bool × Int × (List UInt8) × (List cE) × Int × (List UInt8) × Int × Int × Bool × Int × Int × (List Int) × (List Int) × Int × Int × Int × Int × (List bU) × (List bZ) × (List Int) × (List bP) × Bool × Bool × Int × Int × Bool × Bool × Int × Int × Bool × Bool × Int × Int × Bool × Bool × Int × Int × Int × (List cR) × (List bI) × (List UInt8) × Int × Int × (List UInt8) × Int × Int × (List UInt8) × Int × Int × (List UInt8) × Int × Int × Int × Int × Int × Int × Int × Int × Int × Int × Int × Int × Int × Int × Int × Int × Int × Int × (List aM) × (List bC) × (List Int) × (List aD) × (List aM) × (List bD) × Int × Int × Int × Int × Int × Bool × Bool × Int × Int × Int × Int × Int × Int)) (h : hM a0 a1 a2 a3 a4 a5 a6 a7 a8 a9 a10 a11 a12 a13 a14 a15 a16 a17 a18 a19 a20 a21 a22 a23 a24 a25 a26 a27 a28 a29 a30 a31 a32 a33 a34 a35 a36 a37 a38 a39 a40 a41 a42 a43 a44 a45 a46 a47 a48 a49 a50 a51 a52 a53 a54 a55 a56 a57 a58 a59 a60 a61 a62 a63 a64 a65 a66 a67 a68 a69 a70 a71 a72 a73 a74 a75 a76 a77 a78 a79 a80 a81 a82 a83 a84 a85 a86 a87 a88 a89 a90 a91 a92 a93 a94 a95 = some r) : FnH Tryz.prog 34 [.ref 1000 0,.agg (tv6 a0)] [(1000,.blk 132 (mixD aP.toEnc0 (w60 a1 a2 a3 a4 a5 a6 a7 a8 a9 a10 a11 a12 a13 a14 a15 a16 a17 a18 a19 a20 a21 a22 a23 a24 a25 a26 a27 a28 a29 a30 a31 a32 a33 a34 a35 a36 a37 a38 a39 a40 a41 a42 a43 a44 a45 a46 a47) a48 [.str a49,.int .i64 a50,.int .i64 a51,.str a52,.int .i64 a53,.int .i64 a54,.str a55,.int .i64 a56,.int .i64 a57,.str a58,.int .i64 a59,.int .i64 a60,.int .i64 a61,.int .i64 a62,.int .i64 a63,.int .i64 a64,.int .i64 a65,.int .i64 a66,.int .i64 a67,.int .i64 a68,.int .i64 a69,.int .i64 a70,.int .i64 a71,.int .i64 a72,.int .i64 a73,.int .i64 a74,.int .i64 a75,.int .i64 a76,.slice false (a77.map aO.d),.slice false (a78.map bG.d),.slice false (a79.map (eInt .i64).d),.slice false (a80.map bO.d),.slice false (a81.map aO.d),.slice false (a82.map bH.d),.int .i64 a83,.int .i64 a84,.int .i64 a85,.int .i64 a86,.int .i64 a87,.bool a88,.bool a89,.int .i64 a90,.int .i64 a91,.int .i64 a92,.int .i64 a93,.int .i64 a94,.int .u32 a95,.nilp]))] (retD []) [(1000,.blk 132 (mixD aP.toEnc0 (w60 r.1 r.2.1 r.2.2.1 r.2.2.2.1 r.2.2.2.2.1 r.2.2.2.2.2.1 r.2.2.2.2.2.2.1 r.2.2.2.2.2.2.2.1 r.2.2.2.2.2.2.2.2.1 r.2.2.2.2.2.2.2.2.2.1 r.2.2.2.2.2.2.2.2.2.2.1 r.2.2.2.2.2.2.2.2.2.2.2.1 r.2.2.2.2.2.2.2.2.2.2.2.2.1 r.2.2.2.2.2.2.2.2.2.2.2.2.2.1 r.2.2.2.2.2.2.2.2.2.2.2.2.2.2.1 r.2.2.2.2.2.2.2.2.2.2.2.2.2.2.2.1 r.2.2.2.2.2.2.2.2.2.2.2.2.2.2.2.2.1 r.2.2.2.2.2.2.2.2.2.2.2.2.2.2.2.2.2.1 r.2.2.2.2.2.2.2.2.2.2.2.2.2.2.2.2.2.2.1 r.2.2.2.2.2.2.2.2.2.2.2.2.2.2.2.2.2.2.2.1 r.2.2.2.2.2.2.2.2.2.2.2.2.2.2.2.2.2.2.2.2.1 r.2.2.2.2.2.2.2.2.2.2.2.2.2.2.2.2.2.2.2.2.2.1 r.2.2.2.2.2.2.2.2.2.2.2.2.2.2.2.2.2.2.2.2.2.2.1 r.2.2.2.2.2.2.2.2.2.2.2.2.2.2.2.2.2.2.2.2.2.2.2.1 r.2.2.2.2.2.2.2.2.2.2.2.2.2.2.2.2.2.2.2.2.2.2.2.2.1 r.2.2.2.2.2.2.2.2.2.2.2.2.2.2.2.2.2.2.2.2.2.2.2.2.2.1 r.2.2.2.2.2.2.2.2.2.2.2.2.2.2.2.2.2.2.2.2.2.2.2.2.2.2.1 r.2.2.2.2.2.2.2.2.2.2.2.2.2.2.2.2.2.2.2.2.2.2.2.2.2.2.2.1 r.2.2.2.2.2.2.2.2.2.2.2.2.2.2.2.2.2.2.2.2.2.2.2.2.2.2.2.2.1 r.2.2.2.2.2.2.2.2.2.2.2.2.2.2.2.2.2.2.2.2.2.2.2.2.2.2.2.2.2.1 r.2.2.2.2.2.2.2.2.2.2.2.2.2.2.2.2.2.2.2.2.2.2.2.2.2.2.2.2.2.2.1 r.2.2.2.2.2.2.2.2.2.2.2.2.2.2.2.2.2.2.2.2.2.2.2.2.2.2.2.2.2.2.2.1 r.2.2.2.2.2.2.2.2.2.2.2.2.2.2.2.2.2.2.2.2.2.2.2.2.2.2.2.2.2.2.2.2.1 r.2.2.2.2.2.2.2.2.2.2.2.2.2.2.2.2.2.2.2.2.2.2.2.2.2.2.2.2.2.2.2.2.2.1 r.2.2.2.2.2.2.2.2.2.2.2.2.2.2.2.2.2.2.2.2.2.2.2.2.2.2.2.2.2.2.2.2.2.2.1 r.2.2.2.2.2.2.2.2.2.2.2.2.2.2.2.2.2.2.2.2.2.2.2.2.2.2.2.2.2.2.2.2.2.2.2.1 r.2.2.2.2.2.2.2.2.2.2.2.2.2.2.2.2.2.2.2.2.2.2.2.2.2.2.2.2.2.2.2.2.2.2.2.2.1 r.2.2.2.2.2.2.2.2.2.2.2.2.2.2.2.2.2.2.2.2.2.2.2.2.2.2.2.2.2.2.2.2.2.2.2.2.2.1 r.2.2.2.2.2.2.2.2.2.2.2.2.2.2.2.2.2.2.2.2.2.2.2.2.2.2.2.2.2.2.2.2.2.2.2.2.2.2.1 r.2.2.2.2.2.2.2.2.2.2.2.2.2.2.2.2.2.2.2.2.2.2.2.2.2.2.2.2.2.2.2.2.2.2.2.2.2.2.2.1 r.2.2.2.2.2.2.2.2.2.2.2.2.2.2.2.2.2.2.2.2.2.2.2.2.2.2.2.2.2.2.2.2.2.2.2.2.2.2.2.2.1 r.2.2.2.2.2.2.2.2.2.2.2.2.2.2.2.2.2.2.2.2.2.2.2.2.2.2.2.2.2.2.2.2.2.2.2.2.2.2.2.2.2.1 r.2.2.2.2.2.2.2.2.2.2.2.2.2.2.2.2.2.2.2.2.2.2.2.2.2.2.2.2.2.2.2.2.2.2.2.2.2.2.2.2.2.2.1 r.2.2.2.2.2.2.2.2.2.2.2.2.2.2.2.2.2.2.2.2.2.2.2.2.2.2.2.2.2.2.2.2.2.2.2.2.2.2.2.2.2.2.2.1 r.2.2.2.2.2.2.2.2.2.2.2.2.2.2.2.2.2.2.2.2.2.2.2.2.2.2.2.2.2.2.2.2.2.2.2.2.2.2.2.2.2.2.2.2.1 r.2.2.2.2.2.2.2.2.2.2.2.2.2.2.2.2.2.2.2.2.2.2.2.2.2.2.2.2.2.2.2.2.2.2.2.2.2.2.2.2.2.2.2.2.2.1 r.2.2.2.2.2.2.2.2.2.2.2.2.2.2.2.2.2.2.2.2.2.2.2.2.2.2.2.2.2.2.2.2.2.2.2.2.2.2.2.2.2.2.2.2.2.2.1) r.2.2.2.2.2.2.2.2.2.2.2.2.2.2.2.2.2.2.2.2.2.2.2.2.2.2.2.2.2.2.2.2.2.2.2.2.2.2.2.2.2.2.2.2.2.2.2.1 [.str r.2.2.2.2.2.2.2.2.2.2.2.2.2.2.2.2.2.2.2.2.2.2.2.2.2.2.2.2.2.2.2.2.2.2.2.2.2.2.2.2.2.2.2.2.2.2.2.2.1,.int .i64 r.2.2.2.2.2.2.2.2.2.2.2.2.2.2.2.2.2.2.2.2.2.2.2.2.2.2.2.2.2.2.2.2.2.2.2.2.2.2.2.2.2.2.2.2.2.2.2.2.2.1,.int .i64 r.2.2.2.2.2.2.2.2.2.2.2.2.2.2.2.2.2.2.2.2.2.2.2.2.2.2.2.2.2.2.2.2.2.2.2.2.2.2.2.2.2.2.2.2.2.2.2.2.2.2.1,.str r.2.2.2.2.2.2.2.2.2.2.2.2.2.2.2.2.2.2.2.2.2.2.2.2.2.2.2.2.2.2.2.2.2.2.2.2.2.2.2.2.2.2.2.2.2.2.2.2.2.2.2.1,.int .i64 r.2.2.2.2.2.2.2.2.2.2.2.2.2.2.2.2.2.2.2.2.2.2.2.2.2.2.2.2.2.2.2.2.2.2.2.2.2.2.2.2.2.2.2.2.2.2.2.2.2.2.2.2.1,.int .i64 r.2.2.2.2.2.2.2.2.2.2.2.2.2.2.2.2.2.2.2.2.2.2.2.2.2.2.2.2.2.2.2.2.2.2.2.2.2.2.2.2.2.2.2.2.2.2.2.2.2.2.2.2.2.1,.str r.2.2.2.2.2.2.2.2.2.2.2.2.2.2.2.2.2.2.2.2.2.2.2.2.2.2.2.2.2.2.2.2.2.2.2.2.2.2.2.2.2.2.2.2.2.2.2.2.2.2.2.2.2.2.1,.int .i64 r.2.2.2.2.2.2.2.2.2.2.2.2.2.2.2.2.2.2.2.2.2.2.2.2.2.2.2.2.2.2.2.2.2.2.2.2.2.2.2.2.2.2.2.2.2.2.2.2.2.2.2.2.2.2.2.1,.int .i64 r.2.2.2.2.2.2.2.2.2.2.2.2.2.2.2.2.2.2.2.2.2.2.2.2.2.2.2.2.2.2.2.2.2.2.2.2.2.2.2.2.2.2.2.2.2.2.2.2.2.2.2.2.2.2.2.2.1,.str r.2.2.2.2.2.2.2.2.2.2.2.2.2.2.2.2.2.2.2.2.2.2.2.2.2.2.2.2.2.2.2.2.2.2.2.2.2.2.2.2.2.2.2.2.2.2.2.2.2.2.2.2.2.2.2.2.2.1,.int .i64 r.2.2.2.2.2.2.2.2.2.2.2.2.2.2.2.2.2.2.2.2.2.2.2.2.2.2.2.2.2.2.2.2.2.2.2.2.2.2.2.2.2.2.2.2.2.2.2.2.2.2.2.2.2.2.2.2.2.2.1,.int .i64 r.2.2.2.2.2.2.2.2.2.2.2.2.2.2.2.2.2.2.2.2.2.2.2.2.2.2.2.2.2.2.2.2.2.2.2.2.2.2.2.2.2.2.2.2.2.2.2.2.2.2.2.2.2.2.2.2.2.2.2.1,.int .i64 r.2.2.2.2.2.2.2.2.2.2.2.2.2.2.2.2.2.2.2.2.2.2.2.2.2.2.2.2.2.2.2.2.2.2.2.2.2.2.2.2.2.2.2.2.2.2.2.2.2.2.2.2.2.2.2.2.2.2.2.2.1,.int .i64 r.2.2.2.2.2.2.2.2.2.2.2.2.2.2.2.2.2.2.2.2.2.2.2.2.2.2.2.2.2.2.2.2.2.2.2.2.2.2.2.2.2.2.2.2.2.2.2.2.2.2.2.2.2.2.2.2.2.2.2.2.2.1,.int .i64 r.2.2.2.2.2.2.2.2.2.2.2.2.2.2.2.2.2.2.2.2.2.2.2.2.2.2.2.2.2.2.2.2.2.2.2.2.2.2.2.2.2.2.2.2.2.2.2.2.2.2.2.2.2.2.2.2.2.2.2.2.2.2.1,.int .i64 r.2.2.2.2.2.2.2.2.2.2.2.2.2.2.2.2.2.2.2.2.2.2.2.2.2.2.2.2.2.2.2.2.2.2.2.2.2.2.2.2.2.2.2.2.2.2.2.2.2.2.2.2.2.2.2.2.2.2.2.2.2.2.2.1,.int .i64 r.2.2.2.2.2.2.2.2.2.2.2.2.2.2.2.2.2.2.2.2.2.2.2.2.2.2.2.2.2.2.2.2.2.2.2.2.2.2.2.2.2.2.2.2.2.2.2.2.2.2.2.2.2.2.2.2.2.2.2.2.2.2.2.2.1,.int .i64 r.2.2.2.2.2.2.2.2.2.2.2.2.2.2.2.2.2.2.2.2.2.2.2.2.2.2.2.2.2.2.2.2.2.2.2.2.2.2.2.2.2.2.2.2.2.2.2.2.2.2.2.2.2.2.2.2.2.2.2.2.2.2.2.2.2.1,.int .i64 r.2.2.2.2.2.2.2.2.2.2.2.2.2.2.2.2.2.2.2.2.2.2.2.2.2.2.2.2.2.2.2.2.2.2.2.2.2.2.2.2.2.2.2.2.2.2.2.2.2.2.2.2.2.2.2.2.2.2.2.2.2.2.2.2.2.2.1,.int .i64 r.2.2.2.2.2.2.2.2.2.2.2.2.2.2.2.2.2.2.2.2.2.2.2.2.2.2.2.2.2.2.2.2.2.2.2.2.2.2.2.2.2.2.2.2.2.2.2.2.2.2.2.2.2.2.2.2.2.2.2.2.2.2.2.2.2.2.2.1,.int .i64 r.2.2.2.2.2.2.2.2.2.2.2.2.2.2.2.2.2.2.2.2.2.2.2.2.2.2.2.2.2.2.2.2.2.2.2.2.2.2.2.2.2.2.2.2.2.2.2.2.2.2.2.2.2.2.2.2.2.2.2.2.2.2.2.2.2.2.2.2.1,.int .i64 r.2.2.2.2.2.2.2.2.2.2.2.2.2.2.2.2.2.2.2.2.2.2.2.2.2.2.2.2.2.2.2.2.2.2.2.2.2.2.2.2.2.2.2.2.2.2.2.2.2.2.2.2.2.2.2.2.2.2.2.2.2.2.2.2.2.2.2.2.2.1,.int .i64 r.2.2.2.2.2.2.2.2.2.2.2.2.2.2.2.2.2.2.2.2.2.2.2.2.2.2.2.2.2.2.2.2.2.2.2.2.2.2.2.2.2.2.2.2.2.2.2.2.2.2.2.2.2.2.2.2.2.2.2.2.2.2.2.2.2.2.2.2.2.2.1,.int .i64 r.2.2.2.2.2.2.2.2.2.2.2.2.2.2.2.2.2.2.2.2.2.2.2.2.2.2.2.2.2.2.2.2.2.2.2.2.2.2.2.2.2.2.2.2.2.2.2.2.2.2.2.2.2.2.2.2.2.2.2.2.2.2.2.2.2.2.2.2.2.2.2.1,.int .i64 r.2.2.2.2.2.2.2.2.2.2.2.2.2.2.2.2.2.2.2.2.2.2.2.2.2.2.2.2.2.2.2.2.2.2.2.2.2.2.2.2.2.2.2.2.2.2.2.2.2.2.2.2.2.2.2.2.2.2.2.2.2.2.2.2.2.2.2.2.2.2.2.2.1,.int .i64 r.2.2.2.2.2.2.2.2.2.2.2.2.2.2.2.2.2.2.2.2.2.2.2.2.2.2.2.2.2.2.2.2.2.2.2.2.2.2.2.2.2.2.2.2.2.2.2.2.2.2.2.2.2.2.2.2.2.2.2.2.2.2.2.2.2.2.2.2.2.2.2.2.2.1,.int .i64 r.2.2.2.2.2.2.2.2.2.2.2.2.2.2.2.2.2.2.2.2.2.2.2.2.2.2.2.2.2.2.2.2.2.2.2.2.2.2.2.2.2.2.2.2.2.2.2.2.2.2.2.2.2.2.2.2.2.2.2.2.2.2.2.2.2.2.2.2.2.2.2.2.2.2.1,.int .i64 r.2.2.2.2.2.2.2.2.2.2.2.2.2.2.2.2.2.2.2.2.2.2.2.2.2.2.2.2.2.2.2.2.2.2.2.2.2.2.2.2.2.2.2.2.2.2.2.2.2.2.2.2.2.2.2.2.2.2.2.2.2.2.2.2.2.2.2.2.2.2.2.2.2.2.2.1,.slice false (r.2.2.2.2.2.2.2.2.2.2.2.2.2.2.2.2.2.2.2.2.2.2.2.2.2.2.2.2.2.2.2.2.2.2.2.2.2.2.2.2.2.2.2.2.2.2.2.2.2.2.2.2.2.2.2.2.2.2.2.2.2.2.2.2.2.2.2.2.2.2.2.2.2.2.2.2.1.map aO.d),.slice false (r.2.2.2.2.2.2.2.2.2.2.2.2.2.2.2.2.2.2.2.2.2.2.2.2.2.2.2.2.2.2.2.2.2.2.2.2.2.2.2.2.2.2.2.2.2.2.2.2.2.2.2.2.2.2.2.2.2.2.2.2.2.2.2.2.2.2.2.2.2.2.2.2.2.2.2.2.2.1.map bG.d),.slice false (r.2.2.2.2.2.2.2.2.2.2.2.2.2.2.2.2.2.2.2.2.2.2.2.2.2.2.2.2.2.2.2.2.2.2.2.2.2.2.2.2.2.2.2.2.2.2.2.2.2.2.2.2.2.2.2.2.2.2.2.2.2.2.2.2.2.2.2.2.2.2.2.2.2.2.2.2.2.2.1.map (eInt .i64).d),.slice false (r.2.2.2.2.2.2.2.2.2.2.2.2.2.2.2.2.2.2.2.2.2.2.2.2.2.2.2.2.2.2.2.2.2.2.2.2.2.2.2.2.2.2.2.2.2.2.2.2.2.2.2.2.2.2.2.2.2.2.2.2.2.2.2.2.2.2.2.2.2.2.2.2.2.2.2.2.2.2.2.1.map bO.d),.slice false (r.2.2.2.2.2.2.2.2.2.2.2.2.2.2.2.2.2.2.2.2.2.2.2.2.2.2.2.2.2.2.2.2.2.2.2.2.2.2.2.2.2.2.2.2.2.2.2.2.2.2.2.2.2.2.2.2.2.2.2.2.2.2.2.2.2.2.2.2.2.2.2.2.2.2.2.2.2.2.2.2.1.map aO.d),.slice false (r.2.2.2.2.2.2.2.2.2.2.2.2.2.2.2.2.2.2.2.2.2.2.2.2.2.2.2.2.2.2.2.2.2.2.2.2.2.2.2.2.2.2.2.2.2.2.2.2.2.2.2.2.2.2.2.2.2.2.2.2.2.2.2.2.2.2.2.2.2.2.2.2.2.2.2.2.2.2.2.2.2.1.map bH.d),.int .i64 r.2.2.2.2.2.2.2.2.2.2.2.2.2.2.2.2.2.2.2.2.2.2.2.2.2.2.2.2.2.2.2.2.2.2.2.2.2.2.2.2.2.2.2.2.2.2.2.2.2.2.2.2.2.2.2.2.2.2.2.2.2.2.2.2.2.2.2.2.2.2.2.2.2.2.2.2.2.2.2.2.2.2.1,.int .i64 r.2.2.2.2.2.2.2.2.2.2.2.2.2.2.2.2.2.2.2.2.2.2.2.2.2.2.2.2.2.2.2.2.2.2.2.2.2.2.2.2.2.2.2.2.2.2.2.2.2.2.2.2.2.2.2.2.2.2.2.2.2.2.2.2.2.2.2.2.2.2.2.2.2.2.2.2.2.2.2.2.2.2.2.1,.int .i64 r.2.2.2.2.2.2.2.2.2.2.2.2.2.2.2.2.2.2.2.2.2.2.2.2.2.2.2.2.2.2.2.2.2.2.2.2.2.2.2.2.2.2.2.2.2.2.2.2.2.2.2.2.2.2.2.2.2.2.2.2.2.2.2.2.2.2.2.2.2.2.2.2.2.2.2.2.2.2.2.2.2.2.2.2.1,.int .i64 r.2.2.2.2.2.2.2.2.2.2.2.2.2.2.2.2.2.2.2.2.2.2.2.2.2.2.2.2.2.2.2.2.2.2.2.2.2.2.2.2.2.2.2.2.2.2.2.2.2.2.2.2.2.2.2.2.2.2.2.2.2.2.2.2.2.2.2.2.2.2.2.2.2.2.2.2.2.2.2.2.2.2.2.2.2.1,.int .i64 r.2.2.2.2.2.2.2.2.2.2.2.2.2.2.2.2.2.2.2.2.2.2.2.2.2.2.2.2.2.2.2.2.2.2.2.2.2.2.2.2.2.2.2.2.2.2.2.2.2.2.2.2.2.2.2.2.2.2.2.2.2.2.2.2.2.2.2.2.2.2.2.2.2.2.2.2.2.2.2.2.2.2.2.2.2.2.1,.bool r.2.2.2.2.2.2.2.2.2.2.2.2.2.2.2.2.2.2.2.2.2.2.2.2.2.2.2.2.2.2.2.2.2.2.2.2.2.2.2.2.2.2.2.2.2.2.2.2.2.2.2.2.2.2.2.2.2.2.2.2.2.2.2.2.2.2.2.2.2.2.2.2.2.2.2.2.2.2.2.2.2.2.2.2.2.2.2.1,.bool r.2.2.2.2.2.2.2.2.2.2.2.2.2.2.2.2.2.2.2.2.2.2.2.2.2.2.2.2.2.2.2.2.2.2.2.2.2.2.2.2.2.2.2.2.2.2.2.2.2.2.2.2.2.2.2.2.2.2.2.2.2.2.2.2.2.2.2.2.2.2.2.2.2.2.2.2.2.2.2.2.2.2.2.2.2.2.2.2.1,.int .i64 r.2.2.2.2.2.2.2.2.2.2.2.2.2.2.2.2.2.2.2.2.2.2.2.2.2.2.2.2.2.2.2.2.2.2.2.2.2.2.2.2.2.2.2.2.2.2.2.2.2.2.2.2.2.2.2.2.2.2.2.2.2.2.2.2.2.2.2.2.2.2.2.2.2.2.2.2.2.2.2.2.2.2.2.2.2.2.2.2.2.1,.int .i64 r.2.2.2.2.2.2.2.2.2.2.2.2.2.2.2.2.2.2.2.2.2.2.2.2.2.2.2.2.2.2.2.2.2.2.2.2.2.2.2.2.2.2.2.2.2.2.2.2.2.2.2.2.2.2.2.2.2.2.2.2.2.2.2.2.2.2.2.2.2.2.2.2.2.2.2.2.2.2.2.2.2.2.2.2.2.2.2.2.2.2.1,.int .i64 r.2.2.2.2.2.2.2.2.2.2.2.2.2.2.2.2.2.2.2.2.2.2.2.2.2.2.2.2.2.2.2.2.2.2.2.2.2.2.2.2.2.2.2.2.2.2.2.2.2.2.2.2.2.2.2.2.2.2.2.2.2.2.2.2.2.2.2.2.2.2.2.2.2.2.2.2.2.2.2.2.2.2.2.2.2.2.2.2.2.2.2.1,.int .i64 r.2.2.2.2.2.2.2.2.2.2.2.2.2.2.2.2.2.2.2.2.2.2.2.2.2.2.2.2.2.2.2.2.2.2.2.2.2.2.2.2.2.2.2.2.2.2.2.2.2.2.2.2.2.2.2.2.2.2.2.2.2.2.2.2.2.2.2.2.2.2.2.2.2.2.2.2.2.2.2.2.2.2.2.2.2.2.2.2.2.2.2.2.1,.int .i64 r.2.2.2.2.2.2.2.2.2.2.2.2.2.2.2.2.2.2.2.2.2.2.2.2.2.2.2.2.2.2.2.2.2.2.2.2.2.2.2.2.2.2.2.2.2.2.2.2.2.2.2.2.2.2.2.2.2.2.2.2.2.2.2.2.2.2.2.2.2.2.2.2.2.2.2.2.2.2.2.2.2.2.2.2.2.2.2.2.2.2.2.2.2.1,.int .u32 r.2.2.2.2.2.2.2.2.2.2.2.2.2.2.2.2.2.2.2.2.2.2.2.2.2.2.2.2.2.2.2.2.2.2.2.2.2.2.2.2.2.2.2.2.2.2.2.2.2.2.2.2.2.2.2.2.2.2.2.2.2.2.2.2.2.2.2.2.2.2.2.2.2.2.2.2.2.2.2.2.2.2.2.2.2.2.2.2.2.2.2.2.2.2,.nilp]))]:=by
 refine iZ (rs:=[]) Tryz.func34 rfl Tryz.ntmps34 (nle rfl) fun O hO=>?_
 show IWP _ _ _ _ ⟨[(0,.ref 1000 0),(1,.agg (tv6 a0))],[(1000,.blk 132 (mixD aP.toEnc0 (w60 a1 a2 a3 a4 a5 a6 a7 a8 a9 a10 a11 a12 a13 a14 a15 a16 a17 a18 a19 a20 a21 a22 a23 a24 a25 a26 a27 a28 a29 a30 a31 a32 a33 a34 a35 a36 a37 a38 a39 a40 a41 a42 a43 a44 a45 a46 a47) a48 [.str a49,.int .i64 a50,.int .i64 a51,.str a52,.int .i64 a53,.int .i64 a54,.str a55,.int .i64 a56,.int .i64 a57,.str a58,.int .i64 a59,.int .i64 a60,.int .i64 a61,.int .i64 a62,.int .i64 a63,.int .i64 a64,.int .i64 a65,.int .i64 a66,.int .i64 a67,.int .i64 a68,.int .i64 a69,.int .i64 a70,.int .i64 a71,.int .i64 a72,.int .i64 a73,.int .i64 a74,.int .i64 a75,.int .i64 a76,.slice false (a77.map aO.d),.slice false (a78.map bG.d),.slice false (a79.map (eInt .i64).d),.slice false (a80.map bO.d),.slice false (a81.map aO.d),.slice false (a82.map bH.d),.int .i64 a83,.int .i64 a84,.int .i64 a85,.int .i64 a86,.int .i64 a87,.bool a88,.bool a89,.int .i64 a90,.int .i64 a91,.int .i64 a92,.int .i64 a93,.int .i64 a94,.int .u32 a95,.nilp]))]⟩ _
 unfold hM at h
 refine aC (cBx (cs:=q31) q31 0 rfl <|aB ?_)
 obtain ⟨x1,hx1,x2,hx2,h⟩:=eod h
 refine aC (aA rfl (mvR rfl rfl rfl rfl) <|cLr q31 lE rfl <|aA rfl (fQ (r':=.int .i64 x1.1) (H1':=[(1000,.blk 132 (mixD aP.toEnc0 (w60 x1.2.1 x1.2.2.1 x1.2.2.2.1 x1.2.2.2.2.1 x1.2.2.2.2.2.1 x1.2.2.2.2.2.2.1 x1.2.2.2.2.2.2.2.1 x1.2.2.2.2.2.2.2.2.1 x1.2.2.2.2.2.2.2.2.2.1 x1.2.2.2.2.2.2.2.2.2.2.1 x1.2.2.2.2.2.2.2.2.2.2.2.1 x1.2.2.2.2.2.2.2.2.2.2.2.2.1 x1.2.2.2.2.2.2.2.2.2.2.2.2.2.1 x1.2.2.2.2.2.2.2.2.2.2.2.2.2.2.1 x1.2.2.2.2.2.2.2.2.2.2.2.2.2.2.2.1 x1.2.2.2.2.2.2.2.2.2.2.2.2.2.2.2.2.1 x1.2.2.2.2.2.2.2.2.2.2.2.2.2.2.2.2.2.1 x1.2.2.2.2.2.2.2.2.2.2.2.2.2.2.2.2.2.2.1 x1.2.2.2.2.2.2.2.2.2.2.2.2.2.2.2.2.2.2.2.1 x1.2.2.2.2.2.2.2.2.2.2.2.2.2.2.2.2.2.2.2.2.1 x1.2.2.2.2.2.2.2.2.2.2.2.2.2.2.2.2.2.2.2.2.2.1 x1.2.2.2.2.2.2.2.2.2.2.2.2.2.2.2.2.2.2.2.2.2.2.1 x1.2.2.2.2.2.2.2.2.2.2.2.2.2.2.2.2.2.2.2.2.2.2.2.1 x1.2.2.2.2.2.2.2.2.2.2.2.2.2.2.2.2.2.2.2.2.2.2.2.2.1 x1.2.2.2.2.2.2.2.2.2.2.2.2.2.2.2.2.2.2.2.2.2.2.2.2.2.1 x1.2.2.2.2.2.2.2.2.2.2.2.2.2.2.2.2.2.2.2.2.2.2.2.2.2.2.1 x1.2.2.2.2.2.2.2.2.2.2.2.2.2.2.2.2.2.2.2.2.2.2.2.2.2.2.2.1 x1.2.2.2.2.2.2.2.2.2.2.2.2.2.2.2.2.2.2.2.2.2.2.2.2.2.2.2.2.1 x1.2.2.2.2.2.2.2.2.2.2.2.2.2.2.2.2.2.2.2.2.2.2.2.2.2.2.2.2.2.1 x1.2.2.2.2.2.2.2.2.2.2.2.2.2.2.2.2.2.2.2.2.2.2.2.2.2.2.2.2.2.2.1 x1.2.2.2.2.2.2.2.2.2.2.2.2.2.2.2.2.2.2.2.2.2.2.2.2.2.2.2.2.2.2.2.1 x1.2.2.2.2.2.2.2.2.2.2.2.2.2.2.2.2.2.2.2.2.2.2.2.2.2.2.2.2.2.2.2.2.1 x1.2.2.2.2.2.2.2.2.2.2.2.2.2.2.2.2.2.2.2.2.2.2.2.2.2.2.2.2.2.2.2.2.2.1 x1.2.2.2.2.2.2.2.2.2.2.2.2.2.2.2.2.2.2.2.2.2.2.2.2.2.2.2.2.2.2.2.2.2.2.1 x1.2.2.2.2.2.2.2.2.2.2.2.2.2.2.2.2.2.2.2.2.2.2.2.2.2.2.2.2.2.2.2.2.2.2.2.1 x1.2.2.2.2.2.2.2.2.2.2.2.2.2.2.2.2.2.2.2.2.2.2.2.2.2.2.2.2.2.2.2.2.2.2.2.2.1 x1.2.2.2.2.2.2.2.2.2.2.2.2.2.2.2.2.2.2.2.2.2.2.2.2.2.2.2.2.2.2.2.2.2.2.2.2.2.1 x1.2.2.2.2.2.2.2.2.2.2.2.2.2.2.2.2.2.2.2.2.2.2.2.2.2.2.2.2.2.2.2.2.2.2.2.2.2.2.1 x1.2.2.2.2.2.2.2.2.2.2.2.2.2.2.2.2.2.2.2.2.2.2.2.2.2.2.2.2.2.2.2.2.2.2.2.2.2.2.2.1 x1.2.2.2.2.2.2.2.2.2.2.2.2.2.2.2.2.2.2.2.2.2.2.2.2.2.2.2.2.2.2.2.2.2.2.2.2.2.2.2.2.1 x1.2.2.2.2.2.2.2.2.2.2.2.2.2.2.2.2.2.2.2.2.2.2.2.2.2.2.2.2.2.2.2.2.2.2.2.2.2.2.2.2.2.1 x1.2.2.2.2.2.2.2.2.2.2.2.2.2.2.2.2.2.2.2.2.2.2.2.2.2.2.2.2.2.2.2.2.2.2.2.2.2.2.2.2.2.2.1 x1.2.2.2.2.2.2.2.2.2.2.2.2.2.2.2.2.2.2.2.2.2.2.2.2.2.2.2.2.2.2.2.2.2.2.2.2.2.2.2.2.2.2.2.1 x1.2.2.2.2.2.2.2.2.2.2.2.2.2.2.2.2.2.2.2.2.2.2.2.2.2.2.2.2.2.2.2.2.2.2.2.2.2.2.2.2.2.2.2.2.1 x1.2.2.2.2.2.2.2.2.2.2.2.2.2.2.2.2.2.2.2.2.2.2.2.2.2.2.2.2.2.2.2.2.2.2.2.2.2.2.2.2.2.2.2.2.2.1 x1.2.2.2.2.2.2.2.2.2.2.2.2.2.2.2.2.2.2.2.2.2.2.2.2.2.2.2.2.2.2.2.2.2.2.2.2.2.2.2.2.2.2.2.2.2.2.1 x1.2.2.2.2.2.2.2.2.2.2.2.2.2.2.2.2.2.2.2.2.2.2.2.2.2.2.2.2.2.2.2.2.2.2.2.2.2.2.2.2.2.2.2.2.2.2.2.1) x1.2.2.2.2.2.2.2.2.2.2.2.2.2.2.2.2.2.2.2.2.2.2.2.2.2.2.2.2.2.2.2.2.2.2.2.2.2.2.2.2.2.2.2.2.2.2.2.2.1 [.str x1.2.2.2.2.2.2.2.2.2.2.2.2.2.2.2.2.2.2.2.2.2.2.2.2.2.2.2.2.2.2.2.2.2.2.2.2.2.2.2.2.2.2.2.2.2.2.2.2.2.1,.int .i64 x1.2.2.2.2.2.2.2.2.2.2.2.2.2.2.2.2.2.2.2.2.2.2.2.2.2.2.2.2.2.2.2.2.2.2.2.2.2.2.2.2.2.2.2.2.2.2.2.2.2.2.1,.int .i64 x1.2.2.2.2.2.2.2.2.2.2.2.2.2.2.2.2.2.2.2.2.2.2.2.2.2.2.2.2.2.2.2.2.2.2.2.2.2.2.2.2.2.2.2.2.2.2.2.2.2.2.2.1,.str x1.2.2.2.2.2.2.2.2.2.2.2.2.2.2.2.2.2.2.2.2.2.2.2.2.2.2.2.2.2.2.2.2.2.2.2.2.2.2.2.2.2.2.2.2.2.2.2.2.2.2.2.2.1,.int .i64 x1.2.2.2.2.2.2.2.2.2.2.2.2.2.2.2.2.2.2.2.2.2.2.2.2.2.2.2.2.2.2.2.2.2.2.2.2.2.2.2.2.2.2.2.2.2.2.2.2.2.2.2.2.2.1,.int .i64 x1.2.2.2.2.2.2.2.2.2.2.2.2.2.2.2.2.2.2.2.2.2.2.2.2.2.2.2.2.2.2.2.2.2.2.2.2.2.2.2.2.2.2.2.2.2.2.2.2.2.2.2.2.2.2.1,.str x1.2.2.2.2.2.2.2.2.2.2.2.2.2.2.2.2.2.2.2.2.2.2.2.2.2.2.2.2.2.2.2.2.2.2.2.2.2.2.2.2.2.2.2.2.2.2.2.2.2.2.2.2.2.2.2.1,.int .i64 x1.2.2.2.2.2.2.2.2.2.2.2.2.2.2.2.2.2.2.2.2.2.2.2.2.2.2.2.2.2.2.2.2.2.2.2.2.2.2.2.2.2.2.2.2.2.2.2.2.2.2.2.2.2.2.2.2.1,.int .i64 x1.2.2.2.2.2.2.2.2.2.2.2.2.2.2.2.2.2.2.2.2.2.2.2.2.2.2.2.2.2.2.2.2.2.2.2.2.2.2.2.2.2.2.2.2.2.2.2.2.2.2.2.2.2.2.2.2.2.1,.str x1.2.2.2.2.2.2.2.2.2.2.2.2.2.2.2.2.2.2.2.2.2.2.2.2.2.2.2.2.2.2.2.2.2.2.2.2.2.2.2.2.2.2.2.2.2.2.2.2.2.2.2.2.2.2.2.2.2.2.1,.int .i64 x1.2.2.2.2.2.2.2.2.2.2.2.2.2.2.2.2.2.2.2.2.2.2.2.2.2.2.2.2.2.2.2.2.2.2.2.2.2.2.2.2.2.2.2.2.2.2.2.2.2.2.2.2.2.2.2.2.2.2.2.1,.int .i64 x1.2.2.2.2.2.2.2.2.2.2.2.2.2.2.2.2.2.2.2.2.2.2.2.2.2.2.2.2.2.2.2.2.2.2.2.2.2.2.2.2.2.2.2.2.2.2.2.2.2.2.2.2.2.2.2.2.2.2.2.2.1,.int .i64 x1.2.2.2.2.2.2.2.2.2.2.2.2.2.2.2.2.2.2.2.2.2.2.2.2.2.2.2.2.2.2.2.2.2.2.2.2.2.2.2.2.2.2.2.2.2.2.2.2.2.2.2.2.2.2.2.2.2.2.2.2.2.1,.int .i64 x1.2.2.2.2.2.2.2.2.2.2.2.2.2.2.2.2.2.2.2.2.2.2.2.2.2.2.2.2.2.2.2.2.2.2.2.2.2.2.2.2.2.2.2.2.2.2.2.2.2.2.2.2.2.2.2.2.2.2.2.2.2.2.1,.int .i64 x1.2.2.2.2.2.2.2.2.2.2.2.2.2.2.2.2.2.2.2.2.2.2.2.2.2.2.2.2.2.2.2.2.2.2.2.2.2.2.2.2.2.2.2.2.2.2.2.2.2.2.2.2.2.2.2.2.2.2.2.2.2.2.2.1,.int .i64 x1.2.2.2.2.2.2.2.2.2.2.2.2.2.2.2.2.2.2.2.2.2.2.2.2.2.2.2.2.2.2.2.2.2.2.2.2.2.2.2.2.2.2.2.2.2.2.2.2.2.2.2.2.2.2.2.2.2.2.2.2.2.2.2.2.1,.int .i64 x1.2.2.2.2.2.2.2.2.2.2.2.2.2.2.2.2.2.2.2.2.2.2.2.2.2.2.2.2.2.2.2.2.2.2.2.2.2.2.2.2.2.2.2.2.2.2.2.2.2.2.2.2.2.2.2.2.2.2.2.2.2.2.2.2.2.1,.int .i64 x1.2.2.2.2.2.2.2.2.2.2.2.2.2.2.2.2.2.2.2.2.2.2.2.2.2.2.2.2.2.2.2.2.2.2.2.2.2.2.2.2.2.2.2.2.2.2.2.2.2.2.2.2.2.2.2.2.2.2.2.2.2.2.2.2.2.2.1,.int .i64 x1.2.2.2.2.2.2.2.2.2.2.2.2.2.2.2.2.2.2.2.2.2.2.2.2.2.2.2.2.2.2.2.2.2.2.2.2.2.2.2.2.2.2.2.2.2.2.2.2.2.2.2.2.2.2.2.2.2.2.2.2.2.2.2.2.2.2.2.1,.int .i64 x1.2.2.2.2.2.2.2.2.2.2.2.2.2.2.2.2.2.2.2.2.2.2.2.2.2.2.2.2.2.2.2.2.2.2.2.2.2.2.2.2.2.2.2.2.2.2.2.2.2.2.2.2.2.2.2.2.2.2.2.2.2.2.2.2.2.2.2.2.1,.int .i64 x1.2.2.2.2.2.2.2.2.2.2.2.2.2.2.2.2.2.2.2.2.2.2.2.2.2.2.2.2.2.2.2.2.2.2.2.2.2.2.2.2.2.2.2.2.2.2.2.2.2.2.2.2.2.2.2.2.2.2.2.2.2.2.2.2.2.2.2.2.2.1,.int .i64 x1.2.2.2.2.2.2.2.2.2.2.2.2.2.2.2.2.2.2.2.2.2.2.2.2.2.2.2.2.2.2.2.2.2.2.2.2.2.2.2.2.2.2.2.2.2.2.2.2.2.2.2.2.2.2.2.2.2.2.2.2.2.2.2.2.2.2.2.2.2.2.1,.int .i64 x1.2.2.2.2.2.2.2.2.2.2.2.2.2.2.2.2.2.2.2.2.2.2.2.2.2.2.2.2.2.2.2.2.2.2.2.2.2.2.2.2.2.2.2.2.2.2.2.2.2.2.2.2.2.2.2.2.2.2.2.2.2.2.2.2.2.2.2.2.2.2.2.1,.int .i64 x1.2.2.2.2.2.2.2.2.2.2.2.2.2.2.2.2.2.2.2.2.2.2.2.2.2.2.2.2.2.2.2.2.2.2.2.2.2.2.2.2.2.2.2.2.2.2.2.2.2.2.2.2.2.2.2.2.2.2.2.2.2.2.2.2.2.2.2.2.2.2.2.2.1,.int .i64 x1.2.2.2.2.2.2.2.2.2.2.2.2.2.2.2.2.2.2.2.2.2.2.2.2.2.2.2.2.2.2.2.2.2.2.2.2.2.2.2.2.2.2.2.2.2.2.2.2.2.2.2.2.2.2.2.2.2.2.2.2.2.2.2.2.2.2.2.2.2.2.2.2.2.1,.int .i64 x1.2.2.2.2.2.2.2.2.2.2.2.2.2.2.2.2.2.2.2.2.2.2.2.2.2.2.2.2.2.2.2.2.2.2.2.2.2.2.2.2.2.2.2.2.2.2.2.2.2.2.2.2.2.2.2.2.2.2.2.2.2.2.2.2.2.2.2.2.2.2.2.2.2.2.1,.int .i64 x1.2.2.2.2.2.2.2.2.2.2.2.2.2.2.2.2.2.2.2.2.2.2.2.2.2.2.2.2.2.2.2.2.2.2.2.2.2.2.2.2.2.2.2.2.2.2.2.2.2.2.2.2.2.2.2.2.2.2.2.2.2.2.2.2.2.2.2.2.2.2.2.2.2.2.2.1,.int .i64 x1.2.2.2.2.2.2.2.2.2.2.2.2.2.2.2.2.2.2.2.2.2.2.2.2.2.2.2.2.2.2.2.2.2.2.2.2.2.2.2.2.2.2.2.2.2.2.2.2.2.2.2.2.2.2.2.2.2.2.2.2.2.2.2.2.2.2.2.2.2.2.2.2.2.2.2.2.1,.slice false (x1.2.2.2.2.2.2.2.2.2.2.2.2.2.2.2.2.2.2.2.2.2.2.2.2.2.2.2.2.2.2.2.2.2.2.2.2.2.2.2.2.2.2.2.2.2.2.2.2.2.2.2.2.2.2.2.2.2.2.2.2.2.2.2.2.2.2.2.2.2.2.2.2.2.2.2.2.2.1.map aO.d),.slice false (x1.2.2.2.2.2.2.2.2.2.2.2.2.2.2.2.2.2.2.2.2.2.2.2.2.2.2.2.2.2.2.2.2.2.2.2.2.2.2.2.2.2.2.2.2.2.2.2.2.2.2.2.2.2.2.2.2.2.2.2.2.2.2.2.2.2.2.2.2.2.2.2.2.2.2.2.2.2.2.1.map bG.d),.slice false (x1.2.2.2.2.2.2.2.2.2.2.2.2.2.2.2.2.2.2.2.2.2.2.2.2.2.2.2.2.2.2.2.2.2.2.2.2.2.2.2.2.2.2.2.2.2.2.2.2.2.2.2.2.2.2.2.2.2.2.2.2.2.2.2.2.2.2.2.2.2.2.2.2.2.2.2.2.2.2.2.1.map (eInt .i64).d),.slice false (x1.2.2.2.2.2.2.2.2.2.2.2.2.2.2.2.2.2.2.2.2.2.2.2.2.2.2.2.2.2.2.2.2.2.2.2.2.2.2.2.2.2.2.2.2.2.2.2.2.2.2.2.2.2.2.2.2.2.2.2.2.2.2.2.2.2.2.2.2.2.2.2.2.2.2.2.2.2.2.2.2.1.map bO.d),.slice false (x1.2.2.2.2.2.2.2.2.2.2.2.2.2.2.2.2.2.2.2.2.2.2.2.2.2.2.2.2.2.2.2.2.2.2.2.2.2.2.2.2.2.2.2.2.2.2.2.2.2.2.2.2.2.2.2.2.2.2.2.2.2.2.2.2.2.2.2.2.2.2.2.2.2.2.2.2.2.2.2.2.2.1.map aO.d),.slice false (x1.2.2.2.2.2.2.2.2.2.2.2.2.2.2.2.2.2.2.2.2.2.2.2.2.2.2.2.2.2.2.2.2.2.2.2.2.2.2.2.2.2.2.2.2.2.2.2.2.2.2.2.2.2.2.2.2.2.2.2.2.2.2.2.2.2.2.2.2.2.2.2.2.2.2.2.2.2.2.2.2.2.2.1.map bH.d),.int .i64 x1.2.2.2.2.2.2.2.2.2.2.2.2.2.2.2.2.2.2.2.2.2.2.2.2.2.2.2.2.2.2.2.2.2.2.2.2.2.2.2.2.2.2.2.2.2.2.2.2.2.2.2.2.2.2.2.2.2.2.2.2.2.2.2.2.2.2.2.2.2.2.2.2.2.2.2.2.2.2.2.2.2.2.2.1,.int .i64 x1.2.2.2.2.2.2.2.2.2.2.2.2.2.2.2.2.2.2.2.2.2.2.2.2.2.2.2.2.2.2.2.2.2.2.2.2.2.2.2.2.2.2.2.2.2.2.2.2.2.2.2.2.2.2.2.2.2.2.2.2.2.2.2.2.2.2.2.2.2.2.2.2.2.2.2.2.2.2.2.2.2.2.2.2.1,.int .i64 x1.2.2.2.2.2.2.2.2.2.2.2.2.2.2.2.2.2.2.2.2.2.2.2.2.2.2.2.2.2.2.2.2.2.2.2.2.2.2.2.2.2.2.2.2.2.2.2.2.2.2.2.2.2.2.2.2.2.2.2.2.2.2.2.2.2.2.2.2.2.2.2.2.2.2.2.2.2.2.2.2.2.2.2.2.2.1,.int .i64 x1.2.2.2.2.2.2.2.2.2.2.2.2.2.2.2.2.2.2.2.2.2.2.2.2.2.2.2.2.2.2.2.2.2.2.2.2.2.2.2.2.2.2.2.2.2.2.2.2.2.2.2.2.2.2.2.2.2.2.2.2.2.2.2.2.2.2.2.2.2.2.2.2.2.2.2.2.2.2.2.2.2.2.2.2.2.2.1,.int .i64 x1.2.2.2.2.2.2.2.2.2.2.2.2.2.2.2.2.2.2.2.2.2.2.2.2.2.2.2.2.2.2.2.2.2.2.2.2.2.2.2.2.2.2.2.2.2.2.2.2.2.2.2.2.2.2.2.2.2.2.2.2.2.2.2.2.2.2.2.2.2.2.2.2.2.2.2.2.2.2.2.2.2.2.2.2.2.2.2.1,.bool x1.2.2.2.2.2.2.2.2.2.2.2.2.2.2.2.2.2.2.2.2.2.2.2.2.2.2.2.2.2.2.2.2.2.2.2.2.2.2.2.2.2.2.2.2.2.2.2.2.2.2.2.2.2.2.2.2.2.2.2.2.2.2.2.2.2.2.2.2.2.2.2.2.2.2.2.2.2.2.2.2.2.2.2.2.2.2.2.2.1,.bool x1.2.2.2.2.2.2.2.2.2.2.2.2.2.2.2.2.2.2.2.2.2.2.2.2.2.2.2.2.2.2.2.2.2.2.2.2.2.2.2.2.2.2.2.2.2.2.2.2.2.2.2.2.2.2.2.2.2.2.2.2.2.2.2.2.2.2.2.2.2.2.2.2.2.2.2.2.2.2.2.2.2.2.2.2.2.2.2.2.2.1,.int .i64 x1.2.2.2.2.2.2.2.2.2.2.2.2.2.2.2.2.2.2.2.2.2.2.2.2.2.2.2.2.2.2.2.2.2.2.2.2.2.2.2.2.2.2.2.2.2.2.2.2.2.2.2.2.2.2.2.2.2.2.2.2.2.2.2.2.2.2.2.2.2.2.2.2.2.2.2.2.2.2.2.2.2.2.2.2.2.2.2.2.2.2.1,.int .i64 x1.2.2.2.2.2.2.2.2.2.2.2.2.2.2.2.2.2.2.2.2.2.2.2.2.2.2.2.2.2.2.2.2.2.2.2.2.2.2.2.2.2.2.2.2.2.2.2.2.2.2.2.2.2.2.2.2.2.2.2.2.2.2.2.2.2.2.2.2.2.2.2.2.2.2.2.2.2.2.2.2.2.2.2.2.2.2.2.2.2.2.2.1,.int .i64 x1.2.2.2.2.2.2.2.2.2.2.2.2.2.2.2.2.2.2.2.2.2.2.2.2.2.2.2.2.2.2.2.2.2.2.2.2.2.2.2.2.2.2.2.2.2.2.2.2.2.2.2.2.2.2.2.2.2.2.2.2.2.2.2.2.2.2.2.2.2.2.2.2.2.2.2.2.2.2.2.2.2.2.2.2.2.2.2.2.2.2.2.2.1,.int .i64 x1.2.2.2.2.2.2.2.2.2.2.2.2.2.2.2.2.2.2.2.2.2.2.2.2.2.2.2.2.2.2.2.2.2.2.2.2.2.2.2.2.2.2.2.2.2.2.2.2.2.2.2.2.2.2.2.2.2.2.2.2.2.2.2.2.2.2.2.2.2.2.2.2.2.2.2.2.2.2.2.2.2.2.2.2.2.2.2.2.2.2.2.2.2.1,.int .i64 x1.2.2.2.2.2.2.2.2.2.2.2.2.2.2.2.2.2.2.2.2.2.2.2.2.2.2.2.2.2.2.2.2.2.2.2.2.2.2.2.2.2.2.2.2.2.2.2.2.2.2.2.2.2.2.2.2.2.2.2.2.2.2.2.2.2.2.2.2.2.2.2.2.2.2.2.2.2.2.2.2.2.2.2.2.2.2.2.2.2.2.2.2.2.2.1,.int .u32 x1.2.2.2.2.2.2.2.2.2.2.2.2.2.2.2.2.2.2.2.2.2.2.2.2.2.2.2.2.2.2.2.2.2.2.2.2.2.2.2.2.2.2.2.2.2.2.2.2.2.2.2.2.2.2.2.2.2.2.2.2.2.2.2.2.2.2.2.2.2.2.2.2.2.2.2.2.2.2.2.2.2.2.2.2.2.2.2.2.2.2.2.2.2.2.2,.nilp]))]) 1 [1000] rfl rfl (lb rfl) cl53 (.cons (svR rfl) (.cons (svA q31 rfl) .nil)) rfl rfl ⟨rfl,rfl,by decide,rfl,List.forall_mem_cons.2 ⟨⟨rfl,rfl,(aBJ aP rfl rfl rfl),(mV aP rfl rfl)⟩,List.forall_mem_nil _⟩⟩ (pY _ _ _ _ _ _ _ _ _ _ _ _ _ _ _ _ _ _ _ _ _ _ _ _ _ _ _ _ _ _ _ _ _ _ _ _ _ _ _ _ _ _ _ _ _ _ _ _ _ _ _ _ _ _ _ _ _ _ _ _ _ _ _ _ _ _ _ _ _ _ _ _ _ _ _ _ _ _ _ _ _ _ _ _ _ _ _ _ _ _ _ _ _ _ _ _ _ hx1) rfl rfl (List.forall_mem_cons.2 ⟨⟨rfl,(mV aP rfl rfl)⟩,List.forall_mem_nil _⟩) (by simp only [List.map_cons,List.map_nil,Ent.ren,iV,jL,oH]; rfl)) <|cCm (b:=0) rfl hx2 <|aB ?_)
 refine aH h rfl (fun h=>?_) (fun h=>?_)
 ·
  cases h
 ·
  refine aJ ?_
  obtain rfl:=Option.some.inj h
  refine ⟨.inl rfl,(fun i=>i),⟨.nil,(.cons (EntW.mix aP rfl (SubC.of_eq rfl) (SubC.of_eq rfl) rfl rfl) .nil),bS [1000] rfl (by decide),fun _ _=>rfl⟩,.nil,rfl⟩

theorem aCh  (r : oM) (h : vQ = some r) : bR Tryz.prog 51 [] (.agg (tv15 r)):=by
 refine aN (rs:=[.agg (tv15 r)]) Tryz.func51 rfl Tryz.ntmps51 (nle rfl) rfl fun O hO=>?_
 show IWP _ _ _ _ ⟨[],[]⟩ _
 unfold vQ at h
 refine aC (aA rfl (aZ (cs:=[.nils,.int _ _,.int _ _]) (cs':=[.slice false (([] : List fY).map nW.d),.int .i64 0,.int .i64 0]) 0 rfl rfl (lb rfl) rfl aFs rfl rfl (.cons (.nils _) (.all _))) <|aB ?_)
 refine aC (aA rfl (kM (d':=.agg [.slice false (([] : List fY).map nW.d),.int .i64 (-1),.int .i64 0]) (aY (cs:=[.nils,.int _ _,.int _ _]) rfl rfl (lb rfl) Tryz.underlying167 aFs pl167 rfl (.cons (sv (d:=.int _ (-1)) rfl) .nil) rfl) (.agg (.cons (.nils _) (.all _)))) <|aA rfl (cH (ds':=[.slice false (([] : List fY).map nW.d),.int _ _,.int _ _]) rfl rfl aFs (svR rfl) rfl (sv (d:=.agg [.slice _ _,.int _ _,.int _ _]) rfl) rfl rfl rfl (nle rfl) rfl) <|aB ?_)
 refine aI ?_
 obtain rfl:=Option.some.inj h
 refine ⟨.inr rfl,(.cons (rva la167 rfl rfl (nle rfl) rfl) .nil)⟩
end Go.Proofs.YtgooaecafbjhjaaGreatDoor
