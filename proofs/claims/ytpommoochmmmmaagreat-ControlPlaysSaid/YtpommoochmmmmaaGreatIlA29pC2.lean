/-
  A part of the proof: rules and plain facts. No condition.
-/
import Derived.Test.YtpommoochmmmmaaGreatProg
import Derived.KernelRfl
import Derived.Test.YtpommoochmmmmaaGreatIlEx
import Derived.Test.YtpommoochmmmmaaGreatIlA29pD
import Derived.Test.YtpommoochmmmmaaGreatIlA29pC1
set_option linter.all false
open Go renaming Program → An
open Go.IL.CsOk renaming of → FI,to → Dl
open Go.IL.D renaming flat → Al
open Go.IL.Ent renaming ren → Fm
open Go.IL.EntW renaming lst → Cd
open Go.IL.FsOk renaming of → Bk
open Go.IL.HsOk renaming of → HK
open Go.IL.RK renaming ty → Bb
open Go.Proofs.Tryz renaming prog → Ik
open List renaming forall_mem_cons → BL,forall_mem_nil → BU,map_cons → AB,map_nil → BI
open Nat renaming beq → Aj,le_trans → Cb,lt_succ_self → BH
open _root_ renaming UInt8 → Ai,absurd → AP,congrArg → Bv
set_option maxRecDepth 8000
set_option maxHeartbeats 2000000
open Go Go.IL Go.Fn Go.Proofs
open Go.Proofs.Tryz
namespace Go.Proofs.YtpommoochmmmmaaGreat
variable [Fu]
theorem aCJ (a0:aK) (a1:(List Ai)) (r:(aK×(List aA))) (h:pT a0 a1=some r):eL Ik 35 [.agg (tv3 a0),.str a1] (retD [.agg (tv3 r.1),.slice false (r.2.map bB.d)]):=by
 refine pI (rs:=[.agg (tv3 r.1),.slice false (r.2.map bB.d)]) func35 M ntmps35 (nle M) M fun O hO=>?_
 show IWP _ _ _ _ ⟨[(0,.agg (tv3 a0)),(1,.str a1)],[]⟩ _
 unfold pT at h;refine aJ (cBx (cs:=q12) q12 0 M<|aE M (fA (cs:=q12) (cs':=[.str [],.int .i64 0,.int .i64 0]) 1 M M (lb M) M ti37 M M (.all _))<|cAs (.nils) M<|aI ?_);refine bG ?_;obtain ⟨x1,hx1,x2,hx2,x3,hx3,h⟩:=edod h;obtain ⟨x4,hx4,h⟩:=dM h;refine aJ (cFa 1 underlying37 M ti35 M<|cLd (d:=.int _ _) underlying35 ag35 ti35 M<|cCm (b:=0) M hx1<|cB M<|gG M (fun hb=>(tLr q12 la37 M))<|gG M (fun hb=>(eZ (r:=.int _ _) M M (lb M) cl68 (.cons (svcA (tv3 a0) M hb) .nil) M (aBn _ _ (gd_t hx2 hb))))<|gG M (fun hb=>(tCg (b:=0) M hb hx3))<|cOr M hx4<|aI ?_);refine bE h M (fun h=>?_) (fun h=>?_)
 ·
  refine aJ (cLr q12 la37 M<|cSt q12 q12 ti37 M<|cAs (.nils) M<|aI ?_);refine bJ<|cN ?_;obtain rfl:=sj_ h;refine ⟨.inr M,(.cons (rva la37 M M (nle M) M) (.cons (aIQ M M) .nil))⟩
 ·
  refine bS<|aT ?_;obtain ⟨x6,hx6,h⟩:=eC h;refine aJ (cFa 0 underlying37 M ti9 M<|cLd (d:=.str _) underlying9 ag9 ti9 M<|cMv (.str _) M<|aE M (aDh M M (lb M) (sv (d:=.str _) M) (sv (d:=.str _) M) hx6)<|cFa 0 underlying37 M ti9 M<|aE M (cY (ds':=q12) M M ti9 (svR M) M (sv (d:=.str _) M) M M M (nle M) M)<|aI ?_);refine aJ (aE M (fA (cs:=[.nils]) (cs':=[.nils]) 2 M M (lb M) M ti60 M M (.all _))<|aI ?_);refine aDW (α:=(List Ai)×Int×Int×(List aA)) (fun z=>⟨[(2,.ref 0 0),(4,.ref 1 0),(6,.ref 2 0)],[(0,.blk 37 [.str z.1,.int .i64 z.2.1,.int .i64 z.2.2.1]),(1,.blk 37 [.str [],.int .i64 0,.int .i64 0]),(2,.blk 60 [.gsl 33 bB.sz (z.2.2.2.map bB.d)]),(33,.tail 81 bB.sz z.2.2.2.length)]⟩) (fun z=>mC z.1 z.2.1 z.2.2.1 z.2.2.2=some r) ?_ ?_
  ·
   refine aJ (?_);refine aBQ (S':=⟨[(2,.ref 0 0),(4,.ref 1 0),(6,.ref 2 0)],[(0,.blk 37 [.str x6,.int .i64 a0.bv,.int .i64 a0.bf]),(1,.blk 37 [.str [],.int .i64 0,.int .i64 0]),(2,.blk 60 [.nils])]⟩) (fun i=>i) ⟨(.sames M M),(.cons (.blk M M M) (.cons (.blk M M M) (.cons (.blk M M M) .nil))),dF [0,1,2] M (by decide),fun _ _=>M⟩<|aJf 1 3 M M M (by decide) cl82 func82 M (.cons (svR M) .nil) ntmps82 (nle M) M hO fun O1 hO1=>?_
   show IWP _ _ _ _ ⟨[(0,.ref 0 0)],[(3,.kept 1 (.dead::(.dead::(.ref 0 0::(.dead::(.ref 1 0::(.dead::(.ref 2 0::(dd_ 23 []))))))))),(0,.blk 37 [.str x6,.int .i64 a0.bv,.int .i64 a0.bf]),(1,.blk 37 [.str [],.int .i64 0,.int .i64 0]),(2,.blk 60 [.nils])]⟩ _
   refine aJ (aE M (aBP (cs:=[.ref _ _]) 4 M M (lb M) M (svR M) M M)<|cAs (.nilf) M<|aI ?_);refine aJ (aE M (uF M M (lb M) (.cons (svR M) .nil))<|cAs (.fn 142 [.ref _ _]) M<|aI ?_);refine bJ ?_;refine ⟨.inr M,3,_,[.fn 142 [.ref 4 0]],(.cons (sv M) .nil),M,M,⟨[(2,.ref 0 0),(4,.ref 1 0),(6,.ref 2 0),(22,.fn 142 [.ref 4 0])],[(0,.blk 37 [.str x6,.int .i64 a0.bv,.int .i64 a0.bf]),(1,.blk 37 [.str [],.int .i64 0,.int .i64 0]),(2,.blk 60 [.nils]),(4,.blk 225 [.ref 0 0])]⟩,(fun i=>i),⟨(.sames M M),(.cons (.blk M M M) (.cons (.blk M M M) (.cons (.blk M M M) (.cons (.blk M M M) .nil)))),dF [0,1,2,4] M (by decide),fun _ _=>M⟩,?_⟩;refine aI<|bT<|aAC (S':=⟨[(2,.ref 0 0),(4,.ref 1 0),(6,.ref 2 0),(22,.fn 142 [.ref 4 0])],[(0,.blk 37 [.str x6,.int .i64 a0.bv,.int .i64 a0.bf]),(1,.blk 37 [.str [],.int .i64 0,.int .i64 0]),(2,.blk 60 [.nils]),(4,.blk 225 [.ref 0 0])]⟩) (fun i=>i) ⟨(.sames M M),(.cons (.blk M M M) (.cons (.blk M M M) (.cons (.blk M M M) (.cons (.blk M M M) .nil)))),dF [0,1,2,4] M (by decide),fun _ _=>M⟩<|aEa 1 5 6 (sv (d:=.fn 142 [.ref _ _]) M) cl142 func142 M M ntmps142 (nle M) M M hO fun O1 hO1 hlc1=>?_
   show IWP _ _ _ _ ⟨[(0,.yld 5),(1,.ref 4 0)],[(6,.kept 1 (.dead::(.dead::(.ref 0 0::(.dead::(.ref 1 0::(.dead::(.ref 2 0::(dd_ 15 (.fn 142 [.ref 4 0]::(dd_ 7 []))))))))))),(5,.loop 1 [.dead,.dead,.ref 0 0,.dead,.ref 1 0,.dead,.ref 2 0,.dead,.dead,.dead,.dead,.dead,.dead,.dead,.dead,.dead,.dead,.dead,.dead,.dead,.dead,.dead,.fn 142 [.ref 4 0],.dead,.dead,.dead,.dead,.dead,.dead,.dead] .ready none),(0,.blk 37 [.str x6,.int .i64 a0.bv,.int .i64 a0.bf]),(1,.blk 37 [.str [],.int .i64 0,.int .i64 0]),(2,.blk 60 [.nils]),(4,.blk 225 [.ref 0 0])]⟩ _
   refine bT<|lX (α:=Nat×(List Ai)×Int×(List aA)) (fun z=>⟨[(0,.yld 5),(1,.ref 4 0)],[(5,.loop 1 [.dead,.dead,.ref 0 0,.dead,.ref 1 0,.dead,.ref 2 0,.dead,.dead,.dead,.dead,.dead,.dead,.dead,.dead,.dead,.dead,.dead,.dead,.dead,.dead,.dead,.fn 142 [.ref 4 0],.dead,.dead,.dead,.dead,.dead,.dead,.dead] .ready none),(4,.blk 225 [.ref 0 0]),(6,.kept 1 (.dead::(.dead::(.ref 0 0::(.dead::(.ref 1 0::(.dead::(.ref 2 0::(dd_ 15 (.fn 142 [.ref 4 0]::(dd_ 7 []))))))))))),(0,.blk 37 [.str z.2.1,.int .i64 a0.bv,.int .i64 z.2.2.1]),(1,.blk 37 [.str [],.int .i64 0,.int .i64 0]),(2,.blk 60 [.gsl 28 bB.sz (z.2.2.2.map bB.d)]),(28,.tail 81 bB.sz z.2.2.2.length)]⟩) (fun z=>jZ a0 z.1 z.2.1 z.2.2.1 z.2.2.2=some r) (fun z=>z.1) (fuel,x6,a0.bf,([]:(List aA))) (fun i=>if i=28 then 85 else i) ⟨(.sames M M),(.cons (.loop M M M) (.cons (.blk M M M) (.cons (.kept M M M) (.cons (.blk M M M) (.cons (.blk M M M) (.cons (.sub M (.nilg .nil) M) (.cons (.nils M) .nil))))))),dF [5,4,6,0,1,2,85] M (by decide),(fun i hi=>by first | rfl | (show (if _ then _ else _)=_; (repeat' split) <;> omega))⟩ ?_ ?_
   ·exact h
   ·
    rintro ⟨n2,v50,v51,v52⟩ h
    cases n2 with
    | zero=>exact AP h (by unfold jZ; exact nofun)
    | succ n2 =>
     unfold jZ at h;refine bT ?_;obtain ⟨x62,hx62,h⟩:=eC h;refine aJ (cLd (d:=.ref _ _) underlying225 aIC aHb M<|aE M (aS M M (lb M) (svR M))<|cFa 0 underlying37 M ti9 M<|cLd (d:=.str _) underlying9 ag9 ti9 M<|aE M (eZ (r:=.tuple q15) M M (lb M) cl124 (.cons (sv (d:=.str _) M) .nil) M (aFY _ _ hx62))<|cMv (.tuple q15) M<|cEx (d:=.agg q4) (cs:=q15) M<|cEx (d:=.int _ _) (cs:=q15) M<|cEx (d:=.int _ _) (cs:=q15) M<|aE M (fA (cs:=q6) (cs':=zs0) 29 M M (lb M) M ti81 M M (.k4 (.k4 (.cons (.nils _) (.all _)))))<|cSt q4 q4 ti81 M<|cAI M<|cAI M<|aI ?_);refine aJ (cI M<|aI ?_);refine bT ?_;obtain ⟨x63,hx63,h⟩:=dM h;refine aJ (cCm (b:=0) M hx63<|cAB M<|aI ?_);refine bE h M (fun h=>?_) (fun h=>?_)
     ·
      obtain ⟨x65,hx65,h⟩:=eC h;refine lY M [nd2 [1] [4] 25 (.ref 0 0),nd2 [1] [4] 26 (.ref 0 0),nd1 [26] 27 (.ref 0 0),nd1 [27] 28 (.ref 0 0),nd2 [28] [0] 29 (.str v50),nd1 [4] 30 (.int .i64 x62.2.1),nd1 [29,30] 31 (.str x65),nd1 [25] 32 (.ref 0 0),nd1 [32] 33 (.ref 0 0),⟨[31,33],[0],[],[(0,.blk 37 [.str x65,.int .i64 a0.bv,.int .i64 v51])]⟩] M ?_ (by kernel_rfl) ?_
      ·refine .cons (dLd underlying225 aIC aHb M)<|.cons (dLd underlying225 aIC aHb M)<|.cons (lop M M fun S hA=>(aS M M (lb M) (svaR hA M M)))<|.cons (dFa 0 underlying37 M ti9 M)<|.cons (dLd underlying9 ag9 ti9 M)<|.cons (dMv M)<|.cons (lop M M fun S hA=>(vZ M M (lb M) underlying9 (sv (d:=.str _) (agr hA M M)) ⟨_,(svaI hA M M)⟩ M hx65))<|.cons (lop M M fun S hA=>(aS M M (lb M) (svaR hA M M)))<|.cons (dFa 0 underlying37 M ti9 M)<|.cons (lop M M fun S hA=>(cY (ds':=q12) M M ti9 (svaR hA M M) (agi hA M M) (sv (d:=.str _) (agr hA M M)) M M M (nle M) M)) ?_
       exact .nil
      obtain ⟨x66,hx66,h⟩:=dM h;refine aJ (cLd (d:=.ref _ _) underlying225 aIC aHb M<|aE M (aS M M (lb M) (svR M))<|cFa 2 underlying37 M ti3 M<|cLd (d:=.int _ _) underlying3 ag3 ti3 M<|aE M (cT M M (lb M) (svI M) (sv (d:=.int _ 1) M) M hx66)<|aE M (aS M M (lb M) (svR M))<|cFa 2 underlying37 M ti3 M<|aE M (cY (ds':=q12) M M ti3 (svR M) M (svI M) M M M (nle M) M)<|aI ?_);refine aJ (cMv (.yld _) M<|cLr q4 la81 M <|?_);refine aBQ (S':=⟨[(0,.yld 5),(1,.ref 4 0),(41,.yld 5),(42,.agg (tv0 x62.1))],[(0,.blk 37 [.str x65,.int .i64 a0.bv,.int .i64 x66]),(1,.blk 37 [.str [],.int .i64 0,.int .i64 0]),(2,.blk 60 [.gsl 28 bB.sz (v52.map bB.d)]),(4,.blk 225 [.ref 0 0]),(5,.loop 1 [.dead,.dead,.ref 0 0,.dead,.ref 1 0,.dead,.ref 2 0,.dead,.dead,.dead,.dead,.dead,.dead,.dead,.dead,.dead,.dead,.dead,.dead,.dead,.dead,.dead,.fn 142 [.ref 4 0],.dead,.dead,.dead,.dead,.dead,.dead,.dead] .ready none),(6,.kept 1 (.dead::(.dead::(.ref 0 0::(.dead::(.ref 1 0::(.dead::(.ref 2 0::(dd_ 15 (.fn 142 [.ref 4 0]::(dd_ 7 []))))))))))),(28,.tail 81 bB.sz v52.length)]⟩) (fun i=>i) ⟨(.sames M M),(.cons (.blk M M M) (.cons (.blk M M M) (.cons (.blk M M M) (.cons (.blk M M M) (.cons (.loop M M M) (.cons (.kept M M M) (.cons (.tail M) .nil))))))),dF [0,1,2,4,5,6,28] M (by decide),fun _ _=>M⟩<|aEq 2 5 30 M M M (by decide) M (.cons (svA q4 M) .nil) M M M M M M hO1 hlc1 ⟨[(23,.agg (tv0 x62.1)),(6,.ref 2 0)],[(0,.blk 37 [.str x65,.int .i64 a0.bv,.int .i64 x66]),(1,.blk 37 [.str [],.int .i64 0,.int .i64 0]),(2,.blk 60 [.gsl 28 bB.sz (v52.map bB.d)]),(4,.blk 225 [.ref 0 0]),(5,.loop 1 [.dead,.dead,.ref 0 0,.dead,.ref 1 0,.dead,.ref 2 0,.dead,.dead,.dead,.dead,.dead,.dead,.dead,.dead,.dead,.dead,.dead,.dead,.dead,.dead,.dead,.fn 142 [.ref 4 0],.dead,.dead,.dead,.dead,.dead,.dead,.dead] .ready none),(6,.kept 1 (.dead::(.dead::(.ref 0 0::(.dead::(.ref 1 0::(.dead::(.ref 2 0::(dd_ 15 (.fn 142 [.ref 4 0]::(dd_ 7 []))))))))))),(28,.tail 81 bB.sz v52.length),(30,.kept 2 (.yld 5::(.ref 4 0::(dd_ 39 (.yld 5::(.agg (tv0 x62.1)::(dd_ 4 [])))))))]⟩ (fun i=>i) ⟨(.sames M M),(.cons (.blk M M M) (.cons (.blk M M M) (.cons (.blk M M M) (.cons (.blk M M M) (.cons (.loop M M M) (.cons (.kept M M M) (.cons (.tail M) (.cons (.kept M M M) .nil)))))))),dF [0,1,2,4,5,6,28,30] M (by decide),fun _ _=>M⟩ fun O2=>?_
      refine bN (aE M (fA (cs:=q6) (cs':=zs0) 31 M M (lb M) M ti81 M M (.k4 (.k4 (.cons (.nils _) (.all _)))))<|cSt q4 q4 ti81 M<|dJ ?_);refine ⟨M,5,_,M,⟨[(6,.ref 2 0),(7,.ref 31 0)],[(0,.blk 37 [.str x65,.int .i64 a0.bv,.int .i64 x66]),(1,.blk 37 [.str [],.int .i64 0,.int .i64 0]),(2,.blk 60 [.gsl 28 bB.sz (v52.map bB.d)]),(4,.blk 225 [.ref 0 0]),(5,.loop 1 [.dead,.dead,.ref 0 0,.dead,.ref 1 0,.dead,.ref 2 0,.dead,.dead,.dead,.dead,.dead,.dead,.dead,.dead,.dead,.dead,.dead,.dead,.dead,.dead,.dead,.fn 142 [.ref 4 0],.dead,.dead,.dead,.dead,.dead,.dead,.dead] .busy none),(6,.kept 1 (.dead::(.dead::(.ref 0 0::(.dead::(.ref 1 0::(.dead::(.ref 2 0::(dd_ 15 (.fn 142 [.ref 4 0]::(dd_ 7 []))))))))))),(28,.tail 81 bB.sz v52.length),(30,.kept 2 (.yld 5::(.ref 4 0::(dd_ 39 (.yld 5::(.agg (tv0 x62.1)::(dd_ 4 []))))))),(31,.blk 81 (tv0 x62.1))]⟩,(fun i=>i),⟨(.sames M M),(.cons (.blk M M M) (.cons (.blk M M M) (.cons (.blk M M M) (.cons (.blk M M M) (.cons (.loop M M M) (.cons (.kept M M M) (.cons (.tail M) (.cons (.kept M M M) (.cons (.blk M M M) .nil))))))))),dF [0,1,2,4,5,6,28,30,31] M (by decide),fun _ _=>M⟩,?_⟩;refine bT ?_;obtain ⟨x67,hx67,h⟩:=eC h;refine bN (cLd (d:=.gsl _ _ _) underlying60 ag60 ti60 M<|cLr q4 la81 M<|aE M (zD bB ([x62.1]:(List aA)) 32 M M (lb M) underlying60 ti81 M (.cons (svA q4 M) .nil) M M (by decide))<|aE M (wA bB 33 M M (lb M) underlying60 ti81 M M M M (svg M) hx67)<|aE M (cY (ds':=[.gsl _ _ _]) M M ti60 (svR M) M (sv (d:=.gsl _ _ _) M) M M M (nle M) M)<|dJ ?_);refine cV ?_;refine ⟨5,30,_,_,none,M,M,M,M,(by decide),⟨[(0,.yld 5),(1,.ref 4 0),(43,.bool true)],[(0,.blk 37 [.str x65,.int .i64 a0.bv,.int .i64 x66]),(1,.blk 37 [.str [],.int .i64 0,.int .i64 0]),(2,.blk 60 [.gsl 33 bB.sz (x67.map bB.d)]),(4,.blk 225 [.ref 0 0]),(5,.loop 1 [.dead,.dead,.ref 0 0,.dead,.ref 1 0,.dead,.ref 2 0,.dead,.dead,.dead,.dead,.dead,.dead,.dead,.dead,.dead,.dead,.dead,.dead,.dead,.dead,.dead,.fn 142 [.ref 4 0],.dead,.dead,.dead,.dead,.dead,.dead,.dead] .ready none),(6,.kept 1 (.dead::(.dead::(.ref 0 0::(.dead::(.ref 1 0::(.dead::(.ref 2 0::(dd_ 15 (.fn 142 [.ref 4 0]::(dd_ 7 []))))))))))),(33,.tail 81 bB.sz x67.length)]⟩,(fun i=>i),⟨(.sames M M),(.cons (.blk M M M) (.cons (.blk M M M) (.cons (.blk M M M) (.cons (.blk M M M) (.cons (.loop M M M) (.cons (.kept M M M) (.cons (.tail M) .nil))))))),dF [0,1,2,4,5,6,33] M (by decide),fun _ _=>M⟩,?_⟩;refine aE M (qJ M M (lb M) (svB M))<|aI ?_;refine bE h M (fun h=>?_) (fun h=>?_)
      ·
       refine bJ<|eA<|eA<|cN<|eA ?_;refine ⟨.inr M,5,6,_,_,_,_,M,(by simp),M,M,⟨[(2,.ref 0 0),(4,.ref 1 0),(6,.ref 2 0)],[(0,.blk 37 [.str x65,.int .i64 a0.bv,.int .i64 x66]),(1,.blk 37 [.str [],.int .i64 0,.int .i64 0]),(2,.blk 60 [.gsl 33 bB.sz (x67.map bB.d)]),(33,.tail 81 bB.sz x67.length)]⟩,(fun i=>i),⟨(.sames M M),(.cons (.blk M M M) (.cons (.blk M M M) (.cons (.blk M M M) (.cons (.tail M) .nil)))),dF [0,1,2,33] M (by decide),fun _ _=>M⟩,?_⟩;refine cV<|aT ⟨(x65,a0.bv,x66,x67),(fun i=>i),⟨(.sames M M),(.cons (.blk M M M) (.cons (.blk M M M) (.cons (.blk M M M) (.cons (.tail M) .nil)))),dF [0,1,2,33] M (by decide),fun _ _=>M⟩,?_⟩;exact h
      ·
       refine bS<|cV<|cV<|aT ⟨(n2,x65,x66,x67),(fun i=>if i=28 then 33 else i),⟨(.sames M M),(.cons (.loop M M M) (.cons (.blk M M M) (.cons (.kept M M M) (.cons (.blk M M M) (.cons (.blk M M M) (.cons (.blk M M M) (.cons (.tail M) .nil))))))),dF [5,4,6,0,1,2,33] M (by decide),(fun i hi=>by first | rfl | (show (if _ then _ else _)=_; (repeat' split) <;> omega))⟩,?_,?_⟩;exact h;exact BH _
     ·
      obtain ⟨x69,hx69,h⟩:=dM h;refine aJ (cCm (b:=3) M hx69<|cAB M<|aI ?_);refine bE h M (fun h=>?_) (fun h=>?_)
      ·
       refine bJ<|eA<|eA<|cN<|eA ?_;refine ⟨.inr M,5,6,_,_,_,_,M,(by simp),M,M,⟨[(2,.ref 0 0),(4,.ref 1 0),(6,.ref 2 0)],[(0,.blk 37 [.str v50,.int .i64 a0.bv,.int .i64 v51]),(1,.blk 37 [.str [],.int .i64 0,.int .i64 0]),(2,.blk 60 [.gsl 28 bB.sz (v52.map bB.d)]),(28,.tail 81 bB.sz v52.length)]⟩,(fun i=>i),⟨(.sames M M),(.cons (.blk M M M) (.cons (.blk M M M) (.cons (.blk M M M) (.cons (.tail M) .nil)))),dF [0,1,2,28] M (by decide),fun _ _=>M⟩,?_⟩;refine cV<|aT ⟨(v50,a0.bv,v51,v52),(fun i=>if i=33 then 28 else i),⟨(.sames M M),(.cons (.blk M M M) (.cons (.blk M M M) (.cons (.blk M M M) (.cons (.tail M) .nil)))),dF [0,1,2,28] M (by decide),(fun i hi=>by first | rfl | (show (if _ then _ else _)=_; (repeat' split) <;> omega))⟩,?_⟩;exact h
      ·
       refine lY M [nd2 [1] [4] 16 (.ref 0 0),nd2 [1] [4] 17 (.ref 0 0),nd1 [5] 18 (.int .i64 x62.2.2),nd1 [16] 19 (.ref 0 0),nd1 [19] 20 (.ref 0 0),⟨[20],[0],[],[(0,.blk 37 [.str [],.int .i64 a0.bv,.int .i64 v51])]⟩,nd1 [17] 21 (.ref 0 0),nd1 [21] 22 (.ref 0 1),⟨[18,22],[0],[],[(0,.blk 37 [.str [],.int .i64 x62.2.2,.int .i64 v51])]⟩] M ?_ (by kernel_rfl) ?_
       ·refine .cons (dLd underlying225 aIC aHb M)<|.cons (dLd underlying225 aIC aHb M)<|.cons (dMv M)<|.cons (lop M M fun S hA=>(aS M M (lb M) (svaR hA M M)))<|.cons (dFa 0 underlying37 M ti9 M)<|.cons (lop M M fun S hA=>(cY (ds':=q12) M M ti9 (svaR hA M M) (agi hA M M) (sv (d:=.str []) M) M M M (nle M) M))<|.cons (lop M M fun S hA=>(aS M M (lb M) (svaR hA M M)))<|.cons (dFa 1 underlying37 M ti35 M)<|.cons (lop M M fun S hA=>(cY (ds':=q12) M M ti35 (svaR hA M M) (agi hA M M) (svaI hA M M) M M M (nle M) M)) ?_
        exact .nil
       refine bJ<|eA<|eA<|cN<|eA ?_;refine ⟨.inr M,5,6,_,_,_,_,M,(by simp),M,M,⟨[(2,.ref 0 0),(4,.ref 1 0),(6,.ref 2 0)],[(0,.blk 37 [.str [],.int .i64 x62.2.2,.int .i64 v51]),(1,.blk 37 [.str [],.int .i64 0,.int .i64 0]),(2,.blk 60 [.gsl 28 bB.sz (v52.map bB.d)]),(28,.tail 81 bB.sz v52.length)]⟩,(fun i=>i),⟨(.sames M M),(.cons (.blk M M M) (.cons (.blk M M M) (.cons (.blk M M M) (.cons (.tail M) .nil)))),dF [0,1,2,28] M (by decide),fun _ _=>M⟩,?_⟩;refine cV<|aT ⟨(([]:(List Ai)),x62.2.2,v51,v52),(fun i=>if i=33 then 28 else i),⟨(.sames M M),(.cons (.blk M M M) (.cons (.blk M M M) (.cons (.blk M M M) (.cons (.tail M) .nil)))),dF [0,1,2,28] M (by decide),(fun i hi=>by first | rfl | (show (if _ then _ else _)=_; (repeat' split) <;> omega))⟩,?_⟩;exact h
  ·
   rintro ⟨v37,v38,v39,v40⟩ h;unfold mC at h;refine lY M [nd2 [2] [0] 28 (.agg [.str v37,.int .i64 v38,.int .i64 v39]),nd2 [6] [2] 29 (.gsl 33 bB.sz (v40.map bB.d)),⟨[4,28],[1],[],[(1,.blk 37 [.str v37,.int .i64 v38,.int .i64 v39])]⟩,nd1 [29] 5 (.gsl 33 bB.sz (v40.map bB.d))] M ?_ (by kernel_rfl) ?_
   ·refine .cons (dLa underlying37 ag37 ti37 M)<|.cons (dLd underlying60 ag60 ti60 M)<|.cons (dSt q12 ti37 M)<|.cons (lop M M fun S hA=>(dK M M (lb M) (sv (d:=.gsl _ _ _) (agr hA M M)))) ?_
    exact .nil
   refine bJ ?_;obtain rfl:=sj_ h;refine ⟨.inr M,(.cons (rva la37 M M (nle M) M) (.cons (aIR M M) .nil))⟩
def s93:CS tEl:=⟨[.agg 13,.one .str],[.agg 13,.one (.sl 2)],fun z=>pT z.1 z.2.1⟩
theorem o93:CsOk Ik tCod 35 s93:=FI cl35 (fun z r h=>⟨_,_,aCJ z.1 z.2.1 r h,by kernel_rfl,by kernel_rfl⟩)
def s94:CS tEl:=⟨[.agg 2],[kB],fun z=>pF z.1⟩
def X94:=cX0 [(38,s57)]
theorem o94:CsOk Ik tCod 37 s94:=aV (X94 Ik) ⟨o57,trivial⟩ trivial func37 rfl
def s95:CS tEl:=⟨[.one (.sl 2),.fn0 37],[kI],fun z=>cZ z.1⟩
def X95:=cX0 [(37,s94)]
theorem h95:FsOk (X95 Ik):=Bk (C:=(X95 Ik)) ⟨o94,trivial⟩ trivial
def W95 (P:An) (f:Func):Fw (X95 P):=⟨f,s95.acx,s95.rs⟩
abbrev aLv (m0:Nat):Ct (X95 Ik) (Bb tEl s95.rs):=⟨[0,1,0,1],[.sl 0 (.one (.sl 2)),.sl 1 (.fn0 37),.sl 7 kI,.sl 8 kI],fun z=>(z.1,z.2.1,((z.1.length:Int):Int),z.2.2.2.1,()),0,fun z=>bI z.1 m0 z.2.2.2.1⟩
theorem t95_0 {O:aR} {r:Bb tEl s95.rs}:∀ m0,SndW (W95 Ik f36) O r (aLv m0):=bH (W:=(W95 Ik f36)) h95 (fun m0=>aLv m0) (fun m0=>[aLv m0]) (fun m0 e0=>⟨e0,trivial⟩)
theorem o95:CsOk Ik tCod 36 s95:=bR (W:=(W95 Ik f36)) h95 func36 rfl [aLv fuel] (fun O r _=>⟨(t95_0 fuel),trivial⟩)
def s96:CS tEl:=⟨[kI],[.agg 14],fun z=>tO z.1⟩
def X96:=cX0 []
theorem o96:CsOk Ik tCod 39 s96:=aV (X96 Ik) trivial trivial func39 rfl
def s97:CS tEl:=⟨[.agg 10,kI,kS],[.agg 10,.one (.sl 2),.one (.int .u32)],fun z=>fZ z.1 z.2.1 z.2.2.1⟩
def X97:=cX0 [(22,s56),(33,s88),(34,s92),(35,s93),(36,s95),(39,s96)]
theorem o97:CsOk Ik tCod 8 s97:=aV (X97 Ik) ⟨o56,o88,o92,o93,o95,o96,trivial⟩ trivial func8 rfl
def s98:CS tEl:=⟨[.agg 4,.ptr 12],[kB],fun z=>pG z.1 z.2.1⟩
def X98:=cX1 (fun t=>Aj t 72||Aj t 73||Aj t 76) [] []
theorem o98:CsOk Ik tCod 104 s98:=aV (X98 Ik) trivial trivial func104 rfl
theorem aDJ (a0:aD) (a1:Int) (r:Bool) (h:pG a0 a1=some r):eL Ik 104 [.agg [.int .i64 a0.aa,.int .i64 a0.To,.int .i64 a0.bu,.bool a0.bx],.fptr [.int .i64 a1]] (.bool r):=Dl o98 (a0,a1,()) r h (by kernel_rfl) (by kernel_rfl)
def s99:HS tEl:=⟨[.vf 0 .one [.os 1000 182 5],.sl 1 (.agg 5)],2,1,[.vf 0 .one [.os 0 182 5]],1,1,(List aC),fun y=>y.1.1,fun z r=>(((r:List _),()),()),fun z=>lZ z.2.1 z.1.1⟩
def X99:=cX1 (fun t=>Aj t 181||Aj t 182||Aj t 184) [(151,s11)] []
theorem h99:FsOk (X99 Ik):=Bk (C:=(X99 Ik)) ⟨o11,trivial⟩ trivial
def W99 (P:An) (f:Func):Fh (X99 P):=⟨f,s99⟩
theorem o99:HsOk tCod Ik 161 s99:=uP (C:=(X99 Ik)) (W:=(W99 Ik f161)) (by kernel_rfl) (fun _ _=>rfl) h99 func161 rfl rfl rfl (fun z0=>[]) (fun z=>by kernel_rfl) (fun h hf z=>by kernel_rfl) (fun z0 O r _=>trivial)
def s100:CS tEl:=⟨[.one (.sl 5),.agg 5],[.one (.sl 5)],fun z=>aAE z.1 z.2.1⟩
def X100:=cX1 (fun t=>Aj t 181||Aj t 182||Aj t 184) [(150,s7),(151,s11),(152,s14)] [(148,s18),(161,s99)]
theorem h100:FsOk (X100 Ik):=Bk (C:=(X100 Ik)) ⟨o7,o11,o14,trivial⟩ ⟨o18,o99,trivial⟩
def W100 (P:An) (f:Func):Fw (X100 P):=⟨f,s100.acx,s100.rs⟩
abbrev aCq (m0:Nat):Ct (X100 Ik) (Bb tEl s100.rs):=⟨[0,1,0,1,1,1,1],[.vf 3 .one [.rf 0 0],.vf 5 .one [.os 22 182 5],.sl 6 kB,.sl 23 (.one (.sl 5)),.sl 24 kI,.sl 25 kI,.bk 0 182 [.pl kI,.pl kI]],fun z=>(z.1,z.2.1,z.2.2.1,z.2.2.2.1,((z.2.2.2.1.length:Int):Int),z.2.2.2.2.2.1,z.2.2.2.2.2.2.1,()),23,fun z=>lG z.2.2.2.1 (⟨z.2.2.2.2.2.2.1.1,z.2.2.2.2.2.2.1.2.1⟩:aC) m0 z.2.1.1 z.2.2.1 z.2.2.2.2.2.1⟩
abbrev aKV (m0:Nat):Ct (X100 Ik) (Bb tEl s100.rs):=⟨[1,1,0,0,1,1,0,0,1,0,1,1,1,1],[.vf 3 .one [.rf 0 0],.vf 5 .one [.os 24 182 5],.vf 8 .one [.rf 23 0],.sl 6 kB,.sl 23 (.one (.sl 5)),.sl 24 kI,.sl 25 kI,.bk 0 182 [.pl kI,.pl kI],.bk 23 182 [.pl kI,.pl kI]],fun z=>(z.1,z.2.1,z.2.2.1,z.2.2.2.1,z.2.2.2.2.1,((z.2.2.2.2.1.length:Int):Int),z.2.2.2.2.2.2.1,z.2.2.2.2.2.2.2.1,z.2.2.2.2.2.2.2.2.1,()),25,fun z=>rS z.2.2.2.2.2.2.1 (lG z.2.2.2.2.1 (⟨z.2.2.2.2.2.2.2.1.1,z.2.2.2.2.2.2.2.1.2.1⟩:aC) m0) (⟨z.2.2.2.2.2.2.2.2.1.1,z.2.2.2.2.2.2.2.2.1.2.1⟩:aC) z.2.1.1 z.2.2.2.1⟩
theorem t100_1 {O:aR} {r:Bb tEl s100.rs} (m0:Nat) (e0:SndW (W100 Ik f105) O r (aCq m0)):SndW (W100 Ik f105) O r (aKV m0):=fF (W:=(W100 Ik f105)) h100 (aKV m0) [aCq m0] ⟨e0,trivial⟩
theorem t100_0 {O:aR} {r:Bb tEl s100.rs}:∀ m0,SndW (W100 Ik f105) O r (aCq m0):=bH (W:=(W100 Ik f105)) h100 (fun m0=>aCq m0) (fun m0=>[aCq m0,aKV m0]) (fun m0 e0=>⟨e0,(t100_1 m0 e0),trivial⟩)
theorem o100:CsOk Ik tCod 105 s100:=bR (W:=(W100 Ik f105)) h100 func105 rfl [aCq fuel] (fun O r _=>⟨(t100_0 fuel),trivial⟩)
def s101:CS tEl:=⟨[.one (.sl 4),.fn1 104 (.ptr 12)],[kI],fun z=>dO z.1 z.2.1⟩
def X101:=cX1 (fun t=>Aj t 72||Aj t 73||Aj t 76) [(104,s98)] []
theorem h101:FsOk (X101 Ik):=Bk (C:=(X101 Ik)) ⟨o98,trivial⟩ trivial
def W101 (P:An) (f:Func):Fw (X101 P):=⟨f,s101.acx,s101.rs⟩
abbrev aHO (m0:Nat):Ct (X101 Ik) (Bb tEl s101.rs):=⟨[0,1,0,1],[.sl 0 (.one (.sl 4)),.sl 1 (.fn1 104 (.ptr 12)),.sl 7 kI,.sl 8 kI],fun z=>(z.1,z.2.1,((z.1.length:Int):Int),z.2.2.2.1,()),0,fun z=>cE z.1 z.2.1 m0 z.2.2.2.1⟩
theorem t101_0 {O:aR} {r:Bb tEl s101.rs}:∀ m0,SndW (W101 Ik f149) O r (aHO m0):=bH (W:=(W101 Ik f149)) h101 (fun m0=>aHO m0) (fun m0=>[aHO m0]) (fun m0 e0=>⟨e0,trivial⟩)
theorem o101:CsOk Ik tCod 149 s101:=bR (W:=(W101 Ik f149)) h101 func149 rfl [aHO fuel] (fun O r _=>⟨(t101_0 fuel),trivial⟩)
theorem lL (a0:(List aD)) (a1:Int) (r:Int) (h:dO a0 a1=some r):eL Ik 149 [.slice false (a0.map aB.d),.fn 104 [.fptr [.int .i64 a1]]] (.int .i64 r):=Dl o101 (a0,a1,()) r h (by kernel_rfl) (by kernel_rfl)
theorem kE (a0:(List aD)) (a1:Int) (r:(List aD)) (h:bU a0 a1=some r):FnH Ik 91 [.osl 1000 aB.sz a0.length,.fn 104 [.ref 1001 0]] [(1000,.blk 73 (Al (a0.map aB.d))),(1001,.blk 3 [.int .i64 a1])] (.osl 0 aB.sz r.length) [(1001,.blk 3 [.int .i64 a1]),(0,.blk 73 (Al (r.map aB.d)))]:=by
 refine pS (rs:=[.osl 0 aB.sz r.length]) func91 M ntmps91 (nle M) fun O hO=>?_
 show IWP _ _ _ _ ⟨[(0,.osl 1000 aB.sz a0.length),(1,.fn 104 [.ref 1001 0])],[(1000,.blk 73 (Al (a0.map aB.d))),(1001,.blk 3 [.int .i64 a1])]⟩ _
 unfold bU at h;refine aJ (cAs (.nils) M<|aI ?_);obtain ⟨x1,hx1,h⟩:=eC h;refine aJ (cMv (.osl _ _ _) M<|cMv (.fn 104 [.ref _ _]) M<|aE M (aAN (r:=.int .i64 x1) M M (lb M) cl149 (.cons (sv (d:=.osl _ _ _) M) (.cons (sv (d:=.fn 104 [.ref _ _]) M) .nil)) (.cons (FDT aB M M) (.cons (.fn (.cons (.ref M M (aAT _) M) .nil)) .nil)) M M (lL _ _ _ hx1))<|cAI M<|aI ?_);refine bG ?_;obtain ⟨x2,hx2,h⟩:=dM h;refine aJ (cI M<|cCm (b:=(-1)) M hx2<|aI ?_);refine bE h M (fun h=>?_) (fun h=>?_)
 ·
  refine aJ (cMv (.osl _ _ _) M<|cAs (.osl _ _ _) M<|aI ?_);refine bJ<|cN ?_;obtain rfl:=sj_ h;refine ⟨.inr M,(fun i=>if i=0 then 1000 else i),⟨.nil,(.cons (.blk M M M) (.cons (Cd M) .nil)),dF [1001,1000] M (by decide),(fun i hi=>by first | rfl | (show (if _ then _ else _)=_; (repeat' split) <;> omega))⟩,(.cons (sv M) .nil),M⟩
 ·
  refine bS<|aT<|bG ?_;obtain ⟨x4,hx4,h⟩:=dM h;refine aJ (cI M<|aE M (cT M M (lb M) (svI M) (sv (d:=.int _ 1) M) M hx4)<|cAI M<|aI ?_);refine bT<|lX (α:=Nat×(List aD)×Int×Int) (fun z=>⟨[(0,.osl 1000 aB.sz z.2.1.length),(1,.fn 104 [.ref 1001 0]),(5,.int .i64 z.2.2.1),(6,.int .i64 z.2.2.2)],[(1000,.blk 73 (Al (z.2.1.map aB.d))),(1001,.blk 3 [.int .i64 a1])]⟩) (fun z=>aZ a1 z.1 z.2.1 z.2.2.1 z.2.2.2=some r) (fun z=>z.1) (fuel,a0,x1,x4) (fun i=>i) ⟨(.sames M M),(.cons (Cd M) (.cons (.blk M M M) .nil)),dF [1000,1001] M (by decide),fun _ _=>M⟩ ?_ ?_
  ·exact h
  ·
   rintro ⟨n0,v17,v18,v19⟩ h
   cases n0 with
   | zero=>exact AP h (by unfold aZ; exact nofun)
   | succ n0 =>
    unfold aZ at h;refine bG ?_;obtain ⟨x32,hx32,h⟩:=dM h;refine aJ (cI M<|cMv (.osl _ _ _) M<|aE M (vY M M (lb M) underlying25 (sv (d:=.osl _ _ _) M))<|cCm M hx32<|aI ?_);refine bE h M (fun h=>?_) (fun h=>?_)
    ·
     refine bS<|aT<|bG<|bT ?_;obtain ⟨x34,hx34,x35,hx35,h⟩:=eoo h;refine aJ (cMv (.osl _ _ _) M<|cI M<|aE M (qL aB.toEnc0 M M (lb M) underlying25 ti73 (sv (d:=.osl _ _ _) M) M (svI M) hx34)<|aE M (aAr aB.toEnc0 (cs:=q10) M M (lb M) underlying73 ag73 ti73 (by decide) (svR M) M hx35 (nle M) M)<|aE M (fA (cs:=q10) (cs':=(w20 0 0 0 false)) 0 M M (lb M) M ti73 M M (.all _))<|cSt q10 q10 ti73 M<|aI ?_);obtain ⟨x36,hx36,h⟩:=eC h;refine aJ (cMv (.fn 104 [.ref _ _]) M<|cLr q10 la73 M<|aE M (aCd (r:=.bool x36) M M (lb M) cl104 (sv (d:=.fn 104 [.ref _ _]) M) (.cons (svA q10 M) .nil) (.k (.cons (.ref M M (aAT _) M) .nil)) M M (aDJ _ _ _ hx36))<|aE M (qJ M M (lb M) (svB M))<|aI ?_);refine bE h M (fun h=>?_) (fun h=>?_)
     ·
      obtain ⟨x38,hx38,x39,hx39,x40,hx40,h⟩:=eood h;refine aJ (cMv (.osl _ _ _) M<|cI M<|cLr q10 la73 M<|aE M (qL aB.toEnc0 M M (lb M) underlying25 ti73 (sv (d:=.osl _ _ _) M) M (svI M) hx38)<|aE M (qX aB.toEnc0 (a':=x35) M M ti73 (svR M) M (svA q10 M) M M M hx39 (nle M) M hx40)<|aI ?_);obtain ⟨x41,hx41,h⟩:=dM h;refine bN (cI M<|aE M (cT M M (lb M) (svI M) (sv (d:=.int _ 1) M) M hx41)<|cAI M<|dJ ?_);refine cV<|aT ?_;obtain ⟨x42,hx42,h⟩:=dM h;refine bN (cI M<|aE M (cT M M (lb M) (svI M) (sv (d:=.int _ 1) M) M hx42)<|cAI M<|dJ ?_);refine aT ⟨(n0,x40,x41,x42),(fun i=>i),⟨(.cons (.same (Bv (D.osl _ _) (aAp hx40 M).symm) M) (.sames M M)),(.cons (Cd M) (.cons (.blk M M M) .nil)),dF [1000,1001] M (by decide),fun _ _=>M⟩,?_,?_⟩;exact h;exact BH _
     ·
      refine bS<|cV<|aT ?_;obtain ⟨x43,hx43,h⟩:=dM h;refine bN (cI M<|aE M (cT M M (lb M) (svI M) (sv (d:=.int _ 1) M) M hx43)<|cAI M<|dJ ?_);refine aT ⟨(n0,v17,v18,x43),(fun i=>i),⟨(.sames M M),(.cons (Cd M) (.cons (.blk M M M) .nil)),dF [1000,1001] M (by decide),fun _ _=>M⟩,?_,?_⟩;exact h;exact BH _
    ·
     refine dW<|aY<|aY<|eB<|aT ?_;obtain ⟨x44,hx44,h⟩:=eC h;refine aJ (cMv (.osl _ _ _) M<|cI M<|aBz aB.toEnc0 M M M M (by decide) M M underlying25 ti73 M M M M M (fun S1 h9=>sv ((h9 37 (by decide)).trans M)) hx44<|aI ?_);obtain ⟨x45,hx45,h⟩:=eC h;refine aJ (cMv (.osl _ _ _) M<|cI M<|aE M (aCa aB.toEnc0 M M (lb M) underlying25 ti73 (sv (d:=.osl _ _ _) M) M (Cb (aNE hx44) (Nat.le_of_eq M)) (svI M) hx45)<|cAs (.osl _ _ _) M<|aI ?_);refine bJ ?_;obtain rfl:=sj_ h;refine ⟨.inr M,(fun i=>if i=0 then 1000 else i),⟨.nil,(.cons (.blk M M M) (.cons (Cd M) .nil)),dF [1001,1000] M (by decide),(fun i hi=>by first | rfl | (show (if _ then _ else _)=_; (repeat' split) <;> omega))⟩,(.cons (sv M) .nil),M⟩
def s102:HS tEl:=⟨[.vf 0 .one [.os 1000 73 4],.vf 1 (.fn 104) [.rf 1001 0],.bk 1001 3 [.pl (.one (.int .i64))]],2,2,[.bk 1001 3 [.pl (.one (.int .i64))],.vf 0 .one [.os 0 73 4]],1,1,(List aD),fun y=>y.2.1.1,fun z r=>(((z.2.2.1.1:Int),()),((r:List _),()),()),fun z=>bU z.1.1 z.2.2.1.1⟩
theorem o102:HsOk tCod Ik 91 s102:=HK cl91 (by kernel_rfl) (fun z r h=>⟨_,_,_,_,kE z.1.1 z.2.2.1.1 r h,by kernel_rfl,by kernel_rfl,by kernel_rfl,by kernel_rfl⟩)
def s103:CS tEl:=⟨[.agg 6,kI],[.agg 6],fun z=>zP z.1 z.2.1⟩
def X103:=cX1 (fun t=>Aj t 72||Aj t 73||Aj t 76) [(66,s26),(104,s98),(98,s17),(105,s100)] [(89,s68),(91,s102)]
theorem h103:FsOk (X103 Ik):=Bk (C:=(X103 Ik)) ⟨o26,o98,o17,o100,trivial⟩ ⟨o68,o102,trivial⟩
def W103 (P:An) (f:Func):Fw (X103 P):=⟨f,s103.acx,s103.rs⟩
abbrev aHN (m0:Nat):Ct (X103 Ik) (Bb tEl s103.rs):=⟨[0,1,0,1,1,1,1],[.vf 4 .one [.rf 2 0],.vf 5 .one [.rf 4 0],.vf 6 (.fn 104) [.rf 1 0],.sl 0 (.agg 6),.sl 17 (.one (.sl 4)),.sl 18 kI,.sl 19 kI,.bk 2 29 [.pl kI,.pl kS,.pl kI,.pl (.one (.sl 4)),.pl (.one (.sl 5)),.pl kB,.pl kB,.pl kB,.pl kB],.bk 4 29 [.pl kI,.pl kS,.pl kI,.os 3 73 4,.pl (.one (.sl 5)),.pl kB,.pl kB,.pl kB,.pl kB],.bk 1 3 [.pl kI]],fun z=>(z.1,z.2.1,z.2.2.1,z.2.2.2.1,(z.2.2.2.1.ah:List _),((z.2.2.2.1.ah.length:Int):Int),z.2.2.2.2.2.2.1,((0:Int),([]:List Ai),(0:Int),([]:List _),([]:List _),(false:Bool),(false:Bool),(false:Bool),(false:Bool),()),z.2.2.2.2.2.2.2.2.1,z.2.2.2.2.2.2.2.2.2.1,()),5,fun z=>nK z.2.2.2.1 z.2.2.2.2.2.2.2.2.2.1.1 (z.2.2.2.2.2.2.2.2.1.1,z.2.2.2.2.2.2.2.2.1.2.1,z.2.2.2.2.2.2.2.2.1.2.2.1,z.2.2.2.2.2.2.2.2.1.2.2.2.1,default,z.2.2.2.2.2.2.2.2.1.2.2.2.2.2.1,z.2.2.2.2.2.2.2.2.1.2.2.2.2.2.2.1,default,z.2.2.2.2.2.2.2.2.1.2.2.2.2.2.2.2.2.1) m0 z.2.2.2.2.2.2.1 z.2.2.2.2.2.2.2.2.1.2.2.2.2.1 z.2.2.2.2.2.2.2.2.1.2.2.2.2.2.2.2.1⟩
theorem t103_0 {O:aR} {r:Bb tEl s103.rs}:∀ m0,SndW (W103 Ik f54) O r (aHN m0):=bH (W:=(W103 Ik f54)) h103 (fun m0=>aHN m0) (fun m0=>[aHN m0]) (fun m0 e0=>⟨e0,trivial⟩)
theorem o103:CsOk Ik tCod 54 s103:=bR (W:=(W103 Ik f54)) h103 func54 rfl [aHN fuel] (fun O r _=>⟨(t103_0 fuel),trivial⟩)
def s104:HS tEl:=⟨[.sl 0 (.agg 6),.vf 1 .one [.rf 1000 0],.bk 1000 3 [.pl kI]],2,1,[.bk 1000 3 [.pl kI],.sl 0 (.agg 6)],1,0,aF,fun y=>y.2.1,fun z r=>(((z.2.2.1.1:Int),()),(r),()),fun z=>sJ z.1 z.2.2.1.1⟩
def X104:=cX0 [(54,s103)]
theorem h104:FsOk (X104 Ik):=Bk (C:=(X104 Ik)) ⟨o103,trivial⟩ trivial
def W104 (P:An) (f:Func):Fh (X104 P):=⟨f,s104⟩
theorem o104:HsOk tCod Ik 53 s104:=uP (C:=(X104 Ik)) (W:=(W104 Ik f53)) (by kernel_rfl) (fun _ _=>rfl) h104 func53 rfl rfl rfl (fun z0=>[]) (fun z=>by kernel_rfl) (fun h hf z=>by kernel_rfl) (fun z0 O r _=>trivial)
def s105:HS tEl:=⟨[.sl 0 (.agg 10),.vf 1 (.fn 53) [.rf 1000 0],.bk 1000 3 [.pl kI]],2,1,[.bk 1000 3 [.pl kI],.sl 0 (.agg 10)],1,0,aG,fun y=>y.2.1,fun z r=>(((z.2.2.1.1:Int),()),(r),()),fun z=>kD z.1 z.2.2.1.1⟩
def X105:=cX1 (fun _=>false) [(22,s56)] [(53,s104)]
theorem h105:FsOk (X105 Ik):=Bk (C:=(X105 Ik)) ⟨o56,trivial⟩ ⟨o104,trivial⟩
def W105 (P:An) (f:Func):Fh (X105 P):=⟨f,s105⟩
theorem o105:HsOk tCod Ik 46 s105:=uP (C:=(X105 Ik)) (W:=(W105 Ik f46)) (by kernel_rfl) (fun _ _=>rfl) h105 func46 rfl rfl rfl (fun z0=>[]) (fun z=>by kernel_rfl) (fun h hf z=>by kernel_rfl) (fun z0 O r _=>trivial)
def s106:CS tEl:=⟨[.agg 10,kI],[.agg 10],fun z=>mF z.1 z.2.1⟩
def X106:=cX1 (fun _=>false) [] [(46,s105)]
theorem o106:CsOk Ik tCod 16 s106:=aV (X106 Ik) trivial ⟨o105,trivial⟩ func16 rfl
def s107:CS tEl:=⟨[.agg 4],[kB],fun z=>tM z.1⟩
def X107:=cX1 (fun t=>Aj t 72||Aj t 73||Aj t 76) [] []
theorem o107:CsOk Ik tCod 92 s107:=aV (X107 Ik) trivial trivial func92 rfl
theorem aDK (a0:aD) (r:Bool) (h:tM a0=some r):eL Ik 92 [.agg [.int .i64 a0.aa,.int .i64 a0.To,.int .i64 a0.bu,.bool a0.bx]] (.bool r):=Dl o107 (a0,()) r h (by kernel_rfl) (by kernel_rfl)
def s108:CS tEl:=⟨[.one (.sl 4),.fn0 92],[kI],fun z=>dP z.1⟩
def X108:=cX1 (fun t=>Aj t 72||Aj t 73||Aj t 76) [(92,s107)] []
theorem h108:FsOk (X108 Ik):=Bk (C:=(X108 Ik)) ⟨o107,trivial⟩ trivial
def W108 (P:An) (f:Func):Fw (X108 P):=⟨f,s108.acx,s108.rs⟩
abbrev aHM (m0:Nat):Ct (X108 Ik) (Bb tEl s108.rs):=⟨[0,1,0,1],[.sl 0 (.one (.sl 4)),.sl 1 (.fn0 92),.sl 7 kI,.sl 8 kI],fun z=>(z.1,z.2.1,((z.1.length:Int):Int),z.2.2.2.1,()),0,fun z=>cF z.1 m0 z.2.2.2.1⟩
theorem t108_0 {O:aR} {r:Bb tEl s108.rs}:∀ m0,SndW (W108 Ik f149) O r (aHM m0):=bH (W:=(W108 Ik f149)) h108 (fun m0=>aHM m0) (fun m0=>[aHM m0]) (fun m0 e0=>⟨e0,trivial⟩)
theorem o108:CsOk Ik tCod 149 s108:=bR (W:=(W108 Ik f149)) h108 func149 rfl [aHM fuel] (fun O r _=>⟨(t108_0 fuel),trivial⟩)
theorem lM (a0:(List aD)) (r:Int) (h:dP a0=some r):eL Ik 149 [.slice false (a0.map aB.d),.fn 92 []] (.int .i64 r):=Dl o108 (a0,(),()) r h (by kernel_rfl) (by kernel_rfl)
theorem kF (a0:(List aD)) (r:(List aD)) (h:cG a0=some r):FnH Ik 91 [.osl 1000 aB.sz a0.length,.fn 92 []] [(1000,.blk 73 (Al (a0.map aB.d)))] (.osl 0 aB.sz r.length) [(0,.blk 73 (Al (r.map aB.d)))]:=by
 refine pS (rs:=[.osl 0 aB.sz r.length]) func91 M ntmps91 (nle M) fun O hO=>?_
 show IWP _ _ _ _ ⟨[(0,.osl 1000 aB.sz a0.length),(1,.fn 92 [])],[(1000,.blk 73 (Al (a0.map aB.d)))]⟩ _
 unfold cG at h;refine aJ (cAs (.nils) M<|aI ?_);obtain ⟨x1,hx1,h⟩:=eC h;refine aJ (cMv (.osl _ _ _) M<|cMv (.fn 92 []) M<|aE M (aAN (r:=.int .i64 x1) M M (lb M) cl149 (.cons (sv (d:=.osl _ _ _) M) (.cons (sv (d:=.fn 92 []) M) .nil)) (.cons (FDT aB M M) (.all _)) M M (lM _ _ hx1))<|cAI M<|aI ?_);refine bG ?_;obtain ⟨x2,hx2,h⟩:=dM h;refine aJ (cI M<|cCm (b:=(-1)) M hx2<|aI ?_);refine bE h M (fun h=>?_) (fun h=>?_)
 ·
  refine aJ (cMv (.osl _ _ _) M<|cAs (.osl _ _ _) M<|aI ?_);refine bJ<|cN ?_;obtain rfl:=sj_ h;refine ⟨.inr M,(fun i=>if i=0 then 1000 else i),⟨.nil,(.cons (Cd M) .nil),dF [1000] M (by decide),(fun i hi=>by first | rfl | (show (if _ then _ else _)=_; (repeat' split) <;> omega))⟩,(.cons (sv M) .nil),M⟩
 ·
  refine bS<|aT<|bG ?_;obtain ⟨x4,hx4,h⟩:=dM h;refine aJ (cI M<|aE M (cT M M (lb M) (svI M) (sv (d:=.int _ 1) M) M hx4)<|cAI M<|aI ?_);refine bT<|lX (α:=Nat×(List aD)×Int×Int) (fun z=>⟨[(0,.osl 1000 aB.sz z.2.1.length),(1,.fn 92 []),(5,.int .i64 z.2.2.1),(6,.int .i64 z.2.2.2)],[(1000,.blk 73 (Al (z.2.1.map aB.d)))]⟩) (fun z=>bA z.1 z.2.1 z.2.2.1 z.2.2.2=some r) (fun z=>z.1) (fuel,a0,x1,x4) (fun i=>i) ⟨(.sames M M),(.cons (Cd M) .nil),dF [1000] M (by decide),fun _ _=>M⟩ ?_ ?_
  ·exact h
  ·
   rintro ⟨n0,v17,v18,v19⟩ h
   cases n0 with
   | zero=>exact AP h (by unfold bA; exact nofun)
   | succ n0 =>
    unfold bA at h;refine bG ?_;obtain ⟨x32,hx32,h⟩:=dM h;refine aJ (cI M<|cMv (.osl _ _ _) M<|aE M (vY M M (lb M) underlying25 (sv (d:=.osl _ _ _) M))<|cCm M hx32<|aI ?_);refine bE h M (fun h=>?_) (fun h=>?_)
    ·
     refine bS<|aT<|bG<|bT ?_;obtain ⟨x34,hx34,x35,hx35,h⟩:=eoo h;refine aJ (cMv (.osl _ _ _) M<|cI M<|aE M (qL aB.toEnc0 M M (lb M) underlying25 ti73 (sv (d:=.osl _ _ _) M) M (svI M) hx34)<|aE M (aAr aB.toEnc0 (cs:=q10) M M (lb M) underlying73 ag73 ti73 (by decide) (svR M) M hx35 (nle M) M)<|aE M (fA (cs:=q10) (cs':=(w20 0 0 0 false)) 0 M M (lb M) M ti73 M M (.all _))<|cSt q10 q10 ti73 M<|aI ?_);obtain ⟨x36,hx36,h⟩:=eC h;refine aJ (cMv (.fn 92 []) M<|cLr q10 la73 M<|aE M (aJX (r:=.bool _) M M (lb M) cl92 (sv (d:=.fn 92 []) M) (.cons (svA q10 M) .nil) M (aDK _ _ hx36))<|aE M (qJ M M (lb M) (svB M))<|aI ?_);refine bE h M (fun h=>?_) (fun h=>?_)
     ·
      obtain ⟨x38,hx38,x39,hx39,x40,hx40,h⟩:=eood h;refine aJ (cMv (.osl _ _ _) M<|cI M<|cLr q10 la73 M<|aE M (qL aB.toEnc0 M M (lb M) underlying25 ti73 (sv (d:=.osl _ _ _) M) M (svI M) hx38)<|aE M (qX aB.toEnc0 (a':=x35) M M ti73 (svR M) M (svA q10 M) M M M hx39 (nle M) M hx40)<|aI ?_);obtain ⟨x41,hx41,h⟩:=dM h;refine bN (cI M<|aE M (cT M M (lb M) (svI M) (sv (d:=.int _ 1) M) M hx41)<|cAI M<|dJ ?_);refine cV<|aT ?_;obtain ⟨x42,hx42,h⟩:=dM h;refine bN (cI M<|aE M (cT M M (lb M) (svI M) (sv (d:=.int _ 1) M) M hx42)<|cAI M<|dJ ?_);refine aT ⟨(n0,x40,x41,x42),(fun i=>i),⟨(.cons (.same (Bv (D.osl _ _) (aAp hx40 M).symm) M) (.sames M M)),(.cons (Cd M) .nil),dF [1000] M (by decide),fun _ _=>M⟩,?_,?_⟩;exact h;exact BH _
     ·
      refine bS<|cV<|aT ?_;obtain ⟨x43,hx43,h⟩:=dM h;refine bN (cI M<|aE M (cT M M (lb M) (svI M) (sv (d:=.int _ 1) M) M hx43)<|cAI M<|dJ ?_);refine aT ⟨(n0,v17,v18,x43),(fun i=>i),⟨(.sames M M),(.cons (Cd M) .nil),dF [1000] M (by decide),fun _ _=>M⟩,?_,?_⟩;exact h;exact BH _
    ·
     refine dW<|aY<|aY<|eB<|aT ?_;obtain ⟨x44,hx44,h⟩:=eC h;refine aJ (cMv (.osl _ _ _) M<|cI M<|aBz aB.toEnc0 M M M M (by decide) M M underlying25 ti73 M M M M M (fun S1 h9=>sv ((h9 37 (by decide)).trans M)) hx44<|aI ?_);obtain ⟨x45,hx45,h⟩:=eC h;refine aJ (cMv (.osl _ _ _) M<|cI M<|aE M (aCa aB.toEnc0 M M (lb M) underlying25 ti73 (sv (d:=.osl _ _ _) M) M (Cb (aNE hx44) (Nat.le_of_eq M)) (svI M) hx45)<|cAs (.osl _ _ _) M<|aI ?_);refine bJ ?_;obtain rfl:=sj_ h;refine ⟨.inr M,(fun i=>if i=0 then 1000 else i),⟨.nil,(.cons (Cd M) .nil),dF [1000] M (by decide),(fun i hi=>by first | rfl | (show (if _ then _ else _)=_; (repeat' split) <;> omega))⟩,(.cons (sv M) .nil),M⟩
theorem aFX (a0:aF) (a1:Int) (a2:Bool) (r:aF) (h:uX a0 a1 a2=some r):eL Ik 48 [.agg (tv1 a0),.int .i64 a1,.bool a2] (.agg (tv1 r)):=by
 refine pP (rs:=[.agg (tv1 r)]) func48 M ntmps48 (nle M) M fun O hO=>?_
 show IWP _ _ _ _ ⟨[(0,.agg (tv1 a0)),(1,.int .i64 a1),(2,.bool a2)],[]⟩ _
 unfold uX at h;refine aJ (cBx (cs:=q7) q7 0 M<|aE M (fA (cs:=q9) (cs':=zs1) 1 M M (lb M) M ti29 M M (.k (.k (.k (.cons (.nils _) (.cons (.nils _) (.all _)))))))<|aI ?_);obtain ⟨x1,hx1,h⟩:=eC h;refine aJ (cLr q7 la29 M<|aE M (tA (r':=.agg (w18 x1.1 x1.2.1 x1.2.2.1 (.osl 2 aB.sz x1.2.2.2.1.length) x1.2.2.2.2.1 x1.2.2.2.2.2.1 x1.2.2.2.2.2.2.1 x1.2.2.2.2.2.2.2.1 x1.2.2.2.2.2.2.2.2)) (H1':=[(2,.blk 73 (Al (x1.2.2.2.1.map aB.d)))]) 2 [] M M (lb M) cl89 (.cons (svA q7 M) .nil) M M ⟨M,M,by decide,M,BU _⟩ (zZ _ _ hx1) M M (BL.2 ⟨⟨M,(aGY aB)⟩,BU _⟩) (by simp only [AB,BI,Fm,tP,uC]; rfl))<|aE M (fA (cs:=q9) (cs':=zs1) 3 M M (lb M) M ti29 M M (.k (.k (.k (.cons (.nils _) (.cons (.nils _) (.all _)))))))<|cSt q8 q8 ti29 M<|aI ?_);refine bG ?_;obtain ⟨x2,hx2,x3,hx3,x4,hx4,h⟩:=eodd h;obtain ⟨x5,hx5,x6,hx6,x7,hx7,h⟩:=eddd h;obtain ⟨x8,hx8,x9,hx9,x10,hx10,h⟩:=eodd h;obtain ⟨x11,hx11,x12,hx12,h⟩:=edd h;refine aJ (cLr q7 la29 M<|aE M (eZ (r:=.int _ _) M M (lb M) cl66 (.cons (svA q7 M) .nil) M (aEU _ _ hx2))<|cCm (b:=0) M hx3<|cB M<|gG M (fun hb=>(tI M))<|gG M (fun hb=>(tCg (b:=0) M hb hx4))<|cOr M hx5<|cB M<|gG M (fun hb=>(tI M))<|gG M (fun hb=>(tFa 2 underlying29 M ti3 M))<|gG M (fun hb=>(tLc (d:=.int _ _) underlying3 ag3 ti3 M hb))<|gG M (fun hb=>(tCh M hb hx6))<|cOr M hx7<|cB M<|gG M (fun hb=>(tB M))<|gG M (fun hb=>(eK M M (lb M) (svcB M hb)))<|nP M M (.two M) M (by decide) (fun hb=>(tI M))<|nP M M (.two M) M (by decide) (fun hb=>(tLr q7 la29 M))<|nP M M (.two M) M (by decide) (fun hb=>(eZ (r:=.int _ _) M M (lb M) cl90 (.cons (svcA (tv1 a0) M hb) .nil) M (sF _ _ (gd_t hx8 hb))))<|nP M M (.two M) M (by decide) (fun hb=>(tCh M hb hx9))<|nP M M (.two M) M (by decide) (fun hb=>(eK M M (lb M) (svcB M hb)))<|nP M M (.two M) M (by decide) (fun hb=>(tFa 6 underlying29 M ti4 M))<|nP M M (.two M) M (by decide) (fun hb=>(tLc (d:=.bool _) underlying4 ag4 ti4 M hb))<|nP M M (.two M) M (by decide) (fun hb=>(qJ M M (lb M) (svcB M hb)))<|nP M M (.two M) M (by decide) (fun hb=>(aLQ M M (lb M) hb (svcB M hb) M M hx10))<|gG M (fun hb=>(aJa M M (lb M) hb (svcB M hb) M M hx11))<|cOr M hx12<|aI ?_);refine bE h M (fun h=>?_) (fun h=>?_)
 ·
  refine aJ (cLr q8 la29 M<|cSt q8 q8 ti29 M<|aI ?_);refine bJ<|cN ?_;obtain rfl:=sj_ h;refine ⟨.inr M,_,(.cons (rva la29 M M (nle M) M) .nil),(.cons (.agg (.k (.k (.k (.cons (FDT aB M M) (.all _)))))) .nil)⟩
 ·
  refine bS<|aT ?_;obtain ⟨x14,hx14,h⟩:=dM h;refine aJ (cI M<|cFa 0 underlying29 M ti3 M<|cLd (d:=.int _ _) underlying3 ag3 ti3 M<|aE M (aAI M M (lb M) (svI M) (svI M) hx14)<|cAI M<|aI ?_);refine bG<|aJ (cFa 3 underlying29 M ti25 M<|cLd (d:=.osl _ _ _) underlying25 ag25 ti25 M<|aE M (vY M M (lb M) underlying25 (sv (d:=.osl _ _ _) M))<|cMv (.int _ 0) M<|aI ?_);refine bT<|lX (α:=Nat×Int×(List aD)) (fun z=>⟨[(2,.bool a2),(3,.ref 0 0),(6,.ref 1 0),(7,.ref 3 0),(8,.int .i64 x14),(47,.int .i64 (x1.2.2.2.1.length:Int)),(48,.int .i64 z.2.1)],[(0,.blk 29 (tv1 a0)),(1,.blk 29 zs1),(3,.blk 29 (w18 x1.1 x1.2.1 x1.2.2.1 (.osl 2 aB.sz z.2.2.length) x1.2.2.2.2.1 x1.2.2.2.2.2.1 x1.2.2.2.2.2.2.1 x1.2.2.2.2.2.2.2.1 x1.2.2.2.2.2.2.2.2)),(2,.blk 73 (Al (z.2.2.map aB.d)))]⟩) (fun z=>mD a0 a2 x1 x14 z.1 z.2.1 z.2.2=some r) (fun z=>z.1) (fuel,0,x1.2.2.2.1) (fun i=>i) ⟨(.sames M M),(.cons (.blk M M M) (.cons (.blk M M M) (.cons (.blk M M M) (.cons (Cd M) .nil)))),dF [0,1,3,2] M (by decide),fun _ _=>M⟩ ?_ ?_
  ·exact h
  ·
   rintro ⟨n0,v31,v32⟩ h
   cases n0 with
   | zero=>exact AP h (by unfold mD; exact nofun)
   | succ n0 =>
    unfold mD at h;obtain ⟨x49,hx49,h⟩:=dM h;refine aJ (cCm M hx49<|aI ?_);refine bG<|bE h M (fun h=>?_) (fun h=>?_)
    ·
     refine bS<|aT<|bG<|bT<|aJ (cI M<|cAI M<|aI ?_);obtain ⟨x51,hx51,h⟩:=eC h;refine aJ (cFa 3 underlying29 M ti25 M<|cLd (d:=.osl _ _ _) underlying25 ag25 ti25 M<|cI M<|aE M (qL aB.toEnc0 M M (lb M) underlying25 ti73 (sv (d:=.osl _ _ _) M) M (svI M) hx51)<|aE M (dK M M (lb M) (svR M))<|aI ?_);obtain ⟨x52,hx52,x53,hx53,x54,hx54,h⟩:=eodo h;obtain ⟨x55,hx55,x56,hx56,x57,hx57,h⟩:=edod h;obtain ⟨x58,hx58,x59,hx59,h⟩:=eod h;refine lY M [nd1 [10] 55 (.ref 2 (((v31:Int).toNat)*aB.sz+0)),nd1 [10] 56 (.ref 2 (((v31:Int).toNat)*aB.sz+0)),nd1 [10] 57 (.ref 2 (((v31:Int).toNat)*aB.sz+0)),nd1 [57] 58 (.ref 2 (((v31:Int).toNat)*aB.sz+0)),nd1 [58] 59 (.ref 2 (((v31:Int).toNat)*aB.sz+0)),nd2 [59] [2] 60 (.int .i64 x52.aa),nd1 [8] 61 (.int .i64 x14),nd1 [60,61] 62 (.int .i64 x53),nd1 [10] 63 (.ref 2 (((v31:Int).toNat)*aB.sz+0)),nd1 [63] 64 (.ref 2 (((v31:Int).toNat)*aB.sz+0)),nd1 [64] 65 (.ref 2 (((v31:Int).toNat)*aB.sz+1)),nd2 [65] [2] 66 (.int .i64 x54.To),nd1 [8] 67 (.int .i64 x14),nd1 [66,67] 68 (.int .i64 x55),nd1 [55] 69 (.ref 2 (((v31:Int).toNat)*aB.sz+0)),nd1 [69] 70 (.ref 2 (((v31:Int).toNat)*aB.sz+0)),⟨[62,70],[2],[],[(2,.blk 73 (Al (x57.map aB.d)))]⟩,nd1 [56] 71 (.ref 2 (((v31:Int).toNat)*aB.sz+0)),nd1 [71] 72 (.ref 2 (((v31:Int).toNat)*aB.sz+1)),⟨[68,72],[2],[],[(2,.blk 73 (Al (x59.map aB.d)))]⟩] M ?_ (by kernel_rfl) ?_
     ·refine .cons (dMv M)<|.cons (dMv M)<|.cons (dMv M)<|.cons (lop M M fun S hA=>(aS M M (lb M) (svaR hA M M)))<|.cons (lop M M fun S hA=>(qZ M M (lb M) underlying73 M ti3 (by decide) (svaR hA M M) (k':=0) M))<|.cons (lop M M fun S hA=>(pQ aB.toEnc0 (d:=.int _ _) M M (lb M) underlying3 ag3 ti3 (by decide) (svaR hA M M) (agi hA M M) hx52 (nle M) M))<|.cons (dMv M)<|.cons (lop M M fun S hA=>(aAI M M (lb M) (svaI hA M M) (svaI hA M M) hx53))<|.cons (dMv M)<|.cons (lop M M fun S hA=>(aS M M (lb M) (svaR hA M M)))<|.cons (lop M M fun S hA=>(qZ M M (lb M) underlying73 M ti3 (by decide) (svaR hA M M) (k':=1) M))<|.cons (lop M M fun S hA=>(pQ aB.toEnc0 (d:=.int _ _) M M (lb M) underlying3 ag3 ti3 (by decide) (svaR hA M M) (agi hA M M) hx54 (nle M) M))<|.cons (dMv M)<|.cons (lop M M fun S hA=>(aAI M M (lb M) (svaI hA M M) (svaI hA M M) hx55))<|.cons (lop M M fun S hA=>(aS M M (lb M) (svaR hA M M)))<|.cons (lop M M fun S hA=>(qZ M M (lb M) underlying73 M ti3 (by decide) (svaR hA M M) (k':=0) M))<|.cons (lop M M fun S hA=>(qX aB.toEnc0 (a':=(⟨x53,x56.To,x56.bu,x56.bx⟩:aD)) M M ti3 (svaR hA M M) (agi hA M M) (svaI hA M M) M M M hx56 (nle M) M hx57))<|.cons (lop M M fun S hA=>(aS M M (lb M) (svaR hA M M)))<|.cons (lop M M fun S hA=>(qZ M M (lb M) underlying73 M ti3 (by decide) (svaR hA M M) (k':=1) M))<|.cons (lop M M fun S hA=>(qX aB.toEnc0 (a':=(⟨x58.aa,x55,x58.bu,x58.bx⟩:aD)) M M ti3 (svaR hA M M) (agi hA M M) (svaI hA M M) M M M hx58 (nle M) M hx59)) ?_
      exact .nil
     obtain ⟨x60,hx60,x61,hx61,x62,hx62,h⟩:=eodo h;obtain ⟨x63,hx63,h⟩:=dM h;refine bN (aE M (mvR M M M M)<|aE M (mvR M M M M)<|aE M (aS M M (lb M) (svR M))<|aE M (qZ M M (lb M) underlying73 M ti4 (by decide) (svR M) (k':=3) M)<|aE M (pQ aB.toEnc0 (d:=.bool _) M M (lb M) underlying4 ag4 ti4 (by decide) (svR M) M hx60 (nle M) M)<|cB M<|gG M (fun hb=>(tB M))<|gG M (fun hb=>(qJ M M (lb M) (svcB M hb)))<|cAn M hx61<|aE M (aS M M (lb M) (svR M))<|aE M (qZ M M (lb M) underlying73 M ti4 (by decide) (svR M) (k':=3) M)<|aE M (qX aB.toEnc0 (a':=(⟨x62.aa,x62.To,x62.bu,x61⟩:aD)) M M ti4 (svR M) M (svB M) M M M hx62 (nle M) M hx63)<|dJ ?_);refine cV<|aT ?_;obtain ⟨x64,hx64,h⟩:=dM h;refine bN (aE M (cT M M (lb M) (svI M) (sv (d:=.int _ 1) M) M hx64)<|cI M<|dJ ?_);refine aT ⟨(n0,x64,x63),(fun i=>i),⟨(.sames M M),(.cons (.blk M M M) (.cons (.blk M M M) (.cons (.blk M (by rw [←(aAp hx63 (aAp hx59 (aAp hx57 M)))]; rfl) M) (.cons (Cd M) .nil)))),dF [0,1,3,2] M (by decide),fun _ _=>M⟩,?_,?_⟩;exact h;exact BH _
    ·
     refine dW<|aY<|aY<|eB<|aT ?_;obtain ⟨x65,hx65,h⟩:=eC h;refine aJ (cFa 3 underlying29 M ti25 M<|cLd (d:=.osl _ _ _) underlying25 ag25 ti25 M<|aE M (tA (r':=.osl 4 aB.sz x65.length) (H1':=[(4,.blk 73 (Al (x65.map aB.d)))]) 4 [2] M M (lb M) cl91 (.cons (sv (d:=.osl _ _ _) M) (.cons (sv (d:=.fn 92 []) M) .nil)) M M ⟨M,M,by decide,M,BL.2 ⟨⟨M,M,(handL aB M),(aGY aB)⟩,BU _⟩⟩ (kF _ _ hx65) M M (BL.2 ⟨⟨M,(aGY aB)⟩,BU _⟩) (by simp only [AB,BI,Fm,tP,uC]; rfl))<|cFa 3 underlying29 M ti25 M<|aE M (cY (ds':=q8) M M ti25 (svR M) M (sv (d:=.osl _ _ _) M) M M M (nle M) M)<|aI ?_);obtain ⟨x66,hx66,x67,hx67,h⟩:=edo h;refine lY M [nd1 [8] 89 (.int .i64 x14),nd1 [3] 90 (.ref 0 1),nd2 [90] [0] 91 (.str a0.aj),nd1 [8] 92 (.int .i64 x14),nd1 [3] 93 (.ref 0 0),nd2 [93] [0] 94 (.int .i64 a0.ag),nd1 [92,94] 95 (.int .i64 x66),nd1 [91,95] 96 (.str x67),nd1 [7] 97 (.ref 3 0),⟨[89,97],[3],[],[(3,.blk 29 (w18 x14 x1.2.1 x1.2.2.1 (.osl 4 aB.sz x65.length) x1.2.2.2.2.1 x1.2.2.2.2.2.1 x1.2.2.2.2.2.2.1 x1.2.2.2.2.2.2.2.1 x1.2.2.2.2.2.2.2.2))]⟩,nd1 [7] 98 (.ref 3 1),⟨[96,98],[3],[],[(3,.blk 29 (w18 x14 x67 x1.2.2.1 (.osl 4 aB.sz x65.length) x1.2.2.2.2.1 x1.2.2.2.2.2.1 x1.2.2.2.2.2.2.1 x1.2.2.2.2.2.2.2.1 x1.2.2.2.2.2.2.2.2))]⟩] M ?_ (by kernel_rfl) ?_
     ·refine .cons (dMv M)<|.cons (dFa 1 underlying29 M ti9 M)<|.cons (dLd underlying9 ag9 ti9 M)<|.cons (dMv M)<|.cons (dFa 0 underlying29 M ti3 M)<|.cons (dLd underlying3 ag3 ti3 M)<|.cons (lop M M fun S hA=>(cT M M (lb M) (svaI hA M M) (svaI hA M M) M hx66))<|.cons (lop M M fun S hA=>(vZ M M (lb M) underlying9 (sv (d:=.str _) (agr hA M M)) ⟨_,(svaI hA M M)⟩ M hx67))<|.cons (dFa 0 underlying29 M ti3 M)<|.cons (lop M M fun S hA=>(cY (ds':=q8) M M ti3 (svaR hA M M) (agi hA M M) (svaI hA M M) M M M (nle M) M))<|.cons (dFa 1 underlying29 M ti9 M)<|.cons (lop M M fun S hA=>(cY (ds':=q8) M M ti9 (svaR hA M M) (agi hA M M) (sv (d:=.str _) (agr hA M M)) M M M (nle M) M)) ?_
      exact .nil
     obtain ⟨x68,hx68,h⟩:=eC h;refine aJ (cFa 4 underlying29 M ti27 M<|aE M (lrL la27 M M M M M (nle M) M)<|cI M<|aE M (gO (cs:=q14) M M (lb M) underlying182 uW pl182 M (.cons (svI M) .nil) M)<|aE M (eZ (r:=.slice _ _) M M (lb M) cl93 (.cons (svL M) (.cons (svA q14 M) .nil)) M (aBl _ _ _ hx68))<|cFa 4 underlying29 M ti27 M<|aE M (cY (ds':=q8) M M ti27 (svR M) M (svL M) M M M (nle M) M)<|aI ?_);refine bG<|aJ (cB M<|aI ?_);refine bE h M (fun h=>?_) (fun h=>?_)
     ·
      refine bN (cFa 8 underlying29 M ti4 M<|aE M (cY (ds':=q8) M M ti4 (svR M) M (sv (d:=.bool true) M) M M M (nle M) M)<|cFa 7 underlying29 M ti4 M<|aE M (cY (ds':=q8) M M ti4 (svR M) M (sv (d:=.bool false) M) M M M (nle M) M)<|dJ ?_);refine aT<|aJ (cLr q8 la29 M<|cSt q8 q8 ti29 M<|aI ?_);refine bJ ?_;obtain rfl:=sj_ h;refine ⟨.inr M,_,(.cons (rva la29 M M (nle M) M) .nil),(.cons (.agg (.k (.k (.k (.cons (FDT aB M M) (.all _)))))) .nil)⟩
     ·
      refine bS<|aT<|aJ (cLr q8 la29 M<|cSt q8 q8 ti29 M<|aI ?_);refine bJ ?_;obtain rfl:=sj_ h;refine ⟨.inr M,_,(.cons (rva la29 M M (nle M) M) .nil),(.cons (.agg (.k (.k (.k (.cons (FDT aB M M) (.all _)))))) .nil)⟩
def s110:CS tEl:=⟨[.agg 6,.one (.int .i64),.one .bool],[.agg 6],fun z=>uX z.1 z.2.1 z.2.2.1⟩
theorem o110:CsOk Ik tCod 48 s110:=FI cl48 (fun z r h=>⟨_,_,aFX z.1 z.2.1 z.2.2.1 r h,by kernel_rfl,by kernel_rfl⟩)
def s111:HS tEl:=⟨[.sl 0 (.agg 6),.vf 1 .one [.rf 1000 0],.bk 1000 3 [.pl kI]],2,1,[.bk 1000 3 [.pl kI],.sl 0 (.agg 6)],1,0,aF,fun y=>y.2.1,fun z r=>(((z.2.2.1.1:Int),()),(r),()),fun z=>qQ z.1 z.2.2.1.1⟩
def X111:=cX0 [(48,s110)]
theorem h111:FsOk (X111 Ik):=Bk (C:=(X111 Ik)) ⟨o110,trivial⟩ trivial
def W111 (P:An) (f:Func):Fh (X111 P):=⟨f,s111⟩
theorem o111:HsOk tCod Ik 47 s111:=uP (C:=(X111 Ik)) (W:=(W111 Ik f47)) (by kernel_rfl) (fun _ _=>rfl) h111 func47 rfl rfl rfl (fun z0=>[]) (fun z=>by kernel_rfl) (fun h hf z=>by kernel_rfl) (fun z0 O r _=>trivial)
def s112:HS tEl:=⟨[.sl 0 (.agg 10),.vf 1 (.fn 47) [.rf 1000 0],.bk 1000 3 [.pl kI]],2,1,[.bk 1000 3 [.pl kI],.sl 0 (.agg 10)],1,0,aG,fun y=>y.2.1,fun z r=>(((z.2.2.1.1:Int),()),(r),()),fun z=>iU z.1 z.2.2.1.1⟩
def X112:=cX1 (fun _=>false) [(22,s56)] [(47,s111)]
theorem h112:FsOk (X112 Ik):=Bk (C:=(X112 Ik)) ⟨o56,trivial⟩ ⟨o111,trivial⟩
def W112 (P:An) (f:Func):Fh (X112 P):=⟨f,s112⟩
theorem o112:HsOk tCod Ik 46 s112:=uP (C:=(X112 Ik)) (W:=(W112 Ik f46)) (by kernel_rfl) (fun _ _=>rfl) h112 func46 rfl rfl rfl (fun z0=>[]) (fun z=>by kernel_rfl) (fun h hf z=>by kernel_rfl) (fun z0 O r _=>trivial)
def s113:CS tEl:=⟨[.agg 10,kI],[.agg 10],fun z=>jF z.1 z.2.1⟩
def X113:=cX1 (fun _=>false) [] [(46,s112)]
theorem o113:CsOk Ik tCod 12 s113:=aV (X113 Ik) trivial ⟨o112,trivial⟩ func12 rfl
def s114:CS tEl:=⟨[.agg 10],[kI],fun z=>oK z.1⟩
def X114:=cX0 []
theorem o114:CsOk Ik tCod 26 s114:=aV (X114 Ik) trivial trivial func26 rfl
def s115:CS tEl:=⟨[.agg 6,kI],[kB],fun z=>zN z.1 z.2.1⟩
def X115:=cX1 (fun t=>Aj t 72||Aj t 73||Aj t 76) [(66,s26),(97,s72)] []
theorem o115:CsOk Ik tCod 72 s115:=aV (X115 Ik) ⟨o26,o72,trivial⟩ trivial func72 rfl
def s116:CS tEl:=⟨[.agg 10],[kB],fun z=>lI z.1⟩
def X116:=cX0 [(22,s56),(72,s115)]
theorem o116:CsOk Ik tCod 24 s116:=aV (X116 Ik) ⟨o56,o115,trivial⟩ trivial func24 rfl
def s117:CS tEl:=⟨[.one (.sl 4),.one (.sl 4)],[kB],fun z=>fU z.1 z.2.1⟩
def X117:=cX1 (fun t=>Aj t 72||Aj t 73||Aj t 76) [] []
theorem h117:FsOk (X117 Ik):=Bk (C:=(X117 Ik)) trivial trivial
def W117 (P:An) (f:Func):Fw (X117 P):=⟨f,s117.acx,s117.rs⟩
abbrev aHL (m0:Nat):Ct (X117 Ik) (Bb tEl s117.rs):=⟨[0,1,0,1,1],[.sl 0 (.one (.sl 4)),.sl 1 (.one (.sl 4)),.sl 12 kI,.sl 13 kI],fun z=>(z.1,z.2.1,((z.1.length:Int):Int),z.2.2.2.1,()),0,fun z=>cA z.1 z.2.1 m0 z.2.2.2.1⟩
theorem t117_0 {O:aR} {r:Bb tEl s117.rs}:∀ m0,SndW (W117 Ik f130) O r (aHL m0):=bH (W:=(W117 Ik f130)) h117 (fun m0=>aHL m0) (fun m0=>[aHL m0]) (fun m0 e0=>⟨e0,trivial⟩)
theorem o117:CsOk Ik tCod 130 s117:=bR (W:=(W117 Ik f130)) h117 func130 rfl [aHL fuel] (fun O r _=>⟨(t117_0 fuel),trivial⟩)
def s118:CS tEl:=⟨[.agg 6,.agg 6],[kB],fun z=>zO z.1 z.2.1⟩
def X118:=cX1 (fun t=>Aj t 72||Aj t 73||Aj t 76) [(130,s117),(131,s22)] []
theorem o118:CsOk Ik tCod 74 s118:=aV (X118 Ik) ⟨o117,o22,trivial⟩ trivial func74 rfl
def s119:CS tEl:=⟨[.one (.sl 7),.one (.sl 7)],[kB],fun z=>fV z.1 z.2.1⟩
def X119:=cX0 []
theorem h119:FsOk (X119 Ik):=Bk (C:=(X119 Ik)) trivial trivial
def W119 (P:An) (f:Func):Fw (X119 P):=⟨f,s119.acx,s119.rs⟩
abbrev aHK (m0:Nat):Ct (X119 Ik) (Bb tEl s119.rs):=⟨[0,1,0,1,1],[.sl 0 (.one (.sl 7)),.sl 1 (.one (.sl 7)),.sl 12 kI,.sl 13 kI],fun z=>(z.1,z.2.1,((z.1.length:Int):Int),z.2.2.2.1,()),0,fun z=>cC z.1 z.2.1 m0 z.2.2.2.1⟩
theorem t119_0 {O:aR} {r:Bb tEl s119.rs}:∀ m0,SndW (W119 Ik f184) O r (aHK m0):=bH (W:=(W119 Ik f184)) h119 (fun m0=>aHK m0) (fun m0=>[aHK m0]) (fun m0 e0=>⟨e0,trivial⟩)
theorem o119:CsOk Ik tCod 184 s119:=bR (W:=(W119 Ik f184)) h119 func184 rfl [aHK fuel] (fun O r _=>⟨(t119_0 fuel),trivial⟩)
def s120:CS tEl:=⟨[.agg 8,.agg 8],[kB],fun z=>xO z.1 z.2.1⟩
def X120:=cX0 [(184,s119)]
theorem o120:CsOk Ik tCod 132 s120:=aV (X120 Ik) ⟨o119,trivial⟩ trivial func132 rfl
def s121:CS tEl:=⟨[.agg 9,.agg 9],[kB],fun z=>zT z.1 z.2.1⟩
def X121:=cX0 [(132,s120)]
theorem o121:CsOk Ik tCod 75 s121:=aV (X121 Ik) ⟨o120,trivial⟩ trivial func75 rfl
def s122:CS tEl:=⟨[.agg 10,.agg 10],[kB],fun z=>nQ z.1 z.2.1⟩
def X122:=cX0 [(74,s118),(75,s121)]
theorem o122:CsOk Ik tCod 28 s122:=aV (X122 Ik) ⟨o118,o121,trivial⟩ trivial func28 rfl
def s123:CS tEl:=⟨[],[kB],fun z=>jI⟩
def X123:=cX0 [(6,s5),(18,s70),(14,s80),(8,s97),(16,s106),(12,s113),(26,s114),(24,s116),(22,s56),(28,s122)]
theorem o123:CsOk Ik tCod 5 s123:=aV (X123 Ik) ⟨o5,o70,o80,o97,o106,o113,o114,o116,o56,o122,trivial⟩ trivial func5 rfl
def s124:CS tEl:=⟨[],[.agg 9],fun z=>wT⟩
def X124:=cX0 []
theorem o124:CsOk Ik tCod 32 s124:=aV (X124 Ik) trivial trivial func32 rfl
def s125:CS tEl:=⟨[],[.agg 10],fun z=>tG⟩
def X125:=cX0 [(32,s124)]
theorem o125:CsOk Ik tCod 7 s125:=aV (X125 Ik) ⟨o124,trivial⟩ trivial func7 rfl
def s126:CS tEl:=⟨[kI],[kB],fun z=>rD z.1⟩
def X126:=cX0 []
theorem o126:CsOk Ik tCod 194 s126:=aV (X126 Ik) trivial trivial func194 rfl
def s127:CS tEl:=⟨[.agg 5],[kB],fun z=>lS z.1⟩
def X127:=cX0 [(194,s126)]
theorem o127:CsOk Ik tCod 154 s127:=aV (X127 Ik) ⟨o126,trivial⟩ trivial func154 rfl
def s128:CS tEl:=⟨[.one (.sl 5)],[kI],fun z=>iB z.1⟩
def X128:=cX0 [(154,s127)]
theorem h128:FsOk (X128 Ik):=Bk (C:=(X128 Ik)) ⟨o127,trivial⟩ trivial
def W128 (P:An) (f:Func):Fw (X128 P):=⟨f,s128.acx,s128.rs⟩
abbrev aHJ (m0:Nat):Ct (X128 Ik) (Bb tEl s128.rs):=⟨[0,1,0,1],[.sl 0 (.one (.sl 5)),.sl 3 kI],fun z=>z,0,fun z=>gJ z.1 m0 z.2.1⟩
abbrev aFG (m1:Nat):Ct (X128 Ik) (Bb tEl s128.rs):=⟨[0,1,0,1,1],[.sl 0 (.one (.sl 5)),.sl 4 kI],fun z=>z,0,fun z=>gI z.1 m1 z.2.1⟩
abbrev aCp (m2:Nat):Ct (X128 Ik) (Bb tEl s128.rs):=⟨[0,1,0,1,1,1],[.sl 0 (.one (.sl 5)),.sl 5 kI],fun z=>z,0,fun z=>fD z.1 m2 z.2.1⟩
theorem aIP {O:aR} {r:Bb tEl s128.rs}:∀ m2,SndW (W128 Ik f125) O r (aCp m2):=bH (W:=(W128 Ik f125)) h128 (fun m2=>aCp m2) (fun m2=>[aCp m2]) (fun m2 e2=>⟨e2,trivial⟩)
theorem aMf {O:aR} {r:Bb tEl s128.rs}:∀ m1,SndW (W128 Ik f125) O r (aFG m1):=bH (W:=(W128 Ik f125)) h128 (fun m1=>aFG m1) (fun m1=>[aFG m1,aCp fuel]) (fun m1 e1=>⟨e1,(aIP fuel),trivial⟩)
theorem t128_0 {O:aR} {r:Bb tEl s128.rs}:∀ m0,SndW (W128 Ik f125) O r (aHJ m0):=bH (W:=(W128 Ik f125)) h128 (fun m0=>aHJ m0) (fun m0=>[aHJ m0,aFG fuel,aCp fuel]) (fun m0 e0=>⟨e0,(aMf fuel),(aIP fuel),trivial⟩)
theorem o128:CsOk Ik tCod 125 s128:=bR (W:=(W128 Ik f125)) h128 func125 rfl [aHJ fuel,aFG fuel,aCp fuel] (fun O r _=>⟨(t128_0 fuel),(aMf fuel),(aIP fuel),trivial⟩)
def s129:CS tEl:=⟨[.one (.sl 5),.one (.sl 5)],[.one (.sl 12)],fun z=>pB z.1 z.2.1⟩
def X129:=cX0 []
theorem h129:FsOk (X129 Ik):=Bk (C:=(X129 Ik)) trivial trivial
def W129 (P:An) (f:Func):Fw (X129 P):=⟨f,s129.acx,s129.rs⟩
abbrev aHI (m0:Nat):Ct (X129 Ik) (Bb tEl s129.rs):=⟨[0,1,0,1,1],[.gs 5 21 3 12,.sl 0 (.one (.sl 5)),.sl 1 (.one (.sl 5)),.sl 6 kI],fun z=>z,22,fun z=>hU z.2.1 z.2.2.1 m0 z.1 z.2.2.2.1⟩
abbrev aFF (m1:Nat):Ct (X129 Ik) (Bb tEl s129.rs):=⟨[0,1,0,1,1,1],[.gs 5 21 3 12,.sl 1 (.one (.sl 5)),.sl 7 kI],fun z=>z,22,fun z=>gZ z.2.1 m1 z.1 z.2.2.1⟩
abbrev aBD (m2:Nat):Ct (X129 Ik) (Bb tEl s129.rs):=⟨[0,1,0,1,1,1,1,1],[.gs 5 21 3 12,.gs 8 43 3 12,.sl 9 kI],fun z=>z,44,fun z=>cQ z.1 m2 z.2.1 z.2.2.1⟩
abbrev aHH (m2:Nat) (m3:Nat):Ct (X129 Ik) (Bb tEl s129.rs):=⟨[0,0,1,0,0,1,0,0,1,0,1,1,1,1,1],[.gs 5 21 3 12,.gs 8 43 3 12,.sl 9 kI,.sl 10 kI],fun z=>z,44,fun z=>fL z.1 z.2.1 z.2.2.1 (cQ z.1 m2) m3 z.2.2.2.1⟩
theorem t129_3 {O:aR} {r:Bb tEl s129.rs} (m2:Nat) (e2:SndW (W129 Ik f195) O r (aBD m2)):∀ m3,SndW (W129 Ik f195) O r (aHH m2 m3):=bH (W:=(W129 Ik f195)) h129 (fun m3=>aHH m2 m3) (fun m3=>[aBD m2,aHH m2 m3]) (fun m3 e3=>⟨e2,e3,trivial⟩)
theorem aIO {O:aR} {r:Bb tEl s129.rs}:∀ m2,SndW (W129 Ik f195) O r (aBD m2):=bH (W:=(W129 Ik f195)) h129 (fun m2=>aBD m2) (fun m2=>[aBD m2,aHH m2 fuel]) (fun m2 e2=>⟨e2,(t129_3 m2 e2 fuel),trivial⟩)
theorem aMe {O:aR} {r:Bb tEl s129.rs}:∀ m1,SndW (W129 Ik f195) O r (aFF m1):=bH (W:=(W129 Ik f195)) h129 (fun m1=>aFF m1) (fun m1=>[aFF m1,aBD fuel]) (fun m1 e1=>⟨e1,(aIO fuel),trivial⟩)
theorem t129_0 {O:aR} {r:Bb tEl s129.rs}:∀ m0,SndW (W129 Ik f195) O r (aHI m0):=bH (W:=(W129 Ik f195)) h129 (fun m0=>aHI m0) (fun m0=>[aHI m0,aFF fuel,aBD fuel]) (fun m0 e0=>⟨e0,(aMe fuel),(aIO fuel),trivial⟩)
theorem o129:CsOk Ik tCod 195 s129:=bR (W:=(W129 Ik f195)) h129 func195 rfl [aHI fuel,aFF fuel,aBD fuel] (fun O r _=>⟨(t129_0 fuel),(aMe fuel),(aIO fuel),trivial⟩)
def s130:CS tEl:=⟨[.one (.sl 5),kI],[kB],fun z=>qD z.1 z.2.1⟩
def X130:=cX0 []
theorem h130:FsOk (X130 Ik):=Bk (C:=(X130 Ik)) trivial trivial
def W130 (P:An) (f:Func):Fw (X130 P):=⟨f,s130.acx,s130.rs⟩
abbrev aHG (m0:Nat):Ct (X130 Ik) (Bb tEl s130.rs):=⟨[0,1,0,1],[.sl 0 (.one (.sl 5)),.sl 1 kI,.sl 5 kI],fun z=>z,0,fun z=>iO z.1 z.2.1 m0 z.2.2.1⟩
theorem t130_0 {O:aR} {r:Bb tEl s130.rs}:∀ m0,SndW (W130 Ik f196) O r (aHG m0):=bH (W:=(W130 Ik f196)) h130 (fun m0=>aHG m0) (fun m0=>[aHG m0]) (fun m0 e0=>⟨e0,trivial⟩)
theorem o130:CsOk Ik tCod 196 s130:=bR (W:=(W130 Ik f196)) h130 func196 rfl [aHG fuel] (fun O r _=>⟨(t130_0 fuel),trivial⟩)
def s131:HS tEl:=⟨[.vf 0 .one [.os 1000 184 5],.sl 1 (.agg 5)],2,1,[.vf 0 .one [.os 0 184 5]],1,1,(List aC),fun y=>y.1.1,fun z r=>(((r:List _),()),()),fun z=>oC z.2.1 z.1.1⟩
def X131:=cX1 (fun t=>Aj t 181||Aj t 182||Aj t 184) [] []
theorem h131:FsOk (X131 Ik):=Bk (C:=(X131 Ik)) trivial trivial
def W131 (P:An) (f:Func):Fh (X131 P):=⟨f,s131⟩
theorem o131:HsOk tCod Ik 197 s131:=uP (C:=(X131 Ik)) (W:=(W131 Ik f197)) (by kernel_rfl) (fun _ _=>rfl) h131 func197 rfl rfl rfl (fun z0=>[]) (fun z=>by kernel_rfl) (fun h hf z=>by kernel_rfl) (fun z0 O r _=>trivial)
def s132:CS tEl:=⟨[.one (.sl 5),.one (.sl 5),kI],[.one (.sl 5)],fun z=>kG z.1 z.2.1 z.2.2.1⟩
def X132:=cX1 (fun t=>Aj t 181||Aj t 182||Aj t 184) [(195,s129),(196,s130)] [(197,s131)]
theorem h132:FsOk (X132 Ik):=Bk (C:=(X132 Ik)) ⟨o129,o130,trivial⟩ ⟨o131,trivial⟩
def W132 (P:An) (f:Func):Fw (X132 P):=⟨f,s132.acx,s132.rs⟩
abbrev aHF (m0:Nat):Ct (X132 Ik) (Bb tEl s132.rs):=⟨[0,1,0,1,1,1],[.vf 8 .one [.os 0 184 5],.sl 0 (.one (.sl 5)),.sl 1 (.one (.sl 5)),.sl 2 kI,.sl 7 (.one (.sl 12)),.sl 9 kI],fun z=>z,1,fun z=>eR z.2.1 z.2.2.1 z.2.2.2.1 z.2.2.2.2.1 m0 z.1.1 z.2.2.2.2.2.1⟩
theorem t132_0 {O:aR} {r:Bb tEl s132.rs}:∀ m0,SndW (W132 Ik f155) O r (aHF m0):=bH (W:=(W132 Ik f155)) h132 (fun m0=>aHF m0) (fun m0=>[aHF m0]) (fun m0 e0=>⟨e0,trivial⟩)
theorem o132:CsOk Ik tCod 155 s132:=bR (W:=(W132 Ik f155)) h132 func155 rfl [aHF fuel] (fun O r _=>⟨(t132_0 fuel),trivial⟩)
def s133:CS tEl:=⟨[.one (.sl 5),.one (.sl 5)],[.one (.sl 5)],fun z=>pC z.1 z.2.1⟩
def X133:=cX0 [(125,s128),(155,s132)]
theorem o133:CsOk Ik tCod 180 s133:=aV (X133 Ik) ⟨o128,o132,trivial⟩ trivial func180 rfl
def s134:CS tEl:=⟨[.agg 4,.one (.sl 5)],[kB],fun z=>nU z.1 z.2.1⟩
def X134:=cX0 [(180,s133)]
theorem o134:CsOk Ik tCod 126 s134:=aV (X134 Ik) ⟨o133,trivial⟩ trivial func126 rfl
def s135:CS tEl:=⟨[.agg 6],[kI],fun z=>cS z.1⟩
def X135:=cX0 []
theorem o135:CsOk Ik tCod 94 s135:=aV (X135 Ik) trivial trivial func94 rfl
def s136:CS tEl:=⟨[.agg 6],[kI],fun z=>rW z.1⟩
def X136:=cX0 []
theorem h136:FsOk (X136 Ik):=Bk (C:=(X136 Ik)) trivial trivial
def W136 (P:An) (f:Func):Fw (X136 P):=⟨f,s136.acx,s136.rs⟩
abbrev aHE (m0:Nat):Ct (X136 Ik) (Bb tEl s136.rs):=⟨[0,1,0,1,1],[.vf 1 .one [.rf 0 0],.sl 3 kI,.sl 4 kI,.bc 0 44 6],fun z=>z,1,fun z=>fI z.2.2.2.1 m0 z.2.1 z.2.2.1⟩
theorem t136_0 {O:aR} {r:Bb tEl s136.rs}:∀ m0,SndW (W136 Ik f181) O r (aHE m0):=bH (W:=(W136 Ik f181)) h136 (fun m0=>aHE m0) (fun m0=>[aHE m0]) (fun m0 e0=>⟨e0,trivial⟩)
theorem o136:CsOk Ik tCod 181 s136:=bR (W:=(W136 Ik f181)) h136 func181 rfl [aHE fuel] (fun O r _=>⟨(t136_0 fuel),trivial⟩)
def s137:CS tEl:=⟨[.agg 6],[kB],fun z=>mZ z.1⟩
def X137:=cX0 [(94,s135),(181,s136)]
theorem h137:FsOk (X137 Ik):=Bk (C:=(X137 Ik)) ⟨o135,o136,trivial⟩ trivial
def W137 (P:An) (f:Func):Fw (X137 P):=⟨f,s137.acx,s137.rs⟩
abbrev aKU:Ct (X137 Ik) (Bb tEl s137.rs):=⟨[1,1,1,1],[.vf 1 .one [.rf 0 0],.sl 3 kI,.bc 0 44 6],fun z=>z,1,fun z=>kN z.2.2.1 z.2.1⟩
abbrev aFE (m1:Nat):Ct (X137 Ik) (Bb tEl s137.rs):=⟨[0,1,0,1,1,1,1],[.vf 1 .one [.rf 0 0],.sl 3 kI,.sl 4 kI,.bc 0 44 6],fun z=>z,1,fun z=>fP z.2.2.2.1 z.2.1 m1 z.2.2.1⟩
theorem aMd {O:aR} {r:Bb tEl s137.rs}:∀ m1,SndW (W137 Ik f127) O r (aFE m1):=bH (W:=(W137 Ik f127)) h137 (fun m1=>aFE m1) (fun m1=>[aFE m1]) (fun m1 e1=>⟨e1,trivial⟩)
theorem t137_0 {O:aR} {r:Bb tEl s137.rs}:SndW (W137 Ik f127) O r (aKU):=fF (W:=(W137 Ik f127)) h137 (aKU) [aFE fuel] ⟨(aMd fuel),trivial⟩
theorem o137:CsOk Ik tCod 127 s137:=bR (W:=(W137 Ik f127)) h137 func127 rfl [aKU,aFE fuel] (fun O r _=>⟨(t137_0),(aMd fuel),trivial⟩)
def s138:CS tEl:=⟨[.agg 6],[kI],fun z=>eY z.1⟩
def X138:=cX0 [(125,s128),(126,s134),(127,s137)]
theorem h138:FsOk (X138 Ik):=Bk (C:=(X138 Ik)) ⟨o128,o134,o137,trivial⟩ trivial
def W138 (P:An) (f:Func):Fw (X138 P):=⟨f,s138.acx,s138.rs⟩
abbrev aHD (m0:Nat):Ct (X138 Ik) (Bb tEl s138.rs):=⟨[0,1,0,1,1,1],[.vf 1 .one [.rf 0 0],.sl 3 kI,.sl 4 kI,.bc 0 44 6],fun z=>z,1,fun z=>fC z.2.2.2.1 m0 z.2.1 z.2.2.1⟩
theorem t138_0 {O:aR} {r:Bb tEl s138.rs}:∀ m0,SndW (W138 Ik f69) O r (aHD m0):=bH (W:=(W138 Ik f69)) h138 (fun m0=>aHD m0) (fun m0=>[aHD m0]) (fun m0 e0=>⟨e0,trivial⟩)
theorem o138:CsOk Ik tCod 69 s138:=bR (W:=(W138 Ik f69)) h138 func69 rfl [aHD fuel] (fun O r _=>⟨(t138_0 fuel),trivial⟩)
def s139:CS tEl:=⟨[.agg 8],[kI],fun z=>jG z.1⟩
def X139:=cX0 []
theorem o139:CsOk Ik tCod 182 s139:=aV (X139 Ik) trivial trivial func182 rfl
def s140:CS tEl:=⟨[.agg 8],[kI],fun z=>jH z.1⟩
def X140:=cX0 [(182,s139)]
theorem h140:FsOk (X140 Ik):=Bk (C:=(X140 Ik)) ⟨o139,trivial⟩ trivial
def W140 (P:An) (f:Func):Fw (X140 P):=⟨f,s140.acx,s140.rs⟩
abbrev aHC (m0:Nat):Ct (X140 Ik) (Bb tEl s140.rs):=⟨[0,1,0,1,1,1],[.vf 1 .one [.rf 0 0],.sl 3 kI,.sl 4 kI,.bc 0 47 8],fun z=>z,1,fun z=>gH z.2.2.2.1 m0 z.2.1 z.2.2.1⟩
theorem t140_0 {O:aR} {r:Bb tEl s140.rs}:∀ m0,SndW (W140 Ik f128) O r (aHC m0):=bH (W:=(W140 Ik f128)) h140 (fun m0=>aHC m0) (fun m0=>[aHC m0]) (fun m0 e0=>⟨e0,trivial⟩)
theorem o140:CsOk Ik tCod 128 s140:=bR (W:=(W140 Ik f128)) h140 func128 rfl [aHC fuel] (fun O r _=>⟨(t140_0 fuel),trivial⟩)
def s141:CS tEl:=⟨[.agg 9],[kI],fun z=>gL z.1⟩
def X141:=cX0 []
theorem o141:CsOk Ik tCod 83 s141:=aV (X141 Ik) trivial trivial func83 rfl
def s142:CS tEl:=⟨[.agg 9],[kI],fun z=>fO z.1⟩
def X142:=cX0 [(128,s140),(83,s141)]
theorem o142:CsOk Ik tCod 70 s142:=aV (X142 Ik) ⟨o140,o141,trivial⟩ trivial func70 rfl
def s143:CS tEl:=⟨[.one (.int .u8)],[kS],fun z=>eI z.1⟩
def X143:=cX0 []
theorem h143:FsOk (X143 Ik):=Bk (C:=(X143 Ik)) trivial trivial
def W143 (P:An) (f:Func):Fw (X143 P):=⟨f,s143.acx,s143.rs⟩
abbrev aKT:Ct (X143 Ik) (Bb tEl s143.rs):=⟨[1,0,1,0,1],[.sl 3 (.one (.int .u8)),.sl 4 kB],fun z=>z,0,fun z=>kV z.1 z.2.1⟩
abbrev aHB:Ct (X143 Ik) (Bb tEl s143.rs):=⟨[1,1,1,0,1,0,1],[.sl 3 (.one (.int .u8)),.sl 7 kB],fun z=>z,0,fun z=>kU z.1 z.2.1⟩
theorem aMc {O:aR} {r:Bb tEl s143.rs}:SndW (W143 Ik f145) O r (aHB):=fF (W:=(W143 Ik f145)) h143 (aHB) [] trivial
theorem t143_0 {O:aR} {r:Bb tEl s143.rs}:SndW (W143 Ik f145) O r (aKT):=fF (W:=(W143 Ik f145)) h143 (aKT) [aHB] ⟨(aMc),trivial⟩
theorem o143:CsOk Ik tCod 145 s143:=bR (W:=(W143 Ik f145)) h143 func145 rfl [aKT,aHB] (fun O r _=>⟨(t143_0),(aMc),trivial⟩)
theorem sL (a0:Int) (r:(List Ai)) (h:eI a0=some r):eL Ik 145 [.int .u8 a0] (.str r):=Dl o143 (a0,()) r h (by kernel_rfl) (by kernel_rfl)
def s144:CS tEl:=⟨[.one (.int .u8)],[kI],fun z=>mS z.1⟩
def X144:=cX0 []
theorem o144:CsOk Ik tCod 187 s144:=aV (X144 Ik) trivial trivial func187 rfl
def s145:CS tEl:=⟨[kI],[kI],fun z=>kH z.1⟩
def X145:=cX0 []
theorem o145:CsOk Ik tCod 175 s145:=aV (X145 Ik) trivial trivial func175 rfl
theorem zX (a0:Int) (r:Int) (h:kH a0=some r):eL Ik 175 [.int .i64 a0] (.int .i64 r):=Dl o145 (a0,()) r h (by kernel_rfl) (by kernel_rfl)
def s146:CS tEl:=⟨[kS],[kI,kI,kI],fun z=>jT z.1⟩
def X146:=cX0 [(187,s144),(175,s145)]
theorem h146:FsOk (X146 Ik):=Bk (C:=(X146 Ik)) ⟨o144,o145,trivial⟩ trivial
def W146 (P:An) (f:Func):Fw (X146 P):=⟨f,s146.acx,s146.rs⟩
abbrev aHA (m0:Nat):Ct (X146 Ik) (Bb tEl s146.rs):=⟨[0,1,0,1,1,1,1],[.sl 0 kS,.sl 5 kI,.sl 6 kI,.sl 7 kI],fun z=>z,0,fun z=>kX z.1 z.2.1 m0 z.2.2.1 z.2.2.2.1⟩
theorem t146_0 {O:aR} {r:Bb tEl s146.rs}:∀ m0,SndW (W146 Ik f146) O r (aHA m0):=bH (W:=(W146 Ik f146)) h146 (fun m0=>aHA m0) (fun m0=>[aHA m0]) (fun m0 e0=>⟨e0,trivial⟩)
theorem o146:CsOk Ik tCod 146 s146:=bR (W:=(W146 Ik f146)) h146 func146 rfl [aHA fuel] (fun O r _=>⟨(t146_0 fuel),trivial⟩)
theorem vA (a0:(List Ai)) (r:(Int×Int×Int)) (h:jT a0=some r):eL Ik 146 [.str a0] (retD [.int .i64 r.1,.int .i64 r.2.1,.int .i64 r.2.2]):=Dl o146 (a0,()) r h (by kernel_rfl) (by kernel_rfl)
theorem zA (a0:Int) (a1:Bool) (a2:Int) (a3:Int) (a4:Int) (a5:Int) (a6:Int) (a7:Int) (a8:(List Ai)) (a9:Int) (a10:Int) (r:(Int×Bool×Int×Int×Int×Int×Int×Int×(List Ai))) (h:oA a0 a1 a2 a3 a4 a5 a6 a7 a8 a9 a10=some r):eL Ik 188 [.agg [.int .u8 a0,.bool a1,.int .i64 a2,.int .i64 a3,.int .i64 a4,.int .i64 a5,.int .i64 a6,.int .i64 a7,.nils,.str a8],.int .u8 a9,.int .i64 a10] (.agg [.int .u8 r.1,.bool r.2.1,.int .i64 r.2.2.1,.int .i64 r.2.2.2.1,.int .i64 r.2.2.2.2.1,.int .i64 r.2.2.2.2.2.1,.int .i64 r.2.2.2.2.2.2.1,.int .i64 r.2.2.2.2.2.2.2.1,.nils,.str r.2.2.2.2.2.2.2.2]):=by
 refine pI (rs:=[.agg [.int .u8 r.1,.bool r.2.1,.int .i64 r.2.2.1,.int .i64 r.2.2.2.1,.int .i64 r.2.2.2.2.1,.int .i64 r.2.2.2.2.2.1,.int .i64 r.2.2.2.2.2.2.1,.int .i64 r.2.2.2.2.2.2.2.1,.nils,.str r.2.2.2.2.2.2.2.2]]) func188 M ntmps188 (nle M) M fun O hO=>?_
 show IWP _ _ _ _ ⟨[(0,.agg [.int .u8 a0,.bool a1,.int .i64 a2,.int .i64 a3,.int .i64 a4,.int .i64 a5,.int .i64 a6,.int .i64 a7,.nils,.str a8]),(1,.int .u8 a9),(2,.int .i64 a10)],[]⟩ _
 unfold oA at h;refine aJ (cBx (cs:=q6) q6 0 M<|aE M (fA (cs:=q6) (cs':=[.int .u8 0,.bool false,.int .i64 0,.int .i64 0,.int .i64 0,.int .i64 0,.int .i64 0,.int .i64 0,.nils,.str []]) 1 M M (lb M) M ti57 M M (.all _))<|aI ?_);refine bG<|aJ (cI M<|aI ?_);refine bT ?_;obtain ⟨x1,hx1,h⟩:=dM h;refine aJ (cCm (b:=115) M hx1<|cAB M<|aI ?_);refine bE h M (fun h=>?_) (fun h=>?_)
 ·
  refine bN (cI M<|cFa 2 underlying57 M ti3 M<|aE M (cY (ds':=q6) M M ti3 (svR M) M (svI M) M M M (nle M) M)<|dJ ?_);refine cV<|aT<|aJ (cLr q6 la57 M<|cSt q6 q6 ti57 M<|aI ?_);refine bJ ?_;obtain rfl:=sj_ h;refine ⟨.inr M,(.cons (rva la57 M M (nle M) M) .nil)⟩
 ·
  obtain ⟨x3,hx3,h⟩:=dM h;refine aJ (cCm (b:=111) M hx3<|cAB M<|aI ?_);refine bE h M (fun h=>?_) (fun h=>?_)
  ·
   refine bN (cI M<|cFa 3 underlying57 M ti3 M<|aE M (cY (ds':=q6) M M ti3 (svR M) M (svI M) M M M (nle M) M)<|dJ ?_);refine cV<|aT<|aJ (cLr q6 la57 M<|cSt q6 q6 ti57 M<|aI ?_);refine bJ ?_;obtain rfl:=sj_ h;refine ⟨.inr M,(.cons (rva la57 M M (nle M) M) .nil)⟩
  ·
   obtain ⟨x5,hx5,h⟩:=dM h;refine aJ (cCm (b:=100) M hx5<|cAB M<|aI ?_);refine bE h M (fun h=>?_) (fun h=>?_)
   ·
    refine bN (cI M<|cFa 4 underlying57 M ti3 M<|aE M (cY (ds':=q6) M M ti3 (svR M) M (svI M) M M M (nle M) M)<|dJ ?_);refine cV<|aT<|aJ (cLr q6 la57 M<|cSt q6 q6 ti57 M<|aI ?_);refine bJ ?_;obtain rfl:=sj_ h;refine ⟨.inr M,(.cons (rva la57 M M (nle M) M) .nil)⟩
   ·
    obtain ⟨x7,hx7,h⟩:=dM h;refine aJ (cCm (b:=119) M hx7<|cAB M<|aI ?_);refine bE h M (fun h=>?_) (fun h=>?_)
    ·
     refine bN (cI M<|cFa 5 underlying57 M ti3 M<|aE M (cY (ds':=q6) M M ti3 (svR M) M (svI M) M M M (nle M) M)<|dJ ?_);refine cV<|aT<|aJ (cLr q6 la57 M<|cSt q6 q6 ti57 M<|aI ?_);refine bJ ?_;obtain rfl:=sj_ h;refine ⟨.inr M,(.cons (rva la57 M M (nle M) M) .nil)⟩
    ·
     obtain ⟨x9,hx9,h⟩:=dM h;refine aJ (cCm (b:=110) M hx9<|cAB M<|aI ?_);refine bE h M (fun h=>?_) (fun h=>?_)
     ·
      refine bN (cI M<|cFa 6 underlying57 M ti3 M<|aE M (cY (ds':=q6) M M ti3 (svR M) M (svI M) M M M (nle M) M)<|dJ ?_);refine cV<|aT<|aJ (cLr q6 la57 M<|cSt q6 q6 ti57 M<|aI ?_);refine bJ ?_;obtain rfl:=sj_ h;refine ⟨.inr M,(.cons (rva la57 M M (nle M) M) .nil)⟩
     ·
      refine bN (cI M<|cFa 7 underlying57 M ti3 M<|aE M (cY (ds':=q6) M M ti3 (svR M) M (svI M) M M M (nle M) M)<|dJ ?_);refine cV<|aT<|aJ (cLr q6 la57 M<|cSt q6 q6 ti57 M<|aI ?_);refine bJ ?_;obtain rfl:=sj_ h;refine ⟨.inr M,(.cons (rva la57 M M (nle M) M) .nil)⟩

def s148:CS tEl:=⟨[kS],[.one (.sl 12),kI],fun z=>nG z.1⟩
def X148:=cX0 [(146,s146)]
theorem h148:FsOk (X148 Ik):=Bk (C:=(X148 Ik)) ⟨o146,trivial⟩ trivial
def W148 (P:An) (f:Func):Fw (X148 P):=⟨f,s148.acx,s148.rs⟩
abbrev aG9 (m0:Nat):Ct (X148 Ik) (Bb tEl s148.rs):=⟨[0,0,1,1,1],[.gs 4 21 3 12,.sl 0 kS,.sl 5 kI],fun z=>z,22,fun z=>kY z.2.1 m0 z.1 z.2.2.1⟩
theorem t148_0 {O:aR} {r:Bb tEl s148.rs}:∀ m0,SndW (W148 Ik f189) O r (aG9 m0):=bH (W:=(W148 Ik f189)) h148 (fun m0=>aG9 m0) (fun m0=>[aG9 m0]) (fun m0 e0=>⟨e0,trivial⟩)
theorem o148:CsOk Ik tCod 189 s148:=bR (W:=(W148 Ik f189)) h148 func189 rfl [aG9 fuel] (fun O r _=>⟨(t148_0 fuel),trivial⟩)
theorem aAm (a0:(List Ai)) (r:((List Int)×Int)) (h:nG a0=some r):eL Ik 189 [.str a0] (retD [.slice false (r.1.map (eInt .i64).d),.int .i64 r.2]):=Dl o148 (a0,()) r h (by kernel_rfl) (by kernel_rfl)
theorem yC (a0:Int) (a1:Bool) (a2:Int) (a3:Int) (a4:Int) (a5:Int) (a6:Int) (a7:Int) (a8:(List Ai)) (a9:(List Ai)) (r:(aA×Bool)) (h:kO a0 a1 a2 a3 a4 a5 a6 a7 a8 a9=some r):eL Ik 147 [.agg [.int .u8 a0,.bool a1,.int .i64 a2,.int .i64 a3,.int .i64 a4,.int .i64 a5,.int .i64 a6,.int .i64 a7,.nils,.str a8],.str a9] (retD [.agg (tv0 r.1),.bool r.2]):=by
 refine pP (rs:=[.agg (tv0 r.1),.bool r.2]) func147 M ntmps147 (nle M) M fun O hO=>?_
 show IWP _ _ _ _ ⟨[(0,.agg [.int .u8 a0,.bool a1,.int .i64 a2,.int .i64 a3,.int .i64 a4,.int .i64 a5,.int .i64 a6,.int .i64 a7,.nils,.str a8]),(1,.str a9)],[]⟩ _
 unfold kO at h;refine aJ (cBx (cs:=q6) q6 0 M<|aE M (fA (cs:=q6) (cs':=[.int .u8 0,.bool false,.int .i64 0,.int .i64 0,.int .i64 0,.int .i64 0,.int .i64 0,.int .i64 0,.nils,.str []]) 1 M M (lb M) M ti57 M M (.all _))<|cAs (.bool false) M<|aI ?_);obtain ⟨x1,hx1,h⟩:=eC h;refine aJ (cFa 0 underlying57 M ti5 M<|cLd (d:=.int _ _) underlying5 ag5 ti5 M<|aE M (eZ (r:=.str _) M M (lb M) cl145 (.cons (svI M) .nil) M (sL _ _ hx1))<|cAs (.str _) M<|aI ?_);refine bG<|aJ (cAs (.int _ 0) M<|aI ?_);refine bT<|lX (α:=Nat×(List Ai)×Int×Int×Bool×Int×Int×Int×Int×Int×Int×(List Ai)) (fun z=>⟨[(1,.str z.2.1),(2,.ref 0 0),(4,.ref 1 0),(6,.str x1),(7,.int .i64 z.2.2.1)],[(0,.blk 57 [.int .u8 z.2.2.2.1,.bool z.2.2.2.2.1,.int .i64 z.2.2.2.2.2.1,.int .i64 z.2.2.2.2.2.2.1,.int .i64 z.2.2.2.2.2.2.2.1,.int .i64 z.2.2.2.2.2.2.2.2.1,.int .i64 z.2.2.2.2.2.2.2.2.2.1,.int .i64 z.2.2.2.2.2.2.2.2.2.2.1,.nils,.str z.2.2.2.2.2.2.2.2.2.2.2]),(1,.blk 57 [.int .u8 0,.bool false,.int .i64 0,.int .i64 0,.int .i64 0,.int .i64 0,.int .i64 0,.int .i64 0,.nils,.str []])]⟩) (fun z=>eQ x1 z.1 z.2.1 z.2.2.1 z.2.2.2.1 z.2.2.2.2.1 z.2.2.2.2.2.1 z.2.2.2.2.2.2.1 z.2.2.2.2.2.2.2.1 z.2.2.2.2.2.2.2.2.1 z.2.2.2.2.2.2.2.2.2.1 z.2.2.2.2.2.2.2.2.2.2.1 z.2.2.2.2.2.2.2.2.2.2.2=some r) (fun z=>z.1) (fuel,a9,0,a0,a1,a2,a3,a4,a5,a6,a7,a8) (fun i=>i) ⟨(.sames M M),(.cons (.blk M M M) (.cons (.blk M M M) .nil)),dF [0,1] M (by decide),fun _ _=>M⟩ ?_ ?_
 ·exact h
 ·
  rintro ⟨n0,v11,v12,v13,v14,v15,v16,v17,v18,v19,v20,v21⟩ h
  cases n0 with
  | zero=>exact AP h (by unfold eQ; exact nofun)
  | succ n0 =>
   unfold eQ at h;refine bG ?_;obtain ⟨x31,hx31,h⟩:=dM h;refine aJ (cI M<|cMv (.str _) M<|aE M (vW M M (lb M) underlying9 (sv (d:=.str _) M) M)<|cCm M hx31<|aI ?_);refine bE h M (fun h=>?_) (fun h=>?_)
   ·
    refine bS<|aT<|bG<|bT ?_;obtain ⟨x33,hx33,h⟩:=eC h;refine aJ (cMv (.str _) M<|aE M (eZ (r:=.tuple q11) M M (lb M) cl146 (.cons (sv (d:=.str _) M) .nil) M (vA _ _ hx33))<|cMv (.tuple q11) M<|cEx (d:=.int _ _) (cs:=q11) M<|cEx (d:=.int _ _) (cs:=q11) M<|cEx (d:=.int _ _) (cs:=q11) M<|cAI M<|cAI M<|cAI M<|aI ?_);refine bG ?_;obtain ⟨x34,hx34,h⟩:=dM h;refine aJ (cI M<|cCm (b:=0) M hx34<|aI ?_);refine bE h M (fun h=>?_) (fun h=>?_)
    ·
     refine aJ (cLr q6 la57 M<|cSt q6 q6 ti57 M<|cAs (.bool false) M<|aI ?_);refine bJ<|cN<|eA<|cN<|cN<|eA<|cN ?_;obtain rfl:=sj_ h;refine ⟨.inr M,_,(.cons (rva la57 M M (nle M) M) (.cons (sv M) .nil)),(.cons (.agg (.k4 (.k4 (.cons (.nils _) (.all _))))) (.all _))⟩
    ·
     refine bS<|aT ?_;obtain ⟨x36,hx36,x37,hx37,h⟩:=eoo h;refine lY M [nd2 [2] [0] 32 (.agg [.int .u8 v13,.bool v14,.int .i64 v15,.int .i64 v16,.int .i64 v17,.int .i64 v18,.int .i64 v19,.int .i64 v20,.nils,.str v21]),nd1 [6] 33 (.str x1),nd1 [7] 34 (.int .i64 v12),nd1 [33,34] 35 (.int .u8 (x36.toNat:Int)),nd1 [8] 36 (.int .i64 x33.1),nd1 [32,35,36] 37 (.agg [.int .u8 x37.1,.bool x37.2.1,.int .i64 x37.2.2.1,.int .i64 x37.2.2.2.1,.int .i64 x37.2.2.2.2.1,.int .i64 x37.2.2.2.2.2.1,.int .i64 x37.2.2.2.2.2.2.1,.int .i64 x37.2.2.2.2.2.2.2.1,.nils,.str x37.2.2.2.2.2.2.2.2]),⟨[2,37],[0],[],[(0,.blk 57 [.int .u8 x37.1,.bool x37.2.1,.int .i64 x37.2.2.1,.int .i64 x37.2.2.2.1,.int .i64 x37.2.2.2.2.1,.int .i64 x37.2.2.2.2.2.1,.int .i64 x37.2.2.2.2.2.2.1,.int .i64 x37.2.2.2.2.2.2.2.1,.nils,.str x37.2.2.2.2.2.2.2.2])]⟩] M ?_ (by kernel_rfl) ?_
     ·refine .cons (dLa underlying57 ag57 ti57 M)<|.cons (lop M M fun S hA=>(eK M M (lb M) (sv (d:=.str _) (agr hA M M))))<|.cons (dMv M)<|.cons (lop M M fun S hA=>(sZ M M (lb M) underlying9 (sv (d:=.str _) (agr hA M M)) (svaI hA M M) hx36))<|.cons (dMv M)<|.cons (lop M M fun S hA=>(eZ (r:=.agg q6) M M (lb M) cl188 (.cons (svaA q6 hA M M) (.cons (svaI hA M M) (.cons (svaI hA M M) .nil))) M (zA _ _ _ _ _ _ _ _ _ _ _ _ hx37)))<|.cons (dSt q6 ti57 M) ?_
      exact .nil
     obtain ⟨x38,hx38,h⟩:=eC h;refine bN (cMv (.str _) M<|cI M<|aE M (vZ M M (lb M) underlying9 (sv (d:=.str _) M) ⟨_,(svI M)⟩ M hx38)<|cAs (.str _) M<|dJ ?_);refine cV<|aT ?_;obtain ⟨x39,hx39,h⟩:=dM h;refine bN (cI M<|aE M (cT M M (lb M) (svI M) (sv (d:=.int _ 1) M) M hx39)<|cAI M<|dJ ?_);refine aT ⟨(n0,x38,x39,x37.1,x37.2.1,x37.2.2.1,x37.2.2.2.1,x37.2.2.2.2.1,x37.2.2.2.2.2.1,x37.2.2.2.2.2.2.1,x37.2.2.2.2.2.2.2.1,x37.2.2.2.2.2.2.2.2),(fun i=>i),⟨(.sames M M),(.cons (.blk M M M) (.cons (.blk M M M) .nil)),dF [0,1] M (by decide),fun _ _=>M⟩,?_,?_⟩;exact h;exact BH _
   ·
    refine dW<|aY<|aY<|eB<|aT<|bG ?_;obtain ⟨x40,hx40,h⟩:=dM h;refine aJ (cFa 0 underlying57 M ti5 M<|cLd (d:=.int _ _) underlying5 ag5 ti5 M<|cCm (b:=0) M hx40<|aI ?_);refine bE h M (fun h=>?_) (fun h=>?_)
    ·
     refine aJ (cMv (.str _) M<|cFa 9 underlying57 M ti9 M<|aE M (cY (ds':=q6) M M ti9 (svR M) M (sv (d:=.str _) M) M M M (nle M) M)<|aI ?_);refine aJ (cLr q6 la57 M<|cSt q6 q6 ti57 M<|cAs (.bool true) M<|aI ?_);refine bJ<|cN ?_;obtain rfl:=sj_ h;refine ⟨.inr M,_,(.cons (rva la57 M M (nle M) M) (.cons (sv M) .nil)),(.cons (.agg (.k4 (.k4 (.cons (.nils _) (.all _))))) (.all _))⟩
    ·
     refine bS<|aT<|bG ?_;obtain ⟨x42,hx42,h⟩:=dM h;refine aJ (cFa 0 underlying57 M ti5 M<|cLd (d:=.int _ _) underlying5 ag5 ti5 M<|cCm (b:=4) M hx42<|aI ?_);refine bE h M (fun h=>?_) (fun h=>?_)
     ·
      obtain ⟨x44,hx44,h⟩:=eC h;refine aJ (cMv (.str _) M<|aE M (eZ (r:=.tuple q13) M M (lb M) cl189 (.cons (sv (d:=.str _) M) .nil) M (aAm _ _ hx44))<|cMv (.tuple q13) M<|cEx (d:=.slice _ _) (cs:=q13) M<|cEx (d:=.int _ _) (cs:=q13) M<|aE M (dK M M (lb M) (svL M))<|cAI M<|aI ?_);refine bG ?_;obtain ⟨x45,hx45,x46,hx46,x47,hx47,h⟩:=edod h;obtain ⟨x48,hx48,h⟩:=dM h;refine aJ (cI M<|cCm (b:=0) M hx45<|cB M<|gG M (fun hb=>(mvL M M M M))<|gG M (fun hb=>(qK (eInt .i64) (l:=x44.1) M M (lb M) underlying149 (svcL M hb)))<|gG M (fun hb=>(aDb M M (lb M) (svcI M hb) (sv (d:=.int _ 2) M) (gd_t hx46 hb)))<|gG M (fun hb=>(tCg (b:=0) M hb hx47))<|cOr M hx48<|aI ?_);refine bE h M (fun h=>?_) (fun h=>?_)
      ·
       refine aJ (cLr q6 la57 M<|cSt q6 q6 ti57 M<|cAs (.bool false) M<|aI ?_);refine bJ<|cN<|cN ?_;obtain rfl:=sj_ h;refine ⟨.inr M,_,(.cons (rva la57 M M (nle M) M) (.cons (sv M) .nil)),(.cons (.agg (.k4 (.k4 (.cons (.nils _) (.all _))))) (.all _))⟩
      ·
       refine bS<|aT<|bG<|aJ (cAs (.int _ 0) M<|aI ?_);refine bT<|lX (α:=Nat×Int×(List aW)) (fun z=>⟨[(2,.ref 0 0),(4,.ref 1 0),(11,.slice false (x44.1.map (eInt .i64).d)),(13,.int .i64 z.2.1)],[(0,.blk 57 [.int .u8 v13,.bool v14,.int .i64 v15,.int .i64 v16,.int .i64 v17,.int .i64 v18,.int .i64 v19,.int .i64 v20,.gsl 23 cP.sz (z.2.2.map cP.d),.str v21]),(1,.blk 57 [.int .u8 0,.bool false,.int .i64 0,.int .i64 0,.int .i64 0,.int .i64 0,.int .i64 0,.int .i64 0,.nils,.str []]),(23,.tail 175 cP.sz z.2.2.length)]⟩) (fun z=>eP v13 v14 v15 v16 v17 v18 v19 v20 v21 x44 z.1 z.2.1 z.2.2=some r) (fun z=>z.1) (fuel,0,([]:(List aW))) (fun i=>if i=23 then 75 else i) ⟨(.sames M M),(.cons (.sub M (.same (.same (.same (.same (.same (.same (.same (.same (.nilg (.same .nil)))))))))) M) (.cons (.blk M M M) (.cons (.nils M) .nil))),dF [0,1,75] M (by decide),(fun i hi=>by first | rfl | (show (if _ then _ else _)=_; (repeat' split) <;> omega))⟩ ?_ ?_
       ·exact h
       ·
        rintro ⟨n1,v58,v59⟩ h
        cases n1 with
        | zero=>exact AP h (by unfold eP; exact nofun)
        | succ n1 =>
         unfold eP at h;refine bG ?_;obtain ⟨x68,hx68,x69,hx69,h⟩:=edd h;refine aJ (cI M<|aE M (cT M M (lb M) (svI M) (sv (d:=.int _ 1) M) M hx68)<|aE M (mvL M M M M)<|aE M (qK (eInt .i64) (l:=x44.1) M M (lb M) underlying149 (svL M))<|cCm M hx69<|aI ?_);refine bE h M (fun h=>?_) (fun h=>?_)
         ·
          refine bS<|aT<|bG<|bT ?_;obtain ⟨x71,hx71,x72,hx72,x73,hx73,h⟩:=eodo h;obtain ⟨x74,hx74,h⟩:=eC h;refine aDX M [nd1 [2] 71 (.ref 0 8),nd2 [71] [0] 72 (.gsl 23 cP.sz (v59.map cP.d)),nd1 [11] 73 (.slice false (x44.1.map (eInt .i64).d)),nd1 [13] 74 (.int .i64 v58),nd1 [73,74] 75 (.fptr [.int .i64 x71]),nd1 [75] 76 (.int .i64 x71),nd1 [11] 77 (.slice false (x44.1.map (eInt .i64).d)),nd1 [13] 78 (.int .i64 v58),nd1 [78] 79 (.int .i64 x72),nd1 [77,79] 80 (.fptr [.int .i64 x73]),nd1 [80] 81 (.int .i64 x73),nd1 [76,81] 82 (.agg [.int .i64 x71,.int .i64 x73]),⟨[82],[24],[(83,.gsl 24 cP.sz ((([(⟨x71,x73⟩:aW)]:(List aW))).map cP.d))],[(24,.tail 175 cP.sz (([(⟨x71,x73⟩:aW)]:(List aW))).length)]⟩,⟨[72,83],[23,25],[(84,.gsl 25 cP.sz (x74.map cP.d))],[(25,.tail 175 cP.sz x74.length),(23,.none)]⟩,nd1 [2] 85 (.ref 0 8),⟨[84,85],[0],[],[(0,.blk 57 [.int .u8 v13,.bool v14,.int .i64 v15,.int .i64 v16,.int .i64 v17,.int .i64 v18,.int .i64 v19,.int .i64 v20,.gsl 25 cP.sz (x74.map cP.d),.str v21])]⟩] M ?_ (by kernel_rfl) ?_
          ·refine .cons (dFa 8 underlying57 M ti55 M)<|.cons (dLd underlying55 ag55 ti55 M)<|.cons (dMv M)<|.cons (dMv M)<|.cons (lop M M fun S hA=>(aAK (eInt .i64) (cs:=[.int _ _]) M M (lb M) underlying149 ti3 (svaL hA M M) (svaI hA M M) hx71 M M))<|.cons (lop M M fun S hA=>(aBs M M (lb M) underlying3 ag3 ti3 (by decide) (sv (d:=.fptr [.int _ _]) (agr hA M M)) (nle M)))<|.cons (dMv M)<|.cons (dMv M)<|.cons (lop M M fun S hA=>(cT M M (lb M) (svaI hA M M) (sv (d:=.int _ 1) M) M hx72))<|.cons (lop M M fun S hA=>(aAK (eInt .i64) (cs:=[.int _ _]) M M (lb M) underlying149 ti3 (svaL hA M M) (svaI hA M M) hx73 M M))<|.cons (lop M M fun S hA=>(aBs M M (lb M) underlying3 ag3 ti3 (by decide) (sv (d:=.fptr [.int _ _]) (agr hA M M)) (nle M)))<|.cons (lop M M fun S hA=>(gO (cs:=q14) M M (lb M) underlying175 aFL pl175 M (.cons (svaI hA M M) (.cons (svaI hA M M) .nil)) M))<|.cons (lop M M fun S hA=>(zD cP ([(⟨x71,x73⟩:aW)]:(List aW)) 24 M M (lb M) underlying55 aFL (agi hA M M) (.cons (svaA q14 hA M M) .nil) M M (by decide)))<|.cons (lop M M fun S hA=>(wA cP 25 M M (lb M) underlying55 aFL M (agr hA M M) (agi hA M M) (agi hA M M) (svg (agr hA M M)) hx74))<|.cons (dFa 8 underlying57 M ti55 M)<|.cons (lop M M fun S hA=>(cY (ds':=q5) M M ti55 (svaR hA M M) (agi hA M M) (sv (d:=.gsl _ _ _) (agr hA M M)) M M M (nle M) M)) ?_
           exact .nil
          refine cV<|aT ?_;obtain ⟨x75,hx75,h⟩:=dM h;refine bN (cI M<|aE M (cT M M (lb M) (svI M) (sv (d:=.int _ 2) M) M hx75)<|cAI M<|dJ ?_);refine aT ⟨(n1,x75,x74),(fun i=>if i=23 then 25 else i),⟨(.sames M M),(.cons (.blk M M M) (.cons (.blk M M M) (.cons (.tail M) .nil))),dF [0,1,25] M (by decide),(fun i hi=>by first | rfl | (show (if _ then _ else _)=_; (repeat' split) <;> omega))⟩,?_,?_⟩;exact h;exact BH _
         ·
          refine dW<|aY<|aY<|eB<|aT<|aJ (cLr q5 la57 M<|cSt q5 q5 ti57 M<|cAs (.bool true) M<|aI ?_);refine bJ<|cN ?_;obtain rfl:=sj_ h;refine ⟨.inr M,_,(.cons (rva la57 M M (nle M) M) (.cons (sv M) .nil)),(.cons (.agg (.k4 (.k4 (.cons (.gsl _ _ _) (.all _))))) (.all _))⟩
     ·
      refine bS<|aT ?_;obtain ⟨x76,hx76,h⟩:=dM h;refine aJ (cLr q6 la57 M<|cMv (.str _) M<|aE M (xW M M (lb M) (sv (d:=.str _) M) (sv (d:=.str []) M) M hx76)<|cSt q6 q6 ti57 M<|cAB M<|aI ?_);refine bJ ?_;obtain rfl:=sj_ h;refine ⟨.inr M,_,(.cons (rva la57 M M (nle M) M) (.cons (sv M) .nil)),(.cons (.agg (.k4 (.k4 (.cons (.nils _) (.all _))))) (.all _))⟩

def s150:CS tEl:=⟨[kI,kI,kI],[kB],fun z=>fX z.1 z.2.1 z.2.2.1⟩
def X150:=cX0 []
theorem o150:CsOk Ik tCod 206 s150:=aV (X150 Ik) trivial trivial func206 rfl
def s151:CS tEl:=⟨[.agg 2],[kB],fun z=>nA z.1⟩
def X151:=cX0 [(206,s150)]
theorem h151:FsOk (X151 Ik):=Bk (C:=(X151 Ik)) ⟨o150,trivial⟩ trivial
def W151 (P:An) (f:Func):Fw (X151 P):=⟨f,s151.acx,s151.rs⟩
abbrev aKS:Ct (X151 Ik) (Bb tEl s151.rs):=⟨[1,1,1],[.vf 1 .one [.rf 0 0],.sl 3 kI,.sl 4 kI,.sl 5 kI,.bc 0 57 2],fun z=>(z.1,z.2.1,(1099511627776:Int),(255:Int),z.2.2.2.2.1,()),1,fun z=>kR z.2.2.2.2.1 z.2.1⟩
abbrev aG8:Ct (X151 Ik) (Bb tEl s151.rs):=⟨[1,1,1,1],[.vf 1 .one [.rf 0 0],.sl 3 kI,.sl 4 kI,.sl 5 kI,.bc 0 57 2],fun z=>z,1,fun z=>kQ z.2.2.2.2.1 z.2.1 z.2.2.1 z.2.2.2.1⟩
abbrev aFD:Ct (X151 Ik) (Bb tEl s151.rs):=⟨[1,1,1,1,1,1],[.vf 1 .one [.rf 0 0],.sl 3 kI,.sl 4 kI,.sl 5 kI,.sl 6 kB,.bc 0 57 2],fun z=>z,1,fun z=>kP z.2.2.2.2.2.1 z.2.1 z.2.2.1 z.2.2.2.1 z.2.2.2.2.1⟩
abbrev aCA (m3:Nat):Ct (X151 Ik) (Bb tEl s151.rs):=⟨[0,1,0,1,1,1,1,1,1],[.vf 1 .one [.rf 0 0],.sl 3 kI,.sl 4 kI,.sl 5 kI,.sl 6 kB,.sl 7 kI,.bc 0 57 2],fun z=>z,1,fun z=>iG z.2.2.2.2.2.2.1 z.2.1 z.2.2.1 z.2.2.2.1 z.2.2.2.2.1 m3 z.2.2.2.2.2.1⟩
theorem aGB {O:aR} {r:Bb tEl s151.rs}:∀ m3,SndW (W151 Ik f171) O r (aCA m3):=bH (W:=(W151 Ik f171)) h151 (fun m3=>aCA m3) (fun m3=>[aCA m3]) (fun m3 e3=>⟨e3,trivial⟩)
theorem aIN {O:aR} {r:Bb tEl s151.rs}:SndW (W151 Ik f171) O r (aFD):=fF (W:=(W151 Ik f171)) h151 (aFD) [aCA fuel] ⟨(aGB fuel),trivial⟩
theorem aMb {O:aR} {r:Bb tEl s151.rs}:SndW (W151 Ik f171) O r (aG8):=fF (W:=(W151 Ik f171)) h151 (aG8) [aFD,aCA fuel] ⟨(aIN),(aGB fuel),trivial⟩
theorem t151_0 {O:aR} {r:Bb tEl s151.rs}:SndW (W151 Ik f171) O r (aKS):=fF (W:=(W151 Ik f171)) h151 (aKS) [aG8,aFD,aCA fuel] ⟨(aMb),(aIN),(aGB fuel),trivial⟩
theorem o151:CsOk Ik tCod 171 s151:=bR (W:=(W151 Ik f171)) h151 func171 rfl [aKS,aG8,aFD,aCA fuel] (fun O r _=>⟨(t151_0),(aMb),(aIN),(aGB fuel),trivial⟩)
def s152:CS tEl:=⟨[kS,.one (.int .u8)],[kB],fun z=>pZ z.1 z.2.1⟩
def X152:=cX0 []
theorem h152:FsOk (X152 Ik):=Bk (C:=(X152 Ik)) trivial trivial
def W152 (P:An) (f:Func):Fw (X152 P):=⟨f,s152.acx,s152.rs⟩
abbrev aG7 (m0:Nat):Ct (X152 Ik) (Bb tEl s152.rs):=⟨[0,1,0,1],[.sl 0 kS,.sl 1 (.one (.int .u8)),.sl 5 kI],fun z=>z,0,fun z=>kT z.1 z.2.1 m0 z.2.2.1⟩
theorem t152_0 {O:aR} {r:Bb tEl s152.rs}:∀ m0,SndW (W152 Ik f207) O r (aG7 m0):=bH (W:=(W152 Ik f207)) h152 (fun m0=>aG7 m0) (fun m0=>[aG7 m0]) (fun m0 e0=>⟨e0,trivial⟩)
theorem o152:CsOk Ik tCod 207 s152:=bR (W:=(W152 Ik f207)) h152 func207 rfl [aG7 fuel] (fun O r _=>⟨(t152_0 fuel),trivial⟩)
def s153:CS tEl:=⟨[.agg 2,.one (.int .u8)],[kI],fun z=>nY z.1 z.2.1⟩
def X153:=cX0 []
theorem o153:CsOk Ik tCod 173 s153:=aV (X153 Ik) trivial trivial func173 rfl
def s154:CS tEl:=⟨[.one (.int .u8)],[kB],fun z=>mJ z.1⟩
def X154:=cX0 []
theorem o154:CsOk Ik tCod 208 s154:=aV (X154 Ik) trivial trivial func208 rfl
def s155:CS tEl:=⟨[.agg 2],[kB],fun z=>nZ z.1⟩
def X155:=cX0 [(145,s143),(207,s152),(173,s153),(208,s154)]
theorem h155:FsOk (X155 Ik):=Bk (C:=(X155 Ik)) ⟨o143,o152,o153,o154,trivial⟩ trivial
def W155 (P:An) (f:Func):Fw (X155 P):=⟨f,s155.acx,s155.rs⟩
abbrev aG6 (m0:Nat):Ct (X155 Ik) (Bb tEl s155.rs):=⟨[0,1,0,1,1],[.vf 1 .one [.rf 0 0],.sl 3 kS,.sl 4 kI,.bc 0 57 2],fun z=>(z.1,([115,111,100,119,110,99]:List Ai),z.2.2.1,z.2.2.2.1,()),1,fun z=>eE z.2.2.2.1 m0 z.2.2.1⟩
theorem t155_0 {O:aR} {r:Bb tEl s155.rs}:∀ m0,SndW (W155 Ik f172) O r (aG6 m0):=bH (W:=(W155 Ik f172)) h155 (fun m0=>aG6 m0) (fun m0=>[aG6 m0]) (fun m0 e0=>⟨e0,trivial⟩)
theorem o155:CsOk Ik tCod 172 s155:=bR (W:=(W155 Ik f172)) h155 func172 rfl [aG6 fuel] (fun O r _=>⟨(t155_0 fuel),trivial⟩)
def s156:CS tEl:=⟨[.agg 2],[kI],fun z=>gW z.1⟩
def X156:=cX0 [(145,s143),(171,s151),(172,s155)]
theorem o156:CsOk Ik tCod 111 s156:=aV (X156 Ik) ⟨o143,o151,o155,trivial⟩ trivial func111 rfl
theorem tT (a0:aA) (r:Int) (h:gW a0=some r):eL Ik 111 [.agg [.int .u8 a0.aq,.bool a0.bp,.int .i64 a0.bg,.int .i64 a0.bj,.int .i64 a0.cb,.int .i64 a0.bo,.int .i64 a0.N,.int .i64 a0.Code,.slice false (a0.au.map cP.d),.str a0.aj]] (.int .i64 r):=Dl o156 (a0,()) r h (by kernel_rfl) (by kernel_rfl)
theorem aAk (a0:(List Ai)) (r:(aA×Int×Int)) (h:jN a0=some r):eL Ik 87 [.str a0] (retD [.agg (tv0 r.1),.int .i64 r.2.1,.int .i64 r.2.2]):=by
 refine pP (rs:=[.agg (tv0 r.1),.int .i64 r.2.1,.int .i64 r.2.2]) func87 M ntmps87 (nle M) M fun O hO=>?_
 show IWP _ _ _ _ ⟨[(0,.str a0)],[]⟩ _
 unfold jN at h;refine aJ (aE M (fA (cs:=q6) (cs':=[.int .u8 0,.bool false,.int .i64 0,.int .i64 0,.int .i64 0,.int .i64 0,.int .i64 0,.int .i64 0,.nils,.str []]) 0 M M (lb M) M ti57 M M (.all _))<|cAs (.int _ 0) M<|cAs (.int _ 0) M<|aI ?_);refine aJ (aE M (gO (cs:=q6) M M (lb M) underlying57 ti57 pl57 M .nil M)<|aE M (fA (cs:=q6) (cs':=[.int .u8 0,.bool false,.int .i64 0,.int .i64 0,.int .i64 0,.int .i64 0,.int .i64 0,.int .i64 0,.nils,.str []]) 1 M M (lb M) M ti57 M M (.all _))<|cSt q6 q6 ti57 M<|aI ?_);refine bG<|bT ?_;obtain ⟨x1,hx1,h⟩:=dM h;refine aJ (cMv (.str _) M<|aE M (xW M M (lb M) (sv (d:=.str _) M) (sv (d:=.str []) M) M hx1)<|cAB M<|aI ?_);refine bE h M (fun h=>?_) (fun h=>?_)
 ·
  refine aJ (cLr q6 la57 M<|cSt q6 q6 ti57 M<|cAs (.int _ 0) M<|cAs (.int _ 3) M<|aI ?_);refine bJ<|eA<|cN ?_;obtain rfl:=sj_ h;refine ⟨.inr M,_,(.cons (rva la57 M M (nle M) M) (.cons (sv M) (.cons (sv M) .nil))),(.cons (.agg (.k4 (.k4 (.cons (.nils _) (.all _))))) (.all _))⟩
 ·
  obtain ⟨x3,hx3,x4,hx4,x5,hx5,h⟩:=eood h;refine aJ (cMv (.str _) M<|aE M (sZ M M (lb M) underlying9 (sv (d:=.str _) M) (sv (d:=.int _ 0) M) hx3)<|aE M (eZ (r:=.str _) M M (lb M) cl145 (.cons (svI M) .nil) M (sL _ _ hx4))<|aE M (xW M M (lb M) (sv (d:=.str _) M) (sv (d:=.str [45]) M) M hx5)<|cAB M<|aI ?_);refine bE h M (fun h=>?_) (fun h=>?_)
  ·
   refine aJ (cLr q6 la57 M<|cSt q6 q6 ti57 M<|cAs (.int _ 0) M<|cAs (.int _ 12) M<|aI ?_);refine bJ<|eA<|cN ?_;obtain rfl:=sj_ h;refine ⟨.inr M,_,(.cons (rva la57 M M (nle M) M) (.cons (sv M) (.cons (sv M) .nil))),(.cons (.agg (.k4 (.k4 (.cons (.nils _) (.all _))))) (.all _))⟩
  ·
   obtain ⟨x7,hx7,h⟩:=dM h;refine aJ (cMv (.str _) M<|aE M (vW M M (lb M) underlying9 (sv (d:=.str _) M) M)<|cCm (b:=2) M hx7<|cAB M<|aI ?_);refine bE h M (fun h=>?_) (fun h=>?_)
   ·
    refine aJ (cLr q6 la57 M<|cSt q6 q6 ti57 M<|cAs (.int _ 0) M<|cAs (.int _ 3) M<|aI ?_);refine bJ<|eA<|cN ?_;obtain rfl:=sj_ h;refine ⟨.inr M,_,(.cons (rva la57 M M (nle M) M) (.cons (sv M) (.cons (sv M) .nil))),(.cons (.agg (.k4 (.k4 (.cons (.nils _) (.all _))))) (.all _))⟩
   ·
    obtain ⟨x9,hx9,x10,hx10,h⟩:=eod h;refine aJ (cMv (.str _) M<|aE M (sZ M M (lb M) underlying9 (sv (d:=.str _) M) (sv (d:=.int _ 1) M) hx9)<|cCm (b:=1) M hx10<|cAB M<|aI ?_);refine bE h M (fun h=>?_) (fun h=>?_)
    ·
     refine aJ (cLr q6 la57 M<|cSt q6 q6 ti57 M<|cAs (.int _ 0) M<|cAs (.int _ 4) M<|aI ?_);refine bJ<|eA<|cN ?_;obtain rfl:=sj_ h;refine ⟨.inr M,_,(.cons (rva la57 M M (nle M) M) (.cons (sv M) (.cons (sv M) .nil))),(.cons (.agg (.k4 (.k4 (.cons (.nils _) (.all _))))) (.all _))⟩
    ·
     refine bS<|cV<|aT ?_;obtain ⟨x12,hx12,x13,hx13,h⟩:=eoo h;refine aJ (cMv (.str _) M<|aE M (vZ M M (lb M) underlying9 (sv (d:=.str _) M) ⟨_,(sv (d:=.int _ 2) M)⟩ M hx12)<|aE M (eZ (r:=.tuple q11) M M (lb M) cl146 (.cons (sv (d:=.str _) M) .nil) M (vA _ _ hx13))<|cMv (.tuple q11) M<|cEx (d:=.int _ _) (cs:=q11) M<|cEx (d:=.int _ _) (cs:=q11) M<|cEx (d:=.int _ _) (cs:=q11) M<|cAI M<|cAI M<|cAI M<|aI ?_);refine bG<|bT ?_;obtain ⟨x14,hx14,h⟩:=dM h;refine aJ (cI M<|cCm (b:=0) M hx14<|cAB M<|aI ?_);refine bE h M (fun h=>?_) (fun h=>?_)
     ·
      refine aJ (cLr q6 la57 M<|cI M<|cSt q6 q6 ti57 M<|cAs (.int _ 0) M<|cAI M<|aI ?_);refine bJ<|eA<|cN ?_;obtain rfl:=sj_ h;refine ⟨.inr M,_,(.cons (rva la57 M M (nle M) M) (.cons (sv M) (.cons (sv M) .nil))),(.cons (.agg (.k4 (.k4 (.cons (.nils _) (.all _))))) (.all _))⟩
     ·
      obtain ⟨x16,hx16,h⟩:=dM h;refine aJ (cI M<|cCm (b:=64) M hx16<|cAB M<|aI ?_);refine bE h M (fun h=>?_) (fun h=>?_)
      ·
       refine aJ (cLr q6 la57 M<|cSt q6 q6 ti57 M<|cAs (.int _ 0) M<|cAs (.int _ 5) M<|aI ?_);refine bJ<|eA<|cN ?_;obtain rfl:=sj_ h;refine ⟨.inr M,_,(.cons (rva la57 M M (nle M) M) (.cons (sv M) (.cons (sv M) .nil))),(.cons (.agg (.k4 (.k4 (.cons (.nils _) (.all _))))) (.all _))⟩
      ·
       obtain ⟨x18,hx18,x19,hx19,x20,hx20,h⟩:=eddd h;refine aJ (cMv (.str _) M<|aE M (vW M M (lb M) underlying9 (sv (d:=.str _) M) M)<|aE M (cT M M (lb M) (svI M) (sv (d:=.int _ 2) M) M hx18)<|cI M<|aE M (cT M M (lb M) (svI M) (svI M) M hx19)<|cI M<|cCm M hx20<|cAB M<|aI ?_);refine bE h M (fun h=>?_) (fun h=>?_)
       ·
        refine aJ (cLr q6 la57 M<|cSt q6 q6 ti57 M<|cAs (.int _ 0) M<|cAs (.int _ 3) M<|aI ?_);refine bJ<|eA<|cN ?_;obtain rfl:=sj_ h;refine ⟨.inr M,_,(.cons (rva la57 M M (nle M) M) (.cons (sv M) (.cons (sv M) .nil))),(.cons (.agg (.k4 (.k4 (.cons (.nils _) (.all _))))) (.all _))⟩
       ·
        refine bS<|cV<|aT ?_;obtain ⟨x22,hx22,x23,hx23,x24,hx24,h⟩:=eood h;obtain ⟨x25,hx25,x26,hx26,x27,hx27,h⟩:=eddd h;obtain ⟨x28,hx28,x29,hx29,h⟩:=eoo h;refine lY M [nd1 [0] 58 (.str a0),nd1 [58] 59 (.int .u8 (x22.toNat:Int)),nd1 [0] 60 (.str a0),nd1 [60] 61 (.int .u8 (x23.toNat:Int)),nd1 [61] 62 (.bool x24),nd1 [59,62] 63 (.agg [.int .u8 (x22.toNat:Int),.bool x24,.int .i64 0,.int .i64 0,.int .i64 0,.int .i64 0,.int .i64 0,.int .i64 0,.nils,.str []]),nd1 [0] 64 (.str a0),nd1 [7] 65 (.int .i64 x13.2.1),nd1 [65] 66 (.int .i64 x25),nd1 [7] 67 (.int .i64 x13.2.1),nd1 [67] 68 (.int .i64 x26),nd1 [6] 69 (.int .i64 x13.1),nd1 [68,69] 70 (.int .i64 x27),nd1 [64,66,70] 71 (.str x28),nd1 [63,71] 72 (.tuple [.agg (tv0 x29.1),.bool x29.2]),nd1 [72] 57 (.tuple [.agg (tv0 x29.1),.bool x29.2]),nd1 [57] 73 (.agg (tv0 x29.1)),nd1 [57] 74 (.bool x29.2),⟨[],[2],[(9,.ref 2 0)],[(2,.blk 57 [.int .u8 0,.bool false,.int .i64 0,.int .i64 0,.int .i64 0,.int .i64 0,.int .i64 0,.int .i64 0,.nils,.str []])]⟩,⟨[9,73],[2],[],[(2,.blk 57 (tv0 x29.1))]⟩,nd1 [74] 10 (.bool x29.2)] M ?_ (by kernel_rfl) ?_
        ·refine .cons (lop M M fun S hA=>(eK M M (lb M) (sv (d:=.str _) (agr hA M M))))<|.cons (lop M M fun S hA=>(sZ M M (lb M) underlying9 (sv (d:=.str _) (agr hA M M)) (sv (d:=.int _ 0) M) hx22))<|.cons (lop M M fun S hA=>(eK M M (lb M) (sv (d:=.str _) (agr hA M M))))<|.cons (lop M M fun S hA=>(sZ M M (lb M) underlying9 (sv (d:=.str _) (agr hA M M)) (sv (d:=.int _ 1) M) hx23))<|.cons (lop M M fun S hA=>(aBO M M (lb M) (svaI hA M M) (sv (d:=.int _ 1) M) M hx24))<|.cons (lop M M fun S hA=>(gO (cs:=q6) M M (lb M) underlying57 ti57 pl57 M (.cons (svaI hA M M) (.cons (svaB hA M M) .nil)) M))<|.cons (lop M M fun S hA=>(eK M M (lb M) (sv (d:=.str _) (agr hA M M))))<|.cons (dMv M)<|.cons (lop M M fun S hA=>(cT M M (lb M) (sv (d:=.int _ 2) M) (svaI hA M M) M hx25))<|.cons (dMv M)<|.cons (lop M M fun S hA=>(cT M M (lb M) (sv (d:=.int _ 2) M) (svaI hA M M) M hx26))<|.cons (dMv M)<|.cons (lop M M fun S hA=>(cT M M (lb M) (svaI hA M M) (svaI hA M M) M hx27))<|.cons (lop M M fun S hA=>(vZ M M (lb M) underlying9 (sv (d:=.str _) (agr hA M M)) ⟨_,(svaI hA M M)⟩ ⟨_,(svaI hA M M)⟩ hx28))<|.cons (lop M M fun S hA=>(eZ (r:=.tuple [.agg q4,.bool _]) M M (lb M) cl147 (.cons (svaA q6 hA M M) (.cons (sv (d:=.str _) (agr hA M M)) .nil)) M (yC _ _ _ _ _ _ _ _ _ _ _ hx29)))<|.cons (lop M M fun S hA=>(eK M M (lb M) (sv (d:=.tuple [.agg q4,.bool _]) (agr hA M M))))<|.cons (lop M M fun S hA=>(rA (d:=.agg q4) M M (lb M) (sv (d:=.tuple [.agg q4,.bool _]) (agr hA M M)) M))<|.cons (lop M M fun S hA=>(rA (d:=.bool _) M M (lb M) (sv (d:=.tuple [.agg q4,.bool _]) (agr hA M M)) M))<|.cons (lop M M fun S hA=>(fA (cs:=q6) (cs':=[.int .u8 0,.bool false,.int .i64 0,.int .i64 0,.int .i64 0,.int .i64 0,.int .i64 0,.int .i64 0,.nils,.str []]) 2 M M (lb M) (agi hA M M) ti57 M M (.all _)))<|.cons (dSt q4 ti57 M)<|.cons (lop M M fun S hA=>(dK M M (lb M) (svaB hA M M))) ?_
         exact .nil
        refine bG<|aJ (cB M<|aE M (qJ M M (lb M) (svB M))<|aI ?_);refine bE h M (fun h=>?_) (fun h=>?_)
        ·
         refine aJ (cLr q6 la57 M<|cSt q6 q6 ti57 M<|cAs (.int _ 0) M<|cAs (.int _ 4) M<|aI ?_);refine bJ<|cN ?_;obtain rfl:=sj_ h;refine ⟨.inr M,_,(.cons (rva la57 M M (nle M) M) (.cons (sv M) (.cons (sv M) .nil))),(.cons (.agg (.k4 (.k4 (.cons (.nils _) (.all _))))) (.all _))⟩
        ·
         refine bS<|aT<|bG ?_;obtain ⟨x31,hx31,x32,hx32,h⟩:=eod h;refine aJ (cLr q4 la57 M<|aE M (eZ (r:=.int _ _) M M (lb M) cl111 (.cons (svA q4 M) .nil) M (tT _ _ hx31))<|cCm (b:=0) M hx32<|aI ?_);refine bE h M (fun h=>?_) (fun h=>?_)
         ·
          obtain ⟨x34,hx34,h⟩:=eC h;refine lY M [nd2 [5] [1] 81 (.agg [.int .u8 0,.bool false,.int .i64 0,.int .i64 0,.int .i64 0,.int .i64 0,.int .i64 0,.int .i64 0,.nils,.str []]),nd2 [9] [2] 82 (.agg (tv0 x29.1)),nd1 [82] 83 (.int .i64 x34),⟨[2,81],[0],[],[(0,.blk 57 [.int .u8 0,.bool false,.int .i64 0,.int .i64 0,.int .i64 0,.int .i64 0,.int .i64 0,.int .i64 0,.nils,.str []])]⟩,nd1 [] 3 (.int .i64 0),nd1 [83] 4 (.int .i64 x34)] M ?_ (by kernel_rfl) ?_
          ·refine .cons (dLa underlying57 ag57 ti57 M)<|.cons (dLa underlying57 ag57 ti57 M)<|.cons (lop M M fun S hA=>(eZ (r:=.int _ _) M M (lb M) cl111 (.cons (svaA q4 hA M M) .nil) M (tT _ _ hx34)))<|.cons (dSt q6 ti57 M)<|.cons (lop M M fun S hA=>(tAs (.int _ 0) M))<|.cons (lop M M fun S hA=>(dK M M (lb M) (svaI hA M M))) ?_
           exact .nil
          refine bJ<|cN ?_;obtain rfl:=sj_ h;refine ⟨.inr M,_,(.cons (rva la57 M M (nle M) M) (.cons (sv M) (.cons (sv M) .nil))),(.cons (.agg (.k4 (.k4 (.cons (.nils _) (.all _))))) (.all _))⟩
         ·
          refine bS<|aT ?_;obtain ⟨x35,hx35,x36,hx36,h⟩:=edd h;refine aJ (cLr q4 la57 M<|cI M<|aE M (cT M M (lb M) (sv (d:=.int _ 2) M) (svI M) M hx35)<|cI M<|aE M (cT M M (lb M) (svI M) (svI M) M hx36)<|cSt q4 q4 ti57 M<|cAI M<|cAs (.int _ 0) M<|aI ?_);refine bJ ?_;obtain rfl:=sj_ h;refine ⟨.inr M,_,(.cons (rva la57 M M (nle M) M) (.cons (sv M) (.cons (sv M) .nil))),(.all _)⟩
def s157:CS tEl:=⟨[.one .str],[.agg 2,.one (.int .i64),.one (.int .i64)],fun z=>jN z.1⟩
theorem o157:CsOk Ik tCod 87 s157:=FI cl87 (fun z r h=>⟨_,_,aAk z.1 r h,by kernel_rfl,by kernel_rfl⟩)
def s158:CS tEl:=⟨[kS],[kB],fun z=>tJ z.1⟩
def X158:=cX0 [(87,s157)]
theorem o158:CsOk Ik tCod 129 s158:=aV (X158 Ik) ⟨o157,trivial⟩ trivial func129 rfl
def s159:CS tEl:=⟨[.agg 13],[kI],fun z=>lR z.1⟩
def X159:=cX0 [(129,s158)]
theorem o159:CsOk Ik tCod 71 s159:=aV (X159 Ik) ⟨o158,trivial⟩ trivial func71 rfl
def s160:CS tEl:=⟨[.agg 10],[kI],fun z=>dR z.1⟩
def X160:=cX0 [(69,s138),(70,s142),(71,s159)]
theorem h160:FsOk (X160 Ik):=Bk (C:=(X160 Ik)) ⟨o138,o142,o159,trivial⟩ trivial
def W160 (P:An) (f:Func):Fw (X160 P):=⟨f,s160.acx,s160.rs⟩
abbrev aG5 (m0:Nat):Ct (X160 Ik) (Bb tEl s160.rs):=⟨[0,1,0,1,1],[.vf 1 .one [.rf 0 0],.gs 3 1 3 12,.sl 7 kI,.sl 10 kI,.sl 13 kI,.sl 4 kI,.bc 0 53 10],fun z=>(z.1,(([z.2.2.1,z.2.2.2.1,z.2.2.2.2.1]:(List Int)):List _),z.2.2.1,z.2.2.2.1,z.2.2.2.2.1,z.2.2.2.2.2.1,z.2.2.2.2.2.2.1,()),2,fun z=>fB z.2.2.2.2.2.2.1 z.2.2.1 z.2.2.2.1 z.2.2.2.2.1 m0 z.2.2.2.2.2.1⟩
theorem t160_0 {O:aR} {r:Bb tEl s160.rs}:∀ m0,SndW (W160 Ik f23) O r (aG5 m0):=bH (W:=(W160 Ik f23)) h160 (fun m0=>aG5 m0) (fun m0=>[aG5 m0]) (fun m0 e0=>⟨e0,trivial⟩)
theorem o160:CsOk Ik tCod 23 s160:=bR (W:=(W160 Ik f23)) h160 func23 rfl [aG5 fuel] (fun O r _=>⟨(t160_0 fuel),trivial⟩)
def s161:CS tEl:=⟨[.agg 8,kI],[kB],fun z=>rZ z.1 z.2.1⟩
def X161:=cX0 []
theorem h161:FsOk (X161 Ik):=Bk (C:=(X161 Ik)) trivial trivial
def W161 (P:An) (f:Func):Fw (X161 P):=⟨f,s161.acx,s161.rs⟩
abbrev aG4 (m0:Nat):Ct (X161 Ik) (Bb tEl s161.rs):=⟨[0,1,0,1],[.vf 2 .one [.rf 0 0],.sl 1 kI,.sl 5 kI,.bc 0 47 8],fun z=>z,1,fun z=>gX z.2.2.2.1 z.2.1 m0 z.2.2.1⟩
theorem t161_0 {O:aR} {r:Bb tEl s161.rs}:∀ m0,SndW (W161 Ik f185) O r (aG4 m0):=bH (W:=(W161 Ik f185)) h161 (fun m0=>aG4 m0) (fun m0=>[aG4 m0]) (fun m0 e0=>⟨e0,trivial⟩)
theorem o161:CsOk Ik tCod 185 s161:=bR (W:=(W161 Ik f185)) h161 func185 rfl [aG4 fuel] (fun O r _=>⟨(t161_0 fuel),trivial⟩)
def s162:CS tEl:=⟨[.one (.sl 7),kI,kS],[.one (.sl 7)],fun z=>qB z.1 z.2.1 z.2.2.1⟩
def X162:=cX1 (fun t=>Aj t 220||Aj t 221||Aj t 226) [] []
theorem h162:FsOk (X162 Ik):=Bk (C:=(X162 Ik)) trivial trivial
def W162 (P:An) (f:Func):Fw (X162 P):=⟨f,s162.acx,s162.rs⟩
abbrev aG3 (m0:Nat):Ct (X162 Ik) (Bb tEl s162.rs):=⟨[0,0,1,1],[.sl 0 (.one (.sl 7)),.sl 1 kI,.sl 2 kS,.sl 7 kI],fun z=>z,0,fun z=>fQ z.1 z.2.1 z.2.2.1 m0 z.2.2.2.1⟩
abbrev aFC (m1:Nat):Ct (X162 Ik) (Bb tEl s162.rs):=⟨[0,1,0,1,1,1,1,1,1],[.vf 8 .one [.os 3 226 7],.vf 9 .one [.os 4 226 7],.sl 10 kI],fun z=>z,5,fun z=>cH z.1.1 m1 z.2.1.1 z.2.2.1⟩
theorem aMa {O:aR} {r:Bb tEl s162.rs}:∀ m1,SndW (W162 Ik f186) O r (aFC m1):=bH (W:=(W162 Ik f186)) h162 (fun m1=>aFC m1) (fun m1=>[aFC m1]) (fun m1 e1=>⟨e1,trivial⟩)
theorem t162_0 {O:aR} {r:Bb tEl s162.rs}:∀ m0,SndW (W162 Ik f186) O r (aG3 m0):=bH (W:=(W162 Ik f186)) h162 (fun m0=>aG3 m0) (fun m0=>[aG3 m0,aFC fuel]) (fun m0 e0=>⟨e0,(aMa fuel),trivial⟩)
theorem o162:CsOk Ik tCod 186 s162:=bR (W:=(W162 Ik f186)) h162 func186 rfl [aG3 fuel,aFC fuel] (fun O r _=>⟨(t162_0 fuel),(aMa fuel),trivial⟩)
def s163:CS tEl:=⟨[.agg 8,kI,kS],[.agg 8,kB],fun z=>jO z.1 z.2.1 z.2.2.1⟩
def X163:=cX0 [(182,s139),(185,s161),(186,s162)]
theorem o163:CsOk Ik tCod 143 s163:=aV (X163 Ik) ⟨o139,o161,o162,trivial⟩ trivial func143 rfl
def s164:CS tEl:=⟨[.agg 8,kI,kS],[.agg 8,kI],fun z=>qC z.1 z.2.1 z.2.2.1⟩
def X164:=cX0 [(128,s140),(143,s163)]
theorem h164:FsOk (X164 Ik):=Bk (C:=(X164 Ik)) ⟨o140,o163,trivial⟩ trivial
def W164 (P:An) (f:Func):Fw (X164 P):=⟨f,s164.acx,s164.rs⟩
abbrev aG2 (m0:Nat):Ct (X164 Ik) (Bb tEl s164.rs):=⟨[0,1,0,1,1,1],[.vf 3 .one [.rf 0 0],.vf 6 .one [.rf 1 0],.sl 1 kI,.sl 2 kS,.sl 8 kI,.sl 9 kI,.bk 0 47 [.pl kI,.pl kS,.pl (.one (.sl 7))],.bk 1 47 [.pl kI,.pl kS,.pl (.one (.sl 7))]],fun z=>(z.1,z.2.1,z.2.2.1,z.2.2.2.1,z.2.2.2.2.1,z.2.2.2.2.2.1,z.2.2.2.2.2.2.1,((0:Int),([]:List Ai),([]:List _),()),()),2,fun z=>eJ z.2.2.1 z.2.2.2.1 m0 z.2.2.2.2.1 z.2.2.2.2.2.1 z.2.2.2.2.2.2.1.1 z.2.2.2.2.2.2.1.2.1 z.2.2.2.2.2.2.1.2.2.1⟩
theorem t164_0 {O:aR} {r:Bb tEl s164.rs}:∀ m0,SndW (W164 Ik f84) O r (aG2 m0):=bH (W:=(W164 Ik f84)) h164 (fun m0=>aG2 m0) (fun m0=>[aG2 m0]) (fun m0 e0=>⟨e0,trivial⟩)
theorem o164:CsOk Ik tCod 84 s164:=bR (W:=(W164 Ik f84)) h164 func84 rfl [aG2 fuel] (fun O r _=>⟨(t164_0 fuel),trivial⟩)
def s165:CS tEl:=⟨[.agg 9,kI,kS,kB],[.agg 9,kI,kI],fun z=>lP z.1 z.2.1 z.2.2.1 z.2.2.2.1⟩
def X165:=cX0 [(70,s142),(83,s141),(84,s164)]
theorem h165:FsOk (X165 Ik):=Bk (C:=(X165 Ik)) ⟨o142,o141,o164,trivial⟩ trivial
def W165 (P:An) (f:Func):Fw (X165 P):=⟨f,s165.acx,s165.rs⟩
abbrev aKR:Ct (X165 Ik) (Bb tEl s165.rs):=⟨[1,1,1,1,1,1,1],[.vf 4 .one [.rf 0 0],.vf 8 .one [.rf 1 0],.sl 13 kI,.bk 0 49 [.pl kI,.pl kS,.pl (.one (.sl 7)),.pl kI],.bk 1 49 [.pl kI,.pl kS,.pl (.one (.sl 7)),.pl kI]],fun z=>(z.1,z.2.1,z.2.2.1,z.2.2.2.1,((0:Int),([]:List Ai),([]:List _),(0:Int),()),()),2,fun z=>pY ((⟨z.2.2.2.1.1,z.2.2.2.1.2.1,z.2.2.2.1.2.2.1⟩:aH),z.2.2.1) z.2.2.2.1.2.2.2.1⟩
theorem t165_0 {O:aR} {r:Bb tEl s165.rs}:SndW (W165 Ik f40) O r (aKR):=fF (W:=(W165 Ik f40)) h165 (aKR) [] trivial
theorem o165:CsOk Ik tCod 40 s165:=bR (W:=(W165 Ik f40)) h165 func40 rfl [aKR] (fun O r _=>⟨(t165_0),trivial⟩)
def s166:CS tEl:=⟨[.agg 8,kI],[.agg 8,kS],fun z=>pA z.1 z.2.1⟩
def X166:=cX0 [(128,s140)]
theorem o166:CsOk Ik tCod 85 s166:=aV (X166 Ik) ⟨o140,trivial⟩ trivial func85 rfl
def s167:CS tEl:=⟨[.agg 9],[kB],fun z=>nS z.1⟩
def X167:=cX0 [(70,s142)]
theorem o167:CsOk Ik tCod 144 s167:=aV (X167 Ik) ⟨o142,trivial⟩ trivial func144 rfl
def s168:CS tEl:=⟨[.agg 9],[kB],fun z=>nT z.1⟩
def X168:=cX0 [(144,s167)]
theorem o168:CsOk Ik tCod 86 s168:=aV (X168 Ik) ⟨o167,trivial⟩ trivial func86 rfl
def s169:CS tEl:=⟨[.agg 9,kI],[.agg 9,kS,kB],fun z=>oU z.1 z.2.1⟩
def X169:=cX0 [(85,s166),(86,s168)]
theorem o169:CsOk Ik tCod 41 s169:=aV (X169 Ik) ⟨o166,o168,trivial⟩ trivial func41 rfl
def s170:CS tEl:=⟨[.agg 13,kS],[.agg 13,.one (.sl 2)],fun z=>oY z.1 z.2.1⟩
def X170:=cX0 [(71,s159),(87,s157)]
theorem h170:FsOk (X170 Ik):=Bk (C:=(X170 Ik)) ⟨o159,o157,trivial⟩ trivial
def W170 (P:An) (f:Func):Fw (X170 P):=⟨f,s170.acx,s170.rs⟩
abbrev aG1 (m0:Nat):Ct (X170 Ik) (Bb tEl s170.rs):=⟨[0,1,0,1,1,1,1],[.vf 2 .one [.rf 0 0],.vf 4 .one [.rf 1 0],.gs 7 23 57 2,.sl 0 (.agg 13),.sl 1 kS,.sl 6 kS,.sl 8 kI,.bk 0 51 [.pl kS,.pl kI,.pl kI],.bk 1 51 [.pl kS,.pl kI,.pl kI]],fun z=>(z.1,z.2.1,z.2.2.1,z.2.2.2.1,z.2.2.2.2.1,z.2.2.2.2.2.1,z.2.2.2.2.2.2.1,((z.2.2.2.1.bq:List Ai),(z.2.2.2.1.bv:Int),z.2.2.2.2.2.2.2.1.2.2.1,()),(([]:List Ai),(0:Int),(0:Int),()),()),24,fun z=>gV z.2.2.2.1 z.2.2.2.2.1 m0 z.2.2.2.2.2.1 z.2.2.1 z.2.2.2.2.2.2.1 z.2.2.2.2.2.2.2.1.2.2.1⟩
abbrev aG0:Ct (X170 Ik) (Bb tEl s170.rs):=⟨[1,1,1,1,1],[.vf 2 .one [.rf 0 0],.vf 4 .one [.rf 1 0],.gs 7 23 57 2,.sl 0 (.agg 13),.sl 6 kS,.bk 0 51 [.pl kS,.pl kI,.pl kI],.bk 1 51 [.pl kS,.pl kI,.pl kI]],fun z=>(z.1,z.2.1,z.2.2.1,z.2.2.2.1,z.2.2.2.2.1,((z.2.2.2.1.bq:List Ai),(z.2.2.2.1.bv:Int),z.2.2.2.2.2.1.2.2.1,()),(([]:List Ai),(0:Int),(0:Int),()),()),24,fun z=>mH z.2.2.2.1 z.2.2.2.2.1 z.2.2.1 z.2.2.2.2.2.1.2.2.1⟩
theorem aMZ {O:aR} {r:Bb tEl s170.rs}:SndW (W170 Ik f42) O r (aG0):=fF (W:=(W170 Ik f42)) h170 (aG0) [] trivial
theorem t170_0 {O:aR} {r:Bb tEl s170.rs}:∀ m0,SndW (W170 Ik f42) O r (aG1 m0):=bH (W:=(W170 Ik f42)) h170 (fun m0=>aG1 m0) (fun m0=>[aG1 m0,aG0]) (fun m0 e0=>⟨e0,(aMZ),trivial⟩)
theorem o170:CsOk Ik tCod 42 s170:=bR (W:=(W170 Ik f42)) h170 func42 rfl [aG1 fuel,aG0] (fun O r _=>⟨(t170_0 fuel),(aMZ),trivial⟩)
def s171:CS tEl:=⟨[.one (.int .u8)],[kB],fun z=>jL z.1⟩
def X171:=cX0 []
theorem o171:CsOk Ik tCod 59 s171:=aV (X171 Ik) trivial trivial func59 rfl
def s172:CS tEl:=⟨[.one (.sl 2)],[.one (.sl 2),kB],fun z=>rV z.1⟩
def X172:=cX0 [(59,s171)]
theorem h172:FsOk (X172 Ik):=Bk (C:=(X172 Ik)) ⟨o171,trivial⟩ trivial
def W172 (P:An) (f:Func):Fw (X172 P):=⟨f,s172.acx,s172.rs⟩
abbrev aGz (m0:Nat):Ct (X172 Ik) (Bb tEl s172.rs):=⟨[0,1,0,1],[.sl 0 (.one (.sl 2)),.sl 4 kI],fun z=>z,0,fun z=>gT z.1 m0 z.2.1⟩
theorem t172_0 {O:aR} {r:Bb tEl s172.rs}:∀ m0,SndW (W172 Ik f43) O r (aGz m0):=bH (W:=(W172 Ik f43)) h172 (fun m0=>aGz m0) (fun m0=>[aGz m0]) (fun m0 e0=>⟨e0,trivial⟩)
theorem o172:CsOk Ik tCod 43 s172:=bR (W:=(W172 Ik f43)) h172 func43 rfl [aGz fuel] (fun O r _=>⟨(t172_0 fuel),trivial⟩)
def s173:CS tEl:=⟨[kI],[.agg 15],fun z=>mG z.1⟩
def X173:=cX0 []
theorem o173:CsOk Ik tCod 88 s173:=aV (X173 Ik) trivial trivial func88 rfl
def s174:CS tEl:=⟨[kI],[.agg 15],fun z=>nX z.1⟩
def X174:=cX0 [(88,s173)]
theorem o174:CsOk Ik tCod 44 s174:=aV (X174 Ik) ⟨o173,trivial⟩ trivial func44 rfl
def s175:CS tEl:=⟨[.agg 10,kI,kS],[.agg 10,.one (.sl 2),kI],fun z=>kL z.1 z.2.1 z.2.2.1⟩
def X175:=cX0 [(23,s160),(40,s165),(41,s169),(42,s170),(43,s172),(44,s174)]
theorem o175:CsOk Ik tCod 9 s175:=aV (X175 Ik) ⟨o160,o165,o169,o170,o172,o174,trivial⟩ trivial func9 rfl
def s176:CS tEl:=⟨[.one (.sl 2)],[.one (.sl 2)],fun z=>iP z.1⟩
def X176:=cX1 (fun t=>Aj t 56||Aj t 57||Aj t 81) [] []
theorem h176:FsOk (X176 Ik):=Bk (C:=(X176 Ik)) trivial trivial
def W176 (P:An) (f:Func):Fw (X176 P):=⟨f,s176.acx,s176.rs⟩
abbrev aGy (m0:Nat):Ct (X176 Ik) (Bb tEl s176.rs):=⟨[0,1,0,1,1],[.vf 3 .one [.os 21 57 2],.sl 0 (.one (.sl 2)),.sl 4 kI],fun z=>z,22,fun z=>iI z.2.1 m0 z.1.1 z.2.2.1⟩
theorem t176_0 {O:aR} {r:Bb tEl s176.rs}:∀ m0,SndW (W176 Ik f11) O r (aGy m0):=bH (W:=(W176 Ik f11)) h176 (fun m0=>aGy m0) (fun m0=>[aGy m0]) (fun m0 e0=>⟨e0,trivial⟩)
theorem o176:CsOk Ik tCod 11 s176:=bR (W:=(W176 Ik f11)) h176 func11 rfl [aGy fuel] (fun O r _=>⟨(t176_0 fuel),trivial⟩)
def s177:CS tEl:=⟨[.agg 2,.agg 2],[kB],fun z=>oZ z.1 z.2.1⟩
def X177:=cX0 []
theorem h177:FsOk (X177 Ik):=Bk (C:=(X177 Ik)) trivial trivial
def W177 (P:An) (f:Func):Fw (X177 P):=⟨f,s177.acx,s177.rs⟩
abbrev aGx (m0:Nat):Ct (X177 Ik) (Bb tEl s177.rs):=⟨[0,1,0,1,1],[.vf 2 .one [.rf 0 0],.vf 3 .one [.rf 1 0],.sl 5 kI,.bc 0 57 2,.bc 1 57 2],fun z=>z,2,fun z=>jM z.2.2.2.1 z.2.2.2.2.1 m0 z.2.2.1⟩
theorem t177_0 {O:aR} {r:Bb tEl s177.rs}:∀ m0,SndW (W177 Ik f45) O r (aGx m0):=bH (W:=(W177 Ik f45)) h177 (fun m0=>aGx m0) (fun m0=>[aGx m0]) (fun m0 e0=>⟨e0,trivial⟩)
theorem o177:CsOk Ik tCod 45 s177:=bR (W:=(W177 Ik f45)) h177 func45 rfl [aGx fuel] (fun O r _=>⟨(t177_0 fuel),trivial⟩)
def s178:CS tEl:=⟨[.one (.sl 2),.one (.sl 2)],[kB],fun z=>fK z.1 z.2.1⟩
def X178:=cX0 [(45,s177)]
theorem h178:FsOk (X178 Ik):=Bk (C:=(X178 Ik)) ⟨o177,trivial⟩ trivial
def W178 (P:An) (f:Func):Fw (X178 P):=⟨f,s178.acx,s178.rs⟩
abbrev aGw (m0:Nat):Ct (X178 Ik) (Bb tEl s178.rs):=⟨[0,1,0,1,1],[.sl 0 (.one (.sl 2)),.sl 1 (.one (.sl 2)),.sl 5 kI],fun z=>z,0,fun z=>gS z.1 z.2.1 m0 z.2.2.1⟩
theorem t178_0 {O:aR} {r:Bb tEl s178.rs}:∀ m0,SndW (W178 Ik f10) O r (aGw m0):=bH (W:=(W178 Ik f10)) h178 (fun m0=>aGw m0) (fun m0=>[aGw m0]) (fun m0 e0=>⟨e0,trivial⟩)
theorem o178:CsOk Ik tCod 10 s178:=bR (W:=(W178 Ik f10)) h178 func10 rfl [aGw fuel] (fun O r _=>⟨(t178_0 fuel),trivial⟩)
def s179:CS tEl:=⟨[.agg 5],[.one (.sl 5)],fun z=>nE z.1⟩
def X179:=cX0 []
theorem o179:CsOk Ik tCod 156 s179:=aV (X179 Ik) trivial trivial func156 rfl
def s180:CS tEl:=⟨[.one (.sl 5),.agg 5],[.one (.sl 5)],fun z=>iH z.1 z.2.1⟩
def X180:=cX0 [(125,s128),(154,s127),(156,s179),(155,s132)]
theorem o180:CsOk Ik tCod 95 s180:=aV (X180 Ik) ⟨o128,o127,o179,o132,trivial⟩ trivial func95 rfl
def s181:CS tEl:=⟨[.agg 6,kI,kB],[.agg 6],fun z=>oX z.1 z.2.1 z.2.2.1⟩
def X181:=cX1 (fun t=>Aj t 72||Aj t 73||Aj t 76) [(69,s138),(94,s135),(95,s180)] []
theorem h181:FsOk (X181 Ik):=Bk (C:=(X181 Ik)) ⟨o138,o135,o180,trivial⟩ trivial
def W181 (P:An) (f:Func):Fw (X181 P):=⟨f,s181.acx,s181.rs⟩
abbrev aCo (m0:Nat):Ct (X181 Ik) (Bb tEl s181.rs):=⟨[0,1,0,1,1,1,1],[.vf 3 .one [.rf 0 0],.vf 6 .one [.rf 1 0],.vf 8 .one [.os 23 76 4],.sl 2 kB,.sl 7 kI,.sl 9 kI,.bc 0 44 6,.bk 1 44 [.pl kI,.pl kS,.pl kI,.pl (.one (.sl 4)),.pl (.one (.sl 5)),.pl kB,.pl kB,.pl kB,.pl kB]],fun z=>(z.1,z.2.1,z.2.2.1,z.2.2.2.1,z.2.2.2.2.1,z.2.2.2.2.2.1,z.2.2.2.2.2.2.1,((0:Int),([]:List Ai),(0:Int),([]:List _),([]:List _),(false:Bool),(false:Bool),(false:Bool),(false:Bool),()),()),24,fun z=>dG z.2.2.2.2.2.2.1 z.2.2.2.1 z.2.2.2.2.1 m0 z.2.2.1.1 z.2.2.2.2.2.1⟩
abbrev aKQ (m0:Nat):Ct (X181 Ik) (Bb tEl s181.rs):=⟨[1,1,1,0,0,1,0,0,1,0,1,1,1,1],[.vf 3 .one [.rf 0 0],.vf 6 .one [.rf 1 0],.vf 8 .one [.os 23 76 4],.vf 10 .one [.rf 24 0],.sl 53 (.ptr 4),.sl 2 kB,.sl 7 kI,.sl 9 kI,.bc 0 44 6,.bk 1 44 [.pl kI,.pl kS,.pl kI,.pl (.one (.sl 4)),.pl (.one (.sl 5)),.pl kB,.pl kB,.pl kB,.pl kB],.bk 24 76 [.pl kI,.pl kI,.pl kI,.pl kB]],fun z=>(z.1,z.2.1,z.2.2.1,z.2.2.2.1,z.2.2.2.2.1,z.2.2.2.2.2.1,z.2.2.2.2.2.2.1,z.2.2.2.2.2.2.2.1,z.2.2.2.2.2.2.2.2.1,((0:Int),([]:List Ai),(0:Int),([]:List _),([]:List _),(false:Bool),(false:Bool),(false:Bool),(false:Bool),()),(z.2.2.2.2.2.2.2.2.2.2.1.1,z.2.2.2.2.2.2.2.2.2.2.1.2.1,(z.2.2.2.2.1.bu:Int),z.2.2.2.2.2.2.2.2.2.2.1.2.2.2.1,()),()),25,fun z=>jK z.2.2.1.1 z.2.2.2.2.2.2.2.1 (dG z.2.2.2.2.2.2.2.2.1 z.2.2.2.2.2.1 z.2.2.2.2.2.2.1 m0) z.2.2.2.2.1 z.2.2.2.2.2.2.2.2.2.2.1.1 z.2.2.2.2.2.2.2.2.2.2.1.2.1 z.2.2.2.2.2.2.2.2.2.2.1.2.2.2.1⟩
theorem t181_1 {O:aR} {r:Bb tEl s181.rs} (m0:Nat) (e0:SndW (W181 Ik f49) O r (aCo m0)):SndW (W181 Ik f49) O r (aKQ m0):=fF (W:=(W181 Ik f49)) h181 (aKQ m0) [aCo m0] ⟨e0,trivial⟩
theorem t181_0 {O:aR} {r:Bb tEl s181.rs}:∀ m0,SndW (W181 Ik f49) O r (aCo m0):=bH (W:=(W181 Ik f49)) h181 (fun m0=>aCo m0) (fun m0=>[aCo m0,aKQ m0]) (fun m0 e0=>⟨e0,(t181_1 m0 e0),trivial⟩)
theorem o181:CsOk Ik tCod 49 s181:=bR (W:=(W181 Ik f49)) h181 func49 rfl [aCo fuel] (fun O r _=>⟨(t181_0 fuel),trivial⟩)
def s182:CS tEl:=⟨[.agg 10,kI],[.agg 10],fun z=>kM z.1 z.2.1⟩
def X182:=cX0 [(23,s160),(49,s181)]
theorem o182:CsOk Ik tCod 13 s182:=aV (X182 Ik) ⟨o160,o181,trivial⟩ trivial func13 rfl
def s183:CS tEl:=⟨[.agg 6],[kB],fun z=>lQ z.1⟩
def X183:=cX0 []
theorem o183:CsOk Ik tCod 103 s183:=aV (X183 Ik) trivial trivial func103 rfl
def s184:CS tEl:=⟨[.one (.sl 4),.agg 4],[.one (.sl 4)],fun z=>tH z.1 z.2.1⟩
def X184:=cX0 []
theorem h184:FsOk (X184 Ik):=Bk (C:=(X184 Ik)) trivial trivial
def W184 (P:An) (f:Func):Fw (X184 P):=⟨f,s184.acx,s184.rs⟩
abbrev aGv (m0:Nat):Ct (X184 Ik) (Bb tEl s184.rs):=⟨[0,0,1,1],[.vf 3 .one [.rf 0 0],.sl 0 (.one (.sl 4)),.sl 5 kI,.bc 0 76 4],fun z=>z,1,fun z=>iN z.2.1 z.2.2.2.1 m0 z.2.2.1⟩
theorem t184_0 {O:aR} {r:Bb tEl s184.rs}:∀ m0,SndW (W184 Ik f160) O r (aGv m0):=bH (W:=(W184 Ik f160)) h184 (fun m0=>aGv m0) (fun m0=>[aGv m0]) (fun m0 e0=>⟨e0,trivial⟩)
theorem o184:CsOk Ik tCod 160 s184:=bR (W:=(W184 Ik f160)) h184 func160 rfl [aGv fuel] (fun O r _=>⟨(t184_0 fuel),trivial⟩)
def s185:CS tEl:=⟨[.agg 6,.agg 4],[.agg 6,.agg 4,kS,kB],fun z=>fG z.1 z.2.1⟩
def X185:=cX0 [(103,s183),(94,s135),(160,s184)]
theorem h185:FsOk (X185 Ik):=Bk (C:=(X185 Ik)) ⟨o183,o135,o184,trivial⟩ trivial
def W185 (P:An) (f:Func):Fw (X185 P):=⟨f,s185.acx,s185.rs⟩
abbrev aKP:Ct (X185 Ik) (Bb tEl s185.rs):=⟨[1,1],[.vf 2 .one [.rf 0 0],.vf 3 .one [.rf 1 0],.vf 4 .one [.rf 2 0],.vf 5 .one [.rf 3 0],.sl 0 (.agg 6),.sl 1 (.agg 4),.bk 0 44 [.pl kI,.pl kS,.pl kI,.pl (.one (.sl 4)),.pl (.one (.sl 5)),.pl kB,.pl kB,.pl kB,.pl kB],.bk 1 76 [.pl kI,.pl kI,.pl kI,.pl kB],.bk 2 44 [.pl kI,.pl kS,.pl kI,.pl (.one (.sl 4)),.pl (.one (.sl 5)),.pl kB,.pl kB,.pl kB,.pl kB],.bk 3 76 [.pl kI,.pl kI,.pl kI,.pl kB]],fun z=>(z.1,z.2.1,z.2.2.1,z.2.2.2.1,z.2.2.2.2.1,z.2.2.2.2.2.1,((z.2.2.2.2.1.ag:Int),(z.2.2.2.2.1.aj:List Ai),(z.2.2.2.2.1.ak:Int),(z.2.2.2.2.1.ah:List _),(z.2.2.2.2.1.ay:List _),(z.2.2.2.2.1.aw:Bool),z.2.2.2.2.2.2.1.2.2.2.2.2.2.1,z.2.2.2.2.2.2.1.2.2.2.2.2.2.2.1,(z.2.2.2.2.1.ba:Bool),()),((z.2.2.2.2.2.1.aa:Int),(z.2.2.2.2.2.1.To:Int),(z.2.2.2.2.2.1.bu:Int),z.2.2.2.2.2.2.2.1.2.2.2.1,()),((0:Int),([]:List Ai),(0:Int),([]:List _),([]:List _),(false:Bool),(false:Bool),(false:Bool),(false:Bool),()),((0:Int),(0:Int),(0:Int),(false:Bool),()),()),4,fun z=>jJ z.2.2.2.2.1 z.2.2.2.2.2.1 z.2.2.2.2.2.2.1.2.2.2.2.2.2.1 z.2.2.2.2.2.2.1.2.2.2.2.2.2.2.1 z.2.2.2.2.2.2.2.1.2.2.2.1⟩
theorem t185_0 {O:aR} {r:Bb tEl s185.rs}:SndW (W185 Ik f102) O r (aKP):=fF (W:=(W185 Ik f102)) h185 (aKP) [] trivial
theorem o185:CsOk Ik tCod 102 s185:=bR (W:=(W185 Ik f102)) h185 func102 rfl [aKP] (fun O r _=>⟨(t185_0),trivial⟩)
def s186:CS tEl:=⟨[.agg 6,kI,kI,kI],[.agg 6,.agg 4,kS,kB],fun z=>eW z.1 z.2.1 z.2.2.1 z.2.2.2.1⟩
def X186:=cX0 [(69,s138),(95,s180),(102,s185),(94,s135),(103,s183)]
theorem o186:CsOk Ik tCod 52 s186:=aV (X186 Ik) ⟨o138,o180,o185,o135,o183,trivial⟩ trivial func52 rfl
def s187:CS tEl:=⟨[.agg 10,kI,kI],[.agg 10,.agg 4,kS,kB],fun z=>mP z.1 z.2.1 z.2.2.1⟩
def X187:=cX0 [(23,s160),(52,s186)]
theorem o187:CsOk Ik tCod 15 s187:=aV (X187 Ik) ⟨o160,o186,trivial⟩ trivial func15 rfl
def s188:CS tEl:=⟨[.one (.sl 5),.agg 5],[.one (.sl 5)],fun z=>nF z.1 z.2.1⟩
def X188:=cX0 [(125,s128),(154,s127),(156,s179),(155,s132)]
theorem o188:CsOk Ik tCod 106 s188:=aV (X188 Ik) ⟨o128,o127,o179,o132,trivial⟩ trivial func106 rfl
def s189:CS tEl:=⟨[.agg 6,kI],[.agg 6],fun z=>oW z.1 z.2.1⟩
def X189:=cX1 (fun t=>Aj t 72||Aj t 73||Aj t 76) [(69,s138),(106,s188)] []
theorem h189:FsOk (X189 Ik):=Bk (C:=(X189 Ik)) ⟨o138,o188,trivial⟩ trivial
def W189 (P:An) (f:Func):Fw (X189 P):=⟨f,s189.acx,s189.rs⟩
abbrev aGu (m0:Nat):Ct (X189 Ik) (Bb tEl s189.rs):=⟨[0,1,0,1,1,1],[.vf 2 .one [.rf 0 0],.vf 4 .one [.rf 1 0],.vf 5 .one [.os 23 76 4],.sl 0 (.agg 6),.sl 1 kI,.sl 6 kI,.bk 0 44 [.pl kI,.pl kS,.pl kI,.pl (.one (.sl 4)),.pl (.one (.sl 5)),.pl kB,.pl kB,.pl kB,.pl kB],.bk 1 44 [.pl kI,.pl kS,.pl kI,.pl (.one (.sl 4)),.pl (.one (.sl 5)),.pl kB,.pl kB,.pl kB,.pl kB]],fun z=>(z.1,z.2.1,z.2.2.1,z.2.2.2.1,z.2.2.2.2.1,z.2.2.2.2.2.1,((z.2.2.2.1.ag:Int),(z.2.2.2.1.aj:List Ai),(z.2.2.2.1.ak:Int),(z.2.2.2.1.ah:List _),z.2.2.2.2.2.2.1.2.2.2.2.1,(z.2.2.2.1.aw:Bool),(z.2.2.2.1.az:Bool),z.2.2.2.2.2.2.1.2.2.2.2.2.2.2.1,(z.2.2.2.1.ba:Bool),()),((0:Int),([]:List Ai),(0:Int),([]:List _),([]:List _),(false:Bool),(false:Bool),(false:Bool),(false:Bool),()),()),24,fun z=>fJ z.2.2.2.1 z.2.2.2.2.1 m0 z.2.2.1.1 z.2.2.2.2.2.1 z.2.2.2.2.2.2.1.2.2.2.2.1 z.2.2.2.2.2.2.1.2.2.2.2.2.2.2.1⟩
theorem t189_0 {O:aR} {r:Bb tEl s189.rs}:∀ m0,SndW (W189 Ik f55) O r (aGu m0):=bH (W:=(W189 Ik f55)) h189 (fun m0=>aGu m0) (fun m0=>[aGu m0]) (fun m0 e0=>⟨e0,trivial⟩)
theorem o189:CsOk Ik tCod 55 s189:=bR (W:=(W189 Ik f55)) h189 func55 rfl [aGu fuel] (fun O r _=>⟨(t189_0 fuel),trivial⟩)
def s190:CS tEl:=⟨[.agg 10,kI],[.agg 10],fun z=>mQ z.1 z.2.1⟩
def X190:=cX0 [(23,s160),(55,s189)]
theorem o190:CsOk Ik tCod 17 s190:=aV (X190 Ik) ⟨o160,o189,trivial⟩ trivial func17 rfl
def s191:CS tEl:=⟨[kI],[kI],fun z=>mR z.1⟩
def X191:=cX0 []
theorem o191:CsOk Ik tCod 176 s191:=aV (X191 Ik) trivial trivial func176 rfl
theorem zW (a0:Int) (r:Int) (h:mR a0=some r):eL Ik 176 [.int .i64 a0] (.int .i64 r):=Dl o191 (a0,()) r h (by kernel_rfl) (by kernel_rfl)
theorem aAl (a0:Int) (r:((List Ai)×Int)) (h:jQ a0=some r):eL Ik 113 [.int .i64 a0] (retD [.slice false (r.1.map rC.d),.int .i64 r.2]):=by
 refine pP (rs:=[.slice false (r.1.map rC.d),.int .i64 r.2]) func113 M ntmps113 (nle M) M fun O hO=>?_
 show IWP _ _ _ _ ⟨[(0,.int .i64 a0)],[]⟩ _
 unfold jQ at h;refine aJ (cAs (.nils) M<|cAs (.int _ 0) M<|aI ?_);obtain ⟨x1,hx1,h⟩:=eC h;refine aJ (cI M<|aE M (eZ (r:=.int _ _) M M (lb M) cl175 (.cons (svI M) .nil) M (zX _ _ hx1))<|cAI M<|aI ?_);refine bG ?_;obtain ⟨x2,hx2,h⟩:=dM h;refine aJ (cI M<|cCm (b:=0) M hx2<|aI ?_);refine bE h M (fun h=>?_) (fun h=>?_)
 ·
  refine aJ (cAs (.nils) M<|cAs (.int _ 8) M<|aI ?_);refine bJ<|cN ?_;obtain rfl:=sj_ h;refine ⟨.inr M,_,(.cons (sv M) (.cons (sv M) .nil)),(.cons (.nils _) (.all _))⟩
 ·
  refine bS<|aT<|aJ (cAs (.nils) M<|aI ?_);refine bG<|aJ (cAs (.int _ 0) M<|aI ?_);refine bT<|lX (α:=Nat×Int×(List Ai)×Int) (fun z=>⟨[(0,.int .i64 z.2.1),(4,.int .i64 x1),(5,.osl 21 rC.sz z.2.2.1.length),(6,.int .i64 z.2.2.2)],[(21,.blk 5 (Al (z.2.2.1.map rC.d)))]⟩) (fun z=>gB x1 z.1 z.2.1 z.2.2.1 z.2.2.2=some r) (fun z=>z.1) (fuel,a0,([]:(List Ai)),0) (fun i=>if i=21 then 71 else i) ⟨(.s M M (.s M M (.cons (.nilo M) (.sames M M)))),(.cons (.nilb M) .nil),dF [71] M (by decide),(fun i hi=>by first | rfl | (show (if _ then _ else _)=_; (repeat' split) <;> omega))⟩ ?_ ?_
  ·exact h
  ·
   rintro ⟨n0,v12,v13,v14⟩ h
   cases n0 with
   | zero=>exact AP h (by unfold gB; exact nofun)
   | succ n0 =>
    unfold gB at h;refine bG ?_;obtain ⟨x23,hx23,h⟩:=dM h;refine aJ (cI M<|cI M<|cCm M hx23<|aI ?_);refine bE h M (fun h=>?_) (fun h=>?_)
    ·
     refine bS<|aT<|bG<|bT ?_;obtain ⟨x25,hx25,x26,hx26,x27,hx27,h⟩:=eodo h;obtain ⟨x28,hx28,h⟩:=eC h;refine aJ (cI M<|aE M (aDb M M (lb M) (svI M) (sv (d:=.int _ 256) M) hx25)<|aE M (xE M M (lb M) ⟨_,underlying3⟩ underlying5 (svI M) hx26)<|aE M (qM rC.toEnc0 ([x27]:(List Ai)) 22 M M (lb M) underlying195 ti5 M (.cons (aMg (svI M) (aIL hx27)) .nil) M M (by decide))<|cMv (.osl _ _ _) M<|aE M (wB rC.toEnc0 23 M M (lb M) underlying195 ti5 M M M M M (aAf rC.toEnc0 M M M) hx28)<|cAs (.osl _ _ _) M<|aI ?_);obtain ⟨x29,hx29,h⟩:=eC h;refine bN (cI M<|aE M (aGR M M (lb M) (svI M) (sv (d:=.int _ 256) M) hx29)<|cAI M<|dJ ?_);refine cV<|aT ?_;obtain ⟨x30,hx30,h⟩:=dM h;refine bN (cI M<|aE M (cT M M (lb M) (svI M) (sv (d:=.int _ 1) M) M hx30)<|cAI M<|dJ ?_);refine aT ⟨(n0,x29,x28,x30),(fun i=>if i=21 then 23 else i),⟨(.sames M M),(.cons (Cd M) .nil),dF [23] M (by decide),(fun i hi=>by first | rfl | (show (if _ then _ else _)=_; (repeat' split) <;> omega))⟩,?_,?_⟩;exact h;exact BH _
    ·
     refine dW<|aY<|aY<|eB<|aT ?_;obtain ⟨x31,hx31,x32,hx32,x33,hx33,h⟩:=eooo h;obtain ⟨x34,hx34,x35,hx35,x36,hx36,h⟩:=eddo h;obtain ⟨x37,hx37,x38,hx38,x39,hx39,h⟩:=eood h;refine lY M [nd1 [5] 24 (.osl 21 rC.sz v13.length),nd1 [24] 25 (.ref 21 (((0:Int).toNat)*rC.sz+0)),nd2 [25] [21] 26 (.int .u8 (x32.toNat:Int)),nd1 [4] 27 (.int .i64 x1),nd1 [27] 28 (.int .i64 x33),nd1 [28] 29 (.int .u8 x34),nd1 [26,29] 30 (.int .u8 x35),nd1 [24] 31 (.ref 21 (((0:Int).toNat)*rC.sz+0)),⟨[30,31],[21],[],[(21,.blk 5 (Al (x39.map rC.d)))]⟩] M ?_ (by kernel_rfl) ?_
     ·refine .cons (lop M M fun S hA=>(eK M M (lb M) (sv (d:=.osl _ _ _) (agr hA M M))))<|.cons (lop M M fun S hA=>(qL rC.toEnc0 M M (lb M) underlying195 ti5 (sv (d:=.osl _ _ _) (agr hA M M)) M (sv (d:=.int _ 0) M) hx31))<|.cons (lop M M fun S hA=>(pQ rC.toEnc0 (d:=.int _ _) M M (lb M) underlying5 ag5 ti5 (by decide) (svaR hA M M) (agi hA M M) hx32 (nle M) M))<|.cons (dMv M)<|.cons (lop M M fun S hA=>(eZ (r:=.int _ _) M M (lb M) cl176 (.cons (svaI hA M M) .nil) M (zW _ _ hx33)))<|.cons (lop M M fun S hA=>(xE M M (lb M) ⟨_,underlying3⟩ underlying5 (svaI hA M M) hx34))<|.cons (lop M M fun S hA=>(cT M M (lb M) (svaI hA M M) (svaI hA M M) M hx35))<|.cons (lop M M fun S hA=>(qL rC.toEnc0 M M (lb M) underlying195 ti5 (sv (d:=.osl _ _ _) (agr hA M M)) M (sv (d:=.int _ 0) M) hx36))<|.cons (lop M M fun S hA=>(qX rC.toEnc0 (a':=x38) M M ti5 (svaR hA M M) (agi hA M M) (aMg (svaI hA M M) (aIL hx38)) M M M hx37 (nle M) M hx39)) ?_
      exact .nil
     refine aJ (cMv (.osl _ _ _) M<|cAs (.osl _ _ _) M<|cAs (.int _ 0) M<|aI ?_);refine bJ ?_;obtain rfl:=sj_ h;refine ⟨.inr M,_,(.cons (sv M) (.cons (sv M) .nil)),(.cons (FDT rC M (aAp hx39 M)) (.all _))⟩
def s192:CS tEl:=⟨[.one (.int .i64)],[.one (.sl 0),.one (.int .i64)],fun z=>jQ z.1⟩
theorem o192:CsOk Ik tCod 113 s192:=FI cl113 (fun z r h=>⟨_,_,aAl z.1 r h,by kernel_rfl,by kernel_rfl⟩)
def s193:CS tEl:=⟨[.one (.sl 12)],[.one (.sl 0),kI],fun z=>mT z.1⟩
def X193:=cX0 [(113,s192)]
theorem h193:FsOk (X193 Ik):=Bk (C:=(X193 Ik)) ⟨o192,trivial⟩ trivial
def W193 (P:An) (f:Func):Fw (X193 P):=⟨f,s193.acx,s193.rs⟩
abbrev aGt (m0:Nat):Ct (X193 Ik) (Bb tEl s193.rs):=⟨[0,1,0,1,1],[.gs 4 21 5 0,.sl 0 (.one (.sl 12)),.sl 5 kI],fun z=>z,22,fun z=>jS z.2.1 m0 z.1 z.2.2.1⟩
theorem t193_0 {O:aR} {r:Bb tEl s193.rs}:∀ m0,SndW (W193 Ik f174) O r (aGt m0):=bH (W:=(W193 Ik f174)) h193 (fun m0=>aGt m0) (fun m0=>[aGt m0]) (fun m0 e0=>⟨e0,trivial⟩)
theorem o193:CsOk Ik tCod 174 s193:=bR (W:=(W193 Ik f174)) h193 func174 rfl [aGt fuel] (fun O r _=>⟨(t193_0 fuel),trivial⟩)
def s194:CS tEl:=⟨[.agg 2],[kS],fun z=>mI z.1⟩
def X194:=cX0 [(145,s143),(173,s153),(174,s193)]
theorem h194:FsOk (X194 Ik):=Bk (C:=(X194 Ik)) ⟨o143,o153,o193,trivial⟩ trivial
def W194 (P:An) (f:Func):Fw (X194 P):=⟨f,s194.acx,s194.rs⟩
abbrev aGs (m0:Nat):Ct (X194 Ik) (Bb tEl s194.rs):=⟨[0,1,0,1,1,1],[.vf 1 .one [.rf 0 0],.gs 3 22 3 12,.sl 4 kS,.sl 5 kI,.bc 0 57 2],fun z=>z,23,fun z=>gR z.2.2.2.2.1 z.2.2.1 m0 z.2.1 z.2.2.2.1⟩
abbrev aFB (m1:Nat):Ct (X194 Ik) (Bb tEl s194.rs):=⟨[0,1,0,1,1,1,1],[.vf 1 .one [.rf 0 0],.gs 3 22 3 12,.sl 6 kI,.bc 0 57 2],fun z=>z,23,fun z=>gQ z.2.2.2.1 m1 z.2.1 z.2.2.1⟩
theorem aMY {O:aR} {r:Bb tEl s194.rs}:∀ m1,SndW (W194 Ik f112) O r (aFB m1):=bH (W:=(W194 Ik f112)) h194 (fun m1=>aFB m1) (fun m1=>[aFB m1]) (fun m1 e1=>⟨e1,trivial⟩)
theorem t194_0 {O:aR} {r:Bb tEl s194.rs}:∀ m0,SndW (W194 Ik f112) O r (aGs m0):=bH (W:=(W194 Ik f112)) h194 (fun m0=>aGs m0) (fun m0=>[aGs m0,aFB fuel]) (fun m0 e0=>⟨e0,(aMY fuel),trivial⟩)
theorem o194:CsOk Ik tCod 112 s194:=bR (W:=(W194 Ik f112)) h194 func112 rfl [aGs fuel,aFB fuel] (fun O r _=>⟨(t194_0 fuel),(aMY fuel),trivial⟩)
def s195:CS tEl:=⟨[.agg 2],[kS,kI],fun z=>qA z.1⟩
def X195:=cX0 [(111,s156),(112,s194),(113,s192)]
theorem h195:FsOk (X195 Ik):=Bk (C:=(X195 Ik)) ⟨o156,o194,o192,trivial⟩ trivial
def W195 (P:An) (f:Func):Fw (X195 P):=⟨f,s195.acx,s195.rs⟩
abbrev aKO:Ct (X195 Ik) (Bb tEl s195.rs):=⟨[1,1,1,1,1],[.vf 1 .one [.rf 0 0],.sl 5 (.one (.int .u8)),.bc 0 57 2],fun z=>z,1,fun z=>kW z.2.2.1 z.2.1⟩
theorem t195_0 {O:aR} {r:Bb tEl s195.rs}:SndW (W195 Ik f60) O r (aKO):=fF (W:=(W195 Ik f60)) h195 (aKO) [] trivial
theorem o195:CsOk Ik tCod 60 s195:=bR (W:=(W195 Ik f60)) h195 func60 rfl [aKO] (fun O r _=>⟨(t195_0),trivial⟩)
def s196:CS tEl:=⟨[.agg 6],[kI],fun z=>oV z.1⟩
def X196:=cX0 []
theorem o196:CsOk Ik tCod 114 s196:=aV (X196 Ik) trivial trivial func114 rfl
def s197:CS tEl:=⟨[.agg 6,kS],[.agg 6,kI],fun z=>nV z.1 z.2.1⟩
def X197:=cX0 [(69,s138),(114,s196),(94,s135)]
theorem o197:CsOk Ik tCod 61 s197:=aV (X197 Ik) ⟨o138,o196,o135,trivial⟩ trivial func61 rfl
def s198:CS tEl:=⟨[.agg 10,.agg 2],[.agg 10,kI],fun z=>mO z.1 z.2.1⟩
def X198:=cX0 [(23,s160),(59,s171),(60,s195),(61,s197)]
theorem o198:CsOk Ik tCod 19 s198:=aV (X198 Ik) ⟨o160,o171,o195,o197,trivial⟩ trivial func19 rfl
def s199:CS tEl:=⟨[.one (.sl 5)],[.one (.sl 5)],fun z=>sD z.1⟩
def X199:=cX1 (fun t=>Aj t 181||Aj t 182||Aj t 184) [] []
theorem h199:FsOk (X199 Ik):=Bk (C:=(X199 Ik)) trivial trivial
def W199 (P:An) (f:Func):Fw (X199 P):=⟨f,s199.acx,s199.rs⟩
abbrev aGr (m0:Nat):Ct (X199 Ik) (Bb tEl s199.rs):=⟨[0,1,0,1,1],[.vf 3 .one [.os 21 184 5],.sl 0 (.one (.sl 5)),.sl 4 kI],fun z=>z,22,fun z=>iD z.2.1 m0 z.1.1 z.2.2.1⟩
theorem t199_0 {O:aR} {r:Bb tEl s199.rs}:∀ m0,SndW (W199 Ik f117) O r (aGr m0):=bH (W:=(W199 Ik f117)) h199 (fun m0=>aGr m0) (fun m0=>[aGr m0]) (fun m0 e0=>⟨e0,trivial⟩)
theorem o199:CsOk Ik tCod 117 s199:=bR (W:=(W199 Ik f117)) h199 func117 rfl [aGr fuel] (fun O r _=>⟨(t199_0 fuel),trivial⟩)
def s200:CS tEl:=⟨[.agg 6],[.agg 6],fun z=>pE z.1⟩
def X200:=cX1 (fun t=>Aj t 72||Aj t 73||Aj t 76) [(117,s199)] []
theorem h200:FsOk (X200 Ik):=Bk (C:=(X200 Ik)) ⟨o199,trivial⟩ trivial
def W200 (P:An) (f:Func):Fw (X200 P):=⟨f,s200.acx,s200.rs⟩
abbrev aGq (m0:Nat):Ct (X200 Ik) (Bb tEl s200.rs):=⟨[0,1,0,1,1],[.vf 1 .one [.rf 0 0],.vf 2 .one [.rf 1 0],.vf 3 .one [.rf 2 0],.sl 4 kI,.bc 0 29 6,.bk 1 44 [.pl kI,.pl kS,.pl kI,.pl (.one (.sl 4)),.pl (.one (.sl 5)),.pl kB,.pl kB,.pl kB,.pl kB],.bk 2 44 [.pl kI,.pl kS,.pl kI,.os 24 76 4,.pl (.one (.sl 5)),.pl kB,.pl kB,.pl kB,.pl kB]],fun z=>(z.1,z.2.1,z.2.2.1,z.2.2.2.1,z.2.2.2.2.1,((0:Int),([]:List Ai),(0:Int),([]:List _),([]:List _),(false:Bool),(false:Bool),(false:Bool),(false:Bool),()),((z.2.2.2.2.1.ag:Int),(z.2.2.2.2.1.aj:List Ai),(z.2.2.2.2.1.ak:Int),z.2.2.2.2.2.2.1.2.2.2.1,z.2.2.2.2.2.2.1.2.2.2.2.1,(z.2.2.2.2.1.aw:Bool),(z.2.2.2.2.1.az:Bool),(z.2.2.2.2.1.ax:Bool),(z.2.2.2.2.1.ba:Bool),()),()),25,fun z=>iC z.2.2.2.2.1 z.2.2.2.2.2.2.1.2.2.2.2.1 m0 z.2.2.2.1 z.2.2.2.2.2.2.1.2.2.2.1⟩
theorem t200_0 {O:aR} {r:Bb tEl s200.rs}:∀ m0,SndW (W200 Ik f64) O r (aGq m0):=bH (W:=(W200 Ik f64)) h200 (fun m0=>aGq m0) (fun m0=>[aGq m0]) (fun m0 e0=>⟨e0,trivial⟩)
theorem o200:CsOk Ik tCod 64 s200:=bR (W:=(W200 Ik f64)) h200 func64 rfl [aGq fuel] (fun O r _=>⟨(t200_0 fuel),trivial⟩)
def s201:CS tEl:=⟨[.agg 8],[.agg 8],fun z=>sC z.1⟩
def X201:=cX1 (fun t=>Aj t 220||Aj t 221||Aj t 226) [] []
theorem h201:FsOk (X201 Ik):=Bk (C:=(X201 Ik)) trivial trivial
def W201 (P:An) (f:Func):Fw (X201 P):=⟨f,s201.acx,s201.rs⟩
abbrev aGp (m0:Nat):Ct (X201 Ik) (Bb tEl s201.rs):=⟨[0,1,0,1,1],[.vf 1 .one [.rf 0 0],.vf 2 .one [.rf 1 0],.vf 3 .one [.rf 2 0],.sl 4 kI,.bc 0 32 8,.bk 1 47 [.pl kI,.pl kS,.pl (.one (.sl 7))],.bk 2 47 [.pl kI,.pl kS,.os 24 226 7]],fun z=>(z.1,z.2.1,z.2.2.1,z.2.2.2.1,z.2.2.2.2.1,((0:Int),([]:List Ai),([]:List _),()),((z.2.2.2.2.1.ag:Int),(z.2.2.2.2.1.ap:List Ai),z.2.2.2.2.2.2.1.2.2.1,()),()),25,fun z=>fM z.2.2.2.2.1 m0 z.2.2.2.1 z.2.2.2.2.2.2.1.2.2.1⟩
theorem t201_0 {O:aR} {r:Bb tEl s201.rs}:∀ m0,SndW (W201 Ik f118) O r (aGp m0):=bH (W:=(W201 Ik f118)) h201 (fun m0=>aGp m0) (fun m0=>[aGp m0]) (fun m0 e0=>⟨e0,trivial⟩)
theorem o201:CsOk Ik tCod 118 s201:=bR (W:=(W201 Ik f118)) h201 func118 rfl [aGp fuel] (fun O r _=>⟨(t201_0 fuel),trivial⟩)
def s202:CS tEl:=⟨[.agg 9],[.agg 9],fun z=>pD z.1⟩
def X202:=cX0 [(118,s201)]
theorem o202:CsOk Ik tCod 65 s202:=aV (X202 Ik) ⟨o201,trivial⟩ trivial func65 rfl
def s203:CS tEl:=⟨[.agg 10],[.agg 10],fun z=>mU z.1⟩
def X203:=cX0 [(64,s200),(65,s202)]
theorem o203:CsOk Ik tCod 21 s203:=aV (X203 Ik) ⟨o200,o202,trivial⟩ trivial func21 rfl
def s204:CS tEl:=⟨[.one (.sl 5),.one (.sl 5)],[kB],fun z=>sB z.1 z.2.1⟩
def X204:=cX0 []
theorem h204:FsOk (X204 Ik):=Bk (C:=(X204 Ik)) trivial trivial
def W204 (P:An) (f:Func):Fw (X204 P):=⟨f,s204.acx,s204.rs⟩
abbrev aGo (m0:Nat):Ct (X204 Ik) (Bb tEl s204.rs):=⟨[0,1,0,1,1],[.sl 0 (.one (.sl 5)),.sl 1 (.one (.sl 5)),.sl 5 kI],fun z=>z,0,fun z=>iA z.1 z.2.1 m0 z.2.2.1⟩
theorem t204_0 {O:aR} {r:Bb tEl s204.rs}:∀ m0,SndW (W204 Ik f115) O r (aGo m0):=bH (W:=(W204 Ik f115)) h204 (fun m0=>aGo m0) (fun m0=>[aGo m0]) (fun m0 e0=>⟨e0,trivial⟩)
theorem o204:CsOk Ik tCod 115 s204:=bR (W:=(W204 Ik f115)) h204 func115 rfl [aGo fuel] (fun O r _=>⟨(t204_0 fuel),trivial⟩)
def s205:CS tEl:=⟨[.agg 6,.agg 6],[kB],fun z=>rY z.1 z.2.1⟩
def X205:=cX0 [(115,s204)]
theorem h205:FsOk (X205 Ik):=Bk (C:=(X205 Ik)) ⟨o204,trivial⟩ trivial
def W205 (P:An) (f:Func):Fw (X205 P):=⟨f,s205.acx,s205.rs⟩
abbrev aGn (m0:Nat):Ct (X205 Ik) (Bb tEl s205.rs):=⟨[0,1,0,1,1],[.vf 2 .one [.rf 0 0],.vf 3 .one [.rf 1 0],.sl 5 kI,.bc 0 44 6,.bc 1 44 6],fun z=>z,2,fun z=>gU z.2.2.2.1 z.2.2.2.2.1 m0 z.2.2.1⟩
theorem t205_0 {O:aR} {r:Bb tEl s205.rs}:∀ m0,SndW (W205 Ik f62) O r (aGn m0):=bH (W:=(W205 Ik f62)) h205 (fun m0=>aGn m0) (fun m0=>[aGn m0]) (fun m0 e0=>⟨e0,trivial⟩)
theorem o205:CsOk Ik tCod 62 s205:=bR (W:=(W205 Ik f62)) h205 func62 rfl [aGn fuel] (fun O r _=>⟨(t205_0 fuel),trivial⟩)
def s206:CS tEl:=⟨[.agg 8,.agg 8],[kB],fun z=>sA z.1 z.2.1⟩
def X206:=cX0 []
theorem h206:FsOk (X206 Ik):=Bk (C:=(X206 Ik)) trivial trivial
def W206 (P:An) (f:Func):Fw (X206 P):=⟨f,s206.acx,s206.rs⟩
abbrev aGm (m0:Nat):Ct (X206 Ik) (Bb tEl s206.rs):=⟨[0,1,0,1,1],[.vf 2 .one [.rf 0 0],.vf 3 .one [.rf 1 0],.sl 5 kI,.bc 0 47 8,.bc 1 47 8],fun z=>z,2,fun z=>gY z.2.2.2.1 z.2.2.2.2.1 m0 z.2.2.1⟩
theorem t206_0 {O:aR} {r:Bb tEl s206.rs}:∀ m0,SndW (W206 Ik f116) O r (aGm m0):=bH (W:=(W206 Ik f116)) h206 (fun m0=>aGm m0) (fun m0=>[aGm m0]) (fun m0 e0=>⟨e0,trivial⟩)
theorem o206:CsOk Ik tCod 116 s206:=bR (W:=(W206 Ik f116)) h206 func116 rfl [aGm fuel] (fun O r _=>⟨(t206_0 fuel),trivial⟩)
def s207:CS tEl:=⟨[.agg 9,.agg 9],[kB],fun z=>oT z.1 z.2.1⟩
def X207:=cX0 [(116,s206)]
theorem o207:CsOk Ik tCod 63 s207:=aV (X207 Ik) ⟨o206,trivial⟩ trivial func63 rfl
def s208:CS tEl:=⟨[.agg 10,.agg 10],[kB],fun z=>iR z.1 z.2.1⟩
def X208:=cX0 [(62,s205),(63,s207)]
theorem o208:CsOk Ik tCod 20 s208:=aV (X208 Ik) ⟨o205,o207,trivial⟩ trivial func20 rfl
def s209:CS tEl:=⟨[.agg 6,kI],[kB],fun z=>rX z.1 z.2.1⟩
def X209:=cX0 [(52,s186)]
theorem o209:CsOk Ik tCod 73 s209:=aV (X209 Ik) ⟨o186,trivial⟩ trivial func73 rfl
def s210:CS tEl:=⟨[.agg 10],[kB],fun z=>mN z.1⟩
def X210:=cX0 [(23,s160),(73,s209)]
theorem o210:CsOk Ik tCod 25 s210:=aV (X210 Ik) ⟨o160,o209,trivial⟩ trivial func25 rfl
def s211:CS tEl:=⟨[.agg 10],[kI],fun z=>qU z.1⟩
def X211:=cX0 []
theorem o211:CsOk Ik tCod 27 s211:=aV (X211 Ik) trivial trivial func27 rfl
def s212:CS tEl:=⟨[.one (.sl 3)],[kB],fun z=>fR z.1⟩
def X212:=cX0 [(4,s1),(5,s123),(6,s5),(7,s125),(8,s97),(9,s175),(11,s176),(10,s178),(12,s113),(13,s182),(14,s80),(15,s187),(16,s106),(17,s190),(18,s70),(19,s198),(21,s203),(20,s208),(22,s56),(23,s160),(24,s116),(25,s210),(26,s114),(27,s211),(28,s122)]
theorem h212:FsOk (X212 Ik):=Bk (C:=(X212 Ik)) ⟨o1,o123,o5,o125,o97,o175,o176,o178,o113,o182,o80,o187,o106,o190,o70,o198,o203,o208,o56,o160,o116,o210,o114,o211,o122,trivial⟩ trivial
def W212 (P:An) (f:Func):Fw (X212 P):=⟨f,s212.acx,s212.rs⟩
abbrev aCn (m0:Nat):Ct (X212 Ik) (Bb tEl s212.rs):=⟨[0,1,0,1,1,1],[.vf 3 .one [.rf 0 0],.vf 4 .one [.rf 1 0],.sl 0 (.one (.sl 3)),.sl 5 kI,.bk 0 39 [.pl kI,.pl kS,.pl kI,.pl (.one (.sl 4)),.pl (.one (.sl 5)),.pl kB,.pl kB,.pl kB,.pl kB,.pl kI,.pl kS,.pl (.one (.sl 7)),.pl kI,.pl kS,.pl kI,.pl kI],.bk 1 53 [.pl kI,.pl kS,.pl kI,.pl (.one (.sl 4)),.pl (.one (.sl 5)),.pl kB,.pl kB,.pl kB,.pl kB,.pl kI,.pl kS,.pl (.one (.sl 7)),.pl kI,.pl kS,.pl kI,.pl kI]],fun z=>z,2,fun z=>bM z.2.2.1 m0 z.2.2.2.1 z.2.2.2.2.1.1 z.2.2.2.2.1.2.1 z.2.2.2.2.1.2.2.1 z.2.2.2.2.1.2.2.2.1 z.2.2.2.2.1.2.2.2.2.1 z.2.2.2.2.1.2.2.2.2.2.1 z.2.2.2.2.1.2.2.2.2.2.2.1 z.2.2.2.2.1.2.2.2.2.2.2.2.1 z.2.2.2.2.1.2.2.2.2.2.2.2.2.1 z.2.2.2.2.1.2.2.2.2.2.2.2.2.2.1 z.2.2.2.2.1.2.2.2.2.2.2.2.2.2.2.1 z.2.2.2.2.1.2.2.2.2.2.2.2.2.2.2.2.1 z.2.2.2.2.1.2.2.2.2.2.2.2.2.2.2.2.2.1 z.2.2.2.2.1.2.2.2.2.2.2.2.2.2.2.2.2.2.1 z.2.2.2.2.1.2.2.2.2.2.2.2.2.2.2.2.2.2.2.1 z.2.2.2.2.1.2.2.2.2.2.2.2.2.2.2.2.2.2.2.2.1 z.2.2.2.2.2.1.1 z.2.2.2.2.2.1.2.1 z.2.2.2.2.2.1.2.2.1 z.2.2.2.2.2.1.2.2.2.1 z.2.2.2.2.2.1.2.2.2.2.1 z.2.2.2.2.2.1.2.2.2.2.2.1 z.2.2.2.2.2.1.2.2.2.2.2.2.1 z.2.2.2.2.2.1.2.2.2.2.2.2.2.1 z.2.2.2.2.2.1.2.2.2.2.2.2.2.2.1 z.2.2.2.2.2.1.2.2.2.2.2.2.2.2.2.1 z.2.2.2.2.2.1.2.2.2.2.2.2.2.2.2.2.1 z.2.2.2.2.2.1.2.2.2.2.2.2.2.2.2.2.2.1 z.2.2.2.2.2.1.2.2.2.2.2.2.2.2.2.2.2.2.1 z.2.2.2.2.2.1.2.2.2.2.2.2.2.2.2.2.2.2.2.1 z.2.2.2.2.2.1.2.2.2.2.2.2.2.2.2.2.2.2.2.2.1 z.2.2.2.2.2.1.2.2.2.2.2.2.2.2.2.2.2.2.2.2.2.1⟩
abbrev aKN (m0:Nat):Ct (X212 Ik) (Bb tEl s212.rs):=⟨[1,1,1,1,0,0,1,0,0,1,0,1,1,1],[.vf 3 .one [.rf 0 0],.vf 4 .one [.rf 1 0],.vf 7 .one [.rf 3 0],.vf 8 .one [.rf 4 0],.sl 0 (.one (.sl 3)),.sl 5 kI,.sl 9 kB,.bk 0 39 [.pl kI,.pl kS,.pl kI,.pl (.one (.sl 4)),.pl (.one (.sl 5)),.pl kB,.pl kB,.pl kB,.pl kB,.pl kI,.pl kS,.pl (.one (.sl 7)),.pl kI,.pl kS,.pl kI,.pl kI],.bk 1 53 [.pl kI,.pl kS,.pl kI,.pl (.one (.sl 4)),.pl (.one (.sl 5)),.pl kB,.pl kB,.pl kB,.pl kB,.pl kI,.pl kS,.pl (.one (.sl 7)),.pl kI,.pl kS,.pl kI,.pl kI],.bk 3 39 [.pl kI,.pl kS,.pl kI,.pl (.one (.sl 4)),.pl (.one (.sl 5)),.pl kB,.pl kB,.pl kB,.pl kB,.pl kI,.pl kS,.pl (.one (.sl 7)),.pl kI,.pl kS,.pl kI,.pl kI],.bk 4 53 [.pl kI,.pl kS,.pl kI,.pl (.one (.sl 4)),.pl (.one (.sl 5)),.pl kB,.pl kB,.pl kB,.pl kB,.pl kI,.pl kS,.pl (.one (.sl 7)),.pl kI,.pl kS,.pl kI,.pl kI]],fun z=>z,5,fun z=>cJ z.2.2.2.2.2.1 z.2.2.2.2.2.2.2.1.1 z.2.2.2.2.2.2.2.1.2.1 z.2.2.2.2.2.2.2.1.2.2.1 z.2.2.2.2.2.2.2.1.2.2.2.1 z.2.2.2.2.2.2.2.1.2.2.2.2.1 z.2.2.2.2.2.2.2.1.2.2.2.2.2.1 z.2.2.2.2.2.2.2.1.2.2.2.2.2.2.1 z.2.2.2.2.2.2.2.1.2.2.2.2.2.2.2.1 z.2.2.2.2.2.2.2.1.2.2.2.2.2.2.2.2.1 z.2.2.2.2.2.2.2.1.2.2.2.2.2.2.2.2.2.1 z.2.2.2.2.2.2.2.1.2.2.2.2.2.2.2.2.2.2.1 z.2.2.2.2.2.2.2.1.2.2.2.2.2.2.2.2.2.2.2.1 z.2.2.2.2.2.2.2.1.2.2.2.2.2.2.2.2.2.2.2.2.1 z.2.2.2.2.2.2.2.1.2.2.2.2.2.2.2.2.2.2.2.2.2.1 z.2.2.2.2.2.2.2.1.2.2.2.2.2.2.2.2.2.2.2.2.2.2.1 z.2.2.2.2.2.2.2.1.2.2.2.2.2.2.2.2.2.2.2.2.2.2.2.1 z.2.2.2.2.2.2.2.2.1.1 z.2.2.2.2.2.2.2.2.1.2.1 z.2.2.2.2.2.2.2.2.1.2.2.1 z.2.2.2.2.2.2.2.2.1.2.2.2.1 z.2.2.2.2.2.2.2.2.1.2.2.2.2.1 z.2.2.2.2.2.2.2.2.1.2.2.2.2.2.1 z.2.2.2.2.2.2.2.2.1.2.2.2.2.2.2.1 z.2.2.2.2.2.2.2.2.1.2.2.2.2.2.2.2.1 z.2.2.2.2.2.2.2.2.1.2.2.2.2.2.2.2.2.1 z.2.2.2.2.2.2.2.2.1.2.2.2.2.2.2.2.2.2.1 z.2.2.2.2.2.2.2.2.1.2.2.2.2.2.2.2.2.2.2.1 z.2.2.2.2.2.2.2.2.1.2.2.2.2.2.2.2.2.2.2.2.1 z.2.2.2.2.2.2.2.2.1.2.2.2.2.2.2.2.2.2.2.2.2.1 z.2.2.2.2.2.2.2.2.1.2.2.2.2.2.2.2.2.2.2.2.2.2.1 z.2.2.2.2.2.2.2.2.1.2.2.2.2.2.2.2.2.2.2.2.2.2.2.1 z.2.2.2.2.2.2.2.2.1.2.2.2.2.2.2.2.2.2.2.2.2.2.2.2.1 (bM z.2.2.2.2.1 m0) z.2.2.2.2.2.2.1 z.2.2.2.2.2.2.2.2.2.1.1 z.2.2.2.2.2.2.2.2.2.1.2.1 z.2.2.2.2.2.2.2.2.2.1.2.2.1 z.2.2.2.2.2.2.2.2.2.1.2.2.2.1 z.2.2.2.2.2.2.2.2.2.1.2.2.2.2.1 z.2.2.2.2.2.2.2.2.2.1.2.2.2.2.2.1 z.2.2.2.2.2.2.2.2.2.1.2.2.2.2.2.2.1 z.2.2.2.2.2.2.2.2.2.1.2.2.2.2.2.2.2.1 z.2.2.2.2.2.2.2.2.2.1.2.2.2.2.2.2.2.2.1 z.2.2.2.2.2.2.2.2.2.1.2.2.2.2.2.2.2.2.2.1 z.2.2.2.2.2.2.2.2.2.1.2.2.2.2.2.2.2.2.2.2.1 z.2.2.2.2.2.2.2.2.2.1.2.2.2.2.2.2.2.2.2.2.2.1 z.2.2.2.2.2.2.2.2.2.1.2.2.2.2.2.2.2.2.2.2.2.2.1 z.2.2.2.2.2.2.2.2.2.1.2.2.2.2.2.2.2.2.2.2.2.2.2.1 z.2.2.2.2.2.2.2.2.2.1.2.2.2.2.2.2.2.2.2.2.2.2.2.2.1 z.2.2.2.2.2.2.2.2.2.1.2.2.2.2.2.2.2.2.2.2.2.2.2.2.2.1 z.2.2.2.2.2.2.2.2.2.2.1.1 z.2.2.2.2.2.2.2.2.2.2.1.2.1 z.2.2.2.2.2.2.2.2.2.2.1.2.2.1 z.2.2.2.2.2.2.2.2.2.2.1.2.2.2.1 z.2.2.2.2.2.2.2.2.2.2.1.2.2.2.2.1 z.2.2.2.2.2.2.2.2.2.2.1.2.2.2.2.2.1 z.2.2.2.2.2.2.2.2.2.2.1.2.2.2.2.2.2.1 z.2.2.2.2.2.2.2.2.2.2.1.2.2.2.2.2.2.2.1 z.2.2.2.2.2.2.2.2.2.2.1.2.2.2.2.2.2.2.2.1 z.2.2.2.2.2.2.2.2.2.2.1.2.2.2.2.2.2.2.2.2.1 z.2.2.2.2.2.2.2.2.2.2.1.2.2.2.2.2.2.2.2.2.2.1 z.2.2.2.2.2.2.2.2.2.2.1.2.2.2.2.2.2.2.2.2.2.2.1 z.2.2.2.2.2.2.2.2.2.2.1.2.2.2.2.2.2.2.2.2.2.2.2.1 z.2.2.2.2.2.2.2.2.2.2.1.2.2.2.2.2.2.2.2.2.2.2.2.2.1 z.2.2.2.2.2.2.2.2.2.2.1.2.2.2.2.2.2.2.2.2.2.2.2.2.2.1 z.2.2.2.2.2.2.2.2.2.2.1.2.2.2.2.2.2.2.2.2.2.2.2.2.2.2.1⟩
theorem t212_1 {O:aR} {r:Bb tEl s212.rs} (m0:Nat) (e0:SndW (W212 Ik f3) O r (aCn m0)):SndW (W212 Ik f3) O r (aKN m0):=fF (W:=(W212 Ik f3)) h212 (aKN m0) [aCn m0] ⟨e0,trivial⟩
theorem t212_0 {O:aR} {r:Bb tEl s212.rs}:∀ m0,SndW (W212 Ik f3) O r (aCn m0):=bH (W:=(W212 Ik f3)) h212 (fun m0=>aCn m0) (fun m0=>[aCn m0,aKN m0]) (fun m0 e0=>⟨e0,(t212_1 m0 e0),trivial⟩)
theorem o212:CsOk Ik tCod 3 s212:=bR (W:=(W212 Ik f3)) h212 func3 rfl [aCn fuel] (fun O r _=>⟨(t212_0 fuel),trivial⟩)
theorem uA (a0:(List dB)) (r:Bool) (h:fR a0=some r):eL Ik 3 [.slice false (a0.map oL.d)] (.bool r):=Dl o212 (a0,()) r h (by kernel_rfl) (by kernel_rfl)
end Go.Proofs.YtpommoochmmmmaaGreat
