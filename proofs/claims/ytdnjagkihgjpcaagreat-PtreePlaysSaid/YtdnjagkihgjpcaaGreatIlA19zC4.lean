/-
  A part of the proof: rules and plain facts. No condition.
-/
import Derived.Test.YtdnjagkihgjpcaaGreatProg
import Derived.KernelRfl
import Derived.Test.YtdnjagkihgjpcaaGreatIlSo
import Derived.Test.YtdnjagkihgjpcaaGreatIlIt19z
import Derived.Test.YtdnjagkihgjpcaaGreatIlA19zC3
set_option linter.all false
set_option maxRecDepth 8000
set_option maxHeartbeats 2000000
open Go Go.IL Go.Fn Go.Proofs
open Go.Proofs.Tryz
namespace Go.Proofs.YtdnjagkihgjpcaaGreat
theorem ti37:TI prog 37 (some (.agg #[.int .u8 0,.int .i64 0,.int .i64 0,.int .i64 0,.bool false])) 5 40:=by unfold TI; kernel_rfl
theorem ag37:jL prog 37=true:=by kernel_rfl
theorem cl4:bM prog 4:=⟨f4,func4,rfl,rfl⟩
theorem cl6:bM prog 6:=⟨f6,func6,rfl,rfl⟩
theorem cl7:bM prog 7:=⟨f7,func7,rfl,rfl⟩
theorem cl8:bM prog 8:=⟨f8,func8,rfl,rfl⟩
theorem cl16:bM prog 16:=⟨f16,func16,rfl,rfl⟩
theorem cl18:bM prog 18:=⟨f18,func18,rfl,rfl⟩
theorem cl20:bM prog 20:=⟨f20,func20,rfl,rfl⟩
theorem cl27:bM prog 27:=⟨f27,func27,rfl,rfl⟩
theorem cl28:bM prog 28:=⟨f28,func28,rfl,rfl⟩
theorem cl29:bM prog 29:=⟨f29,func29,rfl,rfl⟩
theorem cl30:bM prog 30:=⟨f30,func30,rfl,rfl⟩
theorem cl37:bM prog 37:=⟨f37,func37,rfl,rfl⟩
theorem cl38:bM prog 38:=⟨f38,func38,rfl,rfl⟩
theorem cl45:bM prog 45:=⟨f45,func45,rfl,rfl⟩
theorem cl46:bM prog 46:=⟨f46,func46,rfl,rfl⟩
theorem cl47:bM prog 47:=⟨f47,func47,rfl,rfl⟩
theorem cl48:bM prog 48:=⟨f48,func48,rfl,rfl⟩
theorem cl64:bM prog 64:=⟨f64,func64,rfl,rfl⟩
def la24:=LA.mk underlying24 ag24 ti24 (by decide)
def la52:=LA.mk underlying52 ag52 ti52 (by decide)


theorem kQ (a0:aL) (a1:Int) (r:aL) (h:eM a0 a1=some r):eJ prog 46 [.agg (v0 a0),.int .i64 a1] (.agg (v0 r)):=by
 refine bS (rs:=[.agg (v0 r)]) func46 M ntmps46 (nle M) M fun O hO=>?_
 show IWP _ _ _ _ ⟨[(0,.agg (v0 a0)),(1,.int .i64 a1)],[]⟩ _
 unfold eM at h
 refine aD (aA M (cY (cs:=q10) 0 M M (lb M) M (svA q10 M) M M)<|aA M (dA (cs:=q13) (cs':=(w25 0 0 ([]:List aN) ([]:List Int))) 1 M M (lb M) M ti32 M M (.k (.k (.cons (.nils _) (.cons (.nils _) .nil)))))<|aC ?_)
 obtain ⟨x1,hx1,h⟩:=aR h
 obtain ⟨x2,hx2,h⟩:=aR h
 refine jK M [⟨[2],[],[(13,.ref 0 2)],[]⟩,
  ⟨[13],[0],[(14,.slice false (a0.L.map aM.d))],[]⟩,
  ⟨[2],[0],[(15,.agg (v0 a0))],[]⟩,
  ⟨[1],[],[(16,.int .i64 a1)],[]⟩,
  ⟨[15,16],[],[(17,.int .i64 x1)],[]⟩,
  ⟨[14,17],[],[(18,.fptr (v3 x2))],[]⟩,
  ⟨[18],[],[(19,.agg (v3 x2))],[]⟩,
  ⟨[],[2],[(5,.ref 2 0)],[(2,.blk 52 (w27 0 0 0 false))]⟩,
  ⟨[5,19],[2],[],[(2,.blk 52 (v3 x2))]⟩] M ?_ (by kernel_rfl) ?_
 ·refine .cons (lop M M fun S hA=>(aS M M (lb M) underlying32 M ti30 (by decide) (svaR hA M M) (off':=2) M)) ?_
  refine .cons (lop M M fun S hA=>(aI (d:=.slice _ _) M M (lb M) underlying30 ag30 ti30 (by decide) (svaR hA M M) (agi hA M M) (nle M) M)) ?_
  refine .cons (lop M M fun S hA=>(dX (cs:=q10) M M (lb M) underlying32 ag32 ti32 (by decide) (svaR hA M M) (agi hA M M) (nle M) M)) ?_
  refine .cons (lop M M fun S hA=>(aP M M (lb M) (svaI hA M M))) ?_
  refine .cons (lop M M fun S hA=>(bC (r:=.int _ _) M M (lb M) cl39 (.cons (svaA q10 hA M M) (.cons (svaI hA M M) .nil)) M (cA _ _ _ hx1))) ?_
  refine .cons (lop M M fun S hA=>(cM aM (cs:=q12) M M (lb M) underlying30 ti52 (svaL hA M M) (svaI hA M M) hx2 M M)) ?_
  refine .cons (lop M M fun S hA=>(fR (cs:=q12) M M (lb M) underlying52 ag52 ti52 (by decide) (sv (d:=.fptr q12) (agr hA M M)) (nle M) M)) ?_
  refine .cons (lop M M fun S hA=>(dA (cs:=q12) (cs':=(w27 0 0 0 false)) 2 M M (lb M) (agi hA M M) ti52 M M (.all _))) ?_
  refine .cons (lop M M fun S hA=>(cO (ds':=q12) M M ti52 (svaR hA M M) (agi hA M M) (svaA q12 hA M M) M M M (nle M) M)) ?_
  exact .nil
 obtain ⟨x3,hx3,h⟩:=aR h
 refine aD (aA M (lra q10 la32 M M M M M (nle M) M)<|aA M (mvI M M M M)<|aA M (bC (r:=.slice _ _) M M (lb M) cl20 (.cons (svA q10 M) (.cons (svI M) .nil)) M (iS _ _ _ hx3))<|aA M (aF M M (lb M) (svL M))<|aC ?_)
 refine aD (aA M (aF M M (lb M) (sv (d:=.int _ 0) M))<|aC ?_)
 refine aT ?_
 refine aD (aA M (aF M M (lb M) (sv (d:=.int _ 0) M))<|aC ?_)
 refine bA ?_
 refine cQ (α:=Nat × Int × Int) (fun z=>⟨[(1,.int .i64 a1),(2,.ref 0 0),(4,.ref 1 0),(5,.ref 2 0),(6,.slice false (x3.map (eInt .i64).d)),(7,.int .i64 z.2.1),(8,.int .i64 z.2.2)],[(0,.blk 32 (v0 a0)),(1,.blk 32 (w25 0 0 ([]:List aN) ([]:List Int))),(2,.blk 52 (v3 x2))]⟩) (fun z=>eO a0 a1 x2 x3 z.1 z.2.1 z.2.2=some r) (fun z=>z.1) (fuel,0,0) (fun i=>i) ⟨(.sames M M),(.cons (.blk M M M) (.cons (.blk M M M) (.cons (.blk M M M) .nil))),bD [0,1,2] M (by decide),fun _ _=>M⟩ ?_ ?_
 ·exact h
 ·
  rintro ⟨n0,v11,v12⟩ h
  cases n0 with
  | zero=>exact absurd h (by unfold eO; exact nofun)
  | succ n0 =>
   unfold eO at h
   refine aT ?_
   obtain ⟨x20,hx20,h⟩:=aY h
   refine aD (aA M (mvI M M M M)<|aA M (mvL M M M M)<|aA M (dE (eInt .i64) (l:=x3) M M (lb M) underlying24 (svL M))<|aA M (aQ M M (lb M) (svI M) (svI M) M hx20)<|aC ?_)
   refine aW (b:=_) M (fun hc21=>?_) (fun hc21=>?_)
   ·
    replace h:=cI h hc21
    refine aU ?_
    refine aO ?_
    refine aT ?_
    refine bA ?_
    obtain ⟨x22,hx22,h⟩:=aR h
    obtain ⟨x23,hx23,h⟩:=aR h
    obtain ⟨x24,hx24,h⟩:=aR h
    obtain ⟨x25,hx25,h⟩:=aY h
    refine jM M [⟨[7],[],[(29,.int .i64 v11)],[]⟩,
     ⟨[2],[],[(30,.ref 0 2)],[]⟩,
     ⟨[30],[0],[(31,.slice false (a0.L.map aM.d))],[]⟩,
     ⟨[2],[0],[(32,.agg (v0 a0))],[]⟩,
     ⟨[6],[],[(33,.slice false (x3.map (eInt .i64).d))],[]⟩,
     ⟨[8],[],[(34,.int .i64 v12)],[]⟩,
     ⟨[33,34],[],[(35,.fptr [.int .i64 x22])],[]⟩,
     ⟨[35],[],[(36,.int .i64 x22)],[]⟩,
     ⟨[32,36],[],[(37,.int .i64 x23)],[]⟩,
     ⟨[31,37],[],[(38,.fptr (v3 x24))],[]⟩,
     ⟨[38],[],[(39,.fptr [.int .i64 x24.Weight])],[]⟩,
     ⟨[39],[],[(40,.int .i64 x24.Weight)],[]⟩,
     ⟨[29,40],[],[(41,.int .i64 x25)],[]⟩,
     ⟨[41],[],[(7,.int .i64 x25)],[]⟩] M ?_ (by kernel_rfl) ?_
    ·refine .cons (lop M M fun S hA=>(aP M M (lb M) (svaI hA M M))) ?_
     refine .cons (lop M M fun S hA=>(aS M M (lb M) underlying32 M ti30 (by decide) (svaR hA M M) (off':=2) M)) ?_
     refine .cons (lop M M fun S hA=>(aI (d:=.slice _ _) M M (lb M) underlying30 ag30 ti30 (by decide) (svaR hA M M) (agi hA M M) (nle M) M)) ?_
     refine .cons (lop M M fun S hA=>(dX (cs:=q10) M M (lb M) underlying32 ag32 ti32 (by decide) (svaR hA M M) (agi hA M M) (nle M) M)) ?_
     refine .cons (lop M M fun S hA=>(aP M M (lb M) (svaL hA M M))) ?_
     refine .cons (lop M M fun S hA=>(aP M M (lb M) (svaI hA M M))) ?_
     refine .cons (lop M M fun S hA=>(cM (eInt .i64) (cs:=[.int _ _]) M M (lb M) underlying24 ti3 (svaL hA M M) (svaI hA M M) hx22 M M)) ?_
     refine .cons (lop M M fun S hA=>(cG M M (lb M) underlying3 ag3 ti3 (by decide) (sv (d:=.fptr [.int _ _]) (agr hA M M)) (nle M))) ?_
     refine .cons (lop M M fun S hA=>(bC (r:=.int _ _) M M (lb M) cl39 (.cons (svaA q10 hA M M) (.cons (svaI hA M M) .nil)) M (cA _ _ _ hx23))) ?_
     refine .cons (lop M M fun S hA=>(cM aM (cs:=q12) M M (lb M) underlying30 ti52 (svaL hA M M) (svaI hA M M) hx24 M M)) ?_
     refine .cons (lop M M fun S hA=>(cF (cs':=[.int _ _]) M M (lb M) underlying52 M ti3 (by decide) (sv (d:=.fptr q12) (agr hA M M)) M)) ?_
     refine .cons (lop M M fun S hA=>(cG M M (lb M) underlying3 ag3 ti3 (by decide) (sv (d:=.fptr [.int _ _]) (agr hA M M)) (nle M))) ?_
     refine .cons (lop M M fun S hA=>(cK M M (lb M) (svaI hA M M) (svaI hA M M) M hx25)) ?_
     refine .cons (lop M M fun S hA=>(aF M M (lb M) (svaI hA M M))) ?_
     exact .nil
    refine bL ?_
    refine aO ?_
    obtain ⟨x26,hx26,h⟩:=aY h
    refine aX (aA M (mvI M M M M)<|aA M (cK M M (lb M) (svI M) (sv (d:=.int _ 1) M) M hx26)<|aA M (asI M M M M)<|bK ?_)
    refine aO ⟨(n0,x25,x26),(fun i=>i),⟨(.sames M M),(.cons (.blk M M M) (.cons (.blk M M M) (.cons (.blk M M M) .nil))),bD [0,1,2] M (by decide),fun _ _=>M⟩,?_,?_⟩
    exact h
    exact Nat.lt_succ_self _
   ·
    replace h:=cJ h hc21
    refine cX ?_
    refine bR ?_
    refine bR ?_
    refine cZ ?_
    refine aO ?_
    refine aT ?_
    refine aD (aA M (aF M M (lb M) (sv (d:=.int _ 0) M))<|aC ?_)
    refine bA ?_
    refine cQ (α:=Nat × Int × Int × Int × (List aN) × (List Int)) (fun z=>⟨[(1,.int .i64 a1),(2,.ref 0 0),(4,.ref 1 0),(5,.ref 2 0),(6,.slice false (x3.map (eInt .i64).d)),(7,.int .i64 v11),(9,.int .i64 z.2.1)],[(0,.blk 32 (w25 z.2.2.1 z.2.2.2.1 z.2.2.2.2.1 z.2.2.2.2.2)),(1,.blk 32 (w25 0 0 ([]:List aN) ([]:List Int))),(2,.blk 52 (v3 x2))]⟩) (fun z=>dW a1 x2 x3 v11 z.1 z.2.1 z.2.2.1 z.2.2.2.1 z.2.2.2.2.1 z.2.2.2.2.2=some r) (fun z=>z.1) (fuel,0,a0.Room,a0.Keep,a0.L,a0.Closed) (fun i=>i) ⟨(.sames M M),(.cons (.blk M M M) (.cons (.blk M M M) (.cons (.blk M M M) .nil))),bD [0,1,2] M (by decide),fun _ _=>M⟩ ?_ ?_
    ·exact h
    ·
     rintro ⟨n1,v37,v38,v39,v40,v41⟩ h
     cases n1 with
     | zero=>exact absurd h (by unfold dW; exact nofun)
     | succ n1 =>
      unfold dW at h
      refine aT ?_
      obtain ⟨x52,hx52,h⟩:=aY h
      refine aD (aA M (mvI M M M M)<|aA M (mvL M M M M)<|aA M (dE (eInt .i64) (l:=x3) M M (lb M) underlying24 (svL M))<|aA M (aQ M M (lb M) (svI M) (svI M) M hx52)<|aC ?_)
      refine aW (b:=_) M (fun hc53=>?_) (fun hc53=>?_)
      ·
       replace h:=cI h hc53
       refine aU ?_
       refine aO ?_
       refine aT ?_
       refine bA ?_
       obtain ⟨x54,hx54,h⟩:=aR h
       obtain ⟨x55,hx55,h⟩:=aR h
       obtain ⟨x56,hx56,h⟩:=aR h
       refine jK M [⟨[2],[],[(48,.ref 0 2)],[]⟩,
        ⟨[48],[0],[(49,.slice false (v40.map aM.d))],[]⟩,
        ⟨[2],[0],[(50,.agg (w25 v38 v39 v40 v41))],[]⟩,
        ⟨[6],[],[(51,.slice false (x3.map (eInt .i64).d))],[]⟩,
        ⟨[9],[],[(52,.int .i64 v37)],[]⟩,
        ⟨[51,52],[],[(53,.fptr [.int .i64 x54])],[]⟩,
        ⟨[53],[],[(54,.int .i64 x54)],[]⟩,
        ⟨[50,54],[],[(55,.int .i64 x55)],[]⟩,
        ⟨[49,55],[],[(56,.fptr (v3 x56))],[]⟩,
        ⟨[56],[],[(57,.agg (v3 x56))],[]⟩,
        ⟨[],[3],[(10,.ref 3 0)],[(3,.blk 52 (w27 0 0 0 false))]⟩,
        ⟨[10,57],[3],[],[(3,.blk 52 (v3 x56))]⟩] M ?_ (by kernel_rfl) ?_
       ·refine .cons (lop M M fun S hA=>(aS M M (lb M) underlying32 M ti30 (by decide) (svaR hA M M) (off':=2) M)) ?_
        refine .cons (lop M M fun S hA=>(aI (d:=.slice _ _) M M (lb M) underlying30 ag30 ti30 (by decide) (svaR hA M M) (agi hA M M) (nle M) M)) ?_
        refine .cons (lop M M fun S hA=>(dX (cs:=q10) M M (lb M) underlying32 ag32 ti32 (by decide) (svaR hA M M) (agi hA M M) (nle M) M)) ?_
        refine .cons (lop M M fun S hA=>(aP M M (lb M) (svaL hA M M))) ?_
        refine .cons (lop M M fun S hA=>(aP M M (lb M) (svaI hA M M))) ?_
        refine .cons (lop M M fun S hA=>(cM (eInt .i64) (cs:=[.int _ _]) M M (lb M) underlying24 ti3 (svaL hA M M) (svaI hA M M) hx54 M M)) ?_
        refine .cons (lop M M fun S hA=>(cG M M (lb M) underlying3 ag3 ti3 (by decide) (sv (d:=.fptr [.int _ _]) (agr hA M M)) (nle M))) ?_
        refine .cons (lop M M fun S hA=>(bC (r:=.int _ _) M M (lb M) cl39 (.cons (svaA q10 hA M M) (.cons (svaI hA M M) .nil)) M (cA _ _ _ hx55))) ?_
        refine .cons (lop M M fun S hA=>(cM aM (cs:=q12) M M (lb M) underlying30 ti52 (svaL hA M M) (svaI hA M M) hx56 M M)) ?_
        refine .cons (lop M M fun S hA=>(fR (cs:=q12) M M (lb M) underlying52 ag52 ti52 (by decide) (sv (d:=.fptr q12) (agr hA M M)) (nle M) M)) ?_
        refine .cons (lop M M fun S hA=>(dA (cs:=q12) (cs':=(w27 0 0 0 false)) 3 M M (lb M) (agi hA M M) ti52 M M (.all _))) ?_
        refine .cons (lop M M fun S hA=>(cO (ds':=q12) M M ti52 (svaR hA M M) (agi hA M M) (svaA q12 hA M M) M M M (nle M) M)) ?_
        exact .nil
       refine aD (aA M (faR 1 M M M underlying52 M ti3 (lb M) M M)<|aA M (aI (d:=.int _ _) M M (lb M) underlying3 ag3 ti3 (by decide) (svR M) M (nle M) M)<|aA M (faR 1 M M M underlying52 M ti3 (lb M) M M)<|aA M (cO (ds':=q12) M M ti3 (svR M) M (svI M) M M M (nle M) M)<|aC ?_)
       obtain ⟨x57,hx57,h⟩:=aY h
       obtain ⟨x58,hx58,h⟩:=aR h
       obtain ⟨x59,hx59,h⟩:=aY h
       refine aD (aA M (faR 2 M M M underlying52 M ti3 (lb M) M M)<|aA M (aI (d:=.int _ _) M M (lb M) underlying3 ag3 ti3 (by decide) (svR M) M (nle M) M)<|aA M (faR 2 M M M underlying52 M ti3 (lb M) M M)<|aA M (aI (d:=.int _ _) M M (lb M) underlying3 ag3 ti3 (by decide) (svR M) M (nle M) M)<|aA M (cK M M (lb M) (svI M) (svI M) M hx57)<|aA M (mvI M M M M)<|aA M (vY M M (lb M) (svI M) (svI M) hx58)<|aA M (vZ M M (lb M) (sv (d:=.int _ 1) M) (svI M) hx59)<|aA M (faR 2 M M M underlying52 M ti3 (lb M) M M)<|aA M (cO (ds':=q12) M M ti3 (svR M) M (svI M) M M M (nle M) M)<|aC ?_)
       obtain ⟨x60,hx60,h⟩:=aR h
       refine aX (aA M (lra q10 la32 M M M M M (nle M) M)<|aA M (lra q12 la52 M M M M M (nle M) M)<|aA M (bC (r:=.agg q10) M M (lb M) cl48 (.cons (svA q10 M) (.cons (svA q12 M) .nil)) M (gX _ _ _ hx60))<|aA M (stA q10 q10 ti32 M M M M M M M M (nle M) M)<|bK ?_)
       refine bL ?_
       refine aO ?_
       obtain ⟨x61,hx61,h⟩:=aY h
       refine aX (aA M (mvI M M M M)<|aA M (cK M M (lb M) (svI M) (sv (d:=.int _ 1) M) M hx61)<|aA M (asI M M M M)<|bK ?_)
       refine aO ⟨(n1,x61,x60.Room,x60.Keep,x60.L,x60.Closed),(fun i=>i),⟨(.sames M M),(.cons (.blk M M M) (.cons (.blk M M M) (.cons (.blk M M M) .nil))),bD [0,1,2] M (by decide),fun _ _=>M⟩,?_,?_⟩
       exact h
       exact Nat.lt_succ_self _
      ·
       replace h:=cJ h hc53
       refine cX ?_
       refine bR ?_
       refine bR ?_
       refine cZ ?_
       refine aO ?_
       refine aD (aA M (aF M M (lb M) (sv (d:=.nils) M))<|aC ?_)
       refine aT ?_
       refine aD (aA M (aF M M (lb M) (sv (d:=.int _ 0) M))<|aC ?_)
       refine bA ?_
       refine cQ (α:=Nat × (List aN) × Int) (fun z=>⟨[(1,.int .i64 a1),(2,.ref 0 0),(4,.ref 1 0),(11,.gsl 23 aM.sz (z.2.1.map aM.d)),(12,.int .i64 z.2.2)],[(0,.blk 32 (w25 v38 v39 v40 v41)),(1,.blk 32 (w25 0 0 ([]:List aN) ([]:List Int))),(23,.tail 52 aM.sz z.2.1.length)]⟩) (fun z=>dV a1 v38 v39 v40 v41 z.1 z.2.1 z.2.2=some r) (fun z=>z.1) (fuel,([]:(List aN)),0) (fun i=>if i=23 then 76 else i) ⟨(.s M M (.s M M (.s M M (.cons (.nils M) (.sames M M))))),(.cons (.blk M M M) (.cons (.blk M M M) (.cons (.nils M) .nil))),bD [0,1,76] M (by decide),(fun i hi=>by first | rfl | (show (if _ then _ else _)=_; (repeat' split) <;> omega))⟩ ?_ ?_
       ·exact h
       ·
        rintro ⟨n2,v71,v72⟩ h
        cases n2 with
        | zero=>exact absurd h (by unfold dV; exact nofun)
        | succ n2 =>
         unfold dV at h
         refine aT ?_
         obtain ⟨x82,hx82,h⟩:=aY h
         refine aD (aA M (mvI M M M M)<|aA M (faR 2 M M M underlying32 M ti30 (lb M) M M)<|aA M (lrL la30 M M M M M (nle M) M)<|aA M (dE aM (l:=v40) M M (lb M) underlying30 (svL M))<|aA M (aQ M M (lb M) (svI M) (svI M) M hx82)<|aC ?_)
         refine aW (b:=_) M (fun hc83=>?_) (fun hc83=>?_)
         ·
          replace h:=cI h hc83
          refine aU ?_
          refine aO ?_
          refine aT ?_
          refine bA ?_
          obtain ⟨x84,hx84,h⟩:=aR h
          obtain ⟨x85,hx85,h⟩:=aY h
          refine aD (aA M (faR 2 M M M underlying32 M ti30 (lb M) M M)<|aA M (lrL la30 M M M M M (nle M) M)<|aA M (mvI M M M M)<|aA M (cM aM (cs:=q12) M M (lb M) underlying30 ti52 (svL M) (svI M) hx84 M M)<|aA M (cF (cs':=[.int _ _]) M M (lb M) underlying52 M ti3 (by decide) (sv (d:=.fptr q12) M) M)<|aA M (cG M M (lb M) underlying3 ag3 ti3 (by decide) (sv (d:=.fptr [.int _ _]) M) (nle M))<|aA M (mvI M M M M)<|aA M (aQ M M (lb M) (svI M) (svI M) M hx85)<|aC ?_)
          refine aW (b:=_) M (fun hc86=>?_) (fun hc86=>?_)
          ·
           replace h:=cI h hc86
           obtain ⟨x87,hx87,h⟩:=aR h
           obtain ⟨x88,hx88,h⟩:=aR h
           refine aX (aA M (aP M M (lb M) (sv (d:=.gsl _ _ _) M))<|aA M (faR 2 M M M underlying32 M ti30 (lb M) M M)<|aA M (lrL la30 M M M M M (nle M) M)<|aA M (mvI M M M M)<|aA M (cM aM (cs:=q12) M M (lb M) underlying30 ti52 (svL M) (svI M) hx87 M M)<|aA M (fR (cs:=q12) M M (lb M) underlying52 ag52 ti52 (by decide) (sv (d:=.fptr q12) M) (nle M) M)<|aA M (oO aM ([x87]:(List aN)) 24 M M (lb M) underlying30 ti52 M (.cons (svA q12 M) .nil) M M (by decide))<|aA M (nL aM 25 M M (lb M) underlying30 ti52 M M M M (svg M) hx88)<|aA M (aF M M (lb M) (sv (d:=.gsl _ _ _) M))<|bK ?_)
           refine bL ?_
           refine aO ?_
           obtain ⟨x89,hx89,h⟩:=aY h
           refine aX (aA M (mvI M M M M)<|aA M (cK M M (lb M) (svI M) (sv (d:=.int _ 1) M) M hx89)<|aA M (asI M M M M)<|bK ?_)
           refine aO ⟨(n2,x88,x89),(fun i=>if i=23 then 25 else i),⟨(.sames M M),(.cons (.blk M M M) (.cons (.blk M M M) (.cons (.tail M) .nil))),bD [0,1,25] M (by decide),(fun i hi=>by first | rfl | (show (if _ then _ else _)=_; (repeat' split) <;> omega))⟩,?_,?_⟩
           exact h
           exact Nat.lt_succ_self _
          ·
           replace h:=cJ h hc86
           refine aU ?_
           refine bL ?_
           refine aO ?_
           obtain ⟨x90,hx90,h⟩:=aY h
           refine aX (aA M (mvI M M M M)<|aA M (cK M M (lb M) (svI M) (sv (d:=.int _ 1) M) M hx90)<|aA M (asI M M M M)<|bK ?_)
           refine aO ⟨(n2,v71,x90),(fun i=>i),⟨(.sames M M),(.cons (.blk M M M) (.cons (.blk M M M) (.cons (.tail M) .nil))),bD [0,1,23] M (by decide),fun _ _=>M⟩,?_,?_⟩
           exact h
           exact Nat.lt_succ_self _
         ·
          replace h:=cJ h hc83
          refine cX ?_
          refine bR ?_
          refine bR ?_
          refine cZ ?_
          refine aO ?_
          refine aD (aA M (aP M M (lb M) (sv (d:=.gsl _ _ _) M))<|aA M (faR 2 M M M underlying32 M ti30 (lb M) M M)<|aA M (cO (ds':=q10) M M ti30 (svR M) M (svg M) M M M (nle M) M)<|aC ?_)
          obtain ⟨x91,hx91,h⟩:=aR h
          refine aD (aA M (faR 3 M M M underlying32 M ti24 (lb M) M M)<|aA M (lrL la24 M M M M M (nle M) M)<|aA M (mvI M M M M)<|aA M (bC (r:=.slice _ _) M M (lb M) cl64 (.cons (svL M) (.cons (svI M) .nil)) M (mV _ _ _ hx91))<|aA M (faR 3 M M M underlying32 M ti24 (lb M) M M)<|aA M (cO (ds':=q10) M M ti24 (svR M) M (svL M) M M M (nle M) M)<|aC ?_)
          refine aD (aA M (lra q10 la32 M M M M M (nle M) M)<|aA M (stA q10 q10 ti32 M M M M M M M M (nle M) M)<|aC ?_)
          refine bB ?_
          obtain rfl:=sj_ h
          refine ⟨.inr M,(.cons (rva la32 M M (nle M) M) .nil)⟩

theorem iR (a0:aL) (a1:Int) (r:(List Int)) (h:dZ a0 a1=some r):eJ prog 18 [.agg (v0 a0),.int .i64 a1] (.slice false (r.map (eInt .i64).d)):=by
 refine bS (rs:=[.slice false (r.map (eInt .i64).d)]) func18 M ntmps18 (nle M) M fun O hO=>?_
 show IWP _ _ _ _ ⟨[(0,.agg (v0 a0)),(1,.int .i64 a1)],[]⟩ _
 unfold dZ at h
 refine aD (aA M (cY (cs:=q10) 0 M M (lb M) M (svA q10 M) M M)<|aA M (aF M M (lb M) (sv (d:=.nils) M))<|aC ?_)
 refine aD (aA M (aF M M (lb M) (sv (d:=.nils) M))<|aC ?_)
 obtain ⟨x1,hx1,h⟩:=aR h
 refine aD (aA M (lra q10 la32 M M M M M (nle M) M)<|aA M (mvI M M M M)<|aA M (bC (r:=.int _ _) M M (lb M) cl39 (.cons (svA q10 M) (.cons (svI M) .nil)) M (cA _ _ _ hx1))<|aA M (asI M M M M)<|aC ?_)
 refine aT ?_
 refine aD (aA M (aF M M (lb M) (sv (d:=.int _ 0) M))<|aC ?_)
 refine bA ?_
 refine cQ (α:=Nat × (List Int) × Int × Int) (fun z=>⟨[(2,.ref 0 0),(5,.gsl 22 (eInt .i64).sz (z.2.1.map (eInt .i64).d)),(6,.int .i64 z.2.2.1),(7,.int .i64 z.2.2.2)],[(0,.blk 32 (v0 a0)),(22,.tail 3 (eInt .i64).sz z.2.1.length)]⟩) (fun z=>cV a0 z.1 z.2.1 z.2.2.1 z.2.2.2=some r) (fun z=>z.1) (fuel,([]:(List Int)),x1,0) (fun i=>if i=22 then 73 else i) ⟨(.s M M (.cons (.nils M) (.sames M M))),(.cons (.blk M M M) (.cons (.nils M) .nil)),bD [0,73] M (by decide),(fun i hi=>by first | rfl | (show (if _ then _ else _)=_; (repeat' split) <;> omega))⟩ ?_ ?_
 ·exact h
 ·
  rintro ⟨n0,v16,v17,v18⟩ h
  cases n0 with
  | zero=>exact absurd h (by unfold cV; exact nofun)
  | succ n0 =>
   unfold cV at h
   refine aT ?_
   obtain ⟨x33,hx33,h⟩:=aY h
   obtain ⟨x34,hx34,h⟩:=aY h
   obtain ⟨x35,hx35,h⟩:=aY h
   refine aD (aA M (mvI M M M M)<|aA M (faR 2 M M M underlying32 M ti30 (lb M) M M)<|aA M (lrL la30 M M M M M (nle M) M)<|aA M (dE aM (l:=a0.L) M M (lb M) underlying30 (svL M))<|aA M (aQ M M (lb M) (svI M) (svI M) M hx33)<|aA M (mvB M M M M)<|aJ M M (.one M) M (by decide) (fun hb=>(mvI M M M M))<|aJ M M (.one M) M (by decide) (fun hb=>(aQ M M (lb M) (svcI M hb) (sv (d:=.int _ 0) M) M hx34))<|aA M (cU M M (lb M) (svB M) M M hx35)<|aC ?_)
   refine aW (b:=_) M (fun hc36=>?_) (fun hc36=>?_)
   ·
    replace h:=cI h hc36
    refine aU ?_
    refine aO ?_
    refine aT ?_
    refine bA ?_
    obtain ⟨x37,hx37,h⟩:=aR h
    refine aD (aA M (faR 2 M M M underlying32 M ti30 (lb M) M M)<|aA M (lrL la30 M M M M M (nle M) M)<|aA M (mvI M M M M)<|aA M (cM aM (cs:=q12) M M (lb M) underlying30 ti52 (svL M) (svI M) hx37 M M)<|aA M (cF (cs':=[.int _ _]) M M (lb M) underlying52 M ti3 (by decide) (sv (d:=.fptr q12) M) M)<|aA M (cG M M (lb M) underlying3 ag3 ti3 (by decide) (sv (d:=.fptr [.int _ _]) M) (nle M))<|aA M (asI M M M M)<|aC ?_)
    refine jR (α:=(List Int)) (fun z=>⟨[(2,.ref 0 0),(5,.gsl 24 (eInt .i64).sz (z.map (eInt .i64).d)),(7,.int .i64 v18),(8,.int .i64 x37.Parent)],[(0,.blk 32 (v0 a0)),(24,.tail 3 (eInt .i64).sz z.length)]⟩) (fun z=>eW a0 v18 (cV a0 n0) x37 z=some r) ?_ ?_
    ·
     obtain ⟨x44,hx44,h⟩:=aY h
     refine aD (aA M (mvI M M M M)<|aA M (aQ M M (lb M) (svI M) (sv (d:=.int _ 0) M) M hx44)<|aC ?_)
     refine aW (b:=_) M (fun hc45=>?_) (fun hc45=>?_)
     ·
      replace h:=cI h hc45
      obtain ⟨x46,hx46,h⟩:=aR h
      refine aX (aA M (aP M M (lb M) (sv (d:=.gsl _ _ _) M))<|aA M (mvI M M M M)<|aA M (oO (eInt .i64) ([x37.Parent]:(List Int)) 23 M M (lb M) underlying24 ti3 M (.cons (svI M) .nil) M M (by decide))<|aA M (nL (eInt .i64) 24 M M (lb M) underlying24 ti3 M M M M (svg M) hx46)<|aA M (aF M M (lb M) (sv (d:=.gsl _ _ _) M))<|bK ?_)
      refine aO ⟨x46,(fun i=>i),⟨(.sames M M),(.cons (.blk M M M) (.cons (.tail M) .nil)),bD [0,24] M (by decide),fun _ _=>M⟩,?_⟩
      exact h
     ·
      replace h:=cJ h hc45
      refine aU ?_
      refine aO ⟨v16,(fun i=>if i=24 then 22 else i),⟨(.sames M M),(.cons (.blk M M M) (.cons (.tail M) .nil)),bD [0,22] M (by decide),(fun i hi=>by first | rfl | (show (if _ then _ else _)=_; (repeat' split) <;> omega))⟩,?_⟩
      exact h
    ·
     rintro v41 h
     unfold eW at h
     obtain ⟨x42,hx42,h⟩:=aR h
     refine aX (aA M (lra q10 la32 M M M M M (nle M) M)<|aA M (mvI M M M M)<|aA M (bC (r:=.int _ _) M M (lb M) cl39 (.cons (svA q10 M) (.cons (svI M) .nil)) M (cA _ _ _ hx42))<|aA M (asI M M M M)<|bK ?_)
     refine bL ?_
     refine aO ?_
     obtain ⟨x43,hx43,h⟩:=aY h
     refine aX (aA M (mvI M M M M)<|aA M (cK M M (lb M) (svI M) (sv (d:=.int _ 1) M) M hx43)<|aA M (asI M M M M)<|bK ?_)
     refine aO ⟨(n0,v41,x42,x43),(fun i=>if i=22 then 24 else i),⟨(.sames M M),(.cons (.blk M M M) (.cons (.tail M) .nil)),bD [0,24] M (by decide),(fun i hi=>by first | rfl | (show (if _ then _ else _)=_; (repeat' split) <;> omega))⟩,?_,?_⟩
     exact h
     exact Nat.lt_succ_self _
   ·
    replace h:=cJ h hc36
    refine cX ?_
    refine bR ?_
    refine bR ?_
    refine cZ ?_
    refine aO ?_
    refine aD (aA M (aP M M (lb M) (sv (d:=.gsl _ _ _) M))<|aA M (aF M M (lb M) (sv (d:=.gsl _ _ _) M))<|aC ?_)
    refine bB ?_
    obtain rfl:=sj_ h
    refine ⟨.inr M,(.cons (wQ M M) .nil)⟩

theorem nD (a0:(List Int)) (a1:Int) (r:Bool) (h:jW a0 a1=some r):eJ prog 37 [.slice false (a0.map (eInt .i64).d),.int .i64 a1] (.bool r):=by
 refine bS (rs:=[.bool r]) func37 M ntmps37 (nle M) M fun O hO=>?_
 show IWP _ _ _ _ ⟨[(0,.slice false (a0.map (eInt .i64).d)),(1,.int .i64 a1)],[]⟩ _
 unfold jW at h
 refine aD (aA M (aF M M (lb M) (sv (d:=.bool false) M))<|aC ?_)
 refine aT ?_
 refine aD (aA M (aF M M (lb M) (sv (d:=.int _ 0) M))<|aC ?_)
 refine bA ?_
 refine cQ (α:=Nat × Int) (fun z=>⟨[(0,.slice false (a0.map (eInt .i64).d)),(1,.int .i64 a1),(5,.int .i64 z.2)],[]⟩) (fun z=>gQ a0 a1 z.1 z.2=some r) (fun z=>z.1) (fuel,0) (fun i=>i) ⟨(.sames M M),.nil,bD [] M (by decide),fun _ _=>M⟩ ?_ ?_
 ·exact h
 ·
  rintro ⟨n0,v7⟩ h
  cases n0 with
  | zero=>exact absurd h (by unfold gQ; exact nofun)
  | succ n0 =>
   unfold gQ at h
   refine aT ?_
   obtain ⟨x14,hx14,h⟩:=aY h
   refine aD (aA M (mvI M M M M)<|aA M (mvL M M M M)<|aA M (dE (eInt .i64) (l:=a0) M M (lb M) underlying24 (svL M))<|aA M (aQ M M (lb M) (svI M) (svI M) M hx14)<|aC ?_)
   refine aW (b:=_) M (fun hc15=>?_) (fun hc15=>?_)
   ·
    replace h:=cI h hc15
    refine aU ?_
    refine aO ?_
    refine aT ?_
    refine bA ?_
    obtain ⟨x16,hx16,h⟩:=aR h
    obtain ⟨x17,hx17,h⟩:=aY h
    refine aD (aA M (mvL M M M M)<|aA M (mvI M M M M)<|aA M (cM (eInt .i64) (cs:=[.int _ _]) M M (lb M) underlying24 ti3 (svL M) (svI M) hx16 M M)<|aA M (cG M M (lb M) underlying3 ag3 ti3 (by decide) (sv (d:=.fptr [.int _ _]) M) (nle M))<|aA M (mvI M M M M)<|aA M (aQ M M (lb M) (svI M) (svI M) M hx17)<|aC ?_)
    refine aW (b:=_) M (fun hc18=>?_) (fun hc18=>?_)
    ·
     replace h:=cI h hc18
     refine aD (aA M (aF M M (lb M) (sv (d:=.bool true) M))<|aC ?_)
     refine bB ?_
     refine dC ?_
     refine bH ?_
     refine bH ?_
     refine dC ?_
     refine bH ?_
     obtain rfl:=sj_ h
     refine ⟨.inr M,(.cons (sv M) .nil)⟩
    ·
     replace h:=cJ h hc18
     refine aU ?_
     refine bL ?_
     refine aO ?_
     obtain ⟨x19,hx19,h⟩:=aY h
     refine aX (aA M (mvI M M M M)<|aA M (cK M M (lb M) (svI M) (sv (d:=.int _ 1) M) M hx19)<|aA M (asI M M M M)<|bK ?_)
     refine aO ⟨(n0,x19),(fun i=>i),⟨(.sames M M),.nil,bD [] M (by decide),fun _ _=>M⟩,?_,?_⟩
     exact h
     exact Nat.lt_succ_self _
   ·
    replace h:=cJ h hc15
    refine cX ?_
    refine bR ?_
    refine bR ?_
    refine cZ ?_
    refine aO ?_
    refine aD (aA M (aF M M (lb M) (sv (d:=.bool false) M))<|aC ?_)
    refine bB ?_
    obtain rfl:=sj_ h
    refine ⟨.inr M,(.cons (sv M) .nil)⟩

theorem mF (a0:aL) (a1:Int) (a2:Int) (a3:Int) (a4:Bool) (r:aL) (h:dR a0 a1 a2 a3 a4=some r):eJ prog 47 [.agg (v0 a0),.int .i64 a1,.int .i64 a2,.int .i64 a3,.bool a4] (.agg (v0 r)):=by
 refine bS (rs:=[.agg (v0 r)]) func47 M ntmps47 (nle M) M fun O hO=>?_
 show IWP _ _ _ _ ⟨[(0,.agg (v0 a0)),(1,.int .i64 a1),(2,.int .i64 a2),(3,.int .i64 a3),(4,.bool a4)],[]⟩ _
 unfold dR at h
 refine aD (aA M (cY (cs:=q10) 0 M M (lb M) M (svA q10 M) M M)<|aA M (dA (cs:=q13) (cs':=(w25 0 0 ([]:List aN) ([]:List Int))) 1 M M (lb M) M ti32 M M (.k (.k (.cons (.nils _) (.cons (.nils _) .nil)))))<|aC ?_)
 refine jR (α:=Int × Int × Bool) (fun z=>⟨[(1,.int .i64 a1),(2,.int .i64 z.1),(3,.int .i64 z.2.1),(4,.bool z.2.2),(5,.ref 0 0),(10,.ref 1 0)],[(0,.blk 32 (v0 a0)),(1,.blk 32 (w25 0 0 ([]:List aN) ([]:List Int)))]⟩) (fun z=>gB a0 a1 z.1 z.2.1 z.2.2=some r) ?_ ?_
 ·
  obtain ⟨x59,hx59,h⟩:=aY h
  obtain ⟨x60,hx60,h⟩:=aR h
  obtain ⟨x61,hx61,h⟩:=aY h
  obtain ⟨x62,hx62,h⟩:=aY h
  refine aD (aA M (mvI M M M M)<|aA M (aQ M M (lb M) (svI M) (sv (d:=.int _ 0) M) M hx59)<|aA M (mvB M M M M)<|aJ M M (.one M) M (by decide) (fun hb=>(lra q10 la32 M M M M M (nle M) M))<|aJ M M (.one M) M (by decide) (fun hb=>(mvI M M M M))<|aJ M M (.one M) M (by decide) (fun hb=>(bC (r:=.int _ _) M M (lb M) cl39 (.cons (svcA (v0 a0) M hb) (.cons (svcI M hb) .nil)) M (cA _ _ _ (gd_t hx60 hb))))<|aJ M M (.one M) M (by decide) (fun hb=>(aQ M M (lb M) (svcI M hb) (sv (d:=.int _ 0) M) M hx61))<|aA M (cU M M (lb M) (svB M) M M hx62)<|aC ?_)
  refine aW (b:=_) M (fun hc63=>?_) (fun hc63=>?_)
  ·
   replace h:=cI h hc63
   refine aX (aA M (aF M M (lb M) (sv (d:=.int _ 0) M))<|aA M (aF M M (lb M) (sv (d:=.int _ 16) M))<|aA M (aF M M (lb M) (sv (d:=.bool false) M))<|bK ?_)
   refine aO ⟨(0,16,false),(fun i=>i),⟨(.sames M M),(.cons (.blk M M M) (.cons (.blk M M M) .nil)),bD [0,1] M (by decide),fun _ _=>M⟩,?_⟩
   exact h
  ·
   replace h:=cJ h hc63
   refine aU ?_
   refine aO ⟨(a2,a3,a4),(fun i=>i),⟨(.sames M M),(.cons (.blk M M M) (.cons (.blk M M M) .nil)),bD [0,1] M (by decide),fun _ _=>M⟩,?_⟩
   exact h
 ·
  rintro ⟨v6,v7,v8⟩ h
  unfold gB at h
  obtain ⟨x9,hx9,h⟩:=aR h
  obtain ⟨x10,hx10,h⟩:=aR h
  refine jK M [⟨[5],[],[(24,.ref 0 2)],[]⟩,
   ⟨[24],[0],[(25,.slice false (a0.L.map aM.d))],[]⟩,
   ⟨[5],[0],[(26,.agg (v0 a0))],[]⟩,
   ⟨[1],[],[(27,.int .i64 a1)],[]⟩,
   ⟨[26,27],[],[(28,.int .i64 x9)],[]⟩,
   ⟨[25,28],[],[(29,.fptr (v3 x10))],[]⟩,
   ⟨[29],[],[(30,.agg (v3 x10))],[]⟩,
   ⟨[],[2],[(11,.ref 2 0)],[(2,.blk 52 (w27 0 0 0 false))]⟩,
   ⟨[11,30],[2],[],[(2,.blk 52 (v3 x10))]⟩] M ?_ (by kernel_rfl) ?_
  ·refine .cons (lop M M fun S hA=>(aS M M (lb M) underlying32 M ti30 (by decide) (svaR hA M M) (off':=2) M)) ?_
   refine .cons (lop M M fun S hA=>(aI (d:=.slice _ _) M M (lb M) underlying30 ag30 ti30 (by decide) (svaR hA M M) (agi hA M M) (nle M) M)) ?_
   refine .cons (lop M M fun S hA=>(dX (cs:=q10) M M (lb M) underlying32 ag32 ti32 (by decide) (svaR hA M M) (agi hA M M) (nle M) M)) ?_
   refine .cons (lop M M fun S hA=>(aP M M (lb M) (svaI hA M M))) ?_
   refine .cons (lop M M fun S hA=>(bC (r:=.int _ _) M M (lb M) cl39 (.cons (svaA q10 hA M M) (.cons (svaI hA M M) .nil)) M (cA _ _ _ hx9))) ?_
   refine .cons (lop M M fun S hA=>(cM aM (cs:=q12) M M (lb M) underlying30 ti52 (svaL hA M M) (svaI hA M M) hx10 M M)) ?_
   refine .cons (lop M M fun S hA=>(fR (cs:=q12) M M (lb M) underlying52 ag52 ti52 (by decide) (sv (d:=.fptr q12) (agr hA M M)) (nle M) M)) ?_
   refine .cons (lop M M fun S hA=>(dA (cs:=q12) (cs':=(w27 0 0 0 false)) 2 M M (lb M) (agi hA M M) ti52 M M (.all _))) ?_
   refine .cons (lop M M fun S hA=>(cO (ds':=q12) M M ti52 (svaR hA M M) (agi hA M M) (svaA q12 hA M M) M M M (nle M) M)) ?_
   exact .nil
  refine jR (α:=Int × Int × (List aN) × (List Int)) (fun z=>⟨[(1,.int .i64 a1),(2,.int .i64 v6),(3,.int .i64 v7),(4,.bool v8),(5,.ref 0 0),(10,.ref 1 0),(11,.ref 2 0)],[(0,.blk 32 (w25 z.1 z.2.1 z.2.2.1 z.2.2.2)),(1,.blk 32 (w25 0 0 ([]:List aN) ([]:List Int))),(2,.blk 52 (v3 x10))]⟩) (fun z=>gA a1 v6 v7 v8 x10 z.1 z.2.1 z.2.2.1 z.2.2.2=some r) ?_ ?_
  ·
   obtain ⟨x53,hx53,h⟩:=aR h
   obtain ⟨x54,hx54,h⟩:=aR h
   refine aD (aA M (lra q10 la32 M M M M M (nle M) M)<|aA M (mvI M M M M)<|aA M (bC (r:=.slice _ _) M M (lb M) cl18 (.cons (svA q10 M) (.cons (svI M) .nil)) M (iR _ _ _ hx53))<|aA M (mvI M M M M)<|aA M (bC (r:=.bool _) M M (lb M) cl37 (.cons (svL M) (.cons (svI M) .nil)) M (nD _ _ _ hx54))<|aC ?_)
   refine aW (b:=_) M (fun hc55=>?_) (fun hc55=>?_)
   ·
    replace h:=cI h hc55
    obtain ⟨x56,hx56,h⟩:=aR h
    obtain ⟨x57,hx57,h⟩:=aR h
    refine jK M [⟨[5],[],[(36,.ref 0 2)],[]⟩,
     ⟨[36],[0],[(37,.slice false (a0.L.map aM.d))],[]⟩,
     ⟨[5],[0],[(38,.agg (v0 a0))],[]⟩,
     ⟨[2],[],[(39,.int .i64 v6)],[]⟩,
     ⟨[38,39],[],[(40,.int .i64 x56)],[]⟩,
     ⟨[37,40],[],[(41,.fptr (v3 x57))],[]⟩,
     ⟨[41],[],[(42,.agg (v3 x57))],[]⟩,
     ⟨[],[3],[(12,.ref 3 0)],[(3,.blk 52 (w27 0 0 0 false))]⟩,
     ⟨[12,42],[3],[],[(3,.blk 52 (v3 x57))]⟩] M ?_ (by kernel_rfl) ?_
    ·refine .cons (lop M M fun S hA=>(aS M M (lb M) underlying32 M ti30 (by decide) (svaR hA M M) (off':=2) M)) ?_
     refine .cons (lop M M fun S hA=>(aI (d:=.slice _ _) M M (lb M) underlying30 ag30 ti30 (by decide) (svaR hA M M) (agi hA M M) (nle M) M)) ?_
     refine .cons (lop M M fun S hA=>(dX (cs:=q10) M M (lb M) underlying32 ag32 ti32 (by decide) (svaR hA M M) (agi hA M M) (nle M) M)) ?_
     refine .cons (lop M M fun S hA=>(aP M M (lb M) (svaI hA M M))) ?_
     refine .cons (lop M M fun S hA=>(bC (r:=.int _ _) M M (lb M) cl39 (.cons (svaA q10 hA M M) (.cons (svaI hA M M) .nil)) M (cA _ _ _ hx56))) ?_
     refine .cons (lop M M fun S hA=>(cM aM (cs:=q12) M M (lb M) underlying30 ti52 (svaL hA M M) (svaI hA M M) hx57 M M)) ?_
     refine .cons (lop M M fun S hA=>(fR (cs:=q12) M M (lb M) underlying52 ag52 ti52 (by decide) (sv (d:=.fptr q12) (agr hA M M)) (nle M) M)) ?_
     refine .cons (lop M M fun S hA=>(dA (cs:=q12) (cs':=(w27 0 0 0 false)) 3 M M (lb M) (agi hA M M) ti52 M M (.all _))) ?_
     refine .cons (lop M M fun S hA=>(cO (ds':=q12) M M ti52 (svaR hA M M) (agi hA M M) (svaA q12 hA M M) M M M (nle M) M)) ?_
     exact .nil
    refine aD (aA M (faR 1 M M M underlying52 M ti3 (lb M) M M)<|aA M (aI (d:=.int _ _) M M (lb M) underlying3 ag3 ti3 (by decide) (svR M) M (nle M) M)<|aA M (faR 1 M M M underlying52 M ti3 (lb M) M M)<|aA M (cO (ds':=q12) M M ti3 (svR M) M (svI M) M M M (nle M) M)<|aC ?_)
    obtain ⟨x58,hx58,h⟩:=aR h
    refine aX (aA M (lra q10 la32 M M M M M (nle M) M)<|aA M (lra q12 la52 M M M M M (nle M) M)<|aA M (bC (r:=.agg q10) M M (lb M) cl48 (.cons (svA q10 M) (.cons (svA q12 M) .nil)) M (gX _ _ _ hx58))<|aA M (stA q10 q10 ti32 M M M M M M M M (nle M) M)<|bK ?_)
    refine aO ⟨(x58.Room,x58.Keep,x58.L,x58.Closed),(fun i=>i),⟨(.sames M M),(.cons (.blk M M M) (.cons (.blk M M M) (.cons (.blk M M M) .nil))),bD [0,1,2] M (by decide),fun _ _=>M⟩,?_⟩
    exact h
   ·
    replace h:=cJ h hc55
    refine aU ?_
    refine aO ⟨(a0.Room,a0.Keep,a0.L,a0.Closed),(fun i=>i),⟨(.sames M M),(.cons (.blk M M M) (.cons (.blk M M M) (.cons (.blk M M M) .nil))),bD [0,1,2] M (by decide),fun _ _=>M⟩,?_⟩
    exact h
  ·
   rintro ⟨v17,v18,v19,v20⟩ h
   unfold gA at h
   refine aD (aA M (mvI M M M M)<|aA M (mvI M M M M)<|aA M (faR 1 M M M underlying52 M ti3 (lb M) M M)<|aA M (cO (ds':=q12) M M ti3 (svR M) M (svI M) M M M (nle M) M)<|aA M (faR 2 M M M underlying52 M ti3 (lb M) M M)<|aA M (cO (ds':=q12) M M ti3 (svR M) M (svI M) M M M (nle M) M)<|aC ?_)
   obtain ⟨x21,hx21,h⟩:=aR h
   obtain ⟨x22,hx22,h⟩:=aR h
   refine aD (aA M (lra q10 la32 M M M M M (nle M) M)<|aA M (mvI M M M M)<|aA M (bC (r:=.slice _ _) M M (lb M) cl20 (.cons (svA q10 M) (.cons (svI M) .nil)) M (iS _ _ _ hx21))<|aA M (mvI M M M M)<|aA M (bC (r:=.slice _ _) M M (lb M) cl64 (.cons (svL M) (.cons (svI M) .nil)) M (mV _ _ _ hx22))<|aA M (aF M M (lb M) (svL M))<|aC ?_)
   refine aT ?_
   refine aD (aA M (aF M M (lb M) (sv (d:=.int _ 0) M))<|aC ?_)
   refine bA ?_
   refine cQ (α:=Nat × Int × Int × Int × (List aN) × (List Int)) (fun z=>⟨[(1,.int .i64 a1),(4,.bool v8),(5,.ref 0 0),(10,.ref 1 0),(11,.ref 2 0),(13,.slice false (x22.map (eInt .i64).d)),(14,.int .i64 z.2.1)],[(0,.blk 32 (w25 z.2.2.1 z.2.2.2.1 z.2.2.2.2.1 z.2.2.2.2.2)),(1,.blk 32 (w25 0 0 ([]:List aN) ([]:List Int))),(2,.blk 52 (w27 x10.ID v6 v7 x10.Closed))]⟩) (fun z=>dU a1 v6 v7 v8 x10 x22 z.1 z.2.1 z.2.2.1 z.2.2.2.1 z.2.2.2.2.1 z.2.2.2.2.2=some r) (fun z=>z.1) (fuel,0,v17,v18,v19,v20) (fun i=>i) ⟨(.sames M M),(.cons (.blk M M M) (.cons (.blk M M M) (.cons (.blk M M M) .nil))),bD [0,1,2] M (by decide),fun _ _=>M⟩ ?_ ?_
   ·exact h
   ·
    rintro ⟨n2,v31,v32,v33,v34,v35⟩ h
    cases n2 with
    | zero=>exact absurd h (by unfold dU; exact nofun)
    | succ n2 =>
     unfold dU at h
     refine aT ?_
     obtain ⟨x44,hx44,h⟩:=aY h
     obtain ⟨x45,hx45,h⟩:=aY h
     refine aD (aA M (mvI M M M M)<|aA M (mvL M M M M)<|aA M (dE (eInt .i64) (l:=x22) M M (lb M) underlying24 (svL M))<|aA M (aQ M M (lb M) (svI M) (svI M) M hx44)<|aA M (mvB M M M M)<|aJ M M (.one M) M (by decide) (fun hb=>(mvB M M M M))<|aA M (cU M M (lb M) (svB M) M M hx45)<|aC ?_)
     refine aW (b:=_) M (fun hc46=>?_) (fun hc46=>?_)
     ·
      replace h:=cI h hc46
      refine aU ?_
      refine aO ?_
      refine aT ?_
      refine bA ?_
      obtain ⟨x47,hx47,h⟩:=aR h
      obtain ⟨x48,hx48,h⟩:=aR h
      obtain ⟨x49,hx49,h⟩:=aR h
      refine jK M [⟨[5],[],[(67,.ref 0 2)],[]⟩,
       ⟨[67],[0],[(68,.slice false (v34.map aM.d))],[]⟩,
       ⟨[5],[0],[(69,.agg (w25 v32 v33 v34 v35))],[]⟩,
       ⟨[13],[],[(70,.slice false (x22.map (eInt .i64).d))],[]⟩,
       ⟨[14],[],[(71,.int .i64 v31)],[]⟩,
       ⟨[70,71],[],[(72,.fptr [.int .i64 x47])],[]⟩,
       ⟨[72],[],[(73,.int .i64 x47)],[]⟩,
       ⟨[69,73],[],[(74,.int .i64 x48)],[]⟩,
       ⟨[68,74],[],[(75,.fptr (v3 x49))],[]⟩,
       ⟨[75],[],[(76,.agg (v3 x49))],[]⟩,
       ⟨[],[3],[(15,.ref 3 0)],[(3,.blk 52 (w27 0 0 0 false))]⟩,
       ⟨[15,76],[3],[],[(3,.blk 52 (v3 x49))]⟩] M ?_ (by kernel_rfl) ?_
      ·refine .cons (lop M M fun S hA=>(aS M M (lb M) underlying32 M ti30 (by decide) (svaR hA M M) (off':=2) M)) ?_
       refine .cons (lop M M fun S hA=>(aI (d:=.slice _ _) M M (lb M) underlying30 ag30 ti30 (by decide) (svaR hA M M) (agi hA M M) (nle M) M)) ?_
       refine .cons (lop M M fun S hA=>(dX (cs:=q10) M M (lb M) underlying32 ag32 ti32 (by decide) (svaR hA M M) (agi hA M M) (nle M) M)) ?_
       refine .cons (lop M M fun S hA=>(aP M M (lb M) (svaL hA M M))) ?_
       refine .cons (lop M M fun S hA=>(aP M M (lb M) (svaI hA M M))) ?_
       refine .cons (lop M M fun S hA=>(cM (eInt .i64) (cs:=[.int _ _]) M M (lb M) underlying24 ti3 (svaL hA M M) (svaI hA M M) hx47 M M)) ?_
       refine .cons (lop M M fun S hA=>(cG M M (lb M) underlying3 ag3 ti3 (by decide) (sv (d:=.fptr [.int _ _]) (agr hA M M)) (nle M))) ?_
       refine .cons (lop M M fun S hA=>(bC (r:=.int _ _) M M (lb M) cl39 (.cons (svaA q10 hA M M) (.cons (svaI hA M M) .nil)) M (cA _ _ _ hx48))) ?_
       refine .cons (lop M M fun S hA=>(cM aM (cs:=q12) M M (lb M) underlying30 ti52 (svaL hA M M) (svaI hA M M) hx49 M M)) ?_
       refine .cons (lop M M fun S hA=>(fR (cs:=q12) M M (lb M) underlying52 ag52 ti52 (by decide) (sv (d:=.fptr q12) (agr hA M M)) (nle M) M)) ?_
       refine .cons (lop M M fun S hA=>(dA (cs:=q12) (cs':=(w27 0 0 0 false)) 3 M M (lb M) (agi hA M M) ti52 M M (.all _))) ?_
       refine .cons (lop M M fun S hA=>(cO (ds':=q12) M M ti52 (svaR hA M M) (agi hA M M) (svaA q12 hA M M) M M M (nle M) M)) ?_
       exact .nil
      refine aD (aA M (mvI M M M M)<|aA M (faR 1 M M M underlying52 M ti3 (lb M) M M)<|aA M (cO (ds':=q12) M M ti3 (svR M) M (svI M) M M M (nle M) M)<|aC ?_)
      obtain ⟨x50,hx50,h⟩:=aR h
      refine aX (aA M (lra q10 la32 M M M M M (nle M) M)<|aA M (lra q12 la52 M M M M M (nle M) M)<|aA M (bC (r:=.agg q10) M M (lb M) cl48 (.cons (svA q10 M) (.cons (svA q12 M) .nil)) M (gX _ _ _ hx50))<|aA M (stA q10 q10 ti32 M M M M M M M M (nle M) M)<|bK ?_)
      refine bL ?_
      refine aO ?_
      obtain ⟨x51,hx51,h⟩:=aY h
      refine aX (aA M (mvI M M M M)<|aA M (cK M M (lb M) (svI M) (sv (d:=.int _ 1) M) M hx51)<|aA M (asI M M M M)<|bK ?_)
      refine aO ⟨(n2,x51,x50.Room,x50.Keep,x50.L,x50.Closed),(fun i=>i),⟨(.sames M M),(.cons (.blk M M M) (.cons (.blk M M M) (.cons (.blk M M M) .nil))),bD [0,1,2] M (by decide),fun _ _=>M⟩,?_,?_⟩
      exact h
      exact Nat.lt_succ_self _
     ·
      replace h:=cJ h hc46
      refine cX ?_
      refine bR ?_
      refine bR ?_
      refine cZ ?_
      refine aO ?_
      obtain ⟨x52,hx52,h⟩:=aR h
      refine aD (aA M (lra q10 la32 M M M M M (nle M) M)<|aA M (lra q12 la52 M M M M M (nle M) M)<|aA M (bC (r:=.agg q10) M M (lb M) cl48 (.cons (svA q10 M) (.cons (svA q12 M) .nil)) M (gX _ _ _ hx52))<|aA M (stA q10 q10 ti32 M M M M M M M M (nle M) M)<|aC ?_)
      refine bB ?_
      obtain rfl:=sj_ h
      refine ⟨.inr M,(.cons (rva la32 M M (nle M) M) .nil)⟩

theorem lM (a0:aL) (a1:Int) (a2:Int) (a3:Int) (a4:Bool) (r:(aL × Int)) (h:fF a0 a1 a2 a3 a4=some r):eJ prog 27 [.agg (v0 a0),.int .i64 a1,.int .i64 a2,.int .i64 a3,.bool a4] (retD [.agg (v0 r.1),.int .i64 r.2]):=by
 refine bS (rs:=[.agg (v0 r.1),.int .i64 r.2]) func27 M ntmps27 (nle M) M fun O hO=>?_
 show IWP _ _ _ _ ⟨[(0,.agg (v0 a0)),(1,.int .i64 a1),(2,.int .i64 a2),(3,.int .i64 a3),(4,.bool a4)],[]⟩ _
 unfold fF at h
 refine aD (aA M (cY (cs:=q10) 0 M M (lb M) M (svA q10 M) M M)<|aA M (dA (cs:=q13) (cs':=(w25 0 0 ([]:List aN) ([]:List Int))) 1 M M (lb M) M ti32 M M (.k (.k (.cons (.nils _) (.cons (.nils _) .nil)))))<|aA M (aF M M (lb M) (sv (d:=.int _ 0) M))<|aC ?_)
 obtain ⟨x1,hx1,h⟩:=aR h
 refine aD (aA M (mvI M M M M)<|aA M (mvI M M M M)<|aA M (mvI M M M M)<|aA M (bC (r:=.int _ _) M M (lb M) cl45 (.cons (svI M) (.cons (svI M) (.cons (svI M) .nil))) M (nT _ _ _ _ hx1))<|aA M (asI M M M M)<|aC ?_)
 refine aT ?_
 refine bA ?_
 obtain ⟨x2,hx2,h⟩:=aY h
 refine aD (aA M (mvI M M M M)<|aA M (aQ M M (lb M) (svI M) (sv (d:=.int _ 0) M) M hx2)<|aA M (asB M M M M)<|aC ?_)
 refine aW (b:=_) M (fun hc3=>?_) (fun hc3=>?_)
 ·
  replace h:=cI h hc3
  refine aD (aA M (lra q10 la32 M M M M M (nle M) M)<|aA M (mvI M M M M)<|aA M (stA q10 q10 ti32 M M M M M M M M (nle M) M)<|aA M (asI M M M M)<|aC ?_)
  refine bB ?_
  refine dC ?_
  refine bH ?_
  obtain rfl:=sj_ h
  refine ⟨.inr M,(.cons (rva la32 M M (nle M) M) (.cons (sv M) .nil))⟩
 ·
  replace h:=cJ h hc3
  obtain ⟨x4,hx4,h⟩:=aR h
  obtain ⟨x5,hx5,h⟩:=aY h
  refine aD (aA M (lra q10 la32 M M M M M (nle M) M)<|aA M (mvI M M M M)<|aA M (bC (r:=.int _ _) M M (lb M) cl39 (.cons (svA q10 M) (.cons (svI M) .nil)) M (cA _ _ _ hx4))<|aA M (aQ M M (lb M) (svI M) (sv (d:=.int _ 0) M) M hx5)<|aA M (asB M M M M)<|aC ?_)
  refine aW (b:=_) M (fun hc6=>?_) (fun hc6=>?_)
  ·
   replace h:=cI h hc6
   refine aD (aA M (lra q10 la32 M M M M M (nle M) M)<|aA M (stA q10 q10 ti32 M M M M M M M M (nle M) M)<|aA M (aF M M (lb M) (sv (d:=.int _ 13) M))<|aC ?_)
   refine bB ?_
   refine dC ?_
   refine bH ?_
   obtain rfl:=sj_ h
   refine ⟨.inr M,(.cons (rva la32 M M (nle M) M) (.cons (sv M) .nil))⟩
  ·
   replace h:=cJ h hc6
   obtain ⟨x7,hx7,h⟩:=aY h
   obtain ⟨x8,hx8,h⟩:=aY h
   obtain ⟨x9,hx9,h⟩:=aY h
   refine aD (aA M (faR 2 M M M underlying32 M ti30 (lb M) M M)<|aA M (lrL la30 M M M M M (nle M) M)<|aA M (dE aM (l:=a0.L) M M (lb M) underlying30 (svL M))<|aA M (faR 0 M M M underlying32 M ti3 (lb M) M M)<|aA M (aI (d:=.int _ _) M M (lb M) underlying3 ag3 ti3 (by decide) (svR M) M (nle M) M)<|aA M (aQ M M (lb M) (svI M) (svI M) M hx7)<|aA M (mvB M M M M)<|aJ M M (.one M) M (by decide) (fun hb=>(faR 3 M M M underlying32 M ti24 (lb M) M M))<|aJ M M (.one M) M (by decide) (fun hb=>(aI (d:=.slice _ _) M M (lb M) underlying24 ag24 ti24 (by decide) (svcR M hb) M (nle M) M))<|aJ M M (.one M) M (by decide) (fun hb=>(dE (eInt .i64) (l:=a0.Closed) M M (lb M) underlying24 (svcL M hb)))<|aJ M M (.one M) M (by decide) (fun hb=>(aQ M M (lb M) (svcI M hb) (sv (d:=.int _ 0) M) M hx8))<|aA M (cU M M (lb M) (svB M) M M hx9)<|aA M (asB M M M M)<|aC ?_)
   refine aW (b:=_) M (fun hc10=>?_) (fun hc10=>?_)
   ·
    replace h:=cI h hc10
    refine aD (aA M (lra q10 la32 M M M M M (nle M) M)<|aA M (stA q10 q10 ti32 M M M M M M M M (nle M) M)<|aA M (aF M M (lb M) (sv (d:=.int _ 7) M))<|aC ?_)
    refine bB ?_
    refine dC ?_
    refine bH ?_
    obtain rfl:=sj_ h
    refine ⟨.inr M,(.cons (rva la32 M M (nle M) M) (.cons (sv M) .nil))⟩
   ·
    replace h:=cJ h hc10
    refine aU ?_
    refine bL ?_
    refine aO ?_
    refine jR (α:=Int × Int × (List aN) × (List Int)) (fun z=>⟨[(1,.int .i64 a1),(2,.int .i64 a2),(3,.int .i64 a3),(4,.bool a4),(5,.ref 0 0),(10,.ref 1 0)],[(0,.blk 32 (w25 z.1 z.2.1 z.2.2.1 z.2.2.2)),(1,.blk 32 (w25 0 0 ([]:List aN) ([]:List Int)))]⟩) (fun z=>fE a1 a2 a3 a4 z.1 z.2.1 z.2.2.1 z.2.2.2=some r) ?_ ?_
    ·
     obtain ⟨x44,hx44,h⟩:=aY h
     refine aD (aA M (faR 2 M M M underlying32 M ti30 (lb M) M M)<|aA M (lrL la30 M M M M M (nle M) M)<|aA M (dE aM (l:=a0.L) M M (lb M) underlying30 (svL M))<|aA M (faR 0 M M M underlying32 M ti3 (lb M) M M)<|aA M (aI (d:=.int _ _) M M (lb M) underlying3 ag3 ti3 (by decide) (svR M) M (nle M) M)<|aA M (aQ M M (lb M) (svI M) (svI M) M hx44)<|aC ?_)
     refine aW (b:=_) M (fun hc45=>?_) (fun hc45=>?_)
     ·
      replace h:=cI h hc45
      obtain ⟨x46,hx46,h⟩:=aR h
      obtain ⟨x47,hx47,h⟩:=aR h
      refine jM M [⟨[5],[0],[(50,.agg (v0 a0))],[]⟩,
       ⟨[5],[],[(51,.ref 0 3)],[]⟩,
       ⟨[51],[0],[(52,.slice false (a0.Closed.map (eInt .i64).d))],[]⟩,
       ⟨[52],[],[(53,.fptr [.int .i64 x46])],[]⟩,
       ⟨[53],[],[(54,.int .i64 x46)],[]⟩,
       ⟨[50,54],[],[(55,.agg (v0 x47))],[]⟩,
       ⟨[5,55],[0],[],[(0,.blk 32 (v0 x47))]⟩] M ?_ (by kernel_rfl) ?_
      ·refine .cons (lop M M fun S hA=>(dX (cs:=q10) M M (lb M) underlying32 ag32 ti32 (by decide) (svaR hA M M) (agi hA M M) (nle M) M)) ?_
       refine .cons (lop M M fun S hA=>(aS M M (lb M) underlying32 M ti24 (by decide) (svaR hA M M) (off':=3) M)) ?_
       refine .cons (lop M M fun S hA=>(aI (d:=.slice _ _) M M (lb M) underlying24 ag24 ti24 (by decide) (svaR hA M M) (agi hA M M) (nle M) M)) ?_
       refine .cons (lop M M fun S hA=>(cM (eInt .i64) (cs:=[.int _ _]) M M (lb M) underlying24 ti3 (svaL hA M M) (sv (d:=.int _ 0) M) hx46 M M)) ?_
       refine .cons (lop M M fun S hA=>(cG M M (lb M) underlying3 ag3 ti3 (by decide) (sv (d:=.fptr [.int _ _]) (agr hA M M)) (nle M))) ?_
       refine .cons (lop M M fun S hA=>(bC (r:=.agg q10) M M (lb M) cl46 (.cons (svaA q10 hA M M) (.cons (svaI hA M M) .nil)) M (kQ _ _ _ hx47))) ?_
       refine .cons (lop M M fun S hA=>(cO (ds':=q10) M M ti32 (svaR hA M M) (agi hA M M) (svaA q10 hA M M) M M M (nle M) M)) ?_
       exact .nil
      refine aO ⟨(x47.Room,x47.Keep,x47.L,x47.Closed),(fun i=>i),⟨(.sames M M),(.cons (.blk M M M) (.cons (.blk M M M) .nil)),bD [0,1] M (by decide),fun _ _=>M⟩,?_⟩
      exact h
     ·
      replace h:=cJ h hc45
      refine aU ?_
      refine aO ⟨(a0.Room,a0.Keep,a0.L,a0.Closed),(fun i=>i),⟨(.sames M M),(.cons (.blk M M M) (.cons (.blk M M M) .nil)),bD [0,1] M (by decide),fun _ _=>M⟩,?_⟩
      exact h
    ·
     rintro ⟨v15,v16,v17,v18⟩ h
     unfold fE at h
     refine aD (aA M (aF M M (lb M) (sv (d:=.nils) M))<|aC ?_)
     refine aD (aA M (aF M M (lb M) (sv (d:=.int _ 0) M))<|aC ?_)
     refine aT ?_
     refine bA ?_
     refine cQ (α:=Nat × Int) (fun z=>⟨[(1,.int .i64 a1),(2,.int .i64 a2),(3,.int .i64 a3),(4,.bool a4),(5,.ref 0 0),(10,.ref 1 0),(13,.nils),(14,.int .i64 z.2)],[(0,.blk 32 (w25 v15 v16 v17 v18)),(1,.blk 32 (w25 0 0 ([]:List aN) ([]:List Int)))]⟩) (fun z=>dQ a1 a2 a3 a4 v15 v16 v17 v18 z.1 z.2=some r) (fun z=>z.1) (fuel,0) (fun i=>i) ⟨(.sames M M),(.cons (.blk M M M) (.cons (.blk M M M) .nil)),bD [0,1] M (by decide),fun _ _=>M⟩ ?_ ?_
     ·exact h
     ·
      rintro ⟨n1,v25⟩ h
      cases n1 with
      | zero=>exact absurd h (by unfold dQ; exact nofun)
      | succ n1 =>
       unfold dQ at h
       refine aT ?_
       obtain ⟨x32,hx32,h⟩:=aY h
       obtain ⟨x33,hx33,h⟩:=aR h
       obtain ⟨x34,hx34,h⟩:=aY h
       obtain ⟨x35,hx35,h⟩:=aY h
       refine aD (aA M (mvI M M M M)<|aA M (faR 2 M M M underlying32 M ti30 (lb M) M M)<|aA M (lrL la30 M M M M M (nle M) M)<|aA M (dE aM (l:=v17) M M (lb M) underlying30 (svL M))<|aA M (aQ M M (lb M) (svI M) (svI M) M hx32)<|aA M (mvB M M M M)<|aJ M M (.one M) M (by decide) (fun hb=>(faR 2 M M M underlying32 M ti30 (lb M) M M))<|aJ M M (.one M) M (by decide) (fun hb=>(aI (d:=.slice _ _) M M (lb M) underlying30 ag30 ti30 (by decide) (svcR M hb) M (nle M) M))<|aJ M M (.one M) M (by decide) (fun hb=>(mvI M M M M))<|aJ M M (.one M) M (by decide) (fun hb=>(cM aM (cs:=q12) M M (lb M) underlying30 ti52 (svcL M hb) (svcI M hb) (gd_t hx33 hb) M M))<|aJ M M (.one M) M (by decide) (fun hb=>(cF (cs':=[.int _ _]) M M (lb M) underlying52 M ti3 (by decide) (svc (d:=.fptr q12) M hb) M))<|aJ M M (.one M) M (by decide) (fun hb=>(cG M M (lb M) underlying3 ag3 ti3 (by decide) (svc (d:=.fptr [.int _ _]) M hb) (nle M)))<|aJ M M (.one M) M (by decide) (fun hb=>(mvI M M M M))<|aJ M M (.one M) M (by decide) (fun hb=>(aQ M M (lb M) (svcI M hb) (svcI M hb) M hx34))<|aA M (cU M M (lb M) (svB M) M M hx35)<|aC ?_)
       refine aW (b:=_) M (fun hc36=>?_) (fun hc36=>?_)
       ·
        replace h:=cI h hc36
        refine aU ?_
        refine aO ?_
        refine bA ?_
        obtain ⟨x37,hx37,h⟩:=aY h
        refine aX (aA M (mvI M M M M)<|aA M (cK M M (lb M) (svI M) (sv (d:=.int _ 1) M) M hx37)<|aA M (asI M M M M)<|bK ?_)
        refine bL ?_
        refine aO ⟨(n1,x37),(fun i=>i),⟨(.sames M M),(.cons (.blk M M M) (.cons (.blk M M M) .nil)),bD [0,1] M (by decide),fun _ _=>M⟩,?_,?_⟩
        exact h
        exact Nat.lt_succ_self _
       ·
        replace h:=cJ h hc36
        refine cX ?_
        refine bR ?_
        refine bR ?_
        refine cZ ?_
        refine aO ?_
        obtain ⟨x38,hx38,h⟩:=aR h
        obtain ⟨x39,hx39,h⟩:=aR h
        obtain ⟨x40,hx40,h⟩:=aR h
        obtain ⟨x41,hx41,h⟩:=aR h
        obtain ⟨x42,hx42,h⟩:=aR h
        refine jK M [⟨[13],[],[(73,.nils)],[]⟩,
         ⟨[5],[],[(74,.ref 0 2)],[]⟩,
         ⟨[74],[0],[(75,.slice false (v17.map aM.d))],[]⟩,
         ⟨[14],[],[(76,.int .i64 v25)],[]⟩,
         ⟨[75,76],[],[(77,.slice false (x38.map aM.d))],[]⟩,
         ⟨[73,77],[2],[(78,.gsl 2 aM.sz (x39.map aM.d))],[(2,.tail 52 aM.sz x39.length)]⟩,
         ⟨[1],[],[(79,.int .i64 a1)],[]⟩,
         ⟨[79],[],[(80,.agg (w27 a1 (-1) 16 false))],[]⟩,
         ⟨[80],[3],[(81,.gsl 3 aM.sz ((([(⟨a1,(-1),16,false⟩:aN)]:(List aN))).map aM.d))],[(3,.tail 52 aM.sz (([(⟨a1,(-1),16,false⟩:aN)]:(List aN))).length)]⟩,
         ⟨[78,81],[2,4],[(82,.gsl 4 aM.sz (x40.map aM.d))],[(4,.tail 52 aM.sz x40.length),(2,.none)]⟩,
         ⟨[5],[],[(83,.ref 0 2)],[]⟩,
         ⟨[83],[0],[(84,.slice false (v17.map aM.d))],[]⟩,
         ⟨[14],[],[(85,.int .i64 v25)],[]⟩,
         ⟨[84,85],[],[(86,.slice false (x41.map aM.d))],[]⟩,
         ⟨[82,86],[4,5],[(87,.gsl 5 aM.sz (x42.map aM.d))],[(5,.tail 52 aM.sz x42.length),(4,.none)]⟩,
         ⟨[5],[],[(88,.ref 0 2)],[]⟩,
         ⟨[87,88],[0],[],[(0,.blk 32 (w25 v15 v16 x42 v18))]⟩] M ?_ (by kernel_rfl) ?_
        ·refine .cons (lop M M fun S hA=>(aP M M (lb M) (sv (d:=.nils) (agr hA M M)))) ?_
         refine .cons (lop M M fun S hA=>(aS M M (lb M) underlying32 M ti30 (by decide) (svaR hA M M) (off':=2) M)) ?_
         refine .cons (lop M M fun S hA=>(aI (d:=.slice _ _) M M (lb M) underlying30 ag30 ti30 (by decide) (svaR hA M M) (agi hA M M) (nle M) M)) ?_
         refine .cons (lop M M fun S hA=>(aP M M (lb M) (svaI hA M M))) ?_
         refine .cons (lop M M fun S hA=>(zV aM M M (lb M) underlying30 ti52 (svaL hA M M) M ⟨_,(svaI hA M M)⟩ hx38)) ?_
         refine .cons (lop M M fun S hA=>(xO aM (ys:=x38) 2 M M (lb M) underlying30 ti52 M (agr hA M M) (agi hA M M) (svaL hA M M) hx39)) ?_
         refine .cons (lop M M fun S hA=>(aP M M (lb M) (svaI hA M M))) ?_
         refine .cons (lop M M fun S hA=>(cP (cs:=q12) M M (lb M) underlying52 ti52 pl52 M (.cons (svaI hA M M) (.cons (sv (d:=.int _ (-1)) M) (.cons (sv (d:=.int _ 16) M) .nil))) M)) ?_
         refine .cons (lop M M fun S hA=>(oO aM ([(⟨a1,(-1),16,false⟩:aN)]:(List aN)) 3 M M (lb M) underlying30 ti52 (agi hA M M) (.cons (svaA q12 hA M M) .nil) M M (by decide))) ?_
         refine .cons (lop M M fun S hA=>(nL aM 4 M M (lb M) underlying30 ti52 M (agr hA M M) (agi hA M M) (agi hA M M) (svg (agr hA M M)) hx40)) ?_
         refine .cons (lop M M fun S hA=>(aS M M (lb M) underlying32 M ti30 (by decide) (svaR hA M M) (off':=2) M)) ?_
         refine .cons (lop M M fun S hA=>(aI (d:=.slice _ _) M M (lb M) underlying30 ag30 ti30 (by decide) (svaR hA M M) (agi hA M M) (nle M) M)) ?_
         refine .cons (lop M M fun S hA=>(aP M M (lb M) (svaI hA M M))) ?_
         refine .cons (lop M M fun S hA=>(zV aM M M (lb M) underlying30 ti52 (svaL hA M M) ⟨_,(svaI hA M M)⟩ M hx41)) ?_
         refine .cons (lop M M fun S hA=>(nL aM 5 M M (lb M) underlying30 ti52 M (agr hA M M) (agi hA M M) (agi hA M M) (svaL hA M M) hx42)) ?_
         refine .cons (lop M M fun S hA=>(aS M M (lb M) underlying32 M ti30 (by decide) (svaR hA M M) (off':=2) M)) ?_
         refine .cons (lop M M fun S hA=>(cO (ds':=q10) M M ti30 (svaR hA M M) (agi hA M M) (svg (agr hA M M)) M M M (nle M) M)) ?_
         exact .nil
        obtain ⟨x43,hx43,h⟩:=aR h
        refine aD (aA M (lra q10 la32 M M M M M (nle M) M)<|aA M (mvI M M M M)<|aA M (mvI M M M M)<|aA M (mvI M M M M)<|aA M (mvB M M M M)<|aA M (bC (r:=.agg q10) M M (lb M) cl47 (.cons (svA q10 M) (.cons (svI M) (.cons (svI M) (.cons (svI M) (.cons (svB M) .nil))))) M (mF _ _ _ _ _ _ hx43))<|aA M (stA q10 q10 ti32 M M M M M M M M (nle M) M)<|aA M (aF M M (lb M) (sv (d:=.int _ 0) M))<|aC ?_)
        refine bB ?_
        obtain rfl:=sj_ h
        refine ⟨.inr M,(.cons (rva la32 M M (nle M) M) (.cons (sv M) .nil))⟩

theorem pE (a0:aL) (a1:Int) (a2:Int) (a3:Int) (a4:Bool) (r:(aL × Int)) (h:gP a0 a1 a2 a3 a4=some r):eJ prog 28 [.agg (v0 a0),.int .i64 a1,.int .i64 a2,.int .i64 a3,.bool a4] (retD [.agg (v0 r.1),.int .i64 r.2]):=by
 refine bS (rs:=[.agg (v0 r.1),.int .i64 r.2]) func28 M ntmps28 (nle M) M fun O hO=>?_
 show IWP _ _ _ _ ⟨[(0,.agg (v0 a0)),(1,.int .i64 a1),(2,.int .i64 a2),(3,.int .i64 a3),(4,.bool a4)],[]⟩ _
 unfold gP at h
 refine aD (aA M (cY (cs:=q10) 0 M M (lb M) M (svA q10 M) M M)<|aA M (dA (cs:=q13) (cs':=(w25 0 0 ([]:List aN) ([]:List Int))) 1 M M (lb M) M ti32 M M (.k (.k (.cons (.nils _) (.cons (.nils _) .nil)))))<|aA M (aF M M (lb M) (sv (d:=.int _ 0) M))<|aC ?_)
 obtain ⟨x1,hx1,h⟩:=aR h
 refine aD (aA M (mvI M M M M)<|aA M (mvI M M M M)<|aA M (mvI M M M M)<|aA M (bC (r:=.int _ _) M M (lb M) cl45 (.cons (svI M) (.cons (svI M) (.cons (svI M) .nil))) M (nT _ _ _ _ hx1))<|aA M (asI M M M M)<|aC ?_)
 refine aT ?_
 refine bA ?_
 obtain ⟨x2,hx2,h⟩:=aY h
 refine aD (aA M (mvI M M M M)<|aA M (aQ M M (lb M) (svI M) (sv (d:=.int _ 0) M) M hx2)<|aA M (asB M M M M)<|aC ?_)
 refine aW (b:=_) M (fun hc3=>?_) (fun hc3=>?_)
 ·
  replace h:=cI h hc3
  refine aD (aA M (lra q10 la32 M M M M M (nle M) M)<|aA M (mvI M M M M)<|aA M (stA q10 q10 ti32 M M M M M M M M (nle M) M)<|aA M (asI M M M M)<|aC ?_)
  refine bB ?_
  refine dC ?_
  refine bH ?_
  obtain rfl:=sj_ h
  refine ⟨.inr M,(.cons (rva la32 M M (nle M) M) (.cons (sv M) .nil))⟩
 ·
  replace h:=cJ h hc3
  obtain ⟨x4,hx4,h⟩:=aR h
  obtain ⟨x5,hx5,h⟩:=aY h
  refine aD (aA M (lra q10 la32 M M M M M (nle M) M)<|aA M (mvI M M M M)<|aA M (bC (r:=.int _ _) M M (lb M) cl39 (.cons (svA q10 M) (.cons (svI M) .nil)) M (cA _ _ _ hx4))<|aA M (aQ M M (lb M) (svI M) (sv (d:=.int _ 0) M) M hx5)<|aA M (asB M M M M)<|aC ?_)
  refine aW (b:=_) M (fun hc6=>?_) (fun hc6=>?_)
  ·
   replace h:=cI h hc6
   obtain ⟨x7,hx7,h⟩:=aR h
   refine aD (aA M (lra q10 la32 M M M M M (nle M) M)<|aA M (mvI M M M M)<|aA M (mvI M M M M)<|aA M (mvI M M M M)<|aA M (mvB M M M M)<|aA M (bC (r:=.tuple q24) M M (lb M) cl27 (.cons (svA q10 M) (.cons (svI M) (.cons (svI M) (.cons (svI M) (.cons (svB M) .nil))))) M (lM _ _ _ _ _ _ hx7))<|aA M (cE (d:=.agg q10) M M (lb M) (sv (d:=.tuple q24) M) M)<|aA M (cE (d:=.int _ _) M M (lb M) (sv (d:=.tuple q24) M) M)<|aA M (stA q10 q10 ti32 M M M M M M M M (nle M) M)<|aA M (asI M M M M)<|aC ?_)
   refine bB ?_
   refine dC ?_
   refine bH ?_
   obtain rfl:=sj_ h
   refine ⟨.inr M,(.cons (rva la32 M M (nle M) M) (.cons (sv M) .nil))⟩
  ·
   replace h:=cJ h hc6
   refine aU ?_
   refine bL ?_
   refine aO ?_
   obtain ⟨x8,hx8,h⟩:=aR h
   refine aD (aA M (lra q10 la32 M M M M M (nle M) M)<|aA M (mvI M M M M)<|aA M (mvI M M M M)<|aA M (mvI M M M M)<|aA M (mvB M M M M)<|aA M (bC (r:=.agg q10) M M (lb M) cl47 (.cons (svA q10 M) (.cons (svI M) (.cons (svI M) (.cons (svI M) (.cons (svB M) .nil))))) M (mF _ _ _ _ _ _ hx8))<|aA M (stA q10 q10 ti32 M M M M M M M M (nle M) M)<|aA M (aF M M (lb M) (sv (d:=.int _ 0) M))<|aC ?_)
   refine bB ?_
   obtain rfl:=sj_ h
   refine ⟨.inr M,(.cons (rva la32 M M (nle M) M) (.cons (sv M) .nil))⟩

theorem oW (a0:aL) (a1:Int) (r:(aL × Int)) (h:hG a0 a1=some r):eJ prog 29 [.agg (v0 a0),.int .i64 a1] (retD [.agg (v0 r.1),.int .i64 r.2]):=by
 refine bS (rs:=[.agg (v0 r.1),.int .i64 r.2]) func29 M ntmps29 (nle M) M fun O hO=>?_
 show IWP _ _ _ _ ⟨[(0,.agg (v0 a0)),(1,.int .i64 a1)],[]⟩ _
 unfold hG at h
 refine aD (aA M (cY (cs:=q10) 0 M M (lb M) M (svA q10 M) M M)<|aA M (dA (cs:=q13) (cs':=(w25 0 0 ([]:List aN) ([]:List Int))) 1 M M (lb M) M ti32 M M (.k (.k (.cons (.nils _) (.cons (.nils _) .nil)))))<|aA M (aF M M (lb M) (sv (d:=.int _ 0) M))<|aC ?_)
 obtain ⟨x1,hx1,h⟩:=aR h
 refine aD (aA M (lra q10 la32 M M M M M (nle M) M)<|aA M (mvI M M M M)<|aA M (bC (r:=.int _ _) M M (lb M) cl39 (.cons (svA q10 M) (.cons (svI M) .nil)) M (cA _ _ _ hx1))<|aA M (asI M M M M)<|aC ?_)
 refine aT ?_
 obtain ⟨x2,hx2,h⟩:=aY h
 refine aD (aA M (mvI M M M M)<|aA M (aQ M M (lb M) (svI M) (sv (d:=.int _ 0) M) M hx2)<|aC ?_)
 refine aW (b:=_) M (fun hc3=>?_) (fun hc3=>?_)
 ·
  replace h:=cI h hc3
  refine aD (aA M (lra q10 la32 M M M M M (nle M) M)<|aA M (stA q10 q10 ti32 M M M M M M M M (nle M) M)<|aA M (aF M M (lb M) (sv (d:=.int _ 6) M))<|aC ?_)
  refine bB ?_
  refine bH ?_
  obtain rfl:=sj_ h
  refine ⟨.inr M,(.cons (rva la32 M M (nle M) M) (.cons (sv M) .nil))⟩
 ·
  replace h:=cJ h hc3
  refine aU ?_
  refine aO ?_
  obtain ⟨x4,hx4,h⟩:=aR h
  refine aD (aA M (faR 2 M M M underlying32 M ti30 (lb M) M M)<|aA M (lrL la30 M M M M M (nle M) M)<|aA M (mvI M M M M)<|aA M (cM aM (cs:=q12) M M (lb M) underlying30 ti52 (svL M) (svI M) hx4 M M)<|aA M (fR (cs:=q12) M M (lb M) underlying52 ag52 ti52 (by decide) (sv (d:=.fptr q12) M) (nle M) M)<|aA M (dA (cs:=q12) (cs':=(w27 0 0 0 false)) 2 M M (lb M) M ti52 M M (.all _))<|aA M (stA q12 q12 ti52 M M M M M M M M (nle M) M)<|aC ?_)
  refine aT ?_
  refine aD (aA M (faR 3 M M M underlying52 M ti4 (lb M) M M)<|aA M (aI (d:=.bool _) M M (lb M) underlying4 ag4 ti4 (by decide) (svR M) M (nle M) M)<|aC ?_)
  refine aW (b:=_) M (fun hc5=>?_) (fun hc5=>?_)
  ·
   replace h:=cI h hc5
   refine aD (aA M (lra q10 la32 M M M M M (nle M) M)<|aA M (stA q10 q10 ti32 M M M M M M M M (nle M) M)<|aA M (aF M M (lb M) (sv (d:=.int _ 9) M))<|aC ?_)
   refine bB ?_
   refine bH ?_
   obtain rfl:=sj_ h
   refine ⟨.inr M,(.cons (rva la32 M M (nle M) M) (.cons (sv M) .nil))⟩
  ·
   replace h:=cJ h hc5
   refine aU ?_
   refine aO ?_
   refine aD (aA M (faR 3 M M M underlying52 M ti4 (lb M) M M)<|aA M (cO (ds':=q12) M M ti4 (svR M) M (sv (d:=.bool true) M) M M M (nle M) M)<|aC ?_)
   obtain ⟨x6,hx6,h⟩:=aR h
   refine aD (aA M (lra q10 la32 M M M M M (nle M) M)<|aA M (lra q12 la52 M M M M M (nle M) M)<|aA M (bC (r:=.agg q10) M M (lb M) cl48 (.cons (svA q10 M) (.cons (svA q12 M) .nil)) M (gX _ _ _ hx6))<|aA M (stA q10 q10 ti32 M M M M M M M M (nle M) M)<|aC ?_)
   refine aD (aA M (aF M M (lb M) (sv (d:=.nils) M))<|aC ?_)
   obtain ⟨x7,hx7,h⟩:=aR h
   obtain ⟨x8,hx8,h⟩:=aR h
   refine aD (aA M (aP M M (lb M) (sv (d:=.nils) M))<|aA M (faR 3 M M M underlying32 M ti24 (lb M) M M)<|aA M (lrL la24 M M M M M (nle M) M)<|aA M (xO (eInt .i64) (ys:=x6.Closed) 3 M M (lb M) underlying24 ti3 M M M (svL M) hx7)<|aA M (mvI M M M M)<|aA M (oO (eInt .i64) ([a1]:(List Int)) 4 M M (lb M) underlying24 ti3 M (.cons (svI M) .nil) M M (by decide))<|aA M (nL (eInt .i64) 5 M M (lb M) underlying24 ti3 M M M M (svg M) hx8)<|aA M (faR 3 M M M underlying32 M ti24 (lb M) M M)<|aA M (cO (ds':=q10) M M ti24 (svR M) M (svg M) M M M (nle M) M)<|aC ?_)
   refine aT ?_
   obtain ⟨x9,hx9,h⟩:=aY h
   refine aD (aA M (faR 3 M M M underlying32 M ti24 (lb M) M M)<|aA M (lrL la24 M M M M M (nle M) M)<|aA M (dE (eInt .i64) (l:=x8) M M (lb M) underlying24 (svL M))<|aA M (faR 1 M M M underlying32 M ti3 (lb M) M M)<|aA M (aI (d:=.int _ _) M M (lb M) underlying3 ag3 ti3 (by decide) (svR M) M (nle M) M)<|aA M (aQ M M (lb M) (svI M) (svI M) M hx9)<|aC ?_)
   refine aW (b:=_) M (fun hc10=>?_) (fun hc10=>?_)
   ·
    replace h:=cI h hc10
    obtain ⟨x11,hx11,h⟩:=aR h
    obtain ⟨x12,hx12,h⟩:=aR h
    refine jM M [⟨[2],[0],[(41,.agg (w25 x6.Room x6.Keep x6.L x8))],[]⟩,
     ⟨[2],[],[(42,.ref 0 3)],[]⟩,
     ⟨[42],[0],[(43,.slice false (x8.map (eInt .i64).d))],[]⟩,
     ⟨[43],[],[(44,.fptr [.int .i64 x11])],[]⟩,
     ⟨[44],[],[(45,.int .i64 x11)],[]⟩,
     ⟨[41,45],[],[(46,.agg (v0 x12))],[]⟩,
     ⟨[2,46],[0],[],[(0,.blk 32 (v0 x12))]⟩] M ?_ (by kernel_rfl) ?_
    ·refine .cons (lop M M fun S hA=>(dX (cs:=q10) M M (lb M) underlying32 ag32 ti32 (by decide) (svaR hA M M) (agi hA M M) (nle M) M)) ?_
     refine .cons (lop M M fun S hA=>(aS M M (lb M) underlying32 M ti24 (by decide) (svaR hA M M) (off':=3) M)) ?_
     refine .cons (lop M M fun S hA=>(aI (d:=.slice _ _) M M (lb M) underlying24 ag24 ti24 (by decide) (svaR hA M M) (agi hA M M) (nle M) M)) ?_
     refine .cons (lop M M fun S hA=>(cM (eInt .i64) (cs:=[.int _ _]) M M (lb M) underlying24 ti3 (svaL hA M M) (sv (d:=.int _ 0) M) hx11 M M)) ?_
     refine .cons (lop M M fun S hA=>(cG M M (lb M) underlying3 ag3 ti3 (by decide) (sv (d:=.fptr [.int _ _]) (agr hA M M)) (nle M))) ?_
     refine .cons (lop M M fun S hA=>(bC (r:=.agg q10) M M (lb M) cl46 (.cons (svaA q10 hA M M) (.cons (svaI hA M M) .nil)) M (kQ _ _ _ hx12))) ?_
     refine .cons (lop M M fun S hA=>(cO (ds':=q10) M M ti32 (svaR hA M M) (agi hA M M) (svaA q10 hA M M) M M M (nle M) M)) ?_
     exact .nil
    refine aO ?_
    refine aD (aA M (lra q10 la32 M M M M M (nle M) M)<|aA M (stA q10 q10 ti32 M M M M M M M M (nle M) M)<|aA M (aF M M (lb M) (sv (d:=.int _ 0) M))<|aC ?_)
    refine bB ?_
    obtain rfl:=sj_ h
    refine ⟨.inr M,(.cons (rva la32 M M (nle M) M) (.cons (sv M) .nil))⟩
   ·
    replace h:=cJ h hc10
    refine aU ?_
    refine aO ?_
    refine aD (aA M (lra q10 la32 M M M M M (nle M) M)<|aA M (stA q10 q10 ti32 M M M M M M M M (nle M) M)<|aA M (aF M M (lb M) (sv (d:=.int _ 0) M))<|aC ?_)
    refine bB ?_
    obtain rfl:=sj_ h
    refine ⟨.inr M,(.cons (rva la32 M M (nle M) M) (.cons (sv M) .nil))⟩

theorem oN (a0:aL) (a1:Int) (r:(aL × Int)) (h:gV a0 a1=some r):eJ prog 30 [.agg (v0 a0),.int .i64 a1] (retD [.agg (v0 r.1),.int .i64 r.2]):=by
 refine bS (rs:=[.agg (v0 r.1),.int .i64 r.2]) func30 M ntmps30 (nle M) M fun O hO=>?_
 show IWP _ _ _ _ ⟨[(0,.agg (v0 a0)),(1,.int .i64 a1)],[]⟩ _
 unfold gV at h
 refine aD (aA M (cY (cs:=q10) 0 M M (lb M) M (svA q10 M) M M)<|aA M (dA (cs:=q13) (cs':=(w25 0 0 ([]:List aN) ([]:List Int))) 1 M M (lb M) M ti32 M M (.k (.k (.cons (.nils _) (.cons (.nils _) .nil)))))<|aA M (aF M M (lb M) (sv (d:=.int _ 0) M))<|aC ?_)
 refine aT ?_
 obtain ⟨x1,hx1,h⟩:=aR h
 obtain ⟨x2,hx2,h⟩:=aY h
 refine aD (aA M (lra q10 la32 M M M M M (nle M) M)<|aA M (mvI M M M M)<|aA M (bC (r:=.int _ _) M M (lb M) cl39 (.cons (svA q10 M) (.cons (svI M) .nil)) M (cA _ _ _ hx1))<|aA M (aQ M M (lb M) (svI M) (sv (d:=.int _ 0) M) M hx2)<|aC ?_)
 refine aW (b:=_) M (fun hc3=>?_) (fun hc3=>?_)
 ·
  replace h:=cI h hc3
  refine aD (aA M (lra q10 la32 M M M M M (nle M) M)<|aA M (stA q10 q10 ti32 M M M M M M M M (nle M) M)<|aA M (aF M M (lb M) (sv (d:=.int _ 6) M))<|aC ?_)
  refine bB ?_
  refine bH ?_
  obtain rfl:=sj_ h
  refine ⟨.inr M,(.cons (rva la32 M M (nle M) M) (.cons (sv M) .nil))⟩
 ·
  replace h:=cJ h hc3
  refine aU ?_
  refine aO ?_
  obtain ⟨x4,hx4,h⟩:=aR h
  refine aD (aA M (lra q10 la32 M M M M M (nle M) M)<|aA M (mvI M M M M)<|aA M (bC (r:=.agg q10) M M (lb M) cl46 (.cons (svA q10 M) (.cons (svI M) .nil)) M (kQ _ _ _ hx4))<|aA M (stA q10 q10 ti32 M M M M M M M M (nle M) M)<|aA M (aF M M (lb M) (sv (d:=.int _ 0) M))<|aC ?_)
  refine bB ?_
  obtain rfl:=sj_ h
  refine ⟨.inr M,(.cons (rva la32 M M (nle M) M) (.cons (sv M) .nil))⟩

theorem nU (a0:aL) (a1:bT) (r:(aL × Int)) (h:iZ a0 a1=some r):eJ prog 8 [.agg (v0 a0),.agg (v1 a1)] (retD [.agg (v0 r.1),.int .i64 r.2]):=by
 refine bS (rs:=[.agg (v0 r.1),.int .i64 r.2]) func8 M ntmps8 (nle M) M fun O hO=>?_
 show IWP _ _ _ _ ⟨[(0,.agg (v0 a0)),(1,.agg (v1 a1))],[]⟩ _
 unfold iZ at h
 refine aD (aA M (cY (cs:=q10) 0 M M (lb M) M (svA q10 M) M M)<|aA M (cY (cs:=q9) 1 M M (lb M) M (svA q9 M) M M)<|aA M (dA (cs:=q13) (cs':=(w25 0 0 ([]:List aN) ([]:List Int))) 2 M M (lb M) M ti32 M M (.k (.k (.cons (.nils _) (.cons (.nils _) .nil)))))<|aA M (aF M M (lb M) (sv (d:=.int _ 0) M))<|aC ?_)
 refine aT ?_
 obtain ⟨x1,hx1,h⟩:=aR h
 refine aD (aA M (faR 0 M M M underlying37 M ti5 (lb M) M M)<|aA M (aI (d:=.int _ _) M M (lb M) underlying5 ag5 ti5 (by decide) (svR M) M (nle M) M)<|aA M (vX M M (lb M) (svI M) (sv (d:=.int _ 6) M) hx1)<|aC ?_)
 refine bA ?_
 refine jR (α:=Bool) (fun z=>⟨[(2,.ref 0 0),(3,.ref 1 0),(4,.ref 2 0),(8,.int .u8 x1),(9,.bool z)],[(0,.blk 32 (v0 a0)),(1,.blk 37 (v1 a1)),(2,.blk 32 (w25 0 0 ([]:List aN) ([]:List Int)))]⟩) (fun z=>iO a0 a1 x1 z=some r) ?_ ?_
 ·
  obtain ⟨x21,hx21,h⟩:=aY h
  refine aD (aA M (aQ M M (lb M) (svI M) (sv (d:=.int _ 0) M) M hx21)<|aA M (asB M M M M)<|aC ?_)
  refine aW (b:=_) M (fun hc22=>?_) (fun hc22=>?_)
  ·
   replace h:=cI h hc22
   refine aU ?_
   refine aO ⟨x21,(fun i=>i),⟨(.sames M M),(.cons (.blk M M M) (.cons (.blk M M M) (.cons (.blk M M M) .nil))),bD [0,1,2] M (by decide),fun _ _=>M⟩,?_⟩
   exact h
  ·
   replace h:=cJ h hc22
   obtain ⟨x23,hx23,h⟩:=aY h
   refine aX (aA M (aQ M M (lb M) (svI M) (sv (d:=.int _ 1) M) M hx23)<|aA M (asB M M M M)<|bK ?_)
   refine aO ⟨x23,(fun i=>i),⟨(.sames M M),(.cons (.blk M M M) (.cons (.blk M M M) (.cons (.blk M M M) .nil))),bD [0,1,2] M (by decide),fun _ _=>M⟩,?_⟩
   exact h
 ·
  rintro v5 h
  unfold iO at h
  refine aW (b:=_) M (fun hc6=>?_) (fun hc6=>?_)
  ·
   replace h:=cI h hc6
   obtain ⟨x7,hx7,h⟩:=aR h
   refine aD (aA M (lra q10 la32 M M M M M (nle M) M)<|aA M (faR 1 M M M underlying37 M ti3 (lb M) M M)<|aA M (aI (d:=.int _ _) M M (lb M) underlying3 ag3 ti3 (by decide) (svR M) M (nle M) M)<|aA M (faR 2 M M M underlying37 M ti3 (lb M) M M)<|aA M (aI (d:=.int _ _) M M (lb M) underlying3 ag3 ti3 (by decide) (svR M) M (nle M) M)<|aA M (faR 3 M M M underlying37 M ti3 (lb M) M M)<|aA M (aI (d:=.int _ _) M M (lb M) underlying3 ag3 ti3 (by decide) (svR M) M (nle M) M)<|aA M (faR 4 M M M underlying37 M ti4 (lb M) M M)<|aA M (aI (d:=.bool _) M M (lb M) underlying4 ag4 ti4 (by decide) (svR M) M (nle M) M)<|aA M (bC (r:=.tuple q24) M M (lb M) cl27 (.cons (svA q10 M) (.cons (svI M) (.cons (svI M) (.cons (svI M) (.cons (svB M) .nil))))) M (lM _ _ _ _ _ _ hx7))<|aA M (cE (d:=.agg q10) M M (lb M) (sv (d:=.tuple q24) M) M)<|aA M (cE (d:=.int _ _) M M (lb M) (sv (d:=.tuple q24) M) M)<|aA M (stA q10 q10 ti32 M M M M M M M M (nle M) M)<|aA M (asI M M M M)<|aC ?_)
   refine bB ?_
   refine dC ?_
   refine bH ?_
   obtain rfl:=sj_ h
   refine ⟨.inr M,(.cons (rva la32 M M (nle M) M) (.cons (sv M) .nil))⟩
  ·
   replace h:=cJ h hc6
   refine jR (α:=Bool) (fun z=>⟨[(2,.ref 0 0),(3,.ref 1 0),(4,.ref 2 0),(8,.int .u8 x1),(24,.bool z)],[(0,.blk 32 (v0 a0)),(1,.blk 37 (v1 a1)),(2,.blk 32 (w25 0 0 ([]:List aN) ([]:List Int)))]⟩) (fun z=>iN a0 a1 x1 z=some r) ?_ ?_
   ·
    obtain ⟨x18,hx18,h⟩:=aY h
    refine aD (aA M (aQ M M (lb M) (svI M) (sv (d:=.int _ 2) M) M hx18)<|aA M (asB M M M M)<|aC ?_)
    refine aW (b:=_) M (fun hc19=>?_) (fun hc19=>?_)
    ·
     replace h:=cI h hc19
     refine aU ?_
     refine aO ⟨x18,(fun i=>i),⟨(.sames M M),(.cons (.blk M M M) (.cons (.blk M M M) (.cons (.blk M M M) .nil))),bD [0,1,2] M (by decide),fun _ _=>M⟩,?_⟩
     exact h
    ·
     replace h:=cJ h hc19
     obtain ⟨x20,hx20,h⟩:=aY h
     refine aX (aA M (aQ M M (lb M) (svI M) (sv (d:=.int _ 3) M) M hx20)<|aA M (asB M M M M)<|bK ?_)
     refine aO ⟨x20,(fun i=>i),⟨(.sames M M),(.cons (.blk M M M) (.cons (.blk M M M) (.cons (.blk M M M) .nil))),bD [0,1,2] M (by decide),fun _ _=>M⟩,?_⟩
     exact h
   ·
    rintro v11 h
    unfold iN at h
    refine aW (b:=_) M (fun hc12=>?_) (fun hc12=>?_)
    ·
     replace h:=cI h hc12
     obtain ⟨x13,hx13,h⟩:=aR h
     refine aD (aA M (lra q10 la32 M M M M M (nle M) M)<|aA M (faR 1 M M M underlying37 M ti3 (lb M) M M)<|aA M (aI (d:=.int _ _) M M (lb M) underlying3 ag3 ti3 (by decide) (svR M) M (nle M) M)<|aA M (faR 2 M M M underlying37 M ti3 (lb M) M M)<|aA M (aI (d:=.int _ _) M M (lb M) underlying3 ag3 ti3 (by decide) (svR M) M (nle M) M)<|aA M (faR 3 M M M underlying37 M ti3 (lb M) M M)<|aA M (aI (d:=.int _ _) M M (lb M) underlying3 ag3 ti3 (by decide) (svR M) M (nle M) M)<|aA M (faR 4 M M M underlying37 M ti4 (lb M) M M)<|aA M (aI (d:=.bool _) M M (lb M) underlying4 ag4 ti4 (by decide) (svR M) M (nle M) M)<|aA M (bC (r:=.tuple q24) M M (lb M) cl28 (.cons (svA q10 M) (.cons (svI M) (.cons (svI M) (.cons (svI M) (.cons (svB M) .nil))))) M (pE _ _ _ _ _ _ hx13))<|aA M (cE (d:=.agg q10) M M (lb M) (sv (d:=.tuple q24) M) M)<|aA M (cE (d:=.int _ _) M M (lb M) (sv (d:=.tuple q24) M) M)<|aA M (stA q10 q10 ti32 M M M M M M M M (nle M) M)<|aA M (asI M M M M)<|aC ?_)
     refine bB ?_
     refine dC ?_
     refine bH ?_
     obtain rfl:=sj_ h
     refine ⟨.inr M,(.cons (rva la32 M M (nle M) M) (.cons (sv M) .nil))⟩
    ·
     replace h:=cJ h hc12
     obtain ⟨x14,hx14,h⟩:=aY h
     refine aD (aA M (aQ M M (lb M) (svI M) (sv (d:=.int _ 4) M) M hx14)<|aA M (asB M M M M)<|aC ?_)
     refine aW (b:=_) M (fun hc15=>?_) (fun hc15=>?_)
     ·
      replace h:=cI h hc15
      obtain ⟨x16,hx16,h⟩:=aR h
      refine aD (aA M (lra q10 la32 M M M M M (nle M) M)<|aA M (faR 1 M M M underlying37 M ti3 (lb M) M M)<|aA M (aI (d:=.int _ _) M M (lb M) underlying3 ag3 ti3 (by decide) (svR M) M (nle M) M)<|aA M (bC (r:=.tuple q24) M M (lb M) cl29 (.cons (svA q10 M) (.cons (svI M) .nil)) M (oW _ _ _ hx16))<|aA M (cE (d:=.agg q10) M M (lb M) (sv (d:=.tuple q24) M) M)<|aA M (cE (d:=.int _ _) M M (lb M) (sv (d:=.tuple q24) M) M)<|aA M (stA q10 q10 ti32 M M M M M M M M (nle M) M)<|aA M (asI M M M M)<|aC ?_)
      refine bB ?_
      refine dC ?_
      refine bH ?_
      obtain rfl:=sj_ h
      refine ⟨.inr M,(.cons (rva la32 M M (nle M) M) (.cons (sv M) .nil))⟩
     ·
      replace h:=cJ h hc15
      refine aU ?_
      refine bL ?_
      refine aO ?_
      obtain ⟨x17,hx17,h⟩:=aR h
      refine aD (aA M (lra q10 la32 M M M M M (nle M) M)<|aA M (faR 1 M M M underlying37 M ti3 (lb M) M M)<|aA M (aI (d:=.int _ _) M M (lb M) underlying3 ag3 ti3 (by decide) (svR M) M (nle M) M)<|aA M (bC (r:=.tuple q24) M M (lb M) cl30 (.cons (svA q10 M) (.cons (svI M) .nil)) M (oN _ _ _ hx17))<|aA M (cE (d:=.agg q10) M M (lb M) (sv (d:=.tuple q24) M) M)<|aA M (cE (d:=.int _ _) M M (lb M) (sv (d:=.tuple q24) M) M)<|aA M (stA q10 q10 ti32 M M M M M M M M (nle M) M)<|aA M (asI M M M M)<|aC ?_)
      refine bB ?_
      obtain rfl:=sj_ h
      refine ⟨.inr M,(.cons (rva la32 M M (nle M) M) (.cons (sv M) .nil))⟩

theorem rC  (r:(List aN)) (h:nB=some r):eJ prog 11 [.nilp] (.slice false (r.map aM.d)):=by
 refine bS (rs:=[.slice false (r.map aM.d)]) func11 M ntmps11 (nle M) M fun O hO=>?_
 show IWP _ _ _ _ ⟨[(0,.nilp)],[]⟩ _
 unfold nB at h
 refine aD (aA M (aF M M (lb M) (sv (d:=.nils) M))<|aC ?_)
 refine aT ?_
 refine aD (aA M (aP M M (lb M) (sv (d:=.nilp) M))<|aA M (mB M M (lb M) underlying26 (sv (d:=.nilp) M) (sv (d:=.nilp) M))<|aC ?_)
 refine kE M M ?_
 refine aD (aA M (aF M M (lb M) (sv (d:=.nils) M))<|aC ?_)
 refine bB ?_
 refine bH ?_
 obtain rfl:=sj_ h
 refine ⟨.inr M,(.cons (uQ M M) .nil)⟩

theorem qI  (r:(List Int)) (h:mL=some r):eJ prog 13 [.nilp] (.slice false (r.map (eInt .i64).d)):=by
 refine bS (rs:=[.slice false (r.map (eInt .i64).d)]) func13 M ntmps13 (nle M) M fun O hO=>?_
 show IWP _ _ _ _ ⟨[(0,.nilp)],[]⟩ _
 unfold mL at h
 refine aD (aA M (aF M M (lb M) (sv (d:=.nils) M))<|aC ?_)
 refine aT ?_
 refine aD (aA M (aP M M (lb M) (sv (d:=.nilp) M))<|aA M (mB M M (lb M) underlying26 (sv (d:=.nilp) M) (sv (d:=.nilp) M))<|aC ?_)
 refine kE M M ?_
 refine aD (aA M (aF M M (lb M) (sv (d:=.nils) M))<|aC ?_)
 refine bB ?_
 refine bH ?_
 obtain rfl:=sj_ h
 refine ⟨.inr M,(.cons (uQ M M) .nil)⟩

theorem sN  (r:Int) (h:oL=some r):eJ prog 14 [.nilp] (.int .i64 r):=by
 refine bS (rs:=[.int .i64 r]) func14 M ntmps14 (nle M) M fun O hO=>?_
 show IWP _ _ _ _ ⟨[(0,.nilp)],[]⟩ _
 unfold oL at h
 refine aD (aA M (aF M M (lb M) (sv (d:=.int _ 0) M))<|aC ?_)
 refine aT ?_
 refine aD (aA M (aP M M (lb M) (sv (d:=.nilp) M))<|aA M (mB M M (lb M) underlying26 (sv (d:=.nilp) M) (sv (d:=.nilp) M))<|aC ?_)
 refine kE M M ?_
 refine aD (aA M (aF M M (lb M) (sv (d:=.int _ 0) M))<|aC ?_)
 refine bB ?_
 refine bH ?_
 obtain rfl:=sj_ h
 refine ⟨.inr M,(.cons (sv M) .nil)⟩

theorem rB (a0:(List Int)) (r:(List Int)) (h:nA a0=some r):eJ prog 15 [.nilp,.slice false (a0.map (eInt .i64).d)] (.slice false (r.map (eInt .i64).d)):=by
 refine bS (rs:=[.slice false (r.map (eInt .i64).d)]) func15 M ntmps15 (nle M) M fun O hO=>?_
 show IWP _ _ _ _ ⟨[(0,.nilp),(1,.slice false (a0.map (eInt .i64).d))],[]⟩ _
 unfold nA at h
 refine aD (aA M (aF M M (lb M) (sv (d:=.nils) M))<|aC ?_)
 refine aT ?_
 refine aD (aA M (aP M M (lb M) (sv (d:=.nilp) M))<|aA M (mB M M (lb M) underlying26 (sv (d:=.nilp) M) (sv (d:=.nilp) M))<|aC ?_)
 refine kE M M ?_
 refine aD (aA M (aF M M (lb M) (sv (d:=.nils) M))<|aC ?_)
 refine bB ?_
 refine bH ?_
 obtain rfl:=sj_ h
 refine ⟨.inr M,(.cons (uQ M M) .nil)⟩

theorem lZ (a0:aL) (a1:Int) (r:Bool) (h:gO a0 a1=some r):eJ prog 38 [.agg (v0 a0),.int .i64 a1] (.bool r):=by
 refine bS (rs:=[.bool r]) func38 M ntmps38 (nle M) M fun O hO=>?_
 show IWP _ _ _ _ ⟨[(0,.agg (v0 a0)),(1,.int .i64 a1)],[]⟩ _
 unfold gO at h
 refine aD (aA M (cY (cs:=q10) 0 M M (lb M) M (svA q10 M) M M)<|aA M (aF M M (lb M) (sv (d:=.bool false) M))<|aC ?_)
 obtain ⟨x1,hx1,h⟩:=aR h
 refine aD (aA M (lra q10 la32 M M M M M (nle M) M)<|aA M (mvI M M M M)<|aA M (bC (r:=.int _ _) M M (lb M) cl39 (.cons (svA q10 M) (.cons (svI M) .nil)) M (cA _ _ _ hx1))<|aA M (asI M M M M)<|aC ?_)
 obtain ⟨x2,hx2,h⟩:=aY h
 obtain ⟨x3,hx3,h⟩:=aR h
 obtain ⟨x4,hx4,h⟩:=aY h
 refine aD (aA M (mvI M M M M)<|aA M (aQ M M (lb M) (svI M) (sv (d:=.int _ 0) M) M hx2)<|aA M (mvB M M M M)<|aJ M M (.one M) M (by decide) (fun hb=>(faR 2 M M M underlying32 M ti30 (lb M) M M))<|aJ M M (.one M) M (by decide) (fun hb=>(aI (d:=.slice _ _) M M (lb M) underlying30 ag30 ti30 (by decide) (svcR M hb) M (nle M) M))<|aJ M M (.one M) M (by decide) (fun hb=>(mvI M M M M))<|aJ M M (.one M) M (by decide) (fun hb=>(cM aM (cs:=q12) M M (lb M) underlying30 ti52 (svcL M hb) (svcI M hb) (gd_t hx3 hb) M M))<|aJ M M (.one M) M (by decide) (fun hb=>(cF (cs':=[.bool _]) M M (lb M) underlying52 M ti4 (by decide) (svc (d:=.fptr q12) M hb) M))<|aJ M M (.one M) M (by decide) (fun hb=>(cG M M (lb M) underlying4 ag4 ti4 (by decide) (svc (d:=.fptr [.bool _]) M hb) (nle M)))<|aJ M M (.one M) M (by decide) (fun hb=>(eY M M (lb M) (svcB M hb)))<|aA M (cU M M (lb M) (svB M) M M hx4)<|aA M (asB M M M M)<|aC ?_)
 refine bB ?_
 obtain rfl:=sj_ h
 refine ⟨.inr M,(.cons (sv M) .nil)⟩

theorem lV (a0:aL) (a1:(List Int)) (r:(List Int)) (h:hD a0 a1=some r):eJ prog 16 [.agg (v0 a0),.slice false (a1.map (eInt .i64).d)] (.slice false (r.map (eInt .i64).d)):=by
 refine bS (rs:=[.slice false (r.map (eInt .i64).d)]) func16 M ntmps16 (nle M) M fun O hO=>?_
 show IWP _ _ _ _ ⟨[(0,.agg (v0 a0)),(1,.slice false (a1.map (eInt .i64).d))],[]⟩ _
 unfold hD at h
 refine aD (aA M (cY (cs:=q10) 0 M M (lb M) M (svA q10 M) M M)<|aA M (aF M M (lb M) (sv (d:=.nils) M))<|aC ?_)
 refine aD (aA M (aF M M (lb M) (sv (d:=.nils) M))<|aC ?_)
 refine aT ?_
 refine aD (aA M (aF M M (lb M) (sv (d:=.int _ 0) M))<|aC ?_)
 refine bA ?_
 refine cQ (α:=Nat × (List Int) × Int) (fun z=>⟨[(1,.slice false (a1.map (eInt .i64).d)),(2,.ref 0 0),(5,.gsl 22 (eInt .i64).sz (z.2.1.map (eInt .i64).d)),(6,.int .i64 z.2.2)],[(0,.blk 32 (v0 a0)),(22,.tail 3 (eInt .i64).sz z.2.1.length)]⟩) (fun z=>cH a0 a1 z.1 z.2.1 z.2.2=some r) (fun z=>z.1) (fuel,([]:(List Int)),0) (fun i=>if i=22 then 73 else i) ⟨(.s M M (.s M M (.cons (.nils M) (.sames M M)))),(.cons (.blk M M M) (.cons (.nils M) .nil)),bD [0,73] M (by decide),(fun i hi=>by first | rfl | (show (if _ then _ else _)=_; (repeat' split) <;> omega))⟩ ?_ ?_
 ·exact h
 ·
  rintro ⟨n0,v43,v44⟩ h
  cases n0 with
  | zero=>exact absurd h (by unfold cH; exact nofun)
  | succ n0 =>
   unfold cH at h
   refine aT ?_
   obtain ⟨x87,hx87,h⟩:=aY h
   refine aD (aA M (mvI M M M M)<|aA M (faR 2 M M M underlying32 M ti30 (lb M) M M)<|aA M (lrL la30 M M M M M (nle M) M)<|aA M (dE aM (l:=a0.L) M M (lb M) underlying30 (svL M))<|aA M (aQ M M (lb M) (svI M) (svI M) M hx87)<|aC ?_)
   refine aW (b:=_) M (fun hc88=>?_) (fun hc88=>?_)
   ·
    replace h:=cI h hc88
    refine aU ?_
    refine aO ?_
    refine aT ?_
    refine bA ?_
    obtain ⟨x89,hx89,h⟩:=aR h
    refine aD (aA M (faR 2 M M M underlying32 M ti30 (lb M) M M)<|aA M (lrL la30 M M M M M (nle M) M)<|aA M (mvI M M M M)<|aA M (cM aM (cs:=q12) M M (lb M) underlying30 ti52 (svL M) (svI M) hx89 M M)<|aA M (cF (cs':=[.int _ _]) M M (lb M) underlying52 M ti3 (by decide) (sv (d:=.fptr q12) M) M)<|aA M (cG M M (lb M) underlying3 ag3 ti3 (by decide) (sv (d:=.fptr [.int _ _]) M) (nle M))<|aA M (asI M M M M)<|aC ?_)
    refine aT ?_
    obtain ⟨x90,hx90,h⟩:=aR h
    obtain ⟨x91,hx91,h⟩:=aR h
    obtain ⟨x92,hx92,h⟩:=aY h
    refine aD (aA M (mvL M M M M)<|aA M (mvI M M M M)<|aA M (bC (r:=.bool _) M M (lb M) cl37 (.cons (svL M) (.cons (svI M) .nil)) M (nD _ _ _ hx90))<|aA M (eY M M (lb M) (svB M))<|aA M (mvB M M M M)<|aJ M M (.one M) M (by decide) (fun hb=>(lra q10 la32 M M M M M (nle M) M))<|aJ M M (.one M) M (by decide) (fun hb=>(mvI M M M M))<|aJ M M (.one M) M (by decide) (fun hb=>(bC (r:=.bool _) M M (lb M) cl38 (.cons (svcA (v0 a0) M hb) (.cons (svcI M hb) .nil)) M (lZ _ _ _ (gd_t hx91 hb))))<|aJ M M (.one M) M (by decide) (fun hb=>(eY M M (lb M) (svcB M hb)))<|aA M (gJ M M (lb M) (svB M) M M hx92)<|aC ?_)
    refine aW (b:=_) M (fun hc93=>?_) (fun hc93=>?_)
    ·
     replace h:=cI h hc93
     refine cX ?_
     refine bR ?_
     refine cZ ?_
     refine aO ?_
     obtain ⟨x94,hx94,h⟩:=aY h
     refine aX (aA M (mvI M M M M)<|aA M (cK M M (lb M) (svI M) (sv (d:=.int _ 1) M) M hx94)<|aA M (asI M M M M)<|bK ?_)
     refine aO ⟨(n0,v43,x94),(fun i=>i),⟨(.sames M M),(.cons (.blk M M M) (.cons (.tail M) .nil)),bD [0,22] M (by decide),fun _ _=>M⟩,?_,?_⟩
     exact h
     exact Nat.lt_succ_self _
    ·
     replace h:=cJ h hc93
     refine aU ?_
     refine aO ?_
     obtain ⟨x95,hx95,h⟩:=aR h
     refine aD (aA M (lra q10 la32 M M M M M (nle M) M)<|aA M (mvI M M M M)<|aA M (bC (r:=.slice _ _) M M (lb M) cl18 (.cons (svA q10 M) (.cons (svI M) .nil)) M (iR _ _ _ hx95))<|aA M (aF M M (lb M) (svL M))<|aC ?_)
     refine aD (aA M (aF M M (lb M) (sv (d:=.bool true) M))<|aC ?_)
     refine aT ?_
     refine aD (aA M (aF M M (lb M) (sv (d:=.int _ 0) M))<|aC ?_)
     refine bA ?_
     refine cQ (α:=Nat × Bool × Int) (fun z=>⟨[(1,.slice false (a1.map (eInt .i64).d)),(2,.ref 0 0),(5,.gsl 22 (eInt .i64).sz (v43.map (eInt .i64).d)),(6,.int .i64 v44),(7,.int .i64 x89.ID),(8,.slice false (x95.map (eInt .i64).d)),(9,.bool z.2.1),(10,.int .i64 z.2.2)],[(0,.blk 32 (v0 a0)),(22,.tail 3 (eInt .i64).sz v43.length)]⟩) (fun z=>dJ a0 a1 v43 v44 (cH a0 a1 n0) x89 x95 z.1 z.2.1 z.2.2=some r) (fun z=>z.1) (fuel,true,0) (fun i=>i) ⟨(.sames M M),(.cons (.blk M M M) (.cons (.tail M) .nil)),bD [0,22] M (by decide),fun _ _=>M⟩ ?_ ?_
     ·exact h
     ·
      rintro ⟨n1,v105,v106⟩ h
      cases n1 with
      | zero=>exact absurd h (by unfold dJ; exact nofun)
      | succ n1 =>
       unfold dJ at h
       refine aT ?_
       obtain ⟨x116,hx116,h⟩:=aY h
       refine aD (aA M (mvI M M M M)<|aA M (mvL M M M M)<|aA M (dE (eInt .i64) (l:=x95) M M (lb M) underlying24 (svL M))<|aA M (aQ M M (lb M) (svI M) (svI M) M hx116)<|aC ?_)
       refine aW (b:=_) M (fun hc117=>?_) (fun hc117=>?_)
       ·
        replace h:=cI h hc117
        refine aU ?_
        refine aO ?_
        refine aT ?_
        refine bA ?_
        obtain ⟨x118,hx118,h⟩:=aR h
        obtain ⟨x119,hx119,h⟩:=aR h
        obtain ⟨x120,hx120,h⟩:=aR h
        obtain ⟨x121,hx121,h⟩:=aR h
        obtain ⟨x122,hx122,h⟩:=aY h
        obtain ⟨x123,hx123,h⟩:=aY h
        refine jM M [⟨[9],[],[(43,.bool v105)],[]⟩,
         ⟨[43],[],[(44,.bool v105)],[]⟩,
         ⟨[1,44],[],[(45,.cnd (v105 == true) (.slice false (a1.map (eInt .i64).d)))],[]⟩,
         ⟨[8,44],[],[(46,.cnd (v105 == true) (.slice false (x95.map (eInt .i64).d)))],[]⟩,
         ⟨[10,44],[],[(47,.cnd (v105 == true) (.int .i64 v106))],[]⟩,
         ⟨[44,46,47],[],[(48,.cnd (v105 == true) (.fptr [.int .i64 x118]))],[]⟩,
         ⟨[44,48],[],[(49,.cnd (v105 == true) (.int .i64 x118))],[]⟩,
         ⟨[44,45,49],[],[(50,.cnd (v105 == true) (.bool x119))],[]⟩,
         ⟨[44,50],[],[(51,.cnd (v105 == true) (.bool x119))],[]⟩,
         ⟨[2,51],[0],[(52,.cnd (((v105 == true) && (x119 == true))) (.agg (v0 a0)))],[]⟩,
         ⟨[8,51],[],[(53,.cnd (((v105 == true) && (x119 == true))) (.slice false (x95.map (eInt .i64).d)))],[]⟩,
         ⟨[10,51],[],[(54,.cnd (((v105 == true) && (x119 == true))) (.int .i64 v106))],[]⟩,
         ⟨[51,53,54],[],[(55,.cnd (((v105 == true) && (x119 == true))) (.fptr [.int .i64 x120]))],[]⟩,
         ⟨[51,55],[],[(56,.cnd (((v105 == true) && (x119 == true))) (.int .i64 x120))],[]⟩,
         ⟨[51,52,56],[],[(57,.cnd (((v105 == true) && (x119 == true))) (.bool x121))],[]⟩,
         ⟨[44,51,57],[],[(58,.cnd (v105 == true) (.bool x122))],[]⟩,
         ⟨[44,58],[],[(59,.cnd (v105 == true) (.bool (!x122)))],[]⟩,
         ⟨[44,59],[],[(60,.bool x123)],[]⟩,
         ⟨[60],[],[(9,.bool x123)],[]⟩] M ?_ (by kernel_rfl) ?_
        ·refine .cons (lop M M fun S hA=>(aP M M (lb M) (svaB hA M M))) ?_
         refine .cons (lop M M fun S hA=>(aP M M (lb M) (svaB hA M M))) ?_
         refine .cons (lopg M M M M (by decide) (fun S hA=>grd1 hA M M) (fun S hA hb=>(aP M M (lb M) (svaL hA M M)))) ?_
         refine .cons (lopg M M M M (by decide) (fun S hA=>grd1 hA M M) (fun S hA hb=>(aP M M (lb M) (svaL hA M M)))) ?_
         refine .cons (lopg M M M M (by decide) (fun S hA=>grd1 hA M M) (fun S hA hb=>(aP M M (lb M) (svaI hA M M)))) ?_
         refine .cons (lopg M M M M (by decide) (fun S hA=>grd1 hA M M) (fun S hA hb=>(cM (eInt .i64) (cs:=[.int _ _]) M M (lb M) underlying24 ti3 (svc (d:=.slice _ _) (agr hA M M) hb) (svc (d:=.int _ _) (agr hA M M) hb) (gd_t hx118 hb) M M))) ?_
         refine .cons (lopg M M M M (by decide) (fun S hA=>grd1 hA M M) (fun S hA hb=>(cG M M (lb M) underlying3 ag3 ti3 (by decide) (svc (d:=.fptr [.int _ _]) (agr hA M M) hb) (nle M)))) ?_
         refine .cons (lopg M M M M (by decide) (fun S hA=>grd1 hA M M) (fun S hA hb=>(bC (r:=.bool _) M M (lb M) cl37 (.cons (svc (d:=.slice _ _) (agr hA M M) hb) (.cons (svc (d:=.int _ _) (agr hA M M) hb) .nil)) M (nD _ _ _ (gd_t hx119 hb))))) ?_
         refine .cons (lopg M M M M (by decide) (fun S hA=>grd1 hA M M) (fun S hA hb=>(aP M M (lb M) (svc (d:=.bool _) (agr hA M M) hb)))) ?_
         refine .cons (lopg M M M M (by decide) (fun S hA=>grd2 hA M M) (fun S hA hb=>(dX (cs:=q10) M M (lb M) underlying32 ag32 ti32 (by decide) (svaR hA M M) (agi hA M M) (nle M) M))) ?_
         refine .cons (lopg M M M M (by decide) (fun S hA=>grd2 hA M M) (fun S hA hb=>(aP M M (lb M) (svaL hA M M)))) ?_
         refine .cons (lopg M M M M (by decide) (fun S hA=>grd2 hA M M) (fun S hA hb=>(aP M M (lb M) (svaI hA M M)))) ?_
         refine .cons (lopg M M M M (by decide) (fun S hA=>grd2 hA M M) (fun S hA hb=>(cM (eInt .i64) (cs:=[.int _ _]) M M (lb M) underlying24 ti3 (svc (d:=.slice _ _) (agr hA M M) hb) (svc (d:=.int _ _) (agr hA M M) hb) (gd_t hx120 hb) M M))) ?_
         refine .cons (lopg M M M M (by decide) (fun S hA=>grd2 hA M M) (fun S hA hb=>(cG M M (lb M) underlying3 ag3 ti3 (by decide) (svc (d:=.fptr [.int _ _]) (agr hA M M) hb) (nle M)))) ?_
         refine .cons (lopg M M M M (by decide) (fun S hA=>grd2 hA M M) (fun S hA hb=>(bC (r:=.bool _) M M (lb M) cl38 (.cons (svc (d:=.agg (v0 a0)) (agr hA M M) hb) (.cons (svc (d:=.int _ _) (agr hA M M) hb) .nil)) M (lZ _ _ _ (gd_t hx121 hb))))) ?_
         refine .cons (lopg M M M M (by decide) (fun S hA=>grd1 hA M M) (fun S hA hb=>(aBV M M (lb M) hb (svc (d:=.bool _) (agr hA M M) hb) (agr hA M M) M hx122))) ?_
         refine .cons (lopg M M M M (by decide) (fun S hA=>grd1 hA M M) (fun S hA hb=>(eY M M (lb M) (svc (d:=.bool _) (agr hA M M) hb)))) ?_
         refine .cons (lop M M fun S hA=>(cU M M (lb M) (svaB hA M M) (agr hA M M) M hx123)) ?_
         refine .cons (lop M M fun S hA=>(aF M M (lb M) (svaB hA M M))) ?_
         exact .nil
        refine bL ?_
        refine aO ?_
        obtain ⟨x124,hx124,h⟩:=aY h
        refine aX (aA M (mvI M M M M)<|aA M (cK M M (lb M) (svI M) (sv (d:=.int _ 1) M) M hx124)<|aA M (asI M M M M)<|bK ?_)
        refine aO ⟨(n1,x123,x124),(fun i=>i),⟨(.sames M M),(.cons (.blk M M M) (.cons (.tail M) .nil)),bD [0,22] M (by decide),fun _ _=>M⟩,?_,?_⟩
        exact h
        exact Nat.lt_succ_self _
       ·
        replace h:=cJ h hc117
        refine cX ?_
        refine bR ?_
        refine bR ?_
        refine cZ ?_
        refine aO ?_
        refine aD (aA M (mvB M M M M)<|aC ?_)
        refine aW (b:=_) M (fun hc125=>?_) (fun hc125=>?_)
        ·
         replace h:=cI h hc125
         obtain ⟨x126,hx126,h⟩:=aR h
         refine aX (aA M (aP M M (lb M) (sv (d:=.gsl _ _ _) M))<|aA M (mvI M M M M)<|aA M (oO (eInt .i64) ([x89.ID]:(List Int)) 23 M M (lb M) underlying24 ti3 M (.cons (svI M) .nil) M M (by decide))<|aA M (nL (eInt .i64) 24 M M (lb M) underlying24 ti3 M M M M (svg M) hx126)<|aA M (aF M M (lb M) (sv (d:=.gsl _ _ _) M))<|bK ?_)
         refine bL ?_
         refine aO ?_
         obtain ⟨x127,hx127,h⟩:=aY h
         refine aX (aA M (mvI M M M M)<|aA M (cK M M (lb M) (svI M) (sv (d:=.int _ 1) M) M hx127)<|aA M (asI M M M M)<|bK ?_)
         refine aO ⟨(n0,x126,x127),(fun i=>if i=22 then 24 else i),⟨(.sames M M),(.cons (.blk M M M) (.cons (.tail M) .nil)),bD [0,24] M (by decide),(fun i hi=>by first | rfl | (show (if _ then _ else _)=_; (repeat' split) <;> omega))⟩,?_,?_⟩
         exact h
         exact Nat.lt_succ_self _
        ·
         replace h:=cJ h hc125
         refine aU ?_
         refine bL ?_
         refine aO ?_
         obtain ⟨x128,hx128,h⟩:=aY h
         refine aX (aA M (mvI M M M M)<|aA M (cK M M (lb M) (svI M) (sv (d:=.int _ 1) M) M hx128)<|aA M (asI M M M M)<|bK ?_)
         refine aO ⟨(n0,v43,x128),(fun i=>i),⟨(.sames M M),(.cons (.blk M M M) (.cons (.tail M) .nil)),bD [0,22] M (by decide),fun _ _=>M⟩,?_,?_⟩
         exact h
         exact Nat.lt_succ_self _
   ·
    replace h:=cJ h hc88
    refine cX ?_
    refine bR ?_
    refine bR ?_
    refine cZ ?_
    refine aO ?_
    refine aD (aA M (aP M M (lb M) (sv (d:=.gsl _ _ _) M))<|aA M (aF M M (lb M) (sv (d:=.gsl _ _ _) M))<|aC ?_)
    refine bB ?_
    obtain rfl:=sj_ h
    refine ⟨.inr M,(.cons (wQ M M) .nil)⟩

theorem rR (a0:Int) (r:(List Int)) (h:nQ a0=some r):eJ prog 17 [.nilp,.int .i64 a0] (.slice false (r.map (eInt .i64).d)):=by
 refine bS (rs:=[.slice false (r.map (eInt .i64).d)]) func17 M ntmps17 (nle M) M fun O hO=>?_
 show IWP _ _ _ _ ⟨[(0,.nilp),(1,.int .i64 a0)],[]⟩ _
 unfold nQ at h
 refine aD (aA M (aF M M (lb M) (sv (d:=.nils) M))<|aC ?_)
 refine aT ?_
 refine aD (aA M (aP M M (lb M) (sv (d:=.nilp) M))<|aA M (mB M M (lb M) underlying26 (sv (d:=.nilp) M) (sv (d:=.nilp) M))<|aC ?_)
 refine kE M M ?_
 refine aD (aA M (aF M M (lb M) (sv (d:=.nils) M))<|aC ?_)
 refine bB ?_
 refine bH ?_
 obtain rfl:=sj_ h
 refine ⟨.inr M,(.cons (uQ M M) .nil)⟩

theorem rT (a0:Int) (r:(List Int)) (h:nS a0=some r):eJ prog 19 [.nilp,.int .i64 a0] (.slice false (r.map (eInt .i64).d)):=by
 refine bS (rs:=[.slice false (r.map (eInt .i64).d)]) func19 M ntmps19 (nle M) M fun O hO=>?_
 show IWP _ _ _ _ ⟨[(0,.nilp),(1,.int .i64 a0)],[]⟩ _
 unfold nS at h
 refine aD (aA M (cY (cs:=[.nilp]) 0 M M (lb M) M (sv (d:=.nilp) M) M M)<|aA M (aF M M (lb M) (sv (d:=.nils) M))<|aC ?_)
 refine aT ?_
 refine aD (aA M (aI (d:=.nilp) M M (lb M) underlying26 ag26 ti26 (by decide) (svR M) M (nle M) M)<|aA M (mB M M (lb M) underlying26 (sv (d:=.nilp) M) (sv (d:=.nilp) M))<|aC ?_)
 refine kE M M ?_
 refine aD (aA M (aF M M (lb M) (sv (d:=.nils) M))<|aC ?_)
 refine bB ?_
 refine bH ?_
 obtain rfl:=sj_ h
 refine ⟨.inr M,(.cons (uQ M M) .nil)⟩

theorem rA (a0:bT) (a1:Int) (a2:Int) (a3:(List aH)) (a4:Int) (a5:Int) (a6:(List aG)) (a7:Int) (a8:(List Int)) (r:(Int × Int × Int × (List aH) × Int × Int × (List aG) × Int × (List Int))) (h:kM a0 a1 a2 a3 a4 a5 a6 a7 a8=some r):FnH prog 7 [.ref 1000 0,.agg (v1 a0)] [(1000,.blk 62 (mixD aB.toEnc0 (w26 a1 a2 a3 a4 a5) a6 [.int .i64 a7,.osl 1001 (eInt .i64).sz a8.length])),(1001,.blk 3 (D.flat (a8.map (eInt .i64).d)))] (.int .i64 r.1) [(1000,.blk 62 (mixD aB.toEnc0 (w26 r.2.1 r.2.2.1 r.2.2.2.1 r.2.2.2.2.1 r.2.2.2.2.2.1) r.2.2.2.2.2.2.1 [.int .i64 r.2.2.2.2.2.2.2.1,.osl 0 (eInt .i64).sz r.2.2.2.2.2.2.2.2.length])),(0,.blk 3 (D.flat (r.2.2.2.2.2.2.2.2.map (eInt .i64).d)))]:=by
 refine eX (rs:=[.int .i64 r.1]) func7 M ntmps7 (nle M) fun O hO=>?_
 show IWP _ _ _ _ ⟨[(0,.ref 1000 0),(1,.agg (v1 a0))],[(1000,.blk 62 (mixD aB.toEnc0 (w26 a1 a2 a3 a4 a5) a6 [.int .i64 a7,.osl 1001 (eInt .i64).sz a8.length])),(1001,.blk 3 (D.flat (a8.map (eInt .i64).d)))]⟩ _
 unfold kM at h
 refine aD (aA M (cY (cs:=q9) 0 M M (lb M) M (svA q9 M) M M)<|aA M (aF M M (lb M) (sv (d:=.int _ 0) M))<|aC ?_)
 refine aT ?_
 obtain ⟨x1,hx1,h⟩:=aR h
 refine aD (aA M (faR 0 M M M underlying37 M ti5 (lb M) M M)<|aA M (aI (d:=.int _ _) M M (lb M) underlying5 ag5 ti5 (by decide) (svR M) M (nle M) M)<|aA M (vX M M (lb M) (svI M) (sv (d:=.int _ 6) M) hx1)<|aC ?_)
 refine bA ?_
 refine jR (α:=Bool) (fun z=>⟨[(0,.ref 1000 0),(3,.ref 0 0),(7,.int .u8 x1),(8,.bool z)],[(1000,.blk 62 (mixD aB.toEnc0 (w26 a1 a2 a3 a4 a5) a6 [.int .i64 a7,.osl 1001 (eInt .i64).sz a8.length])),(0,.blk 37 (v1 a0)),(1001,.blk 3 (D.flat (a8.map (eInt .i64).d)))]⟩) (fun z=>jG a0 a1 a2 a3 a4 a5 a6 a7 a8 x1 z=some r) ?_ ?_
 ·
  obtain ⟨x21,hx21,h⟩:=aY h
  refine aD (aA M (aQ M M (lb M) (svI M) (sv (d:=.int _ 0) M) M hx21)<|aA M (asB M M M M)<|aC ?_)
  refine aW (b:=_) M (fun hc22=>?_) (fun hc22=>?_)
  ·
   replace h:=cI h hc22
   refine aU ?_
   refine aO ⟨x21,(fun i=>i),⟨(.sames M M),(.cons (EntW.mix aB M (SubC.of_eq M) (SubC.of_eq M) M M) (.cons (.blk M M M) (.cons (EntW.lst M) .nil))),bD [1000,0,1001] M (by decide),fun _ _=>M⟩,?_⟩
   exact h
  ·
   replace h:=cJ h hc22
   obtain ⟨x23,hx23,h⟩:=aY h
   refine aX (aA M (aQ M M (lb M) (svI M) (sv (d:=.int _ 1) M) M hx23)<|aA M (asB M M M M)<|bK ?_)
   refine aO ⟨x23,(fun i=>i),⟨(.sames M M),(.cons (EntW.mix aB M (SubC.of_eq M) (SubC.of_eq M) M M) (.cons (.blk M M M) (.cons (EntW.lst M) .nil))),bD [1000,0,1001] M (by decide),fun _ _=>M⟩,?_⟩
   exact h
 ·
  rintro v5 h
  unfold jG at h
  refine aW (b:=_) M (fun hc6=>?_) (fun hc6=>?_)
  ·
   replace h:=cI h hc6
   obtain ⟨x7,hx7,h⟩:=aR h
   refine aD (aA M (mvR M M M M)<|aA M (faR 1 M M M underlying37 M ti3 (lb M) M M)<|aA M (aI (d:=.int _ _) M M (lb M) underlying3 ag3 ti3 (by decide) (svR M) M (nle M) M)<|aA M (faR 2 M M M underlying37 M ti3 (lb M) M M)<|aA M (aI (d:=.int _ _) M M (lb M) underlying3 ag3 ti3 (by decide) (svR M) M (nle M) M)<|aA M (faR 3 M M M underlying37 M ti3 (lb M) M M)<|aA M (aI (d:=.int _ _) M M (lb M) underlying3 ag3 ti3 (by decide) (svR M) M (nle M) M)<|aA M (faR 4 M M M underlying37 M ti4 (lb M) M M)<|aA M (aI (d:=.bool _) M M (lb M) underlying4 ag4 ti4 (by decide) (svR M) M (nle M) M)<|aA M (cW (r':=.int .i64 x7.1) (H1':=[(1000,.blk 62 (mixD aB.toEnc0 (w26 x7.2.1 x7.2.2.1 x7.2.2.2.1 x7.2.2.2.2.1 x7.2.2.2.2.2.1) x7.2.2.2.2.2.2.1 [.int .i64 x7.2.2.2.2.2.2.2.1,.osl 1 (eInt .i64).sz x7.2.2.2.2.2.2.2.2.length])),(1,.blk 3 (D.flat (x7.2.2.2.2.2.2.2.2.map (eInt .i64).d)))]) 1 [1000,1001] M M (lb M) cl21 (.cons (svR M) (.cons (svI M) (.cons (svI M) (.cons (svI M) (.cons (svB M) .nil))))) M M ⟨M,M,by decide,M,List.forall_mem_cons.2 ⟨⟨M,M,(gT aB M M M),(bV aB M M)⟩,List.forall_mem_cons.2 ⟨⟨M,M,(gE (eInt .i64) M),(bN (eInt .i64))⟩,List.forall_mem_nil _⟩⟩⟩ (iJ _ _ _ _ _ _ _ _ _ _ _ _ _ hx7) M M (List.forall_mem_cons.2 ⟨⟨M,(bV aB M M)⟩,List.forall_mem_cons.2 ⟨⟨M,(bN (eInt .i64))⟩,List.forall_mem_nil _⟩⟩) (by simp only [List.map_cons,List.map_nil,Ent.ren,bJ,bY,cB]; rfl))<|aA M (asI M M M M)<|aC ?_)
   refine bB ?_
   refine dC ?_
   refine bH ?_
   obtain rfl:=sj_ h
   refine ⟨.inr M,(fun i=>if i=0 then 1 else i),⟨.nil,(.cons (EntW.mix aB M (SubC.of_eq M) (SubC.of_eq M) M M) (.cons (EntW.lst M) .nil)),bD [1000,1] M (by decide),(fun i hi=>by first | rfl | (show (if _ then _ else _)=_; (repeat' split) <;> omega))⟩,(.cons (sv M) .nil),M⟩
  ·
   replace h:=cJ h hc6
   refine jR (α:=Bool) (fun z=>⟨[(0,.ref 1000 0),(3,.ref 0 0),(7,.int .u8 x1),(21,.bool z)],[(1000,.blk 62 (mixD aB.toEnc0 (w26 a1 a2 a3 a4 a5) a6 [.int .i64 a7,.osl 1001 (eInt .i64).sz a8.length])),(0,.blk 37 (v1 a0)),(1001,.blk 3 (D.flat (a8.map (eInt .i64).d)))]⟩) (fun z=>jF a0 a1 a2 a3 a4 a5 a6 a7 a8 x1 z=some r) ?_ ?_
   ·
    obtain ⟨x18,hx18,h⟩:=aY h
    refine aD (aA M (aQ M M (lb M) (svI M) (sv (d:=.int _ 2) M) M hx18)<|aA M (asB M M M M)<|aC ?_)
    refine aW (b:=_) M (fun hc19=>?_) (fun hc19=>?_)
    ·
     replace h:=cI h hc19
     refine aU ?_
     refine aO ⟨x18,(fun i=>i),⟨(.sames M M),(.cons (EntW.mix aB M (SubC.of_eq M) (SubC.of_eq M) M M) (.cons (.blk M M M) (.cons (EntW.lst M) .nil))),bD [1000,0,1001] M (by decide),fun _ _=>M⟩,?_⟩
     exact h
    ·
     replace h:=cJ h hc19
     obtain ⟨x20,hx20,h⟩:=aY h
     refine aX (aA M (aQ M M (lb M) (svI M) (sv (d:=.int _ 3) M) M hx20)<|aA M (asB M M M M)<|bK ?_)
     refine aO ⟨x20,(fun i=>i),⟨(.sames M M),(.cons (EntW.mix aB M (SubC.of_eq M) (SubC.of_eq M) M M) (.cons (.blk M M M) (.cons (EntW.lst M) .nil))),bD [1000,0,1001] M (by decide),fun _ _=>M⟩,?_⟩
     exact h
   ·
    rintro v11 h
    unfold jF at h
    refine aW (b:=_) M (fun hc12=>?_) (fun hc12=>?_)
    ·
     replace h:=cI h hc12
     obtain ⟨x13,hx13,h⟩:=aR h
     refine aD (aA M (mvR M M M M)<|aA M (faR 1 M M M underlying37 M ti3 (lb M) M M)<|aA M (aI (d:=.int _ _) M M (lb M) underlying3 ag3 ti3 (by decide) (svR M) M (nle M) M)<|aA M (faR 2 M M M underlying37 M ti3 (lb M) M M)<|aA M (aI (d:=.int _ _) M M (lb M) underlying3 ag3 ti3 (by decide) (svR M) M (nle M) M)<|aA M (faR 3 M M M underlying37 M ti3 (lb M) M M)<|aA M (aI (d:=.int _ _) M M (lb M) underlying3 ag3 ti3 (by decide) (svR M) M (nle M) M)<|aA M (faR 4 M M M underlying37 M ti4 (lb M) M M)<|aA M (aI (d:=.bool _) M M (lb M) underlying4 ag4 ti4 (by decide) (svR M) M (nle M) M)<|aA M (cW (r':=.int .i64 x13.1) (H1':=[(1000,.blk 62 (mixD aB.toEnc0 (w26 x13.2.1 x13.2.2.1 x13.2.2.2.1 x13.2.2.2.2.1 x13.2.2.2.2.2.1) x13.2.2.2.2.2.2.1 [.int .i64 x13.2.2.2.2.2.2.2.1,.osl 1 (eInt .i64).sz x13.2.2.2.2.2.2.2.2.length])),(1,.blk 3 (D.flat (x13.2.2.2.2.2.2.2.2.map (eInt .i64).d)))]) 1 [1000,1001] M M (lb M) cl22 (.cons (svR M) (.cons (svI M) (.cons (svI M) (.cons (svI M) (.cons (svB M) .nil))))) M M ⟨M,M,by decide,M,List.forall_mem_cons.2 ⟨⟨M,M,(gT aB M M M),(bV aB M M)⟩,List.forall_mem_cons.2 ⟨⟨M,M,(gE (eInt .i64) M),(bN (eInt .i64))⟩,List.forall_mem_nil _⟩⟩⟩ (nX _ _ _ _ _ _ _ _ _ _ _ _ _ hx13) M M (List.forall_mem_cons.2 ⟨⟨M,(bV aB M M)⟩,List.forall_mem_cons.2 ⟨⟨M,(bN (eInt .i64))⟩,List.forall_mem_nil _⟩⟩) (by simp only [List.map_cons,List.map_nil,Ent.ren,bJ,bY,cB]; rfl))<|aA M (asI M M M M)<|aC ?_)
     refine bB ?_
     refine dC ?_
     refine bH ?_
     obtain rfl:=sj_ h
     refine ⟨.inr M,(fun i=>if i=0 then 1 else i),⟨.nil,(.cons (EntW.mix aB M (SubC.of_eq M) (SubC.of_eq M) M M) (.cons (EntW.lst M) .nil)),bD [1000,1] M (by decide),(fun i hi=>by first | rfl | (show (if _ then _ else _)=_; (repeat' split) <;> omega))⟩,(.cons (sv M) .nil),M⟩
    ·
     replace h:=cJ h hc12
     obtain ⟨x14,hx14,h⟩:=aY h
     refine aD (aA M (aQ M M (lb M) (svI M) (sv (d:=.int _ 4) M) M hx14)<|aA M (asB M M M M)<|aC ?_)
     refine aW (b:=_) M (fun hc15=>?_) (fun hc15=>?_)
     ·
      replace h:=cI h hc15
      obtain ⟨x16,hx16,h⟩:=aR h
      refine aD (aA M (mvR M M M M)<|aA M (faR 1 M M M underlying37 M ti3 (lb M) M M)<|aA M (aI (d:=.int _ _) M M (lb M) underlying3 ag3 ti3 (by decide) (svR M) M (nle M) M)<|aA M (cW (r':=.int .i64 x16.1) (H1':=[(1000,.blk 62 (mixD aB.toEnc0 (w26 x16.2.1 x16.2.2.1 x16.2.2.2.1 x16.2.2.2.2.1 x16.2.2.2.2.2.1) x16.2.2.2.2.2.2.1 [.int .i64 x16.2.2.2.2.2.2.2.1,.osl 1 (eInt .i64).sz x16.2.2.2.2.2.2.2.2.length])),(1,.blk 3 (D.flat (x16.2.2.2.2.2.2.2.2.map (eInt .i64).d)))]) 1 [1000,1001] M M (lb M) cl23 (.cons (svR M) (.cons (svI M) .nil)) M M ⟨M,M,by decide,M,List.forall_mem_cons.2 ⟨⟨M,M,(gT aB M M M),(bV aB M M)⟩,List.forall_mem_cons.2 ⟨⟨M,M,(gE (eInt .i64) M),(bN (eInt .i64))⟩,List.forall_mem_nil _⟩⟩⟩ (lK _ _ _ _ _ _ _ _ _ _ hx16) M M (List.forall_mem_cons.2 ⟨⟨M,(bV aB M M)⟩,List.forall_mem_cons.2 ⟨⟨M,(bN (eInt .i64))⟩,List.forall_mem_nil _⟩⟩) (by simp only [List.map_cons,List.map_nil,Ent.ren,bJ,bY,cB]; rfl))<|aA M (asI M M M M)<|aC ?_)
      refine bB ?_
      refine dC ?_
      refine bH ?_
      obtain rfl:=sj_ h
      refine ⟨.inr M,(fun i=>if i=0 then 1 else i),⟨.nil,(.cons (EntW.mix aB M (SubC.of_eq M) (SubC.of_eq M) M M) (.cons (EntW.lst M) .nil)),bD [1000,1] M (by decide),(fun i hi=>by first | rfl | (show (if _ then _ else _)=_; (repeat' split) <;> omega))⟩,(.cons (sv M) .nil),M⟩
     ·
      replace h:=cJ h hc15
      refine aU ?_
      refine bL ?_
      refine aO ?_
      obtain ⟨x17,hx17,h⟩:=aR h
      refine aD (aA M (mvR M M M M)<|aA M (faR 1 M M M underlying37 M ti3 (lb M) M M)<|aA M (aI (d:=.int _ _) M M (lb M) underlying3 ag3 ti3 (by decide) (svR M) M (nle M) M)<|aA M (cW (r':=.int .i64 x17.1) (H1':=[(1000,.blk 62 (mixD aB.toEnc0 (w26 x17.2.1 x17.2.2.1 x17.2.2.2.1 x17.2.2.2.2.1 x17.2.2.2.2.2.1) x17.2.2.2.2.2.2.1 [.int .i64 x17.2.2.2.2.2.2.2.1,.osl 1 (eInt .i64).sz x17.2.2.2.2.2.2.2.2.length])),(1,.blk 3 (D.flat (x17.2.2.2.2.2.2.2.2.map (eInt .i64).d)))]) 1 [1000,1001] M M (lb M) cl24 (.cons (svR M) (.cons (svI M) .nil)) M M ⟨M,M,by decide,M,List.forall_mem_cons.2 ⟨⟨M,M,(gT aB M M M),(bV aB M M)⟩,List.forall_mem_cons.2 ⟨⟨M,M,(gE (eInt .i64) M),(bN (eInt .i64))⟩,List.forall_mem_nil _⟩⟩⟩ (mX _ _ _ _ _ _ _ _ _ _ hx17) M M (List.forall_mem_cons.2 ⟨⟨M,(bV aB M M)⟩,List.forall_mem_cons.2 ⟨⟨M,(bN (eInt .i64))⟩,List.forall_mem_nil _⟩⟩) (by simp only [List.map_cons,List.map_nil,Ent.ren,bJ,bY,cB]; rfl))<|aA M (asI M M M M)<|aC ?_)
      refine bB ?_
      obtain rfl:=sj_ h
      refine ⟨.inr M,(fun i=>if i=0 then 1 else i),⟨.nil,(.cons (EntW.mix aB M (SubC.of_eq M) (SubC.of_eq M) M M) (.cons (EntW.lst M) .nil)),bD [1000,1] M (by decide),(fun i hi=>by first | rfl | (show (if _ then _ else _)=_; (repeat' split) <;> omega))⟩,(.cons (sv M) .nil),M⟩

theorem oY (a0:qA) (a1:(List bT)) (a2:(List Int)) (r:Bool) (h:hJ a0 a1 a2=some r):eJ prog 3 [.agg [.int .i64 a0.c0,.int .i64 a0.c1],.slice false (a1.map bE.d),.slice false (a2.map (eInt .i64).d)] (.bool r):=by
 refine bS (rs:=[.bool r]) func3 M ntmps3 (nle M) M fun O hO=>?_
 show IWP _ _ _ _ ⟨[(0,.agg [.int .i64 a0.c0,.int .i64 a0.c1]),(1,.slice false (a1.map bE.d)),(2,.slice false (a2.map (eInt .i64).d))],[]⟩ _
 unfold hJ at h
 refine aD (aA M (cY (cs:=[.int _ _,.int _ _]) 0 M M (lb M) M (sv (d:=.agg [.int _ _,.int _ _]) M) M M)<|aA M (aF M M (lb M) (sv (d:=.bool false) M))<|aC ?_)
 refine aT ?_
 obtain ⟨x1,hx1,h⟩:=aY h
 obtain ⟨x2,hx2,h⟩:=aY h
 obtain ⟨x3,hx3,h⟩:=aY h
 refine aD (aA M (mvL M M M M)<|aA M (dE bE (l:=a1) M M (lb M) underlying23 (svL M))<|aA M (aQ M M (lb M) (svI M) (sv (d:=.int _ 60) M) M hx1)<|aA M (mvB M M M M)<|aJ M M (.one M) M (by decide) (fun hb=>(mvL M M M M))<|aJ M M (.one M) M (by decide) (fun hb=>(dE (eInt .i64) (l:=a2) M M (lb M) underlying24 (svcL M hb)))<|aJ M M (.one M) M (by decide) (fun hb=>(aQ M M (lb M) (svcI M hb) (sv (d:=.int _ 40) M) M hx2))<|aA M (gJ M M (lb M) (svB M) M M hx3)<|aC ?_)
 refine aW (b:=_) M (fun hc4=>?_) (fun hc4=>?_)
 ·
  replace h:=cI h hc4
  obtain ⟨x5,hx5,h⟩:=aR h
  refine aD (aA M (bC (r:=.bool _) M M (lb M) cl4 .nil M (kV  _ hx5))<|aA M (asB M M M M)<|aC ?_)
  refine bB ?_
  refine bH ?_
  obtain rfl:=sj_ h
  refine ⟨.inr M,(.cons (sv M) .nil)⟩
 ·
  replace h:=cJ h hc4
  refine aU ?_
  refine aO ?_
  refine aD (aA M (jT M M (lb M) underlying22 ti3 (svR M) (sv (d:=.int _ 0) M) (by decide) (by decide) (off':=0) M)<|aA M (aI (d:=.int _ _) M M (lb M) underlying3 ag3 ti3 (by decide) (svR M) M (nle M) M)<|aA M (jT M M (lb M) underlying22 ti3 (svR M) (sv (d:=.int _ 1) M) (by decide) (by decide) (off':=1) M)<|aA M (aI (d:=.int _ _) M M (lb M) underlying3 ag3 ti3 (by decide) (svR M) M (nle M) M) <|?_)
  refine fS (S':=⟨[(1,.slice false (a1.map bE.d)),(2,.slice false (a2.map (eInt .i64).d)),(3,.ref 0 0),(26,.int .i64 a0.c0),(28,.int .i64 a0.c1)],[(0,.blk 22 [.int .i64 a0.c0,.int .i64 a0.c1])]⟩) (fun i=>i) ⟨(.sames M M),(.cons (.blk M M M) .nil),bD [0] M (by decide),fun _ _=>M⟩ ?_
  refine jU 1 1 M M M (by decide) cl5 func5 M (.cons (svI M) (.cons (svI M) .nil)) ntmps5 (nle M) M hO.semiL fun O1 hO1=>?_
  show IWP _ _ _ _ ⟨[(0,.int .i64 a0.c0),(1,.int .i64 a0.c1)],[(1,.kept 1 (.dead::(.slice false (a1.map bE.d)::(.slice false (a2.map (eInt .i64).d)::(.ref 0 0::(dd_ 22 (.int .i64 a0.c0::(.dead::(.int .i64 a0.c1::(dd_ 122 [])))))))))),(0,.blk 22 [.int .i64 a0.c0,.int .i64 a0.c1])]⟩ _
  refine aD (aA M (aF M M (lb M) (sv (d:=.nilp) M))<|aA M (aF M M (lb M) (sv (d:=.int _ 0) M))<|aC ?_)
  refine aT ?_
  obtain ⟨x6,hx6,h⟩:=aR h
  obtain ⟨x7,hx7,h⟩:=aR h
  obtain ⟨x8,hx8,h⟩:=aY h
  refine aD (aA M (mvI M M M M)<|aA M (bC (r:=.bool _) M M (lb M) cl25 (.cons (svI M) (.cons (sv (d:=.int _ 1) M) (.cons (sv (d:=.int _ 24) M) .nil))) M (lD _ _ _ _ hx6))<|aA M (eY M M (lb M) (svB M))<|aA M (mvB M M M M)<|aJ M M (.one M) M (by decide) (fun hb=>(mvI M M M M))<|aJ M M (.one M) M (by decide) (fun hb=>(mvI M M M M))<|aJ M M (.one M) M (by decide) (fun hb=>(bC (r:=.bool _) M M (lb M) cl25 (.cons (svcI M hb) (.cons (sv (d:=.int _ 0) M) (.cons (svcI M hb) .nil))) M (lD _ _ _ _ (gd_t hx7 hb))))<|aJ M M (.one M) M (by decide) (fun hb=>(eY M M (lb M) (svcB M hb)))<|aA M (gJ M M (lb M) (svB M) M M hx8)<|aC ?_)
  refine aW (b:=_) M (fun hc9=>?_) (fun hc9=>?_)
  ·
   replace h:=cI h hc9
   refine aD (aA M (aF M M (lb M) (sv (d:=.nilp) M))<|aA M (aF M M (lb M) (sv (d:=.int _ 8) M))<|aC ?_)
   refine bB ?_
   refine bH ?_
   refine ⟨.inr M,1,_,[.nilp,.int .i64 8],(.cons (sv M) (.cons (sv M) .nil)),M,M,⟨[(1,.slice false (a1.map bE.d)),(2,.slice false (a2.map (eInt .i64).d)),(3,.ref 0 0),(29,.tuple [.nilp,.int .i64 8])],[(0,.blk 22 [.int .i64 a0.c0,.int .i64 a0.c1])]⟩,(fun i=>i),⟨(.sames M M),(.cons (.blk M M M) .nil),bD [0] M (by decide),fun _ _=>M⟩,?_⟩
   refine aA M (aP M M (lb M) (sv (d:=.tuple [.nilp,.int _ _]) M))<|aA M (cE (d:=.nilp) M M (lb M) (sv (d:=.tuple [.nilp,.int _ _]) M) M)<|aA M (cE (d:=.int _ _) M M (lb M) (sv (d:=.tuple [.nilp,.int _ _]) M) M)<|aA M (aF M M (lb M) (sv (d:=.nilp) M))<|aA M (asI M M M M)<|aC ?_
   obtain ⟨x10,hx10,h⟩:=aR h
   refine aD (aA M (jT M M (lb M) underlying22 ti3 (svR M) (sv (d:=.int _ 0) M) (by decide) (by decide) (off':=0) M)<|aA M (aI (d:=.int _ _) M M (lb M) underlying3 ag3 ti3 (by decide) (svR M) M (nle M) M)<|aA M (jT M M (lb M) underlying22 ti3 (svR M) (sv (d:=.int _ 1) M) (by decide) (by decide) (off':=1) M)<|aA M (aI (d:=.int _ _) M M (lb M) underlying3 ag3 ti3 (by decide) (svR M) M (nle M) M)<|aA M (bC (r:=.tuple q24) M M (lb M) cl6 (.cons (svI M) (.cons (svI M) .nil)) M (oX _ _ _ hx10))<|aA M (aP M M (lb M) (sv (d:=.tuple q24) M))<|aA M (cE (d:=.agg q10) M M (lb M) (sv (d:=.tuple q24) M) M)<|aA M (cE (d:=.int _ _) M M (lb M) (sv (d:=.tuple q24) M) M)<|aA M (dA (cs:=q13) (cs':=(w25 0 0 ([]:List aN) ([]:List Int))) 2 M M (lb M) M ti32 M M (.k (.k (.cons (.nils _) (.cons (.nils _) .nil)))))<|aA M (stA q10 q10 ti32 M M M M M M M M (nle M) M)<|aA M (asI M M M M)<|aC ?_)
   refine aT ?_
   obtain ⟨x11,hx11,h⟩:=aY h
   obtain ⟨x12,hx12,h⟩:=aY h
   obtain ⟨x13,hx13,h⟩:=aY h
   obtain ⟨x14,hx14,h⟩:=aY h
   refine aD (aA M (mvI M M M M)<|aA M (mvI M M M M)<|aA M (aQ M M (lb M) (svI M) (svI M) M hx11)<|aA M (mvB M M M M)<|aJ M M (.one M) M (by decide) (fun hb=>(aP M M (lb M) (sv (d:=.nilp) M)))<|aJ M M (.one M) M (by decide) (fun hb=>(aCD M M (lb M) underlying26 (svc (d:=.nilp) M hb) (sv (d:=.nilp) M)))<|aJ M M (.one M) M (by decide) (fun hb=>(mvI M M M M))<|aJ M M (.one M) M (by decide) (fun hb=>(aQ M M (lb M) (svcI M hb) (sv (d:=.int _ 0) M) M hx12))<|aJ M M (.one M) M (by decide) (fun hb=>(zT M M (lb M) underlying4 (svcB M hb) (svcB M hb) hx13))<|aA M (gJ M M (lb M) (svB M) M M hx14)<|aC ?_)
   refine aW (b:=_) M (fun hc15=>?_) (fun hc15=>?_)
   ·
    replace h:=cI h hc15
    refine aD (aA M (aF M M (lb M) (sv (d:=.bool false) M))<|aC ?_)
    refine bB ?_
    refine bH ?_
    obtain rfl:=sj_ h
    refine ⟨.inr M,(.cons (sv M) .nil)⟩
   ·
    replace h:=cJ h hc15
    refine aU ?_
    refine aO ?_
    refine aT ?_
    refine aD (aA M (aF M M (lb M) (sv (d:=.int _ 0) M))<|aC ?_)
    refine bA ?_
    refine cQ (α:=Nat × Int × Int × Int × (List aN) × (List Int)) (fun z=>⟨[(1,.slice false (a1.map bE.d)),(2,.slice false (a2.map (eInt .i64).d)),(7,.nilp),(9,.ref 2 0),(10,.int .i64 x10.2),(11,.int .i64 z.2.1)],[(2,.blk 32 (w25 z.2.2.1 z.2.2.2.1 z.2.2.2.2.1 z.2.2.2.2.2))]⟩) (fun z=>eB a1 a2 x10 z.1 z.2.1 z.2.2.1 z.2.2.2.1 z.2.2.2.2.1 z.2.2.2.2.2=some r) (fun z=>z.1) (fuel,0,x10.1.Room,x10.1.Keep,x10.1.L,x10.1.Closed) (fun i=>i) ⟨(.sames M M),(.cons (.blk M M M) .nil),bD [2] M (by decide),fun _ _=>M⟩ ?_ ?_
    ·exact h
    ·
     rintro ⟨n0,v53,v54,v55,v56,v57⟩ h
     cases n0 with
     | zero=>exact absurd h (by unfold eB; exact nofun)
     | succ n0 =>
      unfold eB at h
      refine aT ?_
      obtain ⟨x95,hx95,h⟩:=aY h
      obtain ⟨x96,hx96,h⟩:=aY h
      obtain ⟨x97,hx97,h⟩:=aY h
      refine aD (aA M (mvI M M M M)<|aA M (mvL M M M M)<|aA M (dE bE (l:=a1) M M (lb M) underlying23 (svL M))<|aA M (aQ M M (lb M) (svI M) (svI M) M hx95)<|aA M (mvB M M M M)<|aJ M M (.one M) M (by decide) (fun hb=>(mvI M M M M))<|aJ M M (.one M) M (by decide) (fun hb=>(aQ M M (lb M) (svcI M hb) (sv (d:=.int _ 0) M) M hx96))<|aA M (cU M M (lb M) (svB M) M M hx97)<|aC ?_)
      refine aW (b:=_) M (fun hc98=>?_) (fun hc98=>?_)
      ·
       replace h:=cI h hc98
       refine aU ?_
       refine aO ?_
       refine aT ?_
       refine bA ?_
       obtain ⟨x99,hx99,h⟩:=aR h
       obtain ⟨x100,hx100,h⟩:=aR h
       refine aD (aA M (aP M M (lb M) (sv (d:=.nilp) M))<|aA M (mvL M M M M)<|aA M (mvI M M M M)<|aA M (cM bE (cs:=q9) M M (lb M) underlying23 ti37 (svL M) (svI M) hx99 M M)<|aA M (fR (cs:=q9) M M (lb M) underlying37 ag37 ti37 (by decide) (sv (d:=.fptr q9) M) (nle M) M)<|aA M (bC (r:=.int _ _) M M (lb M) cl7 (.cons (sv (d:=.nilp) M) (.cons (svA q9 M) .nil)) M (sM _ _ hx100))<|aA M (asI M M M M)<|aC ?_)
       obtain ⟨x101,hx101,h⟩:=aR h
       obtain ⟨x102,hx102,h⟩:=aR h
       refine jK M [⟨[9],[2],[(67,.agg (w25 v54 v55 v56 v57))],[]⟩,
        ⟨[1],[],[(68,.slice false (a1.map bE.d))],[]⟩,
        ⟨[11],[],[(69,.int .i64 v53)],[]⟩,
        ⟨[68,69],[],[(70,.fptr (v1 x101))],[]⟩,
        ⟨[70],[],[(71,.agg (v1 x101))],[]⟩,
        ⟨[67,71],[],[(72,.tuple [.agg (v0 x102.1),.int .i64 x102.2])],[]⟩,
        ⟨[72],[],[(66,.tuple [.agg (v0 x102.1),.int .i64 x102.2])],[]⟩,
        ⟨[66],[],[(73,.agg (v0 x102.1))],[]⟩,
        ⟨[66],[],[(74,.int .i64 x102.2)],[]⟩,
        ⟨[],[3],[(13,.ref 3 0)],[(3,.blk 32 (w25 0 0 ([]:List aN) ([]:List Int)))]⟩,
        ⟨[13,73],[3],[],[(3,.blk 32 (v0 x102.1))]⟩,
        ⟨[74],[],[(14,.int .i64 x102.2)],[]⟩] M ?_ (by kernel_rfl) ?_
       ·refine .cons (lop M M fun S hA=>(dX (cs:=q10) M M (lb M) underlying32 ag32 ti32 (by decide) (svaR hA M M) (agi hA M M) (nle M) M)) ?_
        refine .cons (lop M M fun S hA=>(aP M M (lb M) (svaL hA M M))) ?_
        refine .cons (lop M M fun S hA=>(aP M M (lb M) (svaI hA M M))) ?_
        refine .cons (lop M M fun S hA=>(cM bE (cs:=q9) M M (lb M) underlying23 ti37 (svaL hA M M) (svaI hA M M) hx101 M M)) ?_
        refine .cons (lop M M fun S hA=>(fR (cs:=q9) M M (lb M) underlying37 ag37 ti37 (by decide) (sv (d:=.fptr q9) (agr hA M M)) (nle M) M)) ?_
        refine .cons (lop M M fun S hA=>(bC (r:=.tuple q24) M M (lb M) cl8 (.cons (svaA q10 hA M M) (.cons (svaA q9 hA M M) .nil)) M (nU _ _ _ hx102))) ?_
        refine .cons (lop M M fun S hA=>(aP M M (lb M) (sv (d:=.tuple q24) (agr hA M M)))) ?_
        refine .cons (lop M M fun S hA=>(cE (d:=.agg q10) M M (lb M) (sv (d:=.tuple q24) (agr hA M M)) M)) ?_
        refine .cons (lop M M fun S hA=>(cE (d:=.int _ _) M M (lb M) (sv (d:=.tuple q24) (agr hA M M)) M)) ?_
        refine .cons (lop M M fun S hA=>(dA (cs:=q13) (cs':=(w25 0 0 ([]:List aN) ([]:List Int))) 3 M M (lb M) (agi hA M M) ti32 M M (.k (.k (.cons (.nils _) (.cons (.nils _) .nil)))))) ?_
        refine .cons (lop M M fun S hA=>(cO (ds':=q10) M M ti32 (svaR hA M M) (agi hA M M) (svaA q10 hA M M) M M M (nle M) M)) ?_
        refine .cons (lop M M fun S hA=>(aF M M (lb M) (svaI hA M M))) ?_
        exact .nil
       refine aD (aA M (lra q10 la32 M M M M M (nle M) M)<|aA M (stA q10 q10 ti32 M M M M M M M M (nle M) M)<|aC ?_)
       obtain ⟨x103,hx103,h⟩:=aY h
       obtain ⟨x104,hx104,h⟩:=aR h
       obtain ⟨x105,hx105,h⟩:=aR h
       obtain ⟨x106,hx106,h⟩:=aR h
       obtain ⟨x107,hx107,h⟩:=aY h
       obtain ⟨x108,hx108,h⟩:=aR h
       obtain ⟨x109,hx109,h⟩:=aR h
       obtain ⟨x110,hx110,h⟩:=aY h
       obtain ⟨x111,hx111,h⟩:=aR h
       obtain ⟨x112,hx112,h⟩:=aY h
       obtain ⟨x113,hx113,h⟩:=aY h
       obtain ⟨x114,hx114,h⟩:=aR h
       obtain ⟨x115,hx115,h⟩:=aR h
       obtain ⟨x116,hx116,h⟩:=aR h
       obtain ⟨x117,hx117,h⟩:=aY h
       obtain ⟨x118,hx118,h⟩:=aR h
       obtain ⟨x119,hx119,h⟩:=aR h
       obtain ⟨x120,hx120,h⟩:=aR h
       obtain ⟨x121,hx121,h⟩:=aR h
       obtain ⟨x122,hx122,h⟩:=aR h
       obtain ⟨x123,hx123,h⟩:=aY h
       obtain ⟨x124,hx124,h⟩:=aR h
       obtain ⟨x125,hx125,h⟩:=aR h
       obtain ⟨x126,hx126,h⟩:=aR h
       obtain ⟨x127,hx127,h⟩:=aR h
       obtain ⟨x128,hx128,h⟩:=aR h
       obtain ⟨x129,hx129,h⟩:=aY h
       refine jK M [⟨[12],[],[(76,.int .i64 x100)],[]⟩,
        ⟨[14],[],[(77,.int .i64 x102.2)],[]⟩,
        ⟨[76,77],[],[(78,.bool x103)],[]⟩,
        ⟨[78],[],[(79,.bool x103)],[]⟩,
        ⟨[7,79],[],[(80,.cnd (x103 == false) (.nilp))],[]⟩,
        ⟨[79,80],[],[(81,.cnd (x103 == false) (.slice false (x104.map aM.d)))],[]⟩,
        ⟨[79,81],[],[(82,.cnd (x103 == false) (.slice false (x105.map aM.d)))],[]⟩,
        ⟨[9,79],[],[(83,.cnd (x103 == false) (.ref 2 2))],[]⟩,
        ⟨[79,83],[2],[(84,.cnd (x103 == false) (.slice false (x102.1.L.map aM.d)))],[]⟩,
        ⟨[79,82,84],[],[(85,.cnd (x103 == false) (.bool x106))],[]⟩,
        ⟨[79,85],[],[(86,.cnd (x103 == false) (.bool (!x106)))],[]⟩,
        ⟨[79,86],[],[(87,.bool x107)],[]⟩,
        ⟨[87],[],[(88,.bool x107)],[]⟩,
        ⟨[7,88],[],[(89,.cnd (x107 == false) (.nilp))],[]⟩,
        ⟨[88,89],[],[(90,.cnd (x107 == false) (.slice false (x108.map (eInt .i64).d)))],[]⟩,
        ⟨[9,88],[],[(91,.cnd (x107 == false) (.ref 2 3))],[]⟩,
        ⟨[88,91],[2],[(92,.cnd (x107 == false) (.slice false (x102.1.Closed.map (eInt .i64).d)))],[]⟩,
        ⟨[88,90,92],[],[(93,.cnd (x107 == false) (.bool x109))],[]⟩,
        ⟨[88,93],[],[(94,.cnd (x107 == false) (.bool (!x109)))],[]⟩,
        ⟨[88,94],[],[(95,.bool x110)],[]⟩,
        ⟨[95],[],[(96,.bool x110)],[]⟩,
        ⟨[7,96],[],[(97,.cnd (x110 == false) (.nilp))],[]⟩,
        ⟨[96,97],[],[(98,.cnd (x110 == false) (.int .i64 x111))],[]⟩,
        ⟨[9,96],[],[(99,.cnd (x110 == false) (.ref 2 2))],[]⟩,
        ⟨[96,99],[2],[(100,.cnd (x110 == false) (.slice false (x102.1.L.map aM.d)))],[]⟩,
        ⟨[96,100],[],[(101,.cnd (x110 == false) (.int .i64 (x102.1.L.length:Int)))],[]⟩,
        ⟨[96,98,101],[],[(102,.cnd (x110 == false) (.bool x112))],[]⟩,
        ⟨[96,102],[],[(103,.bool x113)],[]⟩,
        ⟨[103],[],[(104,.bool x113)],[]⟩,
        ⟨[7,104],[],[(105,.cnd (x113 == false) (.nilp))],[]⟩,
        ⟨[2,104],[],[(106,.cnd (x113 == false) (.slice false (a2.map (eInt .i64).d)))],[]⟩,
        ⟨[104,105,106],[],[(107,.cnd (x113 == false) (.slice false (x114.map (eInt .i64).d)))],[]⟩,
        ⟨[9,104],[2],[(108,.cnd (x113 == false) (.agg (v0 x102.1)))],[]⟩,
        ⟨[2,104],[],[(109,.cnd (x113 == false) (.slice false (a2.map (eInt .i64).d)))],[]⟩,
        ⟨[104,108,109],[],[(110,.cnd (x113 == false) (.slice false (x115.map (eInt .i64).d)))],[]⟩,
        ⟨[104,107,110],[],[(111,.cnd (x113 == false) (.bool x116))],[]⟩,
        ⟨[104,111],[],[(112,.cnd (x113 == false) (.bool (!x116)))],[]⟩,
        ⟨[104,112],[],[(113,.bool x117)],[]⟩,
        ⟨[113],[],[(114,.bool x117)],[]⟩,
        ⟨[7,114],[],[(115,.cnd (x117 == false) (.nilp))],[]⟩,
        ⟨[1,114],[],[(116,.cnd (x117 == false) (.slice false (a1.map bE.d)))],[]⟩,
        ⟨[11,114],[],[(117,.cnd (x117 == false) (.int .i64 v53))],[]⟩,
        ⟨[114,116,117],[],[(118,.cnd (x117 == false) (.fptr (v1 x118)))],[]⟩,
        ⟨[114,118],[],[(119,.cnd (x117 == false) (.fptr [.int .i64 x118.ID]))],[]⟩,
        ⟨[114,119],[],[(120,.cnd (x117 == false) (.int .i64 x118.ID))],[]⟩,
        ⟨[114,115,120],[],[(121,.cnd (x117 == false) (.slice false (x119.map (eInt .i64).d)))],[]⟩,
        ⟨[9,114],[2],[(122,.cnd (x117 == false) (.agg (v0 x102.1)))],[]⟩,
        ⟨[1,114],[],[(123,.cnd (x117 == false) (.slice false (a1.map bE.d)))],[]⟩,
        ⟨[11,114],[],[(124,.cnd (x117 == false) (.int .i64 v53))],[]⟩,
        ⟨[114,123,124],[],[(125,.cnd (x117 == false) (.fptr (v1 x120)))],[]⟩,
        ⟨[114,125],[],[(126,.cnd (x117 == false) (.fptr [.int .i64 x120.ID]))],[]⟩,
        ⟨[114,126],[],[(127,.cnd (x117 == false) (.int .i64 x120.ID))],[]⟩,
        ⟨[114,122,127],[],[(128,.cnd (x117 == false) (.slice false (x121.map (eInt .i64).d)))],[]⟩,
        ⟨[114,121,128],[],[(129,.cnd (x117 == false) (.bool x122))],[]⟩,
        ⟨[114,129],[],[(130,.cnd (x117 == false) (.bool (!x122)))],[]⟩,
        ⟨[114,130],[],[(131,.bool x123)],[]⟩,
        ⟨[131],[],[(132,.bool x123)],[]⟩,
        ⟨[7,132],[],[(133,.cnd (x123 == false) (.nilp))],[]⟩,
        ⟨[1,132],[],[(134,.cnd (x123 == false) (.slice false (a1.map bE.d)))],[]⟩,
        ⟨[11,132],[],[(135,.cnd (x123 == false) (.int .i64 v53))],[]⟩,
        ⟨[132,134,135],[],[(136,.cnd (x123 == false) (.fptr (v1 x124)))],[]⟩,
        ⟨[132,136],[],[(137,.cnd (x123 == false) (.fptr [.int .i64 x124.Dep]))],[]⟩,
        ⟨[132,137],[],[(138,.cnd (x123 == false) (.int .i64 x124.Dep))],[]⟩,
        ⟨[132,133,138],[],[(139,.cnd (x123 == false) (.slice false (x125.map (eInt .i64).d)))],[]⟩,
        ⟨[9,132],[2],[(140,.cnd (x123 == false) (.agg (v0 x102.1)))],[]⟩,
        ⟨[1,132],[],[(141,.cnd (x123 == false) (.slice false (a1.map bE.d)))],[]⟩,
        ⟨[11,132],[],[(142,.cnd (x123 == false) (.int .i64 v53))],[]⟩,
        ⟨[132,141,142],[],[(143,.cnd (x123 == false) (.fptr (v1 x126)))],[]⟩,
        ⟨[132,143],[],[(144,.cnd (x123 == false) (.fptr [.int .i64 x126.Dep]))],[]⟩,
        ⟨[132,144],[],[(145,.cnd (x123 == false) (.int .i64 x126.Dep))],[]⟩,
        ⟨[132,140,145],[],[(146,.cnd (x123 == false) (.slice false (x127.map (eInt .i64).d)))],[]⟩,
        ⟨[132,139,146],[],[(147,.cnd (x123 == false) (.bool x128))],[]⟩,
        ⟨[132,147],[],[(148,.cnd (x123 == false) (.bool (!x128)))],[]⟩,
        ⟨[132,148],[],[(149,.bool x129)],[]⟩] M ?_ (by kernel_rfl) ?_
       ·refine .cons (lop M M fun S hA=>(aP M M (lb M) (svaI hA M M))) ?_
        refine .cons (lop M M fun S hA=>(aP M M (lb M) (svaI hA M M))) ?_
        refine .cons (lop M M fun S hA=>(aQ M M (lb M) (svaI hA M M) (svaI hA M M) M hx103)) ?_
        refine .cons (lop M M fun S hA=>(aP M M (lb M) (svaB hA M M))) ?_
        refine .cons (lopg M M M M (by decide) (fun S hA=>grd1 hA M M) (fun S hA hb=>(aP M M (lb M) (sv (d:=.nilp) (agr hA M M))))) ?_
        refine .cons (lopg M M M M (by decide) (fun S hA=>grd1 hA M M) (fun S hA hb=>(bC (r:=.slice _ _) M M (lb M) cl11 (.cons (svc (d:=.nilp) (agr hA M M) hb) .nil) M (rC  _ (gd_t hx104 hb))))) ?_
        refine .cons (lopg M M M M (by decide) (fun S hA=>grd1 hA M M) (fun S hA hb=>(bC (r:=.slice _ _) M M (lb M) cl10 (.cons (svc (d:=.slice _ _) (agr hA M M) hb) .nil) M (lQ _ _ (gd_t hx105 hb))))) ?_
        refine .cons (lopg M M M M (by decide) (fun S hA=>grd1 hA M M) (fun S hA hb=>(aS M M (lb M) underlying32 M ti30 (by decide) (svaR hA M M) (off':=2) M))) ?_
        refine .cons (lopg M M M M (by decide) (fun S hA=>grd1 hA M M) (fun S hA hb=>(aI (d:=.slice _ _) M M (lb M) underlying30 ag30 ti30 (by decide) (svc (d:=.ref _ _) (agr hA M M) hb) (agi hA M M) (nle M) M))) ?_
        refine .cons (lopg M M M M (by decide) (fun S hA=>grd1 hA M M) (fun S hA hb=>(bC (r:=.bool _) M M (lb M) cl9 (.cons (svc (d:=.slice _ _) (agr hA M M) hb) (.cons (svc (d:=.slice _ _) (agr hA M M) hb) .nil)) M (iT _ _ _ (gd_t hx106 hb))))) ?_
        refine .cons (lopg M M M M (by decide) (fun S hA=>grd1 hA M M) (fun S hA hb=>(eY M M (lb M) (svc (d:=.bool _) (agr hA M M) hb)))) ?_
        refine .cons (lop M M fun S hA=>(gJ M M (lb M) (svaB hA M M) M (agr hA M M) hx107)) ?_
        refine .cons (lop M M fun S hA=>(aP M M (lb M) (svaB hA M M))) ?_
        refine .cons (lopg M M M M (by decide) (fun S hA=>grd1 hA M M) (fun S hA hb=>(aP M M (lb M) (sv (d:=.nilp) (agr hA M M))))) ?_
        refine .cons (lopg M M M M (by decide) (fun S hA=>grd1 hA M M) (fun S hA hb=>(bC (r:=.slice _ _) M M (lb M) cl13 (.cons (svc (d:=.nilp) (agr hA M M) hb) .nil) M (qI  _ (gd_t hx108 hb))))) ?_
        refine .cons (lopg M M M M (by decide) (fun S hA=>grd1 hA M M) (fun S hA hb=>(aS M M (lb M) underlying32 M ti24 (by decide) (svaR hA M M) (off':=3) M))) ?_
        refine .cons (lopg M M M M (by decide) (fun S hA=>grd1 hA M M) (fun S hA hb=>(aI (d:=.slice _ _) M M (lb M) underlying24 ag24 ti24 (by decide) (svc (d:=.ref _ _) (agr hA M M) hb) (agi hA M M) (nle M) M))) ?_
        refine .cons (lopg M M M M (by decide) (fun S hA=>grd1 hA M M) (fun S hA hb=>(bC (r:=.bool _) M M (lb M) cl12 (.cons (svc (d:=.slice _ _) (agr hA M M) hb) (.cons (svc (d:=.slice _ _) (agr hA M M) hb) .nil)) M (cD _ _ _ (gd_t hx109 hb))))) ?_
        refine .cons (lopg M M M M (by decide) (fun S hA=>grd1 hA M M) (fun S hA hb=>(eY M M (lb M) (svc (d:=.bool _) (agr hA M M) hb)))) ?_
        refine .cons (lop M M fun S hA=>(gJ M M (lb M) (svaB hA M M) M (agr hA M M) hx110)) ?_
        refine .cons (lop M M fun S hA=>(aP M M (lb M) (svaB hA M M))) ?_
        refine .cons (lopg M M M M (by decide) (fun S hA=>grd1 hA M M) (fun S hA hb=>(aP M M (lb M) (sv (d:=.nilp) (agr hA M M))))) ?_
        refine .cons (lopg M M M M (by decide) (fun S hA=>grd1 hA M M) (fun S hA hb=>(bC (r:=.int _ _) M M (lb M) cl14 (.cons (svc (d:=.nilp) (agr hA M M) hb) .nil) M (sN  _ (gd_t hx111 hb))))) ?_
        refine .cons (lopg M M M M (by decide) (fun S hA=>grd1 hA M M) (fun S hA hb=>(aS M M (lb M) underlying32 M ti30 (by decide) (svaR hA M M) (off':=2) M))) ?_
        refine .cons (lopg M M M M (by decide) (fun S hA=>grd1 hA M M) (fun S hA hb=>(aI (d:=.slice _ _) M M (lb M) underlying30 ag30 ti30 (by decide) (svc (d:=.ref _ _) (agr hA M M) hb) (agi hA M M) (nle M) M))) ?_
        refine .cons (lopg M M M M (by decide) (fun S hA=>grd1 hA M M) (fun S hA hb=>(dE aM (l:=x102.1.L) M M (lb M) underlying30 (svc (d:=.slice _ _) (agr hA M M) hb)))) ?_
        refine .cons (lopg M M M M (by decide) (fun S hA=>grd1 hA M M) (fun S hA hb=>(aQ M M (lb M) (svc (d:=.int _ _) (agr hA M M) hb) (svc (d:=.int _ _) (agr hA M M) hb) M hx112))) ?_
        refine .cons (lop M M fun S hA=>(gJ M M (lb M) (svaB hA M M) M (agr hA M M) hx113)) ?_
        refine .cons (lop M M fun S hA=>(aP M M (lb M) (svaB hA M M))) ?_
        refine .cons (lopg M M M M (by decide) (fun S hA=>grd1 hA M M) (fun S hA hb=>(aP M M (lb M) (sv (d:=.nilp) (agr hA M M))))) ?_
        refine .cons (lopg M M M M (by decide) (fun S hA=>grd1 hA M M) (fun S hA hb=>(aP M M (lb M) (svaL hA M M)))) ?_
        refine .cons (lopg M M M M (by decide) (fun S hA=>grd1 hA M M) (fun S hA hb=>(bC (r:=.slice _ _) M M (lb M) cl15 (.cons (svc (d:=.nilp) (agr hA M M) hb) (.cons (svc (d:=.slice _ _) (agr hA M M) hb) .nil)) M (rB _ _ (gd_t hx114 hb))))) ?_
        refine .cons (lopg M M M M (by decide) (fun S hA=>grd1 hA M M) (fun S hA hb=>(dX (cs:=q10) M M (lb M) underlying32 ag32 ti32 (by decide) (svaR hA M M) (agi hA M M) (nle M) M))) ?_
        refine .cons (lopg M M M M (by decide) (fun S hA=>grd1 hA M M) (fun S hA hb=>(aP M M (lb M) (svaL hA M M)))) ?_
        refine .cons (lopg M M M M (by decide) (fun S hA=>grd1 hA M M) (fun S hA hb=>(bC (r:=.slice _ _) M M (lb M) cl16 (.cons (svc (d:=.agg (v0 x102.1)) (agr hA M M) hb) (.cons (svc (d:=.slice _ _) (agr hA M M) hb) .nil)) M (lV _ _ _ (gd_t hx115 hb))))) ?_
        refine .cons (lopg M M M M (by decide) (fun S hA=>grd1 hA M M) (fun S hA hb=>(bC (r:=.bool _) M M (lb M) cl12 (.cons (svc (d:=.slice _ _) (agr hA M M) hb) (.cons (svc (d:=.slice _ _) (agr hA M M) hb) .nil)) M (cD _ _ _ (gd_t hx116 hb))))) ?_
        refine .cons (lopg M M M M (by decide) (fun S hA=>grd1 hA M M) (fun S hA hb=>(eY M M (lb M) (svc (d:=.bool _) (agr hA M M) hb)))) ?_
        refine .cons (lop M M fun S hA=>(gJ M M (lb M) (svaB hA M M) M (agr hA M M) hx117)) ?_
        refine .cons (lop M M fun S hA=>(aP M M (lb M) (svaB hA M M))) ?_
        refine .cons (lopg M M M M (by decide) (fun S hA=>grd1 hA M M) (fun S hA hb=>(aP M M (lb M) (sv (d:=.nilp) (agr hA M M))))) ?_
        refine .cons (lopg M M M M (by decide) (fun S hA=>grd1 hA M M) (fun S hA hb=>(aP M M (lb M) (svaL hA M M)))) ?_
        refine .cons (lopg M M M M (by decide) (fun S hA=>grd1 hA M M) (fun S hA hb=>(aP M M (lb M) (svaI hA M M)))) ?_
        refine .cons (lopg M M M M (by decide) (fun S hA=>grd1 hA M M) (fun S hA hb=>(cM bE (cs:=q9) M M (lb M) underlying23 ti37 (svc (d:=.slice _ _) (agr hA M M) hb) (svc (d:=.int _ _) (agr hA M M) hb) (gd_t hx118 hb) M M))) ?_
        refine .cons (lopg M M M M (by decide) (fun S hA=>grd1 hA M M) (fun S hA hb=>(cF (cs':=[.int _ _]) M M (lb M) underlying37 M ti3 (by decide) (svc (d:=.fptr q9) (agr hA M M) hb) M))) ?_
        refine .cons (lopg M M M M (by decide) (fun S hA=>grd1 hA M M) (fun S hA hb=>(cG M M (lb M) underlying3 ag3 ti3 (by decide) (svc (d:=.fptr [.int _ _]) (agr hA M M) hb) (nle M)))) ?_
        refine .cons (lopg M M M M (by decide) (fun S hA=>grd1 hA M M) (fun S hA hb=>(bC (r:=.slice _ _) M M (lb M) cl17 (.cons (svc (d:=.nilp) (agr hA M M) hb) (.cons (svc (d:=.int _ _) (agr hA M M) hb) .nil)) M (rR _ _ (gd_t hx119 hb))))) ?_
        refine .cons (lopg M M M M (by decide) (fun S hA=>grd1 hA M M) (fun S hA hb=>(dX (cs:=q10) M M (lb M) underlying32 ag32 ti32 (by decide) (svaR hA M M) (agi hA M M) (nle M) M))) ?_
        refine .cons (lopg M M M M (by decide) (fun S hA=>grd1 hA M M) (fun S hA hb=>(aP M M (lb M) (svaL hA M M)))) ?_
        refine .cons (lopg M M M M (by decide) (fun S hA=>grd1 hA M M) (fun S hA hb=>(aP M M (lb M) (svaI hA M M)))) ?_
        refine .cons (lopg M M M M (by decide) (fun S hA=>grd1 hA M M) (fun S hA hb=>(cM bE (cs:=q9) M M (lb M) underlying23 ti37 (svc (d:=.slice _ _) (agr hA M M) hb) (svc (d:=.int _ _) (agr hA M M) hb) (gd_t hx120 hb) M M))) ?_
        refine .cons (lopg M M M M (by decide) (fun S hA=>grd1 hA M M) (fun S hA hb=>(cF (cs':=[.int _ _]) M M (lb M) underlying37 M ti3 (by decide) (svc (d:=.fptr q9) (agr hA M M) hb) M))) ?_
        refine .cons (lopg M M M M (by decide) (fun S hA=>grd1 hA M M) (fun S hA hb=>(cG M M (lb M) underlying3 ag3 ti3 (by decide) (svc (d:=.fptr [.int _ _]) (agr hA M M) hb) (nle M)))) ?_
        refine .cons (lopg M M M M (by decide) (fun S hA=>grd1 hA M M) (fun S hA hb=>(bC (r:=.slice _ _) M M (lb M) cl18 (.cons (svc (d:=.agg (v0 x102.1)) (agr hA M M) hb) (.cons (svc (d:=.int _ _) (agr hA M M) hb) .nil)) M (iR _ _ _ (gd_t hx121 hb))))) ?_
        refine .cons (lopg M M M M (by decide) (fun S hA=>grd1 hA M M) (fun S hA hb=>(bC (r:=.bool _) M M (lb M) cl12 (.cons (svc (d:=.slice _ _) (agr hA M M) hb) (.cons (svc (d:=.slice _ _) (agr hA M M) hb) .nil)) M (cD _ _ _ (gd_t hx122 hb))))) ?_
        refine .cons (lopg M M M M (by decide) (fun S hA=>grd1 hA M M) (fun S hA hb=>(eY M M (lb M) (svc (d:=.bool _) (agr hA M M) hb)))) ?_
        refine .cons (lop M M fun S hA=>(gJ M M (lb M) (svaB hA M M) M (agr hA M M) hx123)) ?_
        refine .cons (lop M M fun S hA=>(aP M M (lb M) (svaB hA M M))) ?_
        refine .cons (lopg M M M M (by decide) (fun S hA=>grd1 hA M M) (fun S hA hb=>(aP M M (lb M) (sv (d:=.nilp) (agr hA M M))))) ?_
        refine .cons (lopg M M M M (by decide) (fun S hA=>grd1 hA M M) (fun S hA hb=>(aP M M (lb M) (svaL hA M M)))) ?_
        refine .cons (lopg M M M M (by decide) (fun S hA=>grd1 hA M M) (fun S hA hb=>(aP M M (lb M) (svaI hA M M)))) ?_
        refine .cons (lopg M M M M (by decide) (fun S hA=>grd1 hA M M) (fun S hA hb=>(cM bE (cs:=q9) M M (lb M) underlying23 ti37 (svc (d:=.slice _ _) (agr hA M M) hb) (svc (d:=.int _ _) (agr hA M M) hb) (gd_t hx124 hb) M M))) ?_
        refine .cons (lopg M M M M (by decide) (fun S hA=>grd1 hA M M) (fun S hA hb=>(cF (cs':=[.int _ _]) M M (lb M) underlying37 M ti3 (by decide) (svc (d:=.fptr q9) (agr hA M M) hb) M))) ?_
        refine .cons (lopg M M M M (by decide) (fun S hA=>grd1 hA M M) (fun S hA hb=>(cG M M (lb M) underlying3 ag3 ti3 (by decide) (svc (d:=.fptr [.int _ _]) (agr hA M M) hb) (nle M)))) ?_
        refine .cons (lopg M M M M (by decide) (fun S hA=>grd1 hA M M) (fun S hA hb=>(bC (r:=.slice _ _) M M (lb M) cl19 (.cons (svc (d:=.nilp) (agr hA M M) hb) (.cons (svc (d:=.int _ _) (agr hA M M) hb) .nil)) M (rT _ _ (gd_t hx125 hb))))) ?_
        refine .cons (lopg M M M M (by decide) (fun S hA=>grd1 hA M M) (fun S hA hb=>(dX (cs:=q10) M M (lb M) underlying32 ag32 ti32 (by decide) (svaR hA M M) (agi hA M M) (nle M) M))) ?_
        refine .cons (lopg M M M M (by decide) (fun S hA=>grd1 hA M M) (fun S hA hb=>(aP M M (lb M) (svaL hA M M)))) ?_
        refine .cons (lopg M M M M (by decide) (fun S hA=>grd1 hA M M) (fun S hA hb=>(aP M M (lb M) (svaI hA M M)))) ?_
        refine .cons (lopg M M M M (by decide) (fun S hA=>grd1 hA M M) (fun S hA hb=>(cM bE (cs:=q9) M M (lb M) underlying23 ti37 (svc (d:=.slice _ _) (agr hA M M) hb) (svc (d:=.int _ _) (agr hA M M) hb) (gd_t hx126 hb) M M))) ?_
        refine .cons (lopg M M M M (by decide) (fun S hA=>grd1 hA M M) (fun S hA hb=>(cF (cs':=[.int _ _]) M M (lb M) underlying37 M ti3 (by decide) (svc (d:=.fptr q9) (agr hA M M) hb) M))) ?_
        refine .cons (lopg M M M M (by decide) (fun S hA=>grd1 hA M M) (fun S hA hb=>(cG M M (lb M) underlying3 ag3 ti3 (by decide) (svc (d:=.fptr [.int _ _]) (agr hA M M) hb) (nle M)))) ?_
        refine .cons (lopg M M M M (by decide) (fun S hA=>grd1 hA M M) (fun S hA hb=>(bC (r:=.slice _ _) M M (lb M) cl20 (.cons (svc (d:=.agg (v0 x102.1)) (agr hA M M) hb) (.cons (svc (d:=.int _ _) (agr hA M M) hb) .nil)) M (iS _ _ _ (gd_t hx127 hb))))) ?_
        refine .cons (lopg M M M M (by decide) (fun S hA=>grd1 hA M M) (fun S hA hb=>(bC (r:=.bool _) M M (lb M) cl12 (.cons (svc (d:=.slice _ _) (agr hA M M) hb) (.cons (svc (d:=.slice _ _) (agr hA M M) hb) .nil)) M (cD _ _ _ (gd_t hx128 hb))))) ?_
        refine .cons (lopg M M M M (by decide) (fun S hA=>grd1 hA M M) (fun S hA hb=>(eY M M (lb M) (svc (d:=.bool _) (agr hA M M) hb)))) ?_
        refine .cons (lop M M fun S hA=>(gJ M M (lb M) (svaB hA M M) M (agr hA M M) hx129)) ?_
        exact .nil
       refine aW (b:=_) M (fun hc130=>?_) (fun hc130=>?_)
       ·
        replace h:=cI h hc130
        refine aD (aA M (aF M M (lb M) (sv (d:=.bool false) M))<|aC ?_)
        refine bB ?_
        refine dC ?_
        refine bH ?_
        refine bH ?_
        refine dC ?_
        refine bH ?_
        obtain rfl:=sj_ h
        refine ⟨.inr M,(.cons (sv M) .nil)⟩
       ·
        replace h:=cJ h hc130
        refine aU ?_
        refine bL ?_
        refine aO ?_
        obtain ⟨x131,hx131,h⟩:=aY h
        refine aX (aA M (mvI M M M M)<|aA M (cK M M (lb M) (svI M) (sv (d:=.int _ 1) M) M hx131)<|aA M (asI M M M M)<|bK ?_)
        refine aO ⟨(n0,x131,x102.1.Room,x102.1.Keep,x102.1.L,x102.1.Closed),(fun i=>i),⟨(.sames M M),(.cons (.blk M M M) .nil),bD [2] M (by decide),fun _ _=>M⟩,?_,?_⟩
        exact h
        exact Nat.lt_succ_self _
      ·
       replace h:=cJ h hc98
       refine cX ?_
       refine bR ?_
       refine bR ?_
       refine cZ ?_
       refine aO ?_
       obtain ⟨x132,hx132,h⟩:=aR h
       refine aD (aA M (bC (r:=.bool _) M M (lb M) cl4 .nil M (kV  _ hx132))<|aA M (asB M M M M)<|aC ?_)
       refine bB ?_
       obtain rfl:=sj_ h
       refine ⟨.inr M,(.cons (sv M) .nil)⟩
  ·
   replace h:=cJ h hc9
   refine aU ?_
   refine aO ?_
   obtain ⟨x133,hx133,h⟩:=aR h
   refine aD (aA M (mvI M M M M)<|aA M (mvI M M M M)<|aA M (bC (r:=.agg q14) M M (lb M) cl26 .nil M (qK  _ hx133))<|aA M (cP (cs:=(mixD aB.toEnc0 q8 (List.replicate 64 (⟨0,0,0,0,0,false⟩:aG):(List aG)) [.int _ _,.nils])) M M (lb M) underlying62 ti62 pl62 M (.cons (svI M) (.cons (svI M) (.cons (svA q14 M) (.cons (sv (d:=.int _ (-1)) M) .nil)))) (by kernel_rfl))<|aA M (cY (cs:=(mixD aB.toEnc0 q8 (List.replicate 64 (⟨0,0,0,0,0,false⟩:aG):(List aG)) [.int _ _,.nils])) 2 M M (lb M) M (sv (d:=.agg (mixD aB.toEnc0 q8 (List.replicate 64 (⟨0,0,0,0,0,false⟩:aG):(List aG)) [.int _ _,.nils])) M) M M)<|fS (S':=⟨[(0,.int .i64 a0.c0),(1,.int .i64 a0.c1),(4,.nilp),(5,.int .i64 0),(6,.int .i64 a0.c0),(7,.bool x6),(8,.bool (!x6)),(9,.bool (!x6)),(14,.bool x8),(15,.int .i64 a0.c0),(16,.int .i64 a0.c1),(17,.agg (v2 x133)),(18,.agg (mixD aB.toEnc0 (w26 a0.c0 a0.c1 x133.Cells x133.Free x133.Used) (List.replicate 64 (⟨0,0,0,0,0,false⟩:aG):(List aG)) [.int .i64 (-1),.nils])),(19,.ref 2 0)],[(3,.blk 3 (D.flat (([]:(List Int)).map (eInt .i64).d))),(0,.blk 22 [.int .i64 a0.c0,.int .i64 a0.c1]),(1,.kept 1 (.dead::(.slice false (a1.map bE.d)::(.slice false (a2.map (eInt .i64).d)::(.ref 0 0::(dd_ 22 (.int .i64 a0.c0::(.dead::(.int .i64 a0.c1::(dd_ 122 [])))))))))),(2,.blk 62 (mixD aB.toEnc0 (w26 a0.c0 a0.c1 x133.Cells x133.Free x133.Used) (List.replicate 64 (⟨0,0,0,0,0,false⟩:aG):(List aG)) [.int .i64 (-1),.osl 3 (eInt .i64).sz 0]))]⟩) (fun i=>if i=3 then 56 else i) ⟨(.sames M M),(.cons (.nilb M) (.cons (.blk M M M) (.cons (.kept M M M) (.cons (EntW.mix aB M (SubC.of_eq M) (.same (.nilo .nil)) M M) .nil)))),bD [56,0,1,2] M (by decide),(fun i hi=>by first | rfl | (show (if _ then _ else _)=_; (repeat' split) <;> omega))⟩<|aA M (aF M M (lb M) (svR M))<|aA M (aF M M (lb M) (sv (d:=.int _ 0) M))<|aC ?_)
   refine bB ?_
   refine ⟨.inr M,1,_,[.ref 2 0,.int .i64 0],(.cons (sv M) (.cons (sv M) .nil)),M,M,⟨[(1,.slice false (a1.map bE.d)),(2,.slice false (a2.map (eInt .i64).d)),(3,.ref 0 0),(29,.tuple [.ref 2 0,.int .i64 0])],[(0,.blk 22 [.int .i64 a0.c0,.int .i64 a0.c1]),(2,.blk 62 (mixD aB.toEnc0 (w26 a0.c0 a0.c1 x133.Cells x133.Free x133.Used) (List.replicate 64 (⟨0,0,0,0,0,false⟩:aG):(List aG)) [.int .i64 (-1),.osl 3 (eInt .i64).sz 0])),(3,.blk 3 (D.flat (([]:(List Int)).map (eInt .i64).d)))]⟩,(fun i=>i),⟨(.sames M M),(.cons (.blk M M M) (.cons (EntW.mix aB M (SubC.of_eq M) (SubC.of_eq M) M M) (.cons (EntW.lst M) .nil))),bD [0,2,3] M (by decide),fun _ _=>M⟩,?_⟩
   refine aA M (aP M M (lb M) (sv (d:=.tuple q21) M))<|aA M (cE (d:=.ref _ _) M M (lb M) (sv (d:=.tuple q21) M) M)<|aA M (cE (d:=.int _ _) M M (lb M) (sv (d:=.tuple q21) M) M)<|aA M (aF M M (lb M) (svR M))<|aA M (asI M M M M)<|aC ?_
   obtain ⟨x134,hx134,h⟩:=aR h
   refine aD (aA M (jT M M (lb M) underlying22 ti3 (svR M) (sv (d:=.int _ 0) M) (by decide) (by decide) (off':=0) M)<|aA M (aI (d:=.int _ _) M M (lb M) underlying3 ag3 ti3 (by decide) (svR M) M (nle M) M)<|aA M (jT M M (lb M) underlying22 ti3 (svR M) (sv (d:=.int _ 1) M) (by decide) (by decide) (off':=1) M)<|aA M (aI (d:=.int _ _) M M (lb M) underlying3 ag3 ti3 (by decide) (svR M) M (nle M) M)<|aA M (bC (r:=.tuple q24) M M (lb M) cl6 (.cons (svI M) (.cons (svI M) .nil)) M (oX _ _ _ hx134))<|aA M (aP M M (lb M) (sv (d:=.tuple q24) M))<|aA M (cE (d:=.agg q10) M M (lb M) (sv (d:=.tuple q24) M) M)<|aA M (cE (d:=.int _ _) M M (lb M) (sv (d:=.tuple q24) M) M)<|aA M (dA (cs:=q13) (cs':=(w25 0 0 ([]:List aN) ([]:List Int))) 4 M M (lb M) M ti32 M M (.k (.k (.cons (.nils _) (.cons (.nils _) .nil)))))<|aA M (stA q10 q10 ti32 M M M M M M M M (nle M) M)<|aA M (asI M M M M)<|aC ?_)
   refine aT ?_
   obtain ⟨x135,hx135,h⟩:=aY h
   obtain ⟨x136,hx136,h⟩:=aY h
   obtain ⟨x137,hx137,h⟩:=aY h
   obtain ⟨x138,hx138,h⟩:=aY h
   refine aD (aA M (mvI M M M M)<|aA M (mvI M M M M)<|aA M (aQ M M (lb M) (svI M) (svI M) M hx135)<|aA M (mvB M M M M)<|aJ M M (.one M) M (by decide) (fun hb=>(mvR M M M M))<|aJ M M (.one M) M (by decide) (fun hb=>(iop_nen M M (lb M) underlying26 (svcR M hb) (sv (d:=.nilp) M)))<|aJ M M (.one M) M (by decide) (fun hb=>(mvI M M M M))<|aJ M M (.one M) M (by decide) (fun hb=>(aQ M M (lb M) (svcI M hb) (sv (d:=.int _ 0) M) M hx136))<|aJ M M (.one M) M (by decide) (fun hb=>(zT M M (lb M) underlying4 (svcB M hb) (svcB M hb) hx137))<|aA M (gJ M M (lb M) (svB M) M M hx138)<|aC ?_)
   refine aW (b:=_) M (fun hc139=>?_) (fun hc139=>?_)
   ·
    replace h:=cI h hc139
    refine aD (aA M (aF M M (lb M) (sv (d:=.bool false) M))<|aC ?_)
    refine bB ?_
    refine bH ?_
    obtain rfl:=sj_ h
    refine ⟨.inr M,(.cons (sv M) .nil)⟩
   ·
    replace h:=cJ h hc139
    refine aU ?_
    refine aO ?_
    refine aT ?_
    refine aD (aA M (aF M M (lb M) (sv (d:=.int _ 0) M))<|aC ?_)
    refine bA ?_
    refine cQ (α:=Nat × Int × Int × Int × (List aH) × Int × Int × (List aG) × Int × (List Int) × Int × Int × (List aN) × (List Int)) (fun z=>⟨[(1,.slice false (a1.map bE.d)),(2,.slice false (a2.map (eInt .i64).d)),(7,.ref 2 0),(9,.ref 4 0),(10,.int .i64 x134.2),(11,.int .i64 z.2.1)],[(2,.blk 62 (mixD aB.toEnc0 (w26 z.2.2.1 z.2.2.2.1 z.2.2.2.2.1 z.2.2.2.2.2.1 z.2.2.2.2.2.2.1) z.2.2.2.2.2.2.2.1 [.int .i64 z.2.2.2.2.2.2.2.2.1,.osl 3 (eInt .i64).sz z.2.2.2.2.2.2.2.2.2.1.length])),(4,.blk 32 (w25 z.2.2.2.2.2.2.2.2.2.2.1 z.2.2.2.2.2.2.2.2.2.2.2.1 z.2.2.2.2.2.2.2.2.2.2.2.2.1 z.2.2.2.2.2.2.2.2.2.2.2.2.2)),(3,.blk 3 (D.flat (z.2.2.2.2.2.2.2.2.2.1.map (eInt .i64).d)))]⟩) (fun z=>eA a1 a2 x134 z.1 z.2.1 z.2.2.1 z.2.2.2.1 z.2.2.2.2.1 z.2.2.2.2.2.1 z.2.2.2.2.2.2.1 z.2.2.2.2.2.2.2.1 z.2.2.2.2.2.2.2.2.1 z.2.2.2.2.2.2.2.2.2.1 z.2.2.2.2.2.2.2.2.2.2.1 z.2.2.2.2.2.2.2.2.2.2.2.1 z.2.2.2.2.2.2.2.2.2.2.2.2.1 z.2.2.2.2.2.2.2.2.2.2.2.2.2=some r) (fun z=>z.1) (fuel,0,a0.c0,a0.c1,x133.Cells,x133.Free,x133.Used,(List.replicate 64 (⟨0,0,0,0,0,false⟩:aG):(List aG)),(-1),([]:(List Int)),x134.1.Room,x134.1.Keep,x134.1.L,x134.1.Closed) (fun i=>i) ⟨(.sames M M),(.cons (EntW.mix aB M (SubC.of_eq M) (SubC.of_eq M) M M) (.cons (.blk M M M) (.cons (EntW.lst M) .nil))),bD [2,4,3] M (by decide),fun _ _=>M⟩ ?_ ?_
    ·exact h
    ·
     rintro ⟨n1,v177,v178,v179,v180,v181,v182,v183,v184,v185,v186,v187,v188,v189⟩ h
     cases n1 with
     | zero=>exact absurd h (by unfold eA; exact nofun)
     | succ n1 =>
      unfold eA at h
      refine aT ?_
      obtain ⟨x227,hx227,h⟩:=aY h
      obtain ⟨x228,hx228,h⟩:=aY h
      obtain ⟨x229,hx229,h⟩:=aY h
      refine aD (aA M (mvI M M M M)<|aA M (mvL M M M M)<|aA M (dE bE (l:=a1) M M (lb M) underlying23 (svL M))<|aA M (aQ M M (lb M) (svI M) (svI M) M hx227)<|aA M (mvB M M M M)<|aJ M M (.one M) M (by decide) (fun hb=>(mvI M M M M))<|aJ M M (.one M) M (by decide) (fun hb=>(aQ M M (lb M) (svcI M hb) (sv (d:=.int _ 0) M) M hx228))<|aA M (cU M M (lb M) (svB M) M M hx229)<|aC ?_)
      refine aW (b:=_) M (fun hc230=>?_) (fun hc230=>?_)
      ·
       replace h:=cI h hc230
       refine aU ?_
       refine aO ?_
       refine aT ?_
       refine bA ?_
       obtain ⟨x231,hx231,h⟩:=aR h
       obtain ⟨x232,hx232,h⟩:=aR h
       refine aD (aA M (mvR M M M M)<|aA M (mvL M M M M)<|aA M (mvI M M M M)<|aA M (cM bE (cs:=q9) M M (lb M) underlying23 ti37 (svL M) (svI M) hx231 M M)<|aA M (fR (cs:=q9) M M (lb M) underlying37 ag37 ti37 (by decide) (sv (d:=.fptr q9) M) (nle M) M)<|aA M (cW (r':=.int .i64 x232.1) (H1':=[(2,.blk 62 (mixD aB.toEnc0 (w26 x232.2.1 x232.2.2.1 x232.2.2.2.1 x232.2.2.2.2.1 x232.2.2.2.2.2.1) x232.2.2.2.2.2.2.1 [.int .i64 x232.2.2.2.2.2.2.2.1,.osl 5 (eInt .i64).sz x232.2.2.2.2.2.2.2.2.length])),(5,.blk 3 (D.flat (x232.2.2.2.2.2.2.2.2.map (eInt .i64).d)))]) 5 [2,3] M M (lb M) cl7 (.cons (svR M) (.cons (svA q9 M) .nil)) M M ⟨M,M,by decide,M,List.forall_mem_cons.2 ⟨⟨M,M,(gT aB M M M),(bV aB M M)⟩,List.forall_mem_cons.2 ⟨⟨M,M,(gE (eInt .i64) M),(bN (eInt .i64))⟩,List.forall_mem_nil _⟩⟩⟩ (rA _ _ _ _ _ _ _ _ _ _ hx232) M M (List.forall_mem_cons.2 ⟨⟨M,(bV aB M M)⟩,List.forall_mem_cons.2 ⟨⟨M,(bN (eInt .i64))⟩,List.forall_mem_nil _⟩⟩) (by simp only [List.map_cons,List.map_nil,Ent.ren,bJ,bY,cB]; rfl))<|aA M (asI M M M M)<|aC ?_)
       obtain ⟨x233,hx233,h⟩:=aR h
       obtain ⟨x234,hx234,h⟩:=aR h
       refine jK M [⟨[9],[4],[(67,.agg (w25 v186 v187 v188 v189))],[]⟩,
        ⟨[1],[],[(68,.slice false (a1.map bE.d))],[]⟩,
        ⟨[11],[],[(69,.int .i64 v177)],[]⟩,
        ⟨[68,69],[],[(70,.fptr (v1 x233))],[]⟩,
        ⟨[70],[],[(71,.agg (v1 x233))],[]⟩,
        ⟨[67,71],[],[(72,.tuple [.agg (v0 x234.1),.int .i64 x234.2])],[]⟩,
        ⟨[72],[],[(66,.tuple [.agg (v0 x234.1),.int .i64 x234.2])],[]⟩,
        ⟨[66],[],[(73,.agg (v0 x234.1))],[]⟩,
        ⟨[66],[],[(74,.int .i64 x234.2)],[]⟩,
        ⟨[],[6],[(13,.ref 6 0)],[(6,.blk 32 (w25 0 0 ([]:List aN) ([]:List Int)))]⟩,
        ⟨[13,73],[6],[],[(6,.blk 32 (v0 x234.1))]⟩,
        ⟨[74],[],[(14,.int .i64 x234.2)],[]⟩] M ?_ (by kernel_rfl) ?_
       ·refine .cons (lop M M fun S hA=>(dX (cs:=q10) M M (lb M) underlying32 ag32 ti32 (by decide) (svaR hA M M) (agi hA M M) (nle M) M)) ?_
        refine .cons (lop M M fun S hA=>(aP M M (lb M) (svaL hA M M))) ?_
        refine .cons (lop M M fun S hA=>(aP M M (lb M) (svaI hA M M))) ?_
        refine .cons (lop M M fun S hA=>(cM bE (cs:=q9) M M (lb M) underlying23 ti37 (svaL hA M M) (svaI hA M M) hx233 M M)) ?_
        refine .cons (lop M M fun S hA=>(fR (cs:=q9) M M (lb M) underlying37 ag37 ti37 (by decide) (sv (d:=.fptr q9) (agr hA M M)) (nle M) M)) ?_
        refine .cons (lop M M fun S hA=>(bC (r:=.tuple q24) M M (lb M) cl8 (.cons (svaA q10 hA M M) (.cons (svaA q9 hA M M) .nil)) M (nU _ _ _ hx234))) ?_
        refine .cons (lop M M fun S hA=>(aP M M (lb M) (sv (d:=.tuple q24) (agr hA M M)))) ?_
        refine .cons (lop M M fun S hA=>(cE (d:=.agg q10) M M (lb M) (sv (d:=.tuple q24) (agr hA M M)) M)) ?_
        refine .cons (lop M M fun S hA=>(cE (d:=.int _ _) M M (lb M) (sv (d:=.tuple q24) (agr hA M M)) M)) ?_
        refine .cons (lop M M fun S hA=>(dA (cs:=q13) (cs':=(w25 0 0 ([]:List aN) ([]:List Int))) 6 M M (lb M) (agi hA M M) ti32 M M (.k (.k (.cons (.nils _) (.cons (.nils _) .nil)))))) ?_
        refine .cons (lop M M fun S hA=>(cO (ds':=q10) M M ti32 (svaR hA M M) (agi hA M M) (svaA q10 hA M M) M M M (nle M) M)) ?_
        refine .cons (lop M M fun S hA=>(aF M M (lb M) (svaI hA M M))) ?_
        exact .nil
       refine aD (aA M (lra q10 la32 M M M M M (nle M) M)<|aA M (stA q10 q10 ti32 M M M M M M M M (nle M) M)<|aC ?_)
       obtain ⟨x235,hx235,h⟩:=aY h
       obtain ⟨x236,hx236,h⟩:=aR h
       obtain ⟨x237,hx237,h⟩:=aR h
       obtain ⟨x238,hx238,h⟩:=aR h
       obtain ⟨x239,hx239,h⟩:=aY h
       obtain ⟨x240,hx240,h⟩:=aR h
       obtain ⟨x241,hx241,h⟩:=aR h
       obtain ⟨x242,hx242,h⟩:=aY h
       obtain ⟨x243,hx243,h⟩:=aR h
       obtain ⟨x244,hx244,h⟩:=aY h
       obtain ⟨x245,hx245,h⟩:=aY h
       obtain ⟨x246,hx246,h⟩:=aR h
       obtain ⟨x247,hx247,h⟩:=aR h
       obtain ⟨x248,hx248,h⟩:=aR h
       obtain ⟨x249,hx249,h⟩:=aY h
       obtain ⟨x250,hx250,h⟩:=aR h
       obtain ⟨x251,hx251,h⟩:=aR h
       obtain ⟨x252,hx252,h⟩:=aR h
       obtain ⟨x253,hx253,h⟩:=aR h
       obtain ⟨x254,hx254,h⟩:=aR h
       obtain ⟨x255,hx255,h⟩:=aY h
       obtain ⟨x256,hx256,h⟩:=aR h
       obtain ⟨x257,hx257,h⟩:=aR h
       obtain ⟨x258,hx258,h⟩:=aR h
       obtain ⟨x259,hx259,h⟩:=aR h
       obtain ⟨x260,hx260,h⟩:=aR h
       obtain ⟨x261,hx261,h⟩:=aY h
       refine jK M [⟨[12],[],[(76,.int .i64 x232.1)],[]⟩,
        ⟨[14],[],[(77,.int .i64 x234.2)],[]⟩,
        ⟨[76,77],[],[(78,.bool x235)],[]⟩,
        ⟨[78],[],[(79,.bool x235)],[]⟩,
        ⟨[7,79],[],[(80,.cnd (x235 == false) (.ref 2 0))],[]⟩,
        ⟨[79,80],[2,5],[(81,.cnd (x235 == false) (.slice false (x236.map aM.d)))],[]⟩,
        ⟨[79,81],[],[(82,.cnd (x235 == false) (.slice false (x237.map aM.d)))],[]⟩,
        ⟨[9,79],[],[(83,.cnd (x235 == false) (.ref 4 2))],[]⟩,
        ⟨[79,83],[4],[(84,.cnd (x235 == false) (.slice false (x234.1.L.map aM.d)))],[]⟩,
        ⟨[79,82,84],[],[(85,.cnd (x235 == false) (.bool x238))],[]⟩,
        ⟨[79,85],[],[(86,.cnd (x235 == false) (.bool (!x238)))],[]⟩,
        ⟨[79,86],[],[(87,.bool x239)],[]⟩,
        ⟨[87],[],[(88,.bool x239)],[]⟩,
        ⟨[7,88],[],[(89,.cnd (x239 == false) (.ref 2 0))],[]⟩,
        ⟨[88,89],[2,5],[(90,.cnd (x239 == false) (.slice false (x240.map (eInt .i64).d)))],[]⟩,
        ⟨[9,88],[],[(91,.cnd (x239 == false) (.ref 4 3))],[]⟩,
        ⟨[88,91],[4],[(92,.cnd (x239 == false) (.slice false (x234.1.Closed.map (eInt .i64).d)))],[]⟩,
        ⟨[88,90,92],[],[(93,.cnd (x239 == false) (.bool x241))],[]⟩,
        ⟨[88,93],[],[(94,.cnd (x239 == false) (.bool (!x241)))],[]⟩,
        ⟨[88,94],[],[(95,.bool x242)],[]⟩,
        ⟨[95],[],[(96,.bool x242)],[]⟩,
        ⟨[7,96],[],[(97,.cnd (x242 == false) (.ref 2 0))],[]⟩,
        ⟨[96,97],[2,5],[(98,.cnd (x242 == false) (.int .i64 x243))],[]⟩,
        ⟨[9,96],[],[(99,.cnd (x242 == false) (.ref 4 2))],[]⟩,
        ⟨[96,99],[4],[(100,.cnd (x242 == false) (.slice false (x234.1.L.map aM.d)))],[]⟩,
        ⟨[96,100],[],[(101,.cnd (x242 == false) (.int .i64 (x234.1.L.length:Int)))],[]⟩,
        ⟨[96,98,101],[],[(102,.cnd (x242 == false) (.bool x244))],[]⟩,
        ⟨[96,102],[],[(103,.bool x245)],[]⟩,
        ⟨[103],[],[(104,.bool x245)],[]⟩,
        ⟨[7,104],[],[(105,.cnd (x245 == false) (.ref 2 0))],[]⟩,
        ⟨[2,104],[],[(106,.cnd (x245 == false) (.slice false (a2.map (eInt .i64).d)))],[]⟩,
        ⟨[104,105,106],[2,5],[(107,.cnd (x245 == false) (.slice false (x246.map (eInt .i64).d)))],[]⟩,
        ⟨[9,104],[4],[(108,.cnd (x245 == false) (.agg (v0 x234.1)))],[]⟩,
        ⟨[2,104],[],[(109,.cnd (x245 == false) (.slice false (a2.map (eInt .i64).d)))],[]⟩,
        ⟨[104,108,109],[],[(110,.cnd (x245 == false) (.slice false (x247.map (eInt .i64).d)))],[]⟩,
        ⟨[104,107,110],[],[(111,.cnd (x245 == false) (.bool x248))],[]⟩,
        ⟨[104,111],[],[(112,.cnd (x245 == false) (.bool (!x248)))],[]⟩,
        ⟨[104,112],[],[(113,.bool x249)],[]⟩,
        ⟨[113],[],[(114,.bool x249)],[]⟩,
        ⟨[7,114],[],[(115,.cnd (x249 == false) (.ref 2 0))],[]⟩,
        ⟨[1,114],[],[(116,.cnd (x249 == false) (.slice false (a1.map bE.d)))],[]⟩,
        ⟨[11,114],[],[(117,.cnd (x249 == false) (.int .i64 v177))],[]⟩,
        ⟨[114,116,117],[],[(118,.cnd (x249 == false) (.fptr (v1 x250)))],[]⟩,
        ⟨[114,118],[],[(119,.cnd (x249 == false) (.fptr [.int .i64 x250.ID]))],[]⟩,
        ⟨[114,119],[],[(120,.cnd (x249 == false) (.int .i64 x250.ID))],[]⟩,
        ⟨[114,115,120],[2,5],[(121,.cnd (x249 == false) (.slice false (x251.map (eInt .i64).d)))],[]⟩,
        ⟨[9,114],[4],[(122,.cnd (x249 == false) (.agg (v0 x234.1)))],[]⟩,
        ⟨[1,114],[],[(123,.cnd (x249 == false) (.slice false (a1.map bE.d)))],[]⟩,
        ⟨[11,114],[],[(124,.cnd (x249 == false) (.int .i64 v177))],[]⟩,
        ⟨[114,123,124],[],[(125,.cnd (x249 == false) (.fptr (v1 x252)))],[]⟩,
        ⟨[114,125],[],[(126,.cnd (x249 == false) (.fptr [.int .i64 x252.ID]))],[]⟩,
        ⟨[114,126],[],[(127,.cnd (x249 == false) (.int .i64 x252.ID))],[]⟩,
        ⟨[114,122,127],[],[(128,.cnd (x249 == false) (.slice false (x253.map (eInt .i64).d)))],[]⟩,
        ⟨[114,121,128],[],[(129,.cnd (x249 == false) (.bool x254))],[]⟩,
        ⟨[114,129],[],[(130,.cnd (x249 == false) (.bool (!x254)))],[]⟩,
        ⟨[114,130],[],[(131,.bool x255)],[]⟩,
        ⟨[131],[],[(132,.bool x255)],[]⟩,
        ⟨[7,132],[],[(133,.cnd (x255 == false) (.ref 2 0))],[]⟩,
        ⟨[1,132],[],[(134,.cnd (x255 == false) (.slice false (a1.map bE.d)))],[]⟩,
        ⟨[11,132],[],[(135,.cnd (x255 == false) (.int .i64 v177))],[]⟩,
        ⟨[132,134,135],[],[(136,.cnd (x255 == false) (.fptr (v1 x256)))],[]⟩,
        ⟨[132,136],[],[(137,.cnd (x255 == false) (.fptr [.int .i64 x256.Dep]))],[]⟩,
        ⟨[132,137],[],[(138,.cnd (x255 == false) (.int .i64 x256.Dep))],[]⟩,
        ⟨[132,133,138],[2,5],[(139,.cnd (x255 == false) (.slice false (x257.map (eInt .i64).d)))],[]⟩,
        ⟨[9,132],[4],[(140,.cnd (x255 == false) (.agg (v0 x234.1)))],[]⟩,
        ⟨[1,132],[],[(141,.cnd (x255 == false) (.slice false (a1.map bE.d)))],[]⟩,
        ⟨[11,132],[],[(142,.cnd (x255 == false) (.int .i64 v177))],[]⟩,
        ⟨[132,141,142],[],[(143,.cnd (x255 == false) (.fptr (v1 x258)))],[]⟩,
        ⟨[132,143],[],[(144,.cnd (x255 == false) (.fptr [.int .i64 x258.Dep]))],[]⟩,
        ⟨[132,144],[],[(145,.cnd (x255 == false) (.int .i64 x258.Dep))],[]⟩,
        ⟨[132,140,145],[],[(146,.cnd (x255 == false) (.slice false (x259.map (eInt .i64).d)))],[]⟩,
        ⟨[132,139,146],[],[(147,.cnd (x255 == false) (.bool x260))],[]⟩,
        ⟨[132,147],[],[(148,.cnd (x255 == false) (.bool (!x260)))],[]⟩,
        ⟨[132,148],[],[(149,.bool x261)],[]⟩] M ?_ (by kernel_rfl) ?_
       ·refine .cons (lop M M fun S hA=>(aP M M (lb M) (svaI hA M M))) ?_
        refine .cons (lop M M fun S hA=>(aP M M (lb M) (svaI hA M M))) ?_
        refine .cons (lop M M fun S hA=>(aQ M M (lb M) (svaI hA M M) (svaI hA M M) M hx235)) ?_
        refine .cons (lop M M fun S hA=>(aP M M (lb M) (svaB hA M M))) ?_
        refine .cons (lopg M M M M (by decide) (fun S hA=>grd1 hA M M) (fun S hA hb=>(aP M M (lb M) (svaR hA M M)))) ?_
        refine .cons (lopg M M M M (by decide) (fun S hA=>grd1 hA M M) (fun S hA hb=>(eI (r':=.slice false (x236.map aM.d)) (V:=[(2,.blk 62 (mixD aB.toEnc0 (w26 x232.2.1 x232.2.2.1 x232.2.2.2.1 x232.2.2.2.2.1 x232.2.2.2.2.2.1) x232.2.2.2.2.2.2.1 [.int .i64 x232.2.2.2.2.2.2.2.1,.osl 5 (eInt .i64).sz x232.2.2.2.2.2.2.2.2.length])),(5,.blk 3 (D.flat (x232.2.2.2.2.2.2.2.2.map (eInt .i64).d)))]) 7 [2,5] M M (lb M) cl11 (.cons (svc (d:=.ref _ _) (agr hA M M) hb) .nil) M M M ⟨by decide,M,List.forall_mem_cons.2 ⟨⟨M,M,(gT aB (agi hA M M) M M),(bV aB M M)⟩,List.forall_mem_cons.2 ⟨⟨M,M,(gE (eInt .i64) (agi hA M M)),(bN (eInt .i64))⟩,List.forall_mem_nil _⟩⟩⟩ (nG _ _ _ _ _ _ _ _ _ (gd_t hx236 hb)) M M (List.forall_mem_cons.2 ⟨⟨M,(bV aB M M)⟩,List.forall_mem_cons.2 ⟨⟨M,(bN (eInt .i64))⟩,List.forall_mem_nil _⟩⟩) (by simp only [List.map_cons,List.map_nil,Ent.ren,bJ,bY,cB]; rfl) (List.forall_mem_cons.2 ⟨(agi hA M M),List.forall_mem_cons.2 ⟨(agi hA M M),List.forall_mem_nil _⟩⟩) M))) ?_
        refine .cons (lopg M M M M (by decide) (fun S hA=>grd1 hA M M) (fun S hA hb=>(bC (r:=.slice _ _) M M (lb M) cl10 (.cons (svc (d:=.slice _ _) (agr hA M M) hb) .nil) M (lQ _ _ (gd_t hx237 hb))))) ?_
        refine .cons (lopg M M M M (by decide) (fun S hA=>grd1 hA M M) (fun S hA hb=>(aS M M (lb M) underlying32 M ti30 (by decide) (svaR hA M M) (off':=2) M))) ?_
        refine .cons (lopg M M M M (by decide) (fun S hA=>grd1 hA M M) (fun S hA hb=>(aI (d:=.slice _ _) M M (lb M) underlying30 ag30 ti30 (by decide) (svc (d:=.ref _ _) (agr hA M M) hb) (agi hA M M) (nle M) M))) ?_
        refine .cons (lopg M M M M (by decide) (fun S hA=>grd1 hA M M) (fun S hA hb=>(bC (r:=.bool _) M M (lb M) cl9 (.cons (svc (d:=.slice _ _) (agr hA M M) hb) (.cons (svc (d:=.slice _ _) (agr hA M M) hb) .nil)) M (iT _ _ _ (gd_t hx238 hb))))) ?_
        refine .cons (lopg M M M M (by decide) (fun S hA=>grd1 hA M M) (fun S hA hb=>(eY M M (lb M) (svc (d:=.bool _) (agr hA M M) hb)))) ?_
        refine .cons (lop M M fun S hA=>(gJ M M (lb M) (svaB hA M M) M (agr hA M M) hx239)) ?_
        refine .cons (lop M M fun S hA=>(aP M M (lb M) (svaB hA M M))) ?_
        refine .cons (lopg M M M M (by decide) (fun S hA=>grd1 hA M M) (fun S hA hb=>(aP M M (lb M) (svaR hA M M)))) ?_
        refine .cons (lopg M M M M (by decide) (fun S hA=>grd1 hA M M) (fun S hA hb=>(eI (r':=.slice false (x240.map (eInt .i64).d)) (V:=[(2,.blk 62 (mixD aB.toEnc0 (w26 x232.2.1 x232.2.2.1 x232.2.2.2.1 x232.2.2.2.2.1 x232.2.2.2.2.2.1) x232.2.2.2.2.2.2.1 [.int .i64 x232.2.2.2.2.2.2.2.1,.osl 5 (eInt .i64).sz x232.2.2.2.2.2.2.2.2.length])),(5,.blk 3 (D.flat (x232.2.2.2.2.2.2.2.2.map (eInt .i64).d)))]) 7 [2,5] M M (lb M) cl13 (.cons (svc (d:=.ref _ _) (agr hA M M) hb) .nil) M M M ⟨by decide,M,List.forall_mem_cons.2 ⟨⟨M,M,(gT aB (agi hA M M) M M),(bV aB M M)⟩,List.forall_mem_cons.2 ⟨⟨M,M,(gE (eInt .i64) (agi hA M M)),(bN (eInt .i64))⟩,List.forall_mem_nil _⟩⟩⟩ (kX _ _ _ _ _ _ _ _ _ (gd_t hx240 hb)) M M (List.forall_mem_cons.2 ⟨⟨M,(bV aB M M)⟩,List.forall_mem_cons.2 ⟨⟨M,(bN (eInt .i64))⟩,List.forall_mem_nil _⟩⟩) (by simp only [List.map_cons,List.map_nil,Ent.ren,bJ,bY,cB]; rfl) (List.forall_mem_cons.2 ⟨(agi hA M M),List.forall_mem_cons.2 ⟨(agi hA M M),List.forall_mem_nil _⟩⟩) M))) ?_
        refine .cons (lopg M M M M (by decide) (fun S hA=>grd1 hA M M) (fun S hA hb=>(aS M M (lb M) underlying32 M ti24 (by decide) (svaR hA M M) (off':=3) M))) ?_
        refine .cons (lopg M M M M (by decide) (fun S hA=>grd1 hA M M) (fun S hA hb=>(aI (d:=.slice _ _) M M (lb M) underlying24 ag24 ti24 (by decide) (svc (d:=.ref _ _) (agr hA M M) hb) (agi hA M M) (nle M) M))) ?_
        refine .cons (lopg M M M M (by decide) (fun S hA=>grd1 hA M M) (fun S hA hb=>(bC (r:=.bool _) M M (lb M) cl12 (.cons (svc (d:=.slice _ _) (agr hA M M) hb) (.cons (svc (d:=.slice _ _) (agr hA M M) hb) .nil)) M (cD _ _ _ (gd_t hx241 hb))))) ?_
        refine .cons (lopg M M M M (by decide) (fun S hA=>grd1 hA M M) (fun S hA hb=>(eY M M (lb M) (svc (d:=.bool _) (agr hA M M) hb)))) ?_
        refine .cons (lop M M fun S hA=>(gJ M M (lb M) (svaB hA M M) M (agr hA M M) hx242)) ?_
        refine .cons (lop M M fun S hA=>(aP M M (lb M) (svaB hA M M))) ?_
        refine .cons (lopg M M M M (by decide) (fun S hA=>grd1 hA M M) (fun S hA hb=>(aP M M (lb M) (svaR hA M M)))) ?_
        refine .cons (lopg M M M M (by decide) (fun S hA=>grd1 hA M M) (fun S hA hb=>(eI (r':=.int .i64 x243) (V:=[(2,.blk 62 (mixD aB.toEnc0 (w26 x232.2.1 x232.2.2.1 x232.2.2.2.1 x232.2.2.2.2.1 x232.2.2.2.2.2.1) x232.2.2.2.2.2.2.1 [.int .i64 x232.2.2.2.2.2.2.2.1,.osl 5 (eInt .i64).sz x232.2.2.2.2.2.2.2.2.length])),(5,.blk 3 (D.flat (x232.2.2.2.2.2.2.2.2.map (eInt .i64).d)))]) 7 [2,5] M M (lb M) cl14 (.cons (svc (d:=.ref _ _) (agr hA M M) hb) .nil) M M M ⟨by decide,M,List.forall_mem_cons.2 ⟨⟨M,M,(gT aB (agi hA M M) M M),(bV aB M M)⟩,List.forall_mem_cons.2 ⟨⟨M,M,(gE (eInt .i64) (agi hA M M)),(bN (eInt .i64))⟩,List.forall_mem_nil _⟩⟩⟩ (kT _ _ _ _ _ _ _ _ _ (gd_t hx243 hb)) M M (List.forall_mem_cons.2 ⟨⟨M,(bV aB M M)⟩,List.forall_mem_cons.2 ⟨⟨M,(bN (eInt .i64))⟩,List.forall_mem_nil _⟩⟩) (by simp only [List.map_cons,List.map_nil,Ent.ren,bJ,bY,cB]; rfl) (List.forall_mem_cons.2 ⟨(agi hA M M),List.forall_mem_cons.2 ⟨(agi hA M M),List.forall_mem_nil _⟩⟩) M))) ?_
        refine .cons (lopg M M M M (by decide) (fun S hA=>grd1 hA M M) (fun S hA hb=>(aS M M (lb M) underlying32 M ti30 (by decide) (svaR hA M M) (off':=2) M))) ?_
        refine .cons (lopg M M M M (by decide) (fun S hA=>grd1 hA M M) (fun S hA hb=>(aI (d:=.slice _ _) M M (lb M) underlying30 ag30 ti30 (by decide) (svc (d:=.ref _ _) (agr hA M M) hb) (agi hA M M) (nle M) M))) ?_
        refine .cons (lopg M M M M (by decide) (fun S hA=>grd1 hA M M) (fun S hA hb=>(dE aM (l:=x234.1.L) M M (lb M) underlying30 (svc (d:=.slice _ _) (agr hA M M) hb)))) ?_
        refine .cons (lopg M M M M (by decide) (fun S hA=>grd1 hA M M) (fun S hA hb=>(aQ M M (lb M) (svc (d:=.int _ _) (agr hA M M) hb) (svc (d:=.int _ _) (agr hA M M) hb) M hx244))) ?_
        refine .cons (lop M M fun S hA=>(gJ M M (lb M) (svaB hA M M) M (agr hA M M) hx245)) ?_
        refine .cons (lop M M fun S hA=>(aP M M (lb M) (svaB hA M M))) ?_
        refine .cons (lopg M M M M (by decide) (fun S hA=>grd1 hA M M) (fun S hA hb=>(aP M M (lb M) (svaR hA M M)))) ?_
        refine .cons (lopg M M M M (by decide) (fun S hA=>grd1 hA M M) (fun S hA hb=>(aP M M (lb M) (svaL hA M M)))) ?_
        refine .cons (lopg M M M M (by decide) (fun S hA=>grd1 hA M M) (fun S hA hb=>(eI (r':=.slice false (x246.map (eInt .i64).d)) (V:=[(2,.blk 62 (mixD aB.toEnc0 (w26 x232.2.1 x232.2.2.1 x232.2.2.2.1 x232.2.2.2.2.1 x232.2.2.2.2.2.1) x232.2.2.2.2.2.2.1 [.int .i64 x232.2.2.2.2.2.2.2.1,.osl 5 (eInt .i64).sz x232.2.2.2.2.2.2.2.2.length])),(5,.blk 3 (D.flat (x232.2.2.2.2.2.2.2.2.map (eInt .i64).d)))]) 7 [2,5] M M (lb M) cl15 (.cons (svc (d:=.ref _ _) (agr hA M M) hb) (.cons (svc (d:=.slice _ _) (agr hA M M) hb) .nil)) M M M ⟨by decide,M,List.forall_mem_cons.2 ⟨⟨M,M,(gT aB (agi hA M M) M M),(bV aB M M)⟩,List.forall_mem_cons.2 ⟨⟨M,M,(gE (eInt .i64) (agi hA M M)),(bN (eInt .i64))⟩,List.forall_mem_nil _⟩⟩⟩ (lJ _ _ _ _ _ _ _ _ _ _ (gd_t hx246 hb)) M M (List.forall_mem_cons.2 ⟨⟨M,(bV aB M M)⟩,List.forall_mem_cons.2 ⟨⟨M,(bN (eInt .i64))⟩,List.forall_mem_nil _⟩⟩) (by simp only [List.map_cons,List.map_nil,Ent.ren,bJ,bY,cB]; rfl) (List.forall_mem_cons.2 ⟨(agi hA M M),List.forall_mem_cons.2 ⟨(agi hA M M),List.forall_mem_nil _⟩⟩) M))) ?_
        refine .cons (lopg M M M M (by decide) (fun S hA=>grd1 hA M M) (fun S hA hb=>(dX (cs:=q10) M M (lb M) underlying32 ag32 ti32 (by decide) (svaR hA M M) (agi hA M M) (nle M) M))) ?_
        refine .cons (lopg M M M M (by decide) (fun S hA=>grd1 hA M M) (fun S hA hb=>(aP M M (lb M) (svaL hA M M)))) ?_
        refine .cons (lopg M M M M (by decide) (fun S hA=>grd1 hA M M) (fun S hA hb=>(bC (r:=.slice _ _) M M (lb M) cl16 (.cons (svc (d:=.agg (v0 x234.1)) (agr hA M M) hb) (.cons (svc (d:=.slice _ _) (agr hA M M) hb) .nil)) M (lV _ _ _ (gd_t hx247 hb))))) ?_
        refine .cons (lopg M M M M (by decide) (fun S hA=>grd1 hA M M) (fun S hA hb=>(bC (r:=.bool _) M M (lb M) cl12 (.cons (svc (d:=.slice _ _) (agr hA M M) hb) (.cons (svc (d:=.slice _ _) (agr hA M M) hb) .nil)) M (cD _ _ _ (gd_t hx248 hb))))) ?_
        refine .cons (lopg M M M M (by decide) (fun S hA=>grd1 hA M M) (fun S hA hb=>(eY M M (lb M) (svc (d:=.bool _) (agr hA M M) hb)))) ?_
        refine .cons (lop M M fun S hA=>(gJ M M (lb M) (svaB hA M M) M (agr hA M M) hx249)) ?_
        refine .cons (lop M M fun S hA=>(aP M M (lb M) (svaB hA M M))) ?_
        refine .cons (lopg M M M M (by decide) (fun S hA=>grd1 hA M M) (fun S hA hb=>(aP M M (lb M) (svaR hA M M)))) ?_
        refine .cons (lopg M M M M (by decide) (fun S hA=>grd1 hA M M) (fun S hA hb=>(aP M M (lb M) (svaL hA M M)))) ?_
        refine .cons (lopg M M M M (by decide) (fun S hA=>grd1 hA M M) (fun S hA hb=>(aP M M (lb M) (svaI hA M M)))) ?_
        refine .cons (lopg M M M M (by decide) (fun S hA=>grd1 hA M M) (fun S hA hb=>(cM bE (cs:=q9) M M (lb M) underlying23 ti37 (svc (d:=.slice _ _) (agr hA M M) hb) (svc (d:=.int _ _) (agr hA M M) hb) (gd_t hx250 hb) M M))) ?_
        refine .cons (lopg M M M M (by decide) (fun S hA=>grd1 hA M M) (fun S hA hb=>(cF (cs':=[.int _ _]) M M (lb M) underlying37 M ti3 (by decide) (svc (d:=.fptr q9) (agr hA M M) hb) M))) ?_
        refine .cons (lopg M M M M (by decide) (fun S hA=>grd1 hA M M) (fun S hA hb=>(cG M M (lb M) underlying3 ag3 ti3 (by decide) (svc (d:=.fptr [.int _ _]) (agr hA M M) hb) (nle M)))) ?_
        refine .cons (lopg M M M M (by decide) (fun S hA=>grd1 hA M M) (fun S hA hb=>(eI (r':=.slice false (x251.map (eInt .i64).d)) (V:=[(2,.blk 62 (mixD aB.toEnc0 (w26 x232.2.1 x232.2.2.1 x232.2.2.2.1 x232.2.2.2.2.1 x232.2.2.2.2.2.1) x232.2.2.2.2.2.2.1 [.int .i64 x232.2.2.2.2.2.2.2.1,.osl 5 (eInt .i64).sz x232.2.2.2.2.2.2.2.2.length])),(5,.blk 3 (D.flat (x232.2.2.2.2.2.2.2.2.map (eInt .i64).d)))]) 7 [2,5] M M (lb M) cl17 (.cons (svc (d:=.ref _ _) (agr hA M M) hb) (.cons (svc (d:=.int _ _) (agr hA M M) hb) .nil)) M M M ⟨by decide,M,List.forall_mem_cons.2 ⟨⟨M,M,(gT aB (agi hA M M) M M),(bV aB M M)⟩,List.forall_mem_cons.2 ⟨⟨M,M,(gE (eInt .i64) (agi hA M M)),(bN (eInt .i64))⟩,List.forall_mem_nil _⟩⟩⟩ (nW _ _ _ _ _ _ _ _ _ _ (gd_t hx251 hb)) M M (List.forall_mem_cons.2 ⟨⟨M,(bV aB M M)⟩,List.forall_mem_cons.2 ⟨⟨M,(bN (eInt .i64))⟩,List.forall_mem_nil _⟩⟩) (by simp only [List.map_cons,List.map_nil,Ent.ren,bJ,bY,cB]; rfl) (List.forall_mem_cons.2 ⟨(agi hA M M),List.forall_mem_cons.2 ⟨(agi hA M M),List.forall_mem_nil _⟩⟩) M))) ?_
        refine .cons (lopg M M M M (by decide) (fun S hA=>grd1 hA M M) (fun S hA hb=>(dX (cs:=q10) M M (lb M) underlying32 ag32 ti32 (by decide) (svaR hA M M) (agi hA M M) (nle M) M))) ?_
        refine .cons (lopg M M M M (by decide) (fun S hA=>grd1 hA M M) (fun S hA hb=>(aP M M (lb M) (svaL hA M M)))) ?_
        refine .cons (lopg M M M M (by decide) (fun S hA=>grd1 hA M M) (fun S hA hb=>(aP M M (lb M) (svaI hA M M)))) ?_
        refine .cons (lopg M M M M (by decide) (fun S hA=>grd1 hA M M) (fun S hA hb=>(cM bE (cs:=q9) M M (lb M) underlying23 ti37 (svc (d:=.slice _ _) (agr hA M M) hb) (svc (d:=.int _ _) (agr hA M M) hb) (gd_t hx252 hb) M M))) ?_
        refine .cons (lopg M M M M (by decide) (fun S hA=>grd1 hA M M) (fun S hA hb=>(cF (cs':=[.int _ _]) M M (lb M) underlying37 M ti3 (by decide) (svc (d:=.fptr q9) (agr hA M M) hb) M))) ?_
        refine .cons (lopg M M M M (by decide) (fun S hA=>grd1 hA M M) (fun S hA hb=>(cG M M (lb M) underlying3 ag3 ti3 (by decide) (svc (d:=.fptr [.int _ _]) (agr hA M M) hb) (nle M)))) ?_
        refine .cons (lopg M M M M (by decide) (fun S hA=>grd1 hA M M) (fun S hA hb=>(bC (r:=.slice _ _) M M (lb M) cl18 (.cons (svc (d:=.agg (v0 x234.1)) (agr hA M M) hb) (.cons (svc (d:=.int _ _) (agr hA M M) hb) .nil)) M (iR _ _ _ (gd_t hx253 hb))))) ?_
        refine .cons (lopg M M M M (by decide) (fun S hA=>grd1 hA M M) (fun S hA hb=>(bC (r:=.bool _) M M (lb M) cl12 (.cons (svc (d:=.slice _ _) (agr hA M M) hb) (.cons (svc (d:=.slice _ _) (agr hA M M) hb) .nil)) M (cD _ _ _ (gd_t hx254 hb))))) ?_
        refine .cons (lopg M M M M (by decide) (fun S hA=>grd1 hA M M) (fun S hA hb=>(eY M M (lb M) (svc (d:=.bool _) (agr hA M M) hb)))) ?_
        refine .cons (lop M M fun S hA=>(gJ M M (lb M) (svaB hA M M) M (agr hA M M) hx255)) ?_
        refine .cons (lop M M fun S hA=>(aP M M (lb M) (svaB hA M M))) ?_
        refine .cons (lopg M M M M (by decide) (fun S hA=>grd1 hA M M) (fun S hA hb=>(aP M M (lb M) (svaR hA M M)))) ?_
        refine .cons (lopg M M M M (by decide) (fun S hA=>grd1 hA M M) (fun S hA hb=>(aP M M (lb M) (svaL hA M M)))) ?_
        refine .cons (lopg M M M M (by decide) (fun S hA=>grd1 hA M M) (fun S hA hb=>(aP M M (lb M) (svaI hA M M)))) ?_
        refine .cons (lopg M M M M (by decide) (fun S hA=>grd1 hA M M) (fun S hA hb=>(cM bE (cs:=q9) M M (lb M) underlying23 ti37 (svc (d:=.slice _ _) (agr hA M M) hb) (svc (d:=.int _ _) (agr hA M M) hb) (gd_t hx256 hb) M M))) ?_
        refine .cons (lopg M M M M (by decide) (fun S hA=>grd1 hA M M) (fun S hA hb=>(cF (cs':=[.int _ _]) M M (lb M) underlying37 M ti3 (by decide) (svc (d:=.fptr q9) (agr hA M M) hb) M))) ?_
        refine .cons (lopg M M M M (by decide) (fun S hA=>grd1 hA M M) (fun S hA hb=>(cG M M (lb M) underlying3 ag3 ti3 (by decide) (svc (d:=.fptr [.int _ _]) (agr hA M M) hb) (nle M)))) ?_
        refine .cons (lopg M M M M (by decide) (fun S hA=>grd1 hA M M) (fun S hA hb=>(eI (r':=.slice false (x257.map (eInt .i64).d)) (V:=[(2,.blk 62 (mixD aB.toEnc0 (w26 x232.2.1 x232.2.2.1 x232.2.2.2.1 x232.2.2.2.2.1 x232.2.2.2.2.2.1) x232.2.2.2.2.2.2.1 [.int .i64 x232.2.2.2.2.2.2.2.1,.osl 5 (eInt .i64).sz x232.2.2.2.2.2.2.2.2.length])),(5,.blk 3 (D.flat (x232.2.2.2.2.2.2.2.2.map (eInt .i64).d)))]) 7 [2,5] M M (lb M) cl19 (.cons (svc (d:=.ref _ _) (agr hA M M) hb) (.cons (svc (d:=.int _ _) (agr hA M M) hb) .nil)) M M M ⟨by decide,M,List.forall_mem_cons.2 ⟨⟨M,M,(gT aB (agi hA M M) M M),(bV aB M M)⟩,List.forall_mem_cons.2 ⟨⟨M,M,(gE (eInt .i64) (agi hA M M)),(bN (eInt .i64))⟩,List.forall_mem_nil _⟩⟩⟩ (nY _ _ _ _ _ _ _ _ _ _ (gd_t hx257 hb)) M M (List.forall_mem_cons.2 ⟨⟨M,(bV aB M M)⟩,List.forall_mem_cons.2 ⟨⟨M,(bN (eInt .i64))⟩,List.forall_mem_nil _⟩⟩) (by simp only [List.map_cons,List.map_nil,Ent.ren,bJ,bY,cB]; rfl) (List.forall_mem_cons.2 ⟨(agi hA M M),List.forall_mem_cons.2 ⟨(agi hA M M),List.forall_mem_nil _⟩⟩) M))) ?_
        refine .cons (lopg M M M M (by decide) (fun S hA=>grd1 hA M M) (fun S hA hb=>(dX (cs:=q10) M M (lb M) underlying32 ag32 ti32 (by decide) (svaR hA M M) (agi hA M M) (nle M) M))) ?_
        refine .cons (lopg M M M M (by decide) (fun S hA=>grd1 hA M M) (fun S hA hb=>(aP M M (lb M) (svaL hA M M)))) ?_
        refine .cons (lopg M M M M (by decide) (fun S hA=>grd1 hA M M) (fun S hA hb=>(aP M M (lb M) (svaI hA M M)))) ?_
        refine .cons (lopg M M M M (by decide) (fun S hA=>grd1 hA M M) (fun S hA hb=>(cM bE (cs:=q9) M M (lb M) underlying23 ti37 (svc (d:=.slice _ _) (agr hA M M) hb) (svc (d:=.int _ _) (agr hA M M) hb) (gd_t hx258 hb) M M))) ?_
        refine .cons (lopg M M M M (by decide) (fun S hA=>grd1 hA M M) (fun S hA hb=>(cF (cs':=[.int _ _]) M M (lb M) underlying37 M ti3 (by decide) (svc (d:=.fptr q9) (agr hA M M) hb) M))) ?_
        refine .cons (lopg M M M M (by decide) (fun S hA=>grd1 hA M M) (fun S hA hb=>(cG M M (lb M) underlying3 ag3 ti3 (by decide) (svc (d:=.fptr [.int _ _]) (agr hA M M) hb) (nle M)))) ?_
        refine .cons (lopg M M M M (by decide) (fun S hA=>grd1 hA M M) (fun S hA hb=>(bC (r:=.slice _ _) M M (lb M) cl20 (.cons (svc (d:=.agg (v0 x234.1)) (agr hA M M) hb) (.cons (svc (d:=.int _ _) (agr hA M M) hb) .nil)) M (iS _ _ _ (gd_t hx259 hb))))) ?_
        refine .cons (lopg M M M M (by decide) (fun S hA=>grd1 hA M M) (fun S hA hb=>(bC (r:=.bool _) M M (lb M) cl12 (.cons (svc (d:=.slice _ _) (agr hA M M) hb) (.cons (svc (d:=.slice _ _) (agr hA M M) hb) .nil)) M (cD _ _ _ (gd_t hx260 hb))))) ?_
        refine .cons (lopg M M M M (by decide) (fun S hA=>grd1 hA M M) (fun S hA hb=>(eY M M (lb M) (svc (d:=.bool _) (agr hA M M) hb)))) ?_
        refine .cons (lop M M fun S hA=>(gJ M M (lb M) (svaB hA M M) M (agr hA M M) hx261)) ?_
        exact .nil
       refine aW (b:=_) M (fun hc262=>?_) (fun hc262=>?_)
       ·
        replace h:=cI h hc262
        refine aD (aA M (aF M M (lb M) (sv (d:=.bool false) M))<|aC ?_)
        refine bB ?_
        refine dC ?_
        refine bH ?_
        refine bH ?_
        refine dC ?_
        refine bH ?_
        obtain rfl:=sj_ h
        refine ⟨.inr M,(.cons (sv M) .nil)⟩
       ·
        replace h:=cJ h hc262
        refine aU ?_
        refine bL ?_
        refine aO ?_
        obtain ⟨x263,hx263,h⟩:=aY h
        refine aX (aA M (mvI M M M M)<|aA M (cK M M (lb M) (svI M) (sv (d:=.int _ 1) M) M hx263)<|aA M (asI M M M M)<|bK ?_)
        refine aO ⟨(n1,x263,x232.2.1,x232.2.2.1,x232.2.2.2.1,x232.2.2.2.2.1,x232.2.2.2.2.2.1,x232.2.2.2.2.2.2.1,x232.2.2.2.2.2.2.2.1,x232.2.2.2.2.2.2.2.2,x234.1.Room,x234.1.Keep,x234.1.L,x234.1.Closed),(fun i=>if i=3 then 5 else i),⟨(.sames M M),(.cons (EntW.mix aB M (SubC.of_eq M) (SubC.of_eq M) M M) (.cons (.blk M M M) (.cons (EntW.lst M) .nil))),bD [2,4,5] M (by decide),(fun i hi=>by first | rfl | (show (if _ then _ else _)=_; (repeat' split) <;> omega))⟩,?_,?_⟩
        exact h
        exact Nat.lt_succ_self _
      ·
       replace h:=cJ h hc230
       refine cX ?_
       refine bR ?_
       refine bR ?_
       refine cZ ?_
       refine aO ?_
       obtain ⟨x264,hx264,h⟩:=aR h
       refine aD (aA M (bC (r:=.bool _) M M (lb M) cl4 .nil M (kV  _ hx264))<|aA M (asB M M M M)<|aC ?_)
       refine bB ?_
       obtain rfl:=sj_ h
       refine ⟨.inr M,(.cons (sv M) .nil)⟩
end Go.Proofs.YtdnjagkihgjpcaaGreat
