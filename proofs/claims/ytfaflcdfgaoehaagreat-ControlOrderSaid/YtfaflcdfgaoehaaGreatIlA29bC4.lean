/-
  A part of the proof: rules and plain facts. No condition.
-/
import Derived.Test.YtfaflcdfgaoehaaGreatProg
import Derived.KernelRfl
import Derived.Test.YtfaflcdfgaoehaaGreatIlEq
import Derived.Test.YtfaflcdfgaoehaaGreatIlA29bD
import Derived.Test.YtfaflcdfgaoehaaGreatIlA29bC3
set_option linter.all false
set_option maxRecDepth 8000
set_option maxHeartbeats 2000000
open Go Go.IL Go.Fn Go.Proofs
open Go.Proofs.Tryz
namespace Go.Proofs.YtfaflcdfgaoehaaGreat
theorem ti46:TI prog 46 (some (.agg #[.int .u8 0,.int .u8 0,.int .u8 0,.int .u8 0,.bool false,.int .i64 0,.int .i64 0,.int .i64 0,.int .i64 0,.int .i64 0,.int .i64 0,.slice none 0 0,.string ⟨#[]⟩])) 13 104:=by unfold TI; kernel_rfl
theorem ti56:TI prog 56 (some (.agg #[.int .i64 0,.string ⟨#[]⟩])) 2 24:=by unfold TI; kernel_rfl
theorem ag44:gJ prog 44=true:=by kernel_rfl
theorem ag56:gJ prog 56=true:=by kernel_rfl
theorem pl56:∀ w,(Array.mapM (m:=Sem) (fun (f:Field)=>Functor.map (Prod.mk f.offset) (sizeOf f.type)) (fieldsOf prog 56)).run prog w = .ok #[(0,1),(1,1)] w:=fun w=>by kernel_rfl
theorem cl5:bH prog 5:=⟨f5,func5,rfl,rfl⟩
theorem cl7:bH prog 7:=⟨f7,func7,rfl,rfl⟩
theorem cl11:bH prog 11:=⟨f11,func11,rfl,rfl⟩
theorem cl15:bH prog 15:=⟨f15,func15,rfl,rfl⟩
theorem cl38:bH prog 38:=⟨f38,func38,rfl,rfl⟩



theorem tY (a0:aH) (a1:aH) (r:Bool) (h:kJ a0 a1=some r):cJ prog 38 [.agg (v2 a0),.agg (v2 a1)] (.bool r):=by
 refine bC (rs:=[.bool r]) func38 M ntmps38 (nle M) M fun O hO=>?_
 show IWP _ _ _ _ ⟨[(0,.agg (v2 a0)),(1,.agg (v2 a1))],[]⟩ _
 unfold kJ at h
 refine aC (aA M (bV (cs:=q12) 0 M M (lb M) M (svA q12 M) M M)<|aA M (bV (cs:=q12) 1 M M (lb M) M (svA q12 M) M M)<|aA M (aE M M (lb M) (sv (d:=.bool false) M))<|aB ?_)
 refine aW ?_
 obtain ⟨x1,hx1,h⟩:=aS h
 refine aC (aA M (faR 8 M M M underlying44 M ti42 (lb M) M M)<|aA M (lrL la42 M M M M M (nle M) M)<|aA M (cN bR (l:=a0.Pairs) M M (lb M) underlying42 (svL M))<|aA M (faR 8 M M M underlying44 M ti42 (lb M) M M)<|aA M (lrL la42 M M M M M (nle M) M)<|aA M (cN bR (l:=a1.Pairs) M M (lb M) underlying42 (svL M))<|aA M (aP M M (lb M) (svI M) (svI M) M hx1)<|aB ?_)
 refine aR (b:=_) M (fun hc2=>?_) (fun hc2=>?_)
 ·
  replace h:=bS h hc2
  refine aC (aA M (aE M M (lb M) (sv (d:=.bool false) M))<|aB ?_)
  refine aT ?_
  refine bA ?_
  obtain rfl:=sj_ h
  refine ⟨.inr M,(.cons (sv M) .nil)⟩
 ·
  replace h:=bT h hc2
  refine aV ?_
  refine aM ?_
  refine aW ?_
  refine aC (aA M (aE M M (lb M) (sv (d:=.int _ 0) M))<|aB ?_)
  refine bG ?_
  refine dA (α:=Nat × Int) (fun z=>⟨[(2,.ref 0 0),(3,.ref 1 0),(5,.int .i64 z.2)],[(0,.blk 44 (v2 a0)),(1,.blk 44 (v2 a1))]⟩) (fun z=>fJ a0 a1 z.1 z.2=some r) (fun z=>z.1) (fuel,0) (fun i=>i) ⟨(.sames M M),(.cons (.blk M M M) (.cons (.blk M M M) .nil)),cA [0,1] M (by decide),fun _ _=>M⟩ ?_ ?_
  ·exact h
  ·
   rintro ⟨n0,v10⟩ h
   cases n0 with
   | zero=>exact absurd h (by unfold fJ; exact nofun)
   | succ n0 =>
    unfold fJ at h
    refine aW ?_
    obtain ⟨x18,hx18,h⟩:=aS h
    refine aC (aA M (mvI M M M M)<|aA M (faR 8 M M M underlying44 M ti42 (lb M) M M)<|aA M (lrL la42 M M M M M (nle M) M)<|aA M (cN bR (l:=a0.Pairs) M M (lb M) underlying42 (svL M))<|aA M (aP M M (lb M) (svI M) (svI M) M hx18)<|aB ?_)
    refine aR (b:=_) M (fun hc19=>?_) (fun hc19=>?_)
    ·
     replace h:=bS h hc19
     refine aV ?_
     refine aM ?_
     refine aW ?_
     refine bG ?_
     obtain ⟨x20,hx20,h⟩:=aZ h
     obtain ⟨x21,hx21,h⟩:=aZ h
     obtain ⟨x22,hx22,h⟩:=aS h
     refine dH M [⟨[2],[],[(20,.ref 0 8)],[]⟩,
      ⟨[20],[0],[(21,.slice false (a0.Pairs.map bR.d))],[]⟩,
      ⟨[5],[],[(22,.int .i64 v10)],[]⟩,
      ⟨[21,22],[],[(23,.fptr [.int .i64 x20.ID,.int .i64 x20.Value])],[]⟩,
      ⟨[23],[],[(24,.agg [.int .i64 x20.ID,.int .i64 x20.Value])],[]⟩,
      ⟨[3],[],[(25,.ref 1 8)],[]⟩,
      ⟨[25],[1],[(26,.slice false (a1.Pairs.map bR.d))],[]⟩,
      ⟨[5],[],[(27,.int .i64 v10)],[]⟩,
      ⟨[26,27],[],[(28,.fptr [.int .i64 x21.ID,.int .i64 x21.Value])],[]⟩,
      ⟨[28],[],[(29,.agg [.int .i64 x21.ID,.int .i64 x21.Value])],[]⟩,
      ⟨[24,29],[],[(30,.bool (!x22))],[]⟩] M ?_ (by kernel_rfl) ?_
     ·refine .cons (lop M M fun S hA=>(aO M M (lb M) underlying44 M ti42 (by decide) (svaR hA M M) (off':=8) M)) ?_
      refine .cons (lop M M fun S hA=>(aG (d:=.slice _ _) M M (lb M) underlying42 ag42 ti42 (by decide) (svaR hA M M) (agi hA M M) (nle M) M)) ?_
      refine .cons (lop M M fun S hA=>(aK M M (lb M) (svaI hA M M))) ?_
      refine .cons (lop M M fun S hA=>(dB bR (cs:=q27) M M (lb M) underlying42 rC (svaL hA M M) (svaI hA M M) hx20 M M)) ?_
      refine .cons (lop M M fun S hA=>(cX (cs:=q27) M M (lb M) underlying136 aC7 rC (by decide) (sv (d:=.fptr q27) (agr hA M M)) (nle M) M)) ?_
      refine .cons (lop M M fun S hA=>(aO M M (lb M) underlying44 M ti42 (by decide) (svaR hA M M) (off':=8) M)) ?_
      refine .cons (lop M M fun S hA=>(aG (d:=.slice _ _) M M (lb M) underlying42 ag42 ti42 (by decide) (svaR hA M M) (agi hA M M) (nle M) M)) ?_
      refine .cons (lop M M fun S hA=>(aK M M (lb M) (svaI hA M M))) ?_
      refine .cons (lop M M fun S hA=>(dB bR (cs:=q27) M M (lb M) underlying42 rC (svaL hA M M) (svaI hA M M) hx21 M M)) ?_
      refine .cons (lop M M fun S hA=>(cX (cs:=q27) M M (lb M) underlying136 aC7 rC (by decide) (sv (d:=.fptr q27) (agr hA M M)) (nle M) M)) ?_
      refine .cons (lop M M fun S hA=>(xY M M (lb M) underlying136 aEj.1 aEj.2 (svaA q27 hA M M) (svaA q27 hA M M) (congrArg some hx22))) ?_
      exact .nil
     refine aR (b:=_) M (fun hc23=>?_) (fun hc23=>?_)
     ·
      replace h:=bS h hc23
      refine aC (aA M (aE M M (lb M) (sv (d:=.bool false) M))<|aB ?_)
      refine aT ?_
      refine bP ?_
      refine bA ?_
      refine bA ?_
      refine bP ?_
      refine bA ?_
      obtain rfl:=sj_ h
      refine ⟨.inr M,(.cons (sv M) .nil)⟩
     ·
      replace h:=bT h hc23
      refine aV ?_
      refine bZ ?_
      refine aM ?_
      obtain ⟨x24,hx24,h⟩:=aS h
      refine bE (aA M (mvI M M M M)<|aA M (bN M M (lb M) (svI M) (sv (d:=.int _ 1) M) M hx24)<|aA M (asI M M M M)<|cB ?_)
      refine aM ⟨(n0,x24),(fun i=>i),⟨(.sames M M),(.cons (.blk M M M) (.cons (.blk M M M) .nil)),cA [0,1] M (by decide),fun _ _=>M⟩,?_,?_⟩
      exact h
      exact Nat.lt_succ_self _
    ·
     replace h:=bT h hc19
     refine cQ ?_
     refine bJ ?_
     refine bJ ?_
     refine cR ?_
     refine aM ?_
     obtain ⟨x25,hx25,h⟩:=aS h
     obtain ⟨x26,hx26,h⟩:=aS h
     obtain ⟨x27,hx27,h⟩:=aS h
     obtain ⟨x28,hx28,h⟩:=aS h
     obtain ⟨x29,hx29,h⟩:=aS h
     obtain ⟨x30,hx30,h⟩:=aS h
     obtain ⟨x31,hx31,h⟩:=aS h
     obtain ⟨x32,hx32,h⟩:=aS h
     obtain ⟨x33,hx33,h⟩:=aS h
     obtain ⟨x34,hx34,h⟩:=aS h
     obtain ⟨x35,hx35,h⟩:=aS h
     obtain ⟨x36,hx36,h⟩:=aS h
     obtain ⟨x37,hx37,h⟩:=aS h
     obtain ⟨x38,hx38,h⟩:=aS h
     obtain ⟨x39,hx39,h⟩:=aS h
     obtain ⟨x40,hx40,h⟩:=aS h
     obtain ⟨x41,hx41,h⟩:=aS h
     refine aC (aA M (faR 0 M M M underlying44 M ti5 (lb M) M M)<|aA M (aG (d:=.int _ _) M M (lb M) underlying5 ag5 ti5 (by decide) (svR M) M (nle M) M)<|aA M (faR 0 M M M underlying44 M ti5 (lb M) M M)<|aA M (aG (d:=.int _ _) M M (lb M) underlying5 ag5 ti5 (by decide) (svR M) M (nle M) M)<|aA M (aP M M (lb M) (svI M) (svI M) M hx25)<|aA M (mvB M M M M)<|aF M M (.one M) M (by decide) (fun hb=>(faR 1 M M M underlying44 M ti4 (lb M) M M))<|aF M M (.one M) M (by decide) (fun hb=>(aG (d:=.bool _) M M (lb M) underlying4 ag4 ti4 (by decide) (svcR M hb) M (nle M) M))<|aF M M (.one M) M (by decide) (fun hb=>(faR 1 M M M underlying44 M ti4 (lb M) M M))<|aF M M (.one M) M (by decide) (fun hb=>(aG (d:=.bool _) M M (lb M) underlying4 ag4 ti4 (by decide) (svcR M hb) M (nle M) M))<|aF M M (.one M) M (by decide) (fun hb=>(uR M M (lb M) underlying4 (svcB M hb) (svcB M hb) hx26))<|aA M (cC M M (lb M) (svB M) M M hx27)<|aA M (mvB M M M M)<|aF M M (.one M) M (by decide) (fun hb=>(faR 2 M M M underlying44 M ti3 (lb M) M M))<|aF M M (.one M) M (by decide) (fun hb=>(aG (d:=.int _ _) M M (lb M) underlying3 ag3 ti3 (by decide) (svcR M hb) M (nle M) M))<|aF M M (.one M) M (by decide) (fun hb=>(faR 2 M M M underlying44 M ti3 (lb M) M M))<|aF M M (.one M) M (by decide) (fun hb=>(aG (d:=.int _ _) M M (lb M) underlying3 ag3 ti3 (by decide) (svcR M hb) M (nle M) M))<|aF M M (.one M) M (by decide) (fun hb=>(aP M M (lb M) (svcI M hb) (svcI M hb) M hx28))<|aA M (cC M M (lb M) (svB M) M M hx29)<|aA M (mvB M M M M)<|aF M M (.one M) M (by decide) (fun hb=>(faR 3 M M M underlying44 M ti3 (lb M) M M))<|aF M M (.one M) M (by decide) (fun hb=>(aG (d:=.int _ _) M M (lb M) underlying3 ag3 ti3 (by decide) (svcR M hb) M (nle M) M))<|aF M M (.one M) M (by decide) (fun hb=>(faR 3 M M M underlying44 M ti3 (lb M) M M))<|aF M M (.one M) M (by decide) (fun hb=>(aG (d:=.int _ _) M M (lb M) underlying3 ag3 ti3 (by decide) (svcR M hb) M (nle M) M))<|aF M M (.one M) M (by decide) (fun hb=>(aP M M (lb M) (svcI M hb) (svcI M hb) M hx30))<|aA M (cC M M (lb M) (svB M) M M hx31)<|aA M (mvB M M M M)<|aF M M (.one M) M (by decide) (fun hb=>(faR 4 M M M underlying44 M ti3 (lb M) M M))<|aF M M (.one M) M (by decide) (fun hb=>(aG (d:=.int _ _) M M (lb M) underlying3 ag3 ti3 (by decide) (svcR M hb) M (nle M) M))<|aF M M (.one M) M (by decide) (fun hb=>(faR 4 M M M underlying44 M ti3 (lb M) M M))<|aF M M (.one M) M (by decide) (fun hb=>(aG (d:=.int _ _) M M (lb M) underlying3 ag3 ti3 (by decide) (svcR M hb) M (nle M) M))<|aF M M (.one M) M (by decide) (fun hb=>(aP M M (lb M) (svcI M hb) (svcI M hb) M hx32))<|aA M (cC M M (lb M) (svB M) M M hx33)<|aA M (mvB M M M M)<|aF M M (.one M) M (by decide) (fun hb=>(faR 5 M M M underlying44 M ti3 (lb M) M M))<|aF M M (.one M) M (by decide) (fun hb=>(aG (d:=.int _ _) M M (lb M) underlying3 ag3 ti3 (by decide) (svcR M hb) M (nle M) M))<|aF M M (.one M) M (by decide) (fun hb=>(faR 5 M M M underlying44 M ti3 (lb M) M M))<|aF M M (.one M) M (by decide) (fun hb=>(aG (d:=.int _ _) M M (lb M) underlying3 ag3 ti3 (by decide) (svcR M hb) M (nle M) M))<|aF M M (.one M) M (by decide) (fun hb=>(aP M M (lb M) (svcI M hb) (svcI M hb) M hx34))<|aA M (cC M M (lb M) (svB M) M M hx35)<|aA M (mvB M M M M)<|aF M M (.one M) M (by decide) (fun hb=>(faR 6 M M M underlying44 M ti3 (lb M) M M))<|aF M M (.one M) M (by decide) (fun hb=>(aG (d:=.int _ _) M M (lb M) underlying3 ag3 ti3 (by decide) (svcR M hb) M (nle M) M))<|aF M M (.one M) M (by decide) (fun hb=>(faR 6 M M M underlying44 M ti3 (lb M) M M))<|aF M M (.one M) M (by decide) (fun hb=>(aG (d:=.int _ _) M M (lb M) underlying3 ag3 ti3 (by decide) (svcR M hb) M (nle M) M))<|aF M M (.one M) M (by decide) (fun hb=>(aP M M (lb M) (svcI M hb) (svcI M hb) M hx36))<|aA M (cC M M (lb M) (svB M) M M hx37)<|aA M (mvB M M M M)<|aF M M (.one M) M (by decide) (fun hb=>(faR 7 M M M underlying44 M ti3 (lb M) M M))<|aF M M (.one M) M (by decide) (fun hb=>(aG (d:=.int _ _) M M (lb M) underlying3 ag3 ti3 (by decide) (svcR M hb) M (nle M) M))<|aF M M (.one M) M (by decide) (fun hb=>(faR 7 M M M underlying44 M ti3 (lb M) M M))<|aF M M (.one M) M (by decide) (fun hb=>(aG (d:=.int _ _) M M (lb M) underlying3 ag3 ti3 (by decide) (svcR M hb) M (nle M) M))<|aF M M (.one M) M (by decide) (fun hb=>(aP M M (lb M) (svcI M hb) (svcI M hb) M hx38))<|aA M (cC M M (lb M) (svB M) M M hx39)<|aA M (mvB M M M M)<|aF M M (.one M) M (by decide) (fun hb=>(faR 9 M M M underlying44 M ti9 (lb M) M M))<|aF M M (.one M) M (by decide) (fun hb=>(aG (d:=.str _) M M (lb M) underlying9 ag9 ti9 (by decide) (svcR M hb) M (nle M) M))<|aF M M (.one M) M (by decide) (fun hb=>(faR 9 M M M underlying44 M ti9 (lb M) M M))<|aF M M (.one M) M (by decide) (fun hb=>(aG (d:=.str _) M M (lb M) underlying9 ag9 ti9 (by decide) (svcR M hb) M (nle M) M))<|aF M M (.one M) M (by decide) (fun hb=>(jC M M (lb M) (svc (d:=.str _) M hb) (svc (d:=.str _) M hb) M hx40))<|aA M (cC M M (lb M) (svB M) M M hx41)<|aA M (asB M M M M)<|aB ?_)
     refine aT ?_
     obtain rfl:=sj_ h
     refine ⟨.inr M,(.cons (sv M) .nil)⟩

theorem nN (a0:(List aH)) (a1:(List aH)) (r:Bool) (h:gA a0 a1=some r):cJ prog 15 [.slice false (a0.map aQ.d),.slice false (a1.map aQ.d)] (.bool r):=by
 refine bC (rs:=[.bool r]) func15 M ntmps15 (nle M) M fun O hO=>?_
 show IWP _ _ _ _ ⟨[(0,.slice false (a0.map aQ.d)),(1,.slice false (a1.map aQ.d))],[]⟩ _
 unfold gA at h
 refine aC (aA M (aE M M (lb M) (sv (d:=.bool false) M))<|aB ?_)
 refine aW ?_
 obtain ⟨x1,hx1,h⟩:=aS h
 refine aC (aA M (mvL M M M M)<|aA M (cN aQ (l:=a0) M M (lb M) underlying40 (svL M))<|aA M (mvL M M M M)<|aA M (cN aQ (l:=a1) M M (lb M) underlying40 (svL M))<|aA M (aP M M (lb M) (svI M) (svI M) M hx1)<|aB ?_)
 refine aR (b:=_) M (fun hc2=>?_) (fun hc2=>?_)
 ·
  replace h:=bS h hc2
  refine aC (aA M (aE M M (lb M) (sv (d:=.bool false) M))<|aB ?_)
  refine aT ?_
  refine bA ?_
  obtain rfl:=sj_ h
  refine ⟨.inr M,(.cons (sv M) .nil)⟩
 ·
  replace h:=bT h hc2
  refine aV ?_
  refine aM ?_
  refine aW ?_
  refine aC (aA M (aE M M (lb M) (sv (d:=.int _ 0) M))<|aB ?_)
  refine bG ?_
  refine dA (α:=Nat × Int) (fun z=>⟨[(0,.slice false (a0.map aQ.d)),(1,.slice false (a1.map aQ.d)),(5,.int .i64 z.2)],[]⟩) (fun z=>eO a0 a1 z.1 z.2=some r) (fun z=>z.1) (fuel,0) (fun i=>i) ⟨(.sames M M),.nil,cA [] M (by decide),fun _ _=>M⟩ ?_ ?_
  ·exact h
  ·
   rintro ⟨n0,v10⟩ h
   cases n0 with
   | zero=>exact absurd h (by unfold eO; exact nofun)
   | succ n0 =>
    unfold eO at h
    refine aW ?_
    obtain ⟨x18,hx18,h⟩:=aS h
    refine aC (aA M (mvI M M M M)<|aA M (mvL M M M M)<|aA M (cN aQ (l:=a0) M M (lb M) underlying40 (svL M))<|aA M (aP M M (lb M) (svI M) (svI M) M hx18)<|aB ?_)
    refine aR (b:=_) M (fun hc19=>?_) (fun hc19=>?_)
    ·
     replace h:=bS h hc19
     refine aV ?_
     refine aM ?_
     refine aW ?_
     refine bG ?_
     obtain ⟨x20,hx20,h⟩:=aZ h
     obtain ⟨x21,hx21,h⟩:=aZ h
     obtain ⟨x22,hx22,h⟩:=aZ h
     refine dH M [⟨[0],[],[(17,.slice false (a0.map aQ.d))],[]⟩,
      ⟨[5],[],[(18,.int .i64 v10)],[]⟩,
      ⟨[17,18],[],[(19,.fptr (v2 x20))],[]⟩,
      ⟨[19],[],[(20,.agg (v2 x20))],[]⟩,
      ⟨[1],[],[(21,.slice false (a1.map aQ.d))],[]⟩,
      ⟨[5],[],[(22,.int .i64 v10)],[]⟩,
      ⟨[21,22],[],[(23,.fptr (v2 x21))],[]⟩,
      ⟨[23],[],[(24,.agg (v2 x21))],[]⟩,
      ⟨[20,24],[],[(25,.bool x22)],[]⟩,
      ⟨[25],[],[(26,.bool (!x22))],[]⟩] M ?_ (by kernel_rfl) ?_
     ·refine .cons (lop M M fun S hA=>(aK M M (lb M) (svaL hA M M))) ?_
      refine .cons (lop M M fun S hA=>(aK M M (lb M) (svaI hA M M))) ?_
      refine .cons (lop M M fun S hA=>(dB aQ (cs:=q12) M M (lb M) underlying40 ti44 (svaL hA M M) (svaI hA M M) hx20 M M)) ?_
      refine .cons (lop M M fun S hA=>(cX (cs:=q12) M M (lb M) underlying44 ag44 ti44 (by decide) (sv (d:=.fptr q12) (agr hA M M)) (nle M) M)) ?_
      refine .cons (lop M M fun S hA=>(aK M M (lb M) (svaL hA M M))) ?_
      refine .cons (lop M M fun S hA=>(aK M M (lb M) (svaI hA M M))) ?_
      refine .cons (lop M M fun S hA=>(dB aQ (cs:=q12) M M (lb M) underlying40 ti44 (svaL hA M M) (svaI hA M M) hx21 M M)) ?_
      refine .cons (lop M M fun S hA=>(cX (cs:=q12) M M (lb M) underlying44 ag44 ti44 (by decide) (sv (d:=.fptr q12) (agr hA M M)) (nle M) M)) ?_
      refine .cons (lop M M fun S hA=>(aX (r:=.bool _) M M (lb M) cl38 (.cons (svaA q12 hA M M) (.cons (svaA q12 hA M M) .nil)) M (tY _ _ _ hx22))) ?_
      refine .cons (lop M M fun S hA=>(dN M M (lb M) (svaB hA M M))) ?_
      exact .nil
     refine aR (b:=_) M (fun hc23=>?_) (fun hc23=>?_)
     ·
      replace h:=bS h hc23
      refine aC (aA M (aE M M (lb M) (sv (d:=.bool false) M))<|aB ?_)
      refine aT ?_
      refine bP ?_
      refine bA ?_
      refine bA ?_
      refine bP ?_
      refine bA ?_
      obtain rfl:=sj_ h
      refine ⟨.inr M,(.cons (sv M) .nil)⟩
     ·
      replace h:=bT h hc23
      refine aV ?_
      refine bZ ?_
      refine aM ?_
      obtain ⟨x24,hx24,h⟩:=aS h
      refine bE (aA M (mvI M M M M)<|aA M (bN M M (lb M) (svI M) (sv (d:=.int _ 1) M) M hx24)<|aA M (asI M M M M)<|cB ?_)
      refine aM ⟨(n0,x24),(fun i=>i),⟨(.sames M M),.nil,cA [] M (by decide),fun _ _=>M⟩,?_,?_⟩
      exact h
      exact Nat.lt_succ_self _
    ·
     replace h:=bT h hc19
     refine cQ ?_
     refine bJ ?_
     refine bJ ?_
     refine cR ?_
     refine aM ?_
     refine aC (aA M (aE M M (lb M) (sv (d:=.bool true) M))<|aB ?_)
     refine aT ?_
     obtain rfl:=sj_ h
     refine ⟨.inr M,(.cons (sv M) .nil)⟩

theorem oX (a0:(List fC)) (r:Bool) (h:fL a0=some r):cJ prog 3 [.slice false (a0.map cM.d)] (.bool r):=by
 refine bC (rs:=[.bool r]) func3 M ntmps3 (nle M) M fun O hO=>?_
 show IWP _ _ _ _ ⟨[(0,.slice false (a0.map cM.d))],[]⟩ _
 unfold fL at h
 refine aC (aA M (aE M M (lb M) (sv (d:=.bool false) M))<|aB ?_)
 refine aW ?_
 obtain ⟨x1,hx1,h⟩:=aS h
 refine aC (aA M (mvL M M M M)<|aA M (cN cM (l:=a0) M M (lb M) underlying22 (svL M))<|aA M (aP M M (lb M) (svI M) (sv (d:=.int _ 80) M) M hx1)<|aB ?_)
 refine aR (b:=_) M (fun hc2=>?_) (fun hc2=>?_)
 ·
  replace h:=bS h hc2
  obtain ⟨x3,hx3,h⟩:=aZ h
  refine aC (aA M (aX (r:=.bool _) M M (lb M) cl5 .nil M (lX  _ hx3))<|aA M (asB M M M M)<|aB ?_)
  refine aT ?_
  refine bA ?_
  obtain rfl:=sj_ h
  refine ⟨.inr M,(.cons (sv M) .nil)⟩
 ·
  replace h:=bT h hc2
  refine aV ?_
  refine aM ?_
  obtain ⟨x4,hx4,h⟩:=aZ h
  obtain ⟨x5,hx5,h⟩:=aZ h
  refine aC (aA M (aX (r:=.agg q9) M M (lb M) cl6 .nil M (oB  _ hx4))<|aA M (aX (r:=.agg q9) M M (lb M) cl6 .nil M (oB  _ hx5))<|aA M (bI (cs:=q10) (cs':=(w38 0 [] 0 ([]:List aL) ([]:List aI) false false false false 0 [] ([]:List aU) 0 [] 0 0)) 0 M M (lb M) M ti38 M M (.k (.k (.k (.cons (.nils _) (.cons (.nils _) (.k4 (.k (.k (.cons (.nils _) (.all _)))))))))))<|aA M (bI (cs:=q10) (cs':=(w38 0 [] 0 ([]:List aL) ([]:List aI) false false false false 0 [] ([]:List aU) 0 [] 0 0)) 1 M M (lb M) M ti38 M M (.k (.k (.k (.cons (.nils _) (.cons (.nils _) (.k4 (.k (.k (.cons (.nils _) (.all _)))))))))))<|aA M (stA q9 q9 ti38 M M M M M M M M (nle M) M)<|aA M (stA q9 q9 ti38 M M M M M M M M (nle M) M)<|aB ?_)
  refine aC (aA M (aE M M (lb M) (sv (d:=.nils) M))<|aA M (aE M M (lb M) (sv (d:=.nils) M))<|aB ?_)
  refine aC (aA M (aE M M (lb M) (sv (d:=.nils) M))<|aB ?_)
  refine aC (aA M (aE M M (lb M) (sv (d:=.int _ 4) M))<|aB ?_)
  refine aW ?_
  refine aC (aA M (aE M M (lb M) (sv (d:=.int _ 0) M))<|aB ?_)
  refine bG ?_
  refine dA (α:=Nat × (List aH) × (List aH) × (List cZ) × Int × Int × Int × (List UInt8) × Int × (List aL) × (List aI) × Bool × Bool × Bool × Bool × Int × (List UInt8) × (List aU) × Int × (List UInt8) × Int × Int × Int × (List UInt8) × Int × (List aL) × (List aI) × Bool × Bool × Bool × Bool × Int × (List UInt8) × (List aU) × Int × (List UInt8) × Int × Int) (fun z=>⟨[(0,.slice false (a0.map cM.d)),(3,.ref 0 0),(4,.ref 1 0),(5,.gsl 23 aQ.sz (z.2.1.map aQ.d)),(6,.gsl 24 aQ.sz (z.2.2.1.map aQ.d)),(7,.osl 25 dY.sz z.2.2.2.1.length),(8,.int .i64 z.2.2.2.2.1),(9,.int .i64 z.2.2.2.2.2.1)],[(0,.blk 38 (w38 z.2.2.2.2.2.2.1 z.2.2.2.2.2.2.2.1 z.2.2.2.2.2.2.2.2.1 z.2.2.2.2.2.2.2.2.2.1 z.2.2.2.2.2.2.2.2.2.2.1 z.2.2.2.2.2.2.2.2.2.2.2.1 z.2.2.2.2.2.2.2.2.2.2.2.2.1 z.2.2.2.2.2.2.2.2.2.2.2.2.2.1 z.2.2.2.2.2.2.2.2.2.2.2.2.2.2.1 z.2.2.2.2.2.2.2.2.2.2.2.2.2.2.2.1 z.2.2.2.2.2.2.2.2.2.2.2.2.2.2.2.2.1 z.2.2.2.2.2.2.2.2.2.2.2.2.2.2.2.2.2.1 z.2.2.2.2.2.2.2.2.2.2.2.2.2.2.2.2.2.2.1 z.2.2.2.2.2.2.2.2.2.2.2.2.2.2.2.2.2.2.2.1 z.2.2.2.2.2.2.2.2.2.2.2.2.2.2.2.2.2.2.2.2.1 z.2.2.2.2.2.2.2.2.2.2.2.2.2.2.2.2.2.2.2.2.2.1)),(1,.blk 38 (w38 z.2.2.2.2.2.2.2.2.2.2.2.2.2.2.2.2.2.2.2.2.2.2.1 z.2.2.2.2.2.2.2.2.2.2.2.2.2.2.2.2.2.2.2.2.2.2.2.1 z.2.2.2.2.2.2.2.2.2.2.2.2.2.2.2.2.2.2.2.2.2.2.2.2.1 z.2.2.2.2.2.2.2.2.2.2.2.2.2.2.2.2.2.2.2.2.2.2.2.2.2.1 z.2.2.2.2.2.2.2.2.2.2.2.2.2.2.2.2.2.2.2.2.2.2.2.2.2.2.1 z.2.2.2.2.2.2.2.2.2.2.2.2.2.2.2.2.2.2.2.2.2.2.2.2.2.2.2.1 z.2.2.2.2.2.2.2.2.2.2.2.2.2.2.2.2.2.2.2.2.2.2.2.2.2.2.2.2.1 z.2.2.2.2.2.2.2.2.2.2.2.2.2.2.2.2.2.2.2.2.2.2.2.2.2.2.2.2.2.1 z.2.2.2.2.2.2.2.2.2.2.2.2.2.2.2.2.2.2.2.2.2.2.2.2.2.2.2.2.2.2.1 z.2.2.2.2.2.2.2.2.2.2.2.2.2.2.2.2.2.2.2.2.2.2.2.2.2.2.2.2.2.2.2.1 z.2.2.2.2.2.2.2.2.2.2.2.2.2.2.2.2.2.2.2.2.2.2.2.2.2.2.2.2.2.2.2.2.1 z.2.2.2.2.2.2.2.2.2.2.2.2.2.2.2.2.2.2.2.2.2.2.2.2.2.2.2.2.2.2.2.2.2.1 z.2.2.2.2.2.2.2.2.2.2.2.2.2.2.2.2.2.2.2.2.2.2.2.2.2.2.2.2.2.2.2.2.2.2.1 z.2.2.2.2.2.2.2.2.2.2.2.2.2.2.2.2.2.2.2.2.2.2.2.2.2.2.2.2.2.2.2.2.2.2.2.1 z.2.2.2.2.2.2.2.2.2.2.2.2.2.2.2.2.2.2.2.2.2.2.2.2.2.2.2.2.2.2.2.2.2.2.2.2.1 z.2.2.2.2.2.2.2.2.2.2.2.2.2.2.2.2.2.2.2.2.2.2.2.2.2.2.2.2.2.2.2.2.2.2.2.2.2)),(23,.tail 44 aQ.sz z.2.1.length),(24,.tail 44 aQ.sz z.2.2.1.length),(25,.blk 56 (D.flat (z.2.2.2.1.map dY.d)))]⟩) (fun z=>bK a0 z.1 z.2.1 z.2.2.1 z.2.2.2.1 z.2.2.2.2.1 z.2.2.2.2.2.1 z.2.2.2.2.2.2.1 z.2.2.2.2.2.2.2.1 z.2.2.2.2.2.2.2.2.1 z.2.2.2.2.2.2.2.2.2.1 z.2.2.2.2.2.2.2.2.2.2.1 z.2.2.2.2.2.2.2.2.2.2.2.1 z.2.2.2.2.2.2.2.2.2.2.2.2.1 z.2.2.2.2.2.2.2.2.2.2.2.2.2.1 z.2.2.2.2.2.2.2.2.2.2.2.2.2.2.1 z.2.2.2.2.2.2.2.2.2.2.2.2.2.2.2.1 z.2.2.2.2.2.2.2.2.2.2.2.2.2.2.2.2.1 z.2.2.2.2.2.2.2.2.2.2.2.2.2.2.2.2.2.1 z.2.2.2.2.2.2.2.2.2.2.2.2.2.2.2.2.2.2.1 z.2.2.2.2.2.2.2.2.2.2.2.2.2.2.2.2.2.2.2.1 z.2.2.2.2.2.2.2.2.2.2.2.2.2.2.2.2.2.2.2.2.1 z.2.2.2.2.2.2.2.2.2.2.2.2.2.2.2.2.2.2.2.2.2.1 z.2.2.2.2.2.2.2.2.2.2.2.2.2.2.2.2.2.2.2.2.2.2.1 z.2.2.2.2.2.2.2.2.2.2.2.2.2.2.2.2.2.2.2.2.2.2.2.1 z.2.2.2.2.2.2.2.2.2.2.2.2.2.2.2.2.2.2.2.2.2.2.2.2.1 z.2.2.2.2.2.2.2.2.2.2.2.2.2.2.2.2.2.2.2.2.2.2.2.2.2.1 z.2.2.2.2.2.2.2.2.2.2.2.2.2.2.2.2.2.2.2.2.2.2.2.2.2.2.1 z.2.2.2.2.2.2.2.2.2.2.2.2.2.2.2.2.2.2.2.2.2.2.2.2.2.2.2.1 z.2.2.2.2.2.2.2.2.2.2.2.2.2.2.2.2.2.2.2.2.2.2.2.2.2.2.2.2.1 z.2.2.2.2.2.2.2.2.2.2.2.2.2.2.2.2.2.2.2.2.2.2.2.2.2.2.2.2.2.1 z.2.2.2.2.2.2.2.2.2.2.2.2.2.2.2.2.2.2.2.2.2.2.2.2.2.2.2.2.2.2.1 z.2.2.2.2.2.2.2.2.2.2.2.2.2.2.2.2.2.2.2.2.2.2.2.2.2.2.2.2.2.2.2.1 z.2.2.2.2.2.2.2.2.2.2.2.2.2.2.2.2.2.2.2.2.2.2.2.2.2.2.2.2.2.2.2.2.1 z.2.2.2.2.2.2.2.2.2.2.2.2.2.2.2.2.2.2.2.2.2.2.2.2.2.2.2.2.2.2.2.2.2.1 z.2.2.2.2.2.2.2.2.2.2.2.2.2.2.2.2.2.2.2.2.2.2.2.2.2.2.2.2.2.2.2.2.2.2.1 z.2.2.2.2.2.2.2.2.2.2.2.2.2.2.2.2.2.2.2.2.2.2.2.2.2.2.2.2.2.2.2.2.2.2.2.1 z.2.2.2.2.2.2.2.2.2.2.2.2.2.2.2.2.2.2.2.2.2.2.2.2.2.2.2.2.2.2.2.2.2.2.2.2.1 z.2.2.2.2.2.2.2.2.2.2.2.2.2.2.2.2.2.2.2.2.2.2.2.2.2.2.2.2.2.2.2.2.2.2.2.2.2=some r) (fun z=>z.1) (fuel,([]:(List aH)),([]:(List aH)),([]:(List cZ)),4,0,x4.Send.Base,x4.Send.Data,x4.Send.Next,x4.Send.Pieces,x4.Send.Lost,x4.Send.Closed,x4.Send.Sent,x4.Send.Again,x4.Send.Done,x4.Recv.Recv.Base,x4.Recv.Recv.Ready,x4.Recv.Recv.Parts,x4.Recv.End,x4.In.Buf,x4.In.Bad,x4.In.Seen,x5.Send.Base,x5.Send.Data,x5.Send.Next,x5.Send.Pieces,x5.Send.Lost,x5.Send.Closed,x5.Send.Sent,x5.Send.Again,x5.Send.Done,x5.Recv.Recv.Base,x5.Recv.Recv.Ready,x5.Recv.Recv.Parts,x5.Recv.End,x5.In.Buf,x5.In.Bad,x5.In.Seen) (fun i=>if i=23 then 75 else if i=24 then 76 else if i=25 then 77 else i) ⟨(.s M M (.s M M (.s M M (.cons (.nils M) (.cons (.nils M) (.cons (.nilo M) (.sames M M))))))),(.cons (.blk M M M) (.cons (.blk M M M) (.cons (.nils M) (.cons (.nils M) (.cons (.nilb M) .nil))))),cA [0,1,75,76,77] M (by decide),(fun i hi=>by first | rfl | (show (if _ then _ else _)=_; (repeat' split) <;> omega))⟩ ?_ ?_
  ·exact h
  ·
   rintro ⟨n0,v175,v176,v177,v178,v179,v180,v181,v182,v183,v184,v185,v186,v187,v188,v189,v190,v191,v192,v193,v194,v195,v196,v197,v198,v199,v200,v201,v202,v203,v204,v205,v206,v207,v208,v209,v210,v211⟩ h
   cases n0 with
   | zero=>exact absurd h (by unfold bK; exact nofun)
   | succ n0 =>
    unfold bK at h
    refine aW ?_
    obtain ⟨x383,hx383,h⟩:=aS h
    refine aC (aA M (mvI M M M M)<|aA M (mvL M M M M)<|aA M (cN cM (l:=a0) M M (lb M) underlying22 (svL M))<|aA M (aP M M (lb M) (svI M) (svI M) M hx383)<|aB ?_)
    refine aR (b:=_) M (fun hc384=>?_) (fun hc384=>?_)
    ·
     replace h:=bS h hc384
     refine aV ?_
     refine aM ?_
     refine aW ?_
     refine bG ?_
     refine gP (α:=(List aH) × (List aH) × (List cZ) × Int × Int × (List UInt8) × Int × (List aL) × (List aI) × Bool × Bool × Bool × Bool × Int × (List UInt8) × (List aU) × Int × (List UInt8) × Int × Int × Int × (List UInt8) × Int × (List aL) × (List aI) × Bool × Bool × Bool × Bool × Int × (List UInt8) × (List aU) × Int × (List UInt8) × Int × Int) (fun z=>⟨[(0,.slice false (a0.map cM.d)),(3,.ref 0 0),(4,.ref 1 0),(5,.gsl 28 aQ.sz (z.1.map aQ.d)),(6,.gsl 24 aQ.sz (z.2.1.map aQ.d)),(7,.osl 25 dY.sz z.2.2.1.length),(8,.int .i64 z.2.2.2.1),(9,.int .i64 v179)],[(0,.blk 38 (w38 z.2.2.2.2.1 z.2.2.2.2.2.1 z.2.2.2.2.2.2.1 z.2.2.2.2.2.2.2.1 z.2.2.2.2.2.2.2.2.1 z.2.2.2.2.2.2.2.2.2.1 z.2.2.2.2.2.2.2.2.2.2.1 z.2.2.2.2.2.2.2.2.2.2.2.1 z.2.2.2.2.2.2.2.2.2.2.2.2.1 z.2.2.2.2.2.2.2.2.2.2.2.2.2.1 z.2.2.2.2.2.2.2.2.2.2.2.2.2.2.1 z.2.2.2.2.2.2.2.2.2.2.2.2.2.2.2.1 z.2.2.2.2.2.2.2.2.2.2.2.2.2.2.2.2.1 z.2.2.2.2.2.2.2.2.2.2.2.2.2.2.2.2.2.1 z.2.2.2.2.2.2.2.2.2.2.2.2.2.2.2.2.2.2.1 z.2.2.2.2.2.2.2.2.2.2.2.2.2.2.2.2.2.2.2.1)),(1,.blk 38 (w38 z.2.2.2.2.2.2.2.2.2.2.2.2.2.2.2.2.2.2.2.2.1 z.2.2.2.2.2.2.2.2.2.2.2.2.2.2.2.2.2.2.2.2.2.1 z.2.2.2.2.2.2.2.2.2.2.2.2.2.2.2.2.2.2.2.2.2.2.1 z.2.2.2.2.2.2.2.2.2.2.2.2.2.2.2.2.2.2.2.2.2.2.2.1 z.2.2.2.2.2.2.2.2.2.2.2.2.2.2.2.2.2.2.2.2.2.2.2.2.1 z.2.2.2.2.2.2.2.2.2.2.2.2.2.2.2.2.2.2.2.2.2.2.2.2.2.1 z.2.2.2.2.2.2.2.2.2.2.2.2.2.2.2.2.2.2.2.2.2.2.2.2.2.2.1 z.2.2.2.2.2.2.2.2.2.2.2.2.2.2.2.2.2.2.2.2.2.2.2.2.2.2.2.1 z.2.2.2.2.2.2.2.2.2.2.2.2.2.2.2.2.2.2.2.2.2.2.2.2.2.2.2.2.1 z.2.2.2.2.2.2.2.2.2.2.2.2.2.2.2.2.2.2.2.2.2.2.2.2.2.2.2.2.2.1 z.2.2.2.2.2.2.2.2.2.2.2.2.2.2.2.2.2.2.2.2.2.2.2.2.2.2.2.2.2.2.1 z.2.2.2.2.2.2.2.2.2.2.2.2.2.2.2.2.2.2.2.2.2.2.2.2.2.2.2.2.2.2.2.1 z.2.2.2.2.2.2.2.2.2.2.2.2.2.2.2.2.2.2.2.2.2.2.2.2.2.2.2.2.2.2.2.2.1 z.2.2.2.2.2.2.2.2.2.2.2.2.2.2.2.2.2.2.2.2.2.2.2.2.2.2.2.2.2.2.2.2.2.1 z.2.2.2.2.2.2.2.2.2.2.2.2.2.2.2.2.2.2.2.2.2.2.2.2.2.2.2.2.2.2.2.2.2.2.1 z.2.2.2.2.2.2.2.2.2.2.2.2.2.2.2.2.2.2.2.2.2.2.2.2.2.2.2.2.2.2.2.2.2.2.2)),(28,.tail 44 aQ.sz z.1.length),(24,.tail 44 aQ.sz z.2.1.length),(25,.blk 56 (D.flat (z.2.2.1.map dY.d)))]⟩) (fun z=>cS v179 (bK a0 n0) z.1 z.2.1 z.2.2.1 z.2.2.2.1 z.2.2.2.2.1 z.2.2.2.2.2.1 z.2.2.2.2.2.2.1 z.2.2.2.2.2.2.2.1 z.2.2.2.2.2.2.2.2.1 z.2.2.2.2.2.2.2.2.2.1 z.2.2.2.2.2.2.2.2.2.2.1 z.2.2.2.2.2.2.2.2.2.2.2.1 z.2.2.2.2.2.2.2.2.2.2.2.2.1 z.2.2.2.2.2.2.2.2.2.2.2.2.2.1 z.2.2.2.2.2.2.2.2.2.2.2.2.2.2.1 z.2.2.2.2.2.2.2.2.2.2.2.2.2.2.2.1 z.2.2.2.2.2.2.2.2.2.2.2.2.2.2.2.2.1 z.2.2.2.2.2.2.2.2.2.2.2.2.2.2.2.2.2.1 z.2.2.2.2.2.2.2.2.2.2.2.2.2.2.2.2.2.2.1 z.2.2.2.2.2.2.2.2.2.2.2.2.2.2.2.2.2.2.2.1 z.2.2.2.2.2.2.2.2.2.2.2.2.2.2.2.2.2.2.2.2.1 z.2.2.2.2.2.2.2.2.2.2.2.2.2.2.2.2.2.2.2.2.2.1 z.2.2.2.2.2.2.2.2.2.2.2.2.2.2.2.2.2.2.2.2.2.2.1 z.2.2.2.2.2.2.2.2.2.2.2.2.2.2.2.2.2.2.2.2.2.2.2.1 z.2.2.2.2.2.2.2.2.2.2.2.2.2.2.2.2.2.2.2.2.2.2.2.2.1 z.2.2.2.2.2.2.2.2.2.2.2.2.2.2.2.2.2.2.2.2.2.2.2.2.2.1 z.2.2.2.2.2.2.2.2.2.2.2.2.2.2.2.2.2.2.2.2.2.2.2.2.2.2.1 z.2.2.2.2.2.2.2.2.2.2.2.2.2.2.2.2.2.2.2.2.2.2.2.2.2.2.2.1 z.2.2.2.2.2.2.2.2.2.2.2.2.2.2.2.2.2.2.2.2.2.2.2.2.2.2.2.2.1 z.2.2.2.2.2.2.2.2.2.2.2.2.2.2.2.2.2.2.2.2.2.2.2.2.2.2.2.2.2.1 z.2.2.2.2.2.2.2.2.2.2.2.2.2.2.2.2.2.2.2.2.2.2.2.2.2.2.2.2.2.2.1 z.2.2.2.2.2.2.2.2.2.2.2.2.2.2.2.2.2.2.2.2.2.2.2.2.2.2.2.2.2.2.2.1 z.2.2.2.2.2.2.2.2.2.2.2.2.2.2.2.2.2.2.2.2.2.2.2.2.2.2.2.2.2.2.2.2.1 z.2.2.2.2.2.2.2.2.2.2.2.2.2.2.2.2.2.2.2.2.2.2.2.2.2.2.2.2.2.2.2.2.2.1 z.2.2.2.2.2.2.2.2.2.2.2.2.2.2.2.2.2.2.2.2.2.2.2.2.2.2.2.2.2.2.2.2.2.2.1 z.2.2.2.2.2.2.2.2.2.2.2.2.2.2.2.2.2.2.2.2.2.2.2.2.2.2.2.2.2.2.2.2.2.2.2=some r) ?_ ?_
     ·
      obtain ⟨x507,hx507,h⟩:=aZ h
      obtain ⟨x508,hx508,h⟩:=aZ h
      refine aC (aA M (mvL M M M M)<|aA M (mvI M M M M)<|aA M (dB cM (cs:=q11) M M (lb M) underlying22 ti46 (svL M) (svI M) hx507 M M)<|aA M (cV (cs':=[.int _ _]) M M (lb M) underlying46 M ti5 (by decide) (sv (d:=.fptr q11) M) M)<|aA M (eB M M (lb M) underlying5 ag5 ti5 (by decide) (sv (d:=.fptr [.int _ _]) M) (nle M))<|aA M (uO M M (lb M) (svI M) (sv (d:=.int _ 5) M) hx508)<|aB ?_)
      refine bG ?_
      obtain ⟨x509,hx509,h⟩:=aS h
      refine aC (aA M (aP M M (lb M) (svI M) (sv (d:=.int _ 0) M) M hx509)<|aA M (asB M M M M)<|aB ?_)
      refine aR (b:=_) M (fun hc510=>?_) (fun hc510=>?_)
      ·
       replace h:=bS h hc510
       refine aW ?_
       obtain ⟨x511,hx511,h⟩:=aZ h
       obtain ⟨x512,hx512,h⟩:=aZ h
       refine aC (aA M (mvL M M M M)<|aA M (mvI M M M M)<|aA M (dB cM (cs:=q11) M M (lb M) underlying22 ti46 (svL M) (svI M) hx511 M M)<|aA M (cV (cs':=q12) M M (lb M) underlying46 M ti44 (by decide) (sv (d:=.fptr q11) M) M)<|aA M (cX (cs:=q12) M M (lb M) underlying44 ag44 ti44 (by decide) (sv (d:=.fptr q12) M) (nle M) M)<|aA M (aX (r:=.bool _) M M (lb M) cl7 (.cons (svA q12 M) .nil) M (tH _ _ hx512))<|aA M (dN M M (lb M) (svB M))<|aB ?_)
       refine aR (b:=_) M (fun hc513=>?_) (fun hc513=>?_)
       ·
        replace h:=bS h hc513
        obtain ⟨x514,hx514,h⟩:=aZ h
        refine aC (aA M (aX (r:=.bool _) M M (lb M) cl5 .nil M (lX  _ hx514))<|aA M (asB M M M M)<|aB ?_)
        refine aT ?_
        refine bA ?_
        refine bP ?_
        refine bA ?_
        refine bP ?_
        refine bA ?_
        refine bA ?_
        refine bP ?_
        refine bA ?_
        obtain rfl:=sj_ h
        refine ⟨.inr M,(.cons (sv M) .nil)⟩
       ·
        replace h:=bT h hc513
        refine aV ?_
        refine aM ?_
        obtain ⟨x515,hx515,h⟩:=aZ h
        obtain ⟨x516,hx516,h⟩:=aZ h
        refine dH M [⟨[3],[0],[(67,.agg (w38 v180 v181 v182 v183 v184 v185 v186 v187 v188 v189 v190 v191 v192 v193 v194 v195))],[]⟩,
         ⟨[0],[],[(68,.slice false (a0.map cM.d))],[]⟩,
         ⟨[9],[],[(69,.int .i64 v179)],[]⟩,
         ⟨[68,69],[],[(70,.fptr (v1 x515))],[]⟩,
         ⟨[70],[],[(71,.fptr (v2 x515.F))],[]⟩,
         ⟨[71],[],[(72,.agg (v2 x515.F))],[]⟩,
         ⟨[67,72],[],[(73,.tuple [.agg (v0 x516.1),.int .i64 x516.2])],[]⟩,
         ⟨[73],[],[(66,.tuple [.agg (v0 x516.1),.int .i64 x516.2])],[]⟩,
         ⟨[66],[],[(74,.agg (v0 x516.1))],[]⟩,
         ⟨[66],[],[(75,.int .i64 x516.2)],[]⟩,
         ⟨[],[26],[(10,.ref 26 0)],[(26,.blk 38 (w38 0 [] 0 ([]:List aL) ([]:List aI) false false false false 0 [] ([]:List aU) 0 [] 0 0))]⟩,
         ⟨[10,74],[26],[],[(26,.blk 38 (v0 x516.1))]⟩,
         ⟨[75],[],[(11,.int .i64 x516.2)],[]⟩] M ?_ (by kernel_rfl) ?_
        ·refine .cons (lop M M fun S hA=>(bY (cs:=q9) M M (lb M) underlying38 ag38 ti38 (by decide) (svaR hA M M) (agi hA M M) (nle M) M)) ?_
         refine .cons (lop M M fun S hA=>(aK M M (lb M) (svaL hA M M))) ?_
         refine .cons (lop M M fun S hA=>(aK M M (lb M) (svaI hA M M))) ?_
         refine .cons (lop M M fun S hA=>(dB cM (cs:=q11) M M (lb M) underlying22 ti46 (svaL hA M M) (svaI hA M M) hx515 M M)) ?_
         refine .cons (lop M M fun S hA=>(cV (cs':=q12) M M (lb M) underlying46 M ti44 (by decide) (sv (d:=.fptr q11) (agr hA M M)) M)) ?_
         refine .cons (lop M M fun S hA=>(cX (cs:=q12) M M (lb M) underlying44 ag44 ti44 (by decide) (sv (d:=.fptr q12) (agr hA M M)) (nle M) M)) ?_
         refine .cons (lop M M fun S hA=>(aX (r:=.tuple q37) M M (lb M) cl8 (.cons (svaA q9 hA M M) (.cons (svaA q12 hA M M) .nil)) M (pI _ _ _ hx516))) ?_
         refine .cons (lop M M fun S hA=>(aK M M (lb M) (sv (d:=.tuple q37) (agr hA M M)))) ?_
         refine .cons (lop M M fun S hA=>(bD (d:=.agg q9) M M (lb M) (sv (d:=.tuple q37) (agr hA M M)) M)) ?_
         refine .cons (lop M M fun S hA=>(bD (d:=.int _ _) M M (lb M) (sv (d:=.tuple q37) (agr hA M M)) M)) ?_
         refine .cons (lop M M fun S hA=>(bI (cs:=q10) (cs':=(w38 0 [] 0 ([]:List aL) ([]:List aI) false false false false 0 [] ([]:List aU) 0 [] 0 0)) 26 M M (lb M) (agi hA M M) ti38 M M (.k (.k (.k (.cons (.nils _) (.cons (.nils _) (.k4 (.k (.k (.cons (.nils _) (.all _)))))))))))) ?_
         refine .cons (lop M M fun S hA=>(bQ (ds':=q9) M M ti38 (svaR hA M M) (agi hA M M) (svaA q9 hA M M) M M M (nle M) M)) ?_
         refine .cons (lop M M fun S hA=>(aE M M (lb M) (svaI hA M M))) ?_
         exact .nil
        refine aC (aA M (lra q9 la38 M M M M M (nle M) M)<|aA M (stA q9 q9 ti38 M M M M M M M M (nle M) M)<|aB ?_)
        obtain ⟨x517,hx517,h⟩:=aS h
        refine aC (aA M (mvI M M M M)<|aA M (aP M M (lb M) (svI M) (sv (d:=.int _ 0) M) M hx517)<|aB ?_)
        refine aR (b:=_) M (fun hc518=>?_) (fun hc518=>?_)
        ·
         replace h:=bS h hc518
         obtain ⟨x519,hx519,h⟩:=aZ h
         obtain ⟨x520,hx520,h⟩:=aZ h
         refine aC (aA M (aK M M (lb M) (sv (d:=.gsl _ _ _) M))<|aA M (mvL M M M M)<|aA M (mvI M M M M)<|aA M (dB cM (cs:=q11) M M (lb M) underlying22 ti46 (svL M) (svI M) hx519 M M)<|aA M (cV (cs':=q12) M M (lb M) underlying46 M ti44 (by decide) (sv (d:=.fptr q11) M) M)<|aA M (cX (cs:=q12) M M (lb M) underlying44 ag44 ti44 (by decide) (sv (d:=.fptr q12) M) (nle M) M)<|aA M (oP aQ ([x519.F]:(List aH)) 27 M M (lb M) underlying40 ti44 M (.cons (svA q12 M) .nil) M M (by decide))<|aA M (mN aQ 28 M M (lb M) underlying40 ti44 M M M M (svg M) hx520)<|aA M (aE M M (lb M) (sv (d:=.gsl _ _ _) M))<|aB ?_)
         obtain ⟨x521,hx521,h⟩:=aS h
         refine bE (aA M (mvI M M M M)<|aA M (bN M M (lb M) (svI M) (sv (d:=.int _ 70) M) M hx521)<|aA M (asI M M M M)<|cB ?_)
         refine bZ ?_
         refine aM ⟨(x520,v176,v177,x521,x516.1.Send.Base,x516.1.Send.Data,x516.1.Send.Next,x516.1.Send.Pieces,x516.1.Send.Lost,x516.1.Send.Closed,x516.1.Send.Sent,x516.1.Send.Again,x516.1.Send.Done,x516.1.Recv.Recv.Base,x516.1.Recv.Recv.Ready,x516.1.Recv.Recv.Parts,x516.1.Recv.End,x516.1.In.Buf,x516.1.In.Bad,x516.1.In.Seen,v196,v197,v198,v199,v200,v201,v202,v203,v204,v205,v206,v207,v208,v209,v210,v211),(fun i=>i),⟨(.sames M M),(.cons (.blk M M M) (.cons (.blk M M M) (.cons (.tail M) (.cons (.tail M) (.cons (EntW.lst M) .nil))))),cA [0,1,28,24,25] M (by decide),fun _ _=>M⟩,?_⟩
         exact h
        ·
         replace h:=bT h hc518
         refine aV ?_
         refine bZ ?_
         refine aM ⟨(v175,v176,v177,v178,x516.1.Send.Base,x516.1.Send.Data,x516.1.Send.Next,x516.1.Send.Pieces,x516.1.Send.Lost,x516.1.Send.Closed,x516.1.Send.Sent,x516.1.Send.Again,x516.1.Send.Done,x516.1.Recv.Recv.Base,x516.1.Recv.Recv.Ready,x516.1.Recv.Recv.Parts,x516.1.Recv.End,x516.1.In.Buf,x516.1.In.Bad,x516.1.In.Seen,v196,v197,v198,v199,v200,v201,v202,v203,v204,v205,v206,v207,v208,v209,v210,v211),(fun i=>if i=28 then 23 else i),⟨(.sames M M),(.cons (.blk M M M) (.cons (.blk M M M) (.cons (.tail M) (.cons (.tail M) (.cons (EntW.lst M) .nil))))),cA [0,1,23,24,25] M (by decide),(fun i hi=>by first | rfl | (show (if _ then _ else _)=_; (repeat' split) <;> omega))⟩,?_⟩
         exact h
      ·
       replace h:=bT h hc510
       obtain ⟨x522,hx522,h⟩:=aS h
       refine aC (aA M (aP M M (lb M) (svI M) (sv (d:=.int _ 1) M) M hx522)<|aA M (asB M M M M)<|aB ?_)
       refine aR (b:=_) M (fun hc523=>?_) (fun hc523=>?_)
       ·
        replace h:=bS h hc523
        obtain ⟨x524,hx524,h⟩:=aZ h
        obtain ⟨x525,hx525,h⟩:=aZ h
        obtain ⟨x526,hx526,h⟩:=aS h
        obtain ⟨x527,hx527,h⟩:=aZ h
        obtain ⟨x528,hx528,h⟩:=aS h
        obtain ⟨x529,hx529,h⟩:=aZ h
        refine dH M [⟨[3],[0],[(92,.agg (w38 v180 v181 v182 v183 v184 v185 v186 v187 v188 v189 v190 v191 v192 v193 v194 v195))],[]⟩,
         ⟨[0],[],[(93,.slice false (a0.map cM.d))],[]⟩,
         ⟨[9],[],[(94,.int .i64 v179)],[]⟩,
         ⟨[93,94],[],[(95,.fptr (v1 x524))],[]⟩,
         ⟨[95],[],[(96,.fptr [.int .u8 x524.Path])],[]⟩,
         ⟨[96],[],[(97,.int .u8 x524.Path)],[]⟩,
         ⟨[97],[],[(98,.int .u8 x525)],[]⟩,
         ⟨[98],[],[(99,.int .i64 x526)],[]⟩,
         ⟨[0],[],[(100,.slice false (a0.map cM.d))],[]⟩,
         ⟨[9],[],[(101,.int .i64 v179)],[]⟩,
         ⟨[100,101],[],[(102,.fptr (v1 x527))],[]⟩,
         ⟨[102],[],[(103,.fptr [.int .u8 x527.N])],[]⟩,
         ⟨[103],[],[(104,.int .u8 x527.N)],[]⟩,
         ⟨[104],[],[(105,.int .i64 x528)],[]⟩,
         ⟨[92,99,105],[],[(106,.tuple [.agg (v0 x529.1),.agg (v7 x529.2.1),.str x529.2.2.1,.bool x529.2.2.2])],[]⟩,
         ⟨[106],[],[(91,.tuple [.agg (v0 x529.1),.agg (v7 x529.2.1),.str x529.2.2.1,.bool x529.2.2.2])],[]⟩,
         ⟨[91],[],[(107,.agg (v0 x529.1))],[]⟩,
         ⟨[91],[],[(108,.agg (v7 x529.2.1))],[]⟩,
         ⟨[91],[],[(109,.str x529.2.2.1)],[]⟩,
         ⟨[91],[],[(110,.bool x529.2.2.2)],[]⟩,
         ⟨[],[26],[(12,.ref 26 0)],[(26,.blk 38 (w38 0 [] 0 ([]:List aL) ([]:List aI) false false false false 0 [] ([]:List aU) 0 [] 0 0))]⟩,
         ⟨[],[27],[(13,.ref 27 0)],[(27,.blk 52 (w44 0 0 0 false))]⟩,
         ⟨[12,107],[26],[],[(26,.blk 38 (v0 x529.1))]⟩,
         ⟨[13,108],[27],[],[(27,.blk 52 (v7 x529.2.1))]⟩,
         ⟨[109],[],[(14,.str x529.2.2.1)],[]⟩,
         ⟨[110],[],[(15,.bool x529.2.2.2)],[]⟩] M ?_ (by kernel_rfl) ?_
        ·refine .cons (lop M M fun S hA=>(bY (cs:=q9) M M (lb M) underlying38 ag38 ti38 (by decide) (svaR hA M M) (agi hA M M) (nle M) M)) ?_
         refine .cons (lop M M fun S hA=>(aK M M (lb M) (svaL hA M M))) ?_
         refine .cons (lop M M fun S hA=>(aK M M (lb M) (svaI hA M M))) ?_
         refine .cons (lop M M fun S hA=>(dB cM (cs:=q11) M M (lb M) underlying22 ti46 (svaL hA M M) (svaI hA M M) hx524 M M)) ?_
         refine .cons (lop M M fun S hA=>(cV (cs':=[.int _ _]) M M (lb M) underlying46 M ti5 (by decide) (sv (d:=.fptr q11) (agr hA M M)) M)) ?_
         refine .cons (lop M M fun S hA=>(eB M M (lb M) underlying5 ag5 ti5 (by decide) (sv (d:=.fptr [.int _ _]) (agr hA M M)) (nle M))) ?_
         refine .cons (lop M M fun S hA=>(uO M M (lb M) (svaI hA M M) (sv (d:=.int _ 4) M) hx525)) ?_
         refine .cons (lop M M fun S hA=>(fB M M (lb M) ⟨_,underlying5⟩ underlying3 (svaI hA M M) hx526)) ?_
         refine .cons (lop M M fun S hA=>(aK M M (lb M) (svaL hA M M))) ?_
         refine .cons (lop M M fun S hA=>(aK M M (lb M) (svaI hA M M))) ?_
         refine .cons (lop M M fun S hA=>(dB cM (cs:=q11) M M (lb M) underlying22 ti46 (svaL hA M M) (svaI hA M M) hx527 M M)) ?_
         refine .cons (lop M M fun S hA=>(cV (cs':=[.int _ _]) M M (lb M) underlying46 M ti5 (by decide) (sv (d:=.fptr q11) (agr hA M M)) M)) ?_
         refine .cons (lop M M fun S hA=>(eB M M (lb M) underlying5 ag5 ti5 (by decide) (sv (d:=.fptr [.int _ _]) (agr hA M M)) (nle M))) ?_
         refine .cons (lop M M fun S hA=>(fB M M (lb M) ⟨_,underlying5⟩ underlying3 (svaI hA M M) hx528)) ?_
         refine .cons (lop M M fun S hA=>(aX (r:=.tuple q31) M M (lb M) cl9 (.cons (svaA q9 hA M M) (.cons (svaI hA M M) (.cons (svaI hA M M) .nil))) M (nF _ _ _ _ hx529))) ?_
         refine .cons (lop M M fun S hA=>(aK M M (lb M) (sv (d:=.tuple q31) (agr hA M M)))) ?_
         refine .cons (lop M M fun S hA=>(bD (d:=.agg q9) M M (lb M) (sv (d:=.tuple q31) (agr hA M M)) M)) ?_
         refine .cons (lop M M fun S hA=>(bD (d:=.agg q19) M M (lb M) (sv (d:=.tuple q31) (agr hA M M)) M)) ?_
         refine .cons (lop M M fun S hA=>(bD (d:=.str _) M M (lb M) (sv (d:=.tuple q31) (agr hA M M)) M)) ?_
         refine .cons (lop M M fun S hA=>(bD (d:=.bool _) M M (lb M) (sv (d:=.tuple q31) (agr hA M M)) M)) ?_
         refine .cons (lop M M fun S hA=>(bI (cs:=q10) (cs':=(w38 0 [] 0 ([]:List aL) ([]:List aI) false false false false 0 [] ([]:List aU) 0 [] 0 0)) 26 M M (lb M) (agi hA M M) ti38 M M (.k (.k (.k (.cons (.nils _) (.cons (.nils _) (.k4 (.k (.k (.cons (.nils _) (.all _)))))))))))) ?_
         refine .cons (lop M M fun S hA=>(bI (cs:=q19) (cs':=(w44 0 0 0 false)) 27 M M (lb M) (agi hA M M) ti52 M M (.all _))) ?_
         refine .cons (lop M M fun S hA=>(bQ (ds':=q9) M M ti38 (svaR hA M M) (agi hA M M) (svaA q9 hA M M) M M M (nle M) M)) ?_
         refine .cons (lop M M fun S hA=>(bQ (ds':=q19) M M ti52 (svaR hA M M) (agi hA M M) (svaA q19 hA M M) M M M (nle M) M)) ?_
         refine .cons (lop M M fun S hA=>(aE M M (lb M) (sv (d:=.str _) (agr hA M M)))) ?_
         refine .cons (lop M M fun S hA=>(aE M M (lb M) (svaB hA M M))) ?_
         exact .nil
        refine aC (aA M (lra q9 la38 M M M M M (nle M) M)<|aA M (stA q9 q9 ti38 M M M M M M M M (nle M) M)<|aB ?_)
        refine aC (aA M (mvB M M M M)<|aB ?_)
        refine aR (b:=_) M (fun hc530=>?_) (fun hc530=>?_)
        ·
         replace h:=bS h hc530
         obtain ⟨x531,hx531,h⟩:=aZ h
         refine bE (aA M (aK M M (lb M) (sv (d:=.osl _ _ _) M))<|aA M (faR 0 M M M underlying52 M ti3 (lb M) M M)<|aA M (aG (d:=.int _ _) M M (lb M) underlying3 ag3 ti3 (by decide) (svR M) M (nle M) M)<|aA M (aK M M (lb M) (sv (d:=.str _) M))<|aA M (cF (cs:=q28) M M (lb M) underlying56 ti56 pl56 M (.cons (svI M) (.cons (sv (d:=.str _) M) .nil)) M)<|aA M (kG dY.toEnc0 ([(⟨x529.2.1.From,x529.2.2.1⟩:cZ)]:(List cZ)) 28 M M (lb M) underlying41 ti56 M (.cons (svA q28 M) .nil) M M (by decide))<|aA M (lQ dY.toEnc0 29 M M (lb M) underlying41 ti56 M M M M M (rD dY.toEnc0 M M M) hx531)<|aA M (aE M M (lb M) (sv (d:=.osl _ _ _) M))<|cB ?_)
         refine bZ ?_
         refine aM ⟨(v175,v176,x531,v178,x529.1.Send.Base,x529.1.Send.Data,x529.1.Send.Next,x529.1.Send.Pieces,x529.1.Send.Lost,x529.1.Send.Closed,x529.1.Send.Sent,x529.1.Send.Again,x529.1.Send.Done,x529.1.Recv.Recv.Base,x529.1.Recv.Recv.Ready,x529.1.Recv.Recv.Parts,x529.1.Recv.End,x529.1.In.Buf,x529.1.In.Bad,x529.1.In.Seen,v196,v197,v198,v199,v200,v201,v202,v203,v204,v205,v206,v207,v208,v209,v210,v211),(fun i=>if i=25 then 29 else if i=28 then 23 else i),⟨(.sames M M),(.cons (.blk M M M) (.cons (.blk M M M) (.cons (.tail M) (.cons (.tail M) (.cons (EntW.lst M) .nil))))),cA [0,1,23,24,29] M (by decide),(fun i hi=>by first | rfl | (show (if _ then _ else _)=_; (repeat' split) <;> omega))⟩,?_⟩
         exact h
        ·
         replace h:=bT h hc530
         refine aV ?_
         refine bZ ?_
         refine aM ⟨(v175,v176,v177,v178,x529.1.Send.Base,x529.1.Send.Data,x529.1.Send.Next,x529.1.Send.Pieces,x529.1.Send.Lost,x529.1.Send.Closed,x529.1.Send.Sent,x529.1.Send.Again,x529.1.Send.Done,x529.1.Recv.Recv.Base,x529.1.Recv.Recv.Ready,x529.1.Recv.Recv.Parts,x529.1.Recv.End,x529.1.In.Buf,x529.1.In.Bad,x529.1.In.Seen,v196,v197,v198,v199,v200,v201,v202,v203,v204,v205,v206,v207,v208,v209,v210,v211),(fun i=>if i=28 then 23 else i),⟨(.sames M M),(.cons (.blk M M M) (.cons (.blk M M M) (.cons (.tail M) (.cons (.tail M) (.cons (EntW.lst M) .nil))))),cA [0,1,23,24,25] M (by decide),(fun i hi=>by first | rfl | (show (if _ then _ else _)=_; (repeat' split) <;> omega))⟩,?_⟩
         exact h
       ·
        replace h:=bT h hc523
        obtain ⟨x532,hx532,h⟩:=aS h
        refine aC (aA M (aP M M (lb M) (svI M) (sv (d:=.int _ 2) M) M hx532)<|aA M (asB M M M M)<|aB ?_)
        refine aR (b:=_) M (fun hc533=>?_) (fun hc533=>?_)
        ·
         replace h:=bS h hc533
         obtain ⟨x534,hx534,h⟩:=aS h
         refine aC (aA M (aK M M (lb M) (sv (d:=.osl _ _ _) M))<|aA M (nH M M (lb M) underlying41 (sv (d:=.osl _ _ _) M))<|aA M (aP M M (lb M) (svI M) (sv (d:=.int _ 0) M) M hx534)<|aB ?_)
         refine aR (b:=_) M (fun hc535=>?_) (fun hc535=>?_)
         ·
          replace h:=bS h hc535
          obtain ⟨x536,hx536,h⟩:=aZ h
          obtain ⟨x537,hx537,h⟩:=aS h
          obtain ⟨x538,hx538,h⟩:=aZ h
          obtain ⟨x539,hx539,h⟩:=aZ h
          obtain ⟨x540,hx540,h⟩:=aZ h
          refine aC (aA M (aK M M (lb M) (sv (d:=.osl _ _ _) M))<|aA M (mvL M M M M)<|aA M (mvI M M M M)<|aA M (dB cM (cs:=q11) M M (lb M) underlying22 ti46 (svL M) (svI M) hx536 M M)<|aA M (cV (cs':=[.int _ _]) M M (lb M) underlying46 M ti5 (by decide) (sv (d:=.fptr q11) M) M)<|aA M (eB M M (lb M) underlying5 ag5 ti5 (by decide) (sv (d:=.fptr [.int _ _]) M) (nle M))<|aA M (fB M M (lb M) ⟨_,underlying5⟩ underlying3 (svI M) hx537)<|aA M (aK M M (lb M) (sv (d:=.osl _ _ _) M))<|aA M (nH M M (lb M) underlying41 (sv (d:=.osl _ _ _) M))<|aA M (uO M M (lb M) (svI M) (svI M) hx538)<|aA M (jN dY.toEnc0 M M (lb M) underlying41 ti56 (sv (d:=.osl _ _ _) M) M (svI M) hx539)<|aA M (sF dY.toEnc0 (cs:=q28) M M (lb M) underlying56 ag56 ti56 (by decide) (svR M) M hx540 (nle M) M)<|aA M (bI (cs:=q28) (cs':=[.int .i64 0,.str []]) 26 M M (lb M) M ti56 M M (.all _))<|aA M (stA q28 q28 ti56 M M M M M M M M (nle M) M)<|aB ?_)
          obtain ⟨x541,hx541,h⟩:=aZ h
          refine aC (aA M (lra q9 la38 M M M M M (nle M) M)<|aA M (faR 0 M M M underlying56 M ti3 (lb M) M M)<|aA M (aG (d:=.int _ _) M M (lb M) underlying3 ag3 ti3 (by decide) (svR M) M (nle M) M)<|aA M (faR 1 M M M underlying56 M ti9 (lb M) M M)<|aA M (aG (d:=.str _) M M (lb M) underlying9 ag9 ti9 (by decide) (svR M) M (nle M) M)<|aA M (aX (r:=.tuple q32) M M (lb M) cl10 (.cons (svA q9 M) (.cons (svI M) (.cons (sv (d:=.str _) M) .nil))) M (kL _ _ _ _ hx541))<|aA M (aK M M (lb M) (sv (d:=.tuple q32) M))<|aA M (bD (d:=.agg q9) M M (lb M) (sv (d:=.tuple q32) M) M)<|aA M (bD (d:=.slice _ _) M M (lb M) (sv (d:=.tuple q32) M) M)<|aA M (bD (d:=.int _ _) M M (lb M) (sv (d:=.tuple q32) M) M)<|aA M (bI (cs:=q10) (cs':=(w38 0 [] 0 ([]:List aL) ([]:List aI) false false false false 0 [] ([]:List aU) 0 [] 0 0)) 27 M M (lb M) M ti38 M M (.k (.k (.k (.cons (.nils _) (.cons (.nils _) (.k4 (.k (.k (.cons (.nils _) (.all _)))))))))))<|aA M (stA q9 q9 ti38 M M M M M M M M (nle M) M)<|aA M (aE M M (lb M) (svL M))<|aA M (asI M M M M)<|aB ?_)
          obtain ⟨x542,hx542,h⟩:=aZ h
          obtain ⟨x543,hx543,h⟩:=aZ h
          refine dH M [⟨[17],[27],[(147,.agg (v0 x541.1))],[]⟩,
           ⟨[6],[],[(148,.gsl 24 aQ.sz (v176.map aQ.d))],[]⟩,
           ⟨[18],[],[(149,.slice false (x541.2.1.map aQ.d))],[]⟩,
           ⟨[149],[],[(150,.slice false (x542.map aQ.d))],[]⟩,
           ⟨[148,150],[24,28],[(151,.gsl 28 aQ.sz (x543.map aQ.d))],[(28,.tail 44 aQ.sz x543.length),(24,.none)]⟩,
           ⟨[4,147],[1],[],[(1,.blk 38 (v0 x541.1))]⟩,
           ⟨[151],[],[(6,.gsl 28 aQ.sz (x543.map aQ.d))],[]⟩] M ?_ (by kernel_rfl) ?_
          ·refine .cons (lop M M fun S hA=>(bY (cs:=q9) M M (lb M) underlying38 ag38 ti38 (by decide) (svaR hA M M) (agi hA M M) (nle M) M)) ?_
           refine .cons (lop M M fun S hA=>(aK M M (lb M) (sv (d:=.gsl _ _ _) (agr hA M M)))) ?_
           refine .cons (lop M M fun S hA=>(aK M M (lb M) (svaL hA M M))) ?_
           refine .cons (lop M M fun S hA=>(aX (r:=.slice _ _) M M (lb M) cl11 (.cons (svaL hA M M) .nil) M (nX _ _ hx542))) ?_
           refine .cons (lop M M fun S hA=>(mN aQ 28 M M (lb M) underlying40 ti44 M (agr hA M M) (agi hA M M) (agi hA M M) (svaL hA M M) hx543)) ?_
           refine .cons (lop M M fun S hA=>(bQ (ds':=q9) M M ti38 (svaR hA M M) (agi hA M M) (svaA q9 hA M M) M M M (nle M) M)) ?_
           refine .cons (lop M M fun S hA=>(aE M M (lb M) (sv (d:=.gsl _ _ _) (agr hA M M)))) ?_
           exact .nil
          obtain ⟨x544,hx544,h⟩:=aS h
          refine aC (aA M (mvI M M M M)<|aA M (aP M M (lb M) (svI M) (sv (d:=.int _ 0) M) M hx544)<|aB ?_)
          refine aR (b:=_) M (fun hc545=>?_) (fun hc545=>?_)
          ·
           replace h:=bS h hc545
           refine aC (aA M (aE M M (lb M) (sv (d:=.bool false) M))<|aB ?_)
           refine aT ?_
           refine bP ?_
           refine bA ?_
           refine bP ?_
           refine bA ?_
           refine bA ?_
           refine bP ?_
           refine bA ?_
           obtain rfl:=sj_ h
           refine ⟨.inr M,(.cons (sv M) .nil)⟩
          ·
           replace h:=bT h hc545
           refine aV ?_
           refine bZ ?_
           refine aM ⟨(v175,x543,v177,v178,v180,v181,v182,v183,v184,v185,v186,v187,v188,v189,v190,v191,v192,v193,v194,v195,x541.1.Send.Base,x541.1.Send.Data,x541.1.Send.Next,x541.1.Send.Pieces,x541.1.Send.Lost,x541.1.Send.Closed,x541.1.Send.Sent,x541.1.Send.Again,x541.1.Send.Done,x541.1.Recv.Recv.Base,x541.1.Recv.Recv.Ready,x541.1.Recv.Recv.Parts,x541.1.Recv.End,x541.1.In.Buf,x541.1.In.Bad,x541.1.In.Seen),(fun i=>if i=24 then 28 else if i=28 then 23 else i),⟨(.sames M M),(.cons (.blk M M M) (.cons (.blk M M M) (.cons (.tail M) (.cons (.tail M) (.cons (EntW.lst M) .nil))))),cA [0,1,23,28,25] M (by decide),(fun i hi=>by first | rfl | (show (if _ then _ else _)=_; (repeat' split) <;> omega))⟩,?_⟩
           exact h
         ·
          replace h:=bT h hc535
          refine aV ?_
          refine bZ ?_
          refine aM ⟨(v175,v176,v177,v178,v180,v181,v182,v183,v184,v185,v186,v187,v188,v189,v190,v191,v192,v193,v194,v195,v196,v197,v198,v199,v200,v201,v202,v203,v204,v205,v206,v207,v208,v209,v210,v211),(fun i=>if i=28 then 23 else i),⟨(.sames M M),(.cons (.blk M M M) (.cons (.blk M M M) (.cons (.tail M) (.cons (.tail M) (.cons (EntW.lst M) .nil))))),cA [0,1,23,24,25] M (by decide),(fun i hi=>by first | rfl | (show (if _ then _ else _)=_; (repeat' split) <;> omega))⟩,?_⟩
          exact h
        ·
         replace h:=bT h hc533
         obtain ⟨x546,hx546,h⟩:=aS h
         refine aC (aA M (aP M M (lb M) (svI M) (sv (d:=.int _ 3) M) M hx546)<|aA M (asB M M M M)<|aB ?_)
         refine aR (b:=_) M (fun hc547=>?_) (fun hc547=>?_)
         ·
          replace h:=bS h hc547
          obtain ⟨x548,hx548,h⟩:=aZ h
          obtain ⟨x549,hx549,h⟩:=aZ h
          refine qO M [⟨[3],[0],[(156,.agg (w38 v180 v181 v182 v183 v184 v185 v186 v187 v188 v189 v190 v191 v192 v193 v194 v195))],[]⟩,
           ⟨[4],[1],[(157,.agg (w38 v196 v197 v198 v199 v200 v201 v202 v203 v204 v205 v206 v207 v208 v209 v210 v211))],[]⟩,
           ⟨[157],[],[(158,.int .i64 x548)],[]⟩,
           ⟨[156,158],[],[(159,.agg (v0 x549))],[]⟩,
           ⟨[3,159],[0],[],[(0,.blk 38 (v0 x549))]⟩] M ?_ (by kernel_rfl) ?_
          ·refine .cons (lop M M fun S hA=>(bY (cs:=q9) M M (lb M) underlying38 ag38 ti38 (by decide) (svaR hA M M) (agi hA M M) (nle M) M)) ?_
           refine .cons (lop M M fun S hA=>(bY (cs:=q9) M M (lb M) underlying38 ag38 ti38 (by decide) (svaR hA M M) (agi hA M M) (nle M) M)) ?_
           refine .cons (lop M M fun S hA=>(aX (r:=.int _ _) M M (lb M) cl13 (.cons (svaA q9 hA M M) .nil) M (oM _ _ hx548))) ?_
           refine .cons (lop M M fun S hA=>(aX (r:=.agg q9) M M (lb M) cl12 (.cons (svaA q9 hA M M) (.cons (svaI hA M M) .nil)) M (nU _ _ _ hx549))) ?_
           refine .cons (lop M M fun S hA=>(bQ (ds':=q9) M M ti38 (svaR hA M M) (agi hA M M) (svaA q9 hA M M) M M M (nle M) M)) ?_
           exact .nil
          refine bZ ?_
          refine aM ⟨(v175,v176,v177,v178,x549.Send.Base,x549.Send.Data,x549.Send.Next,x549.Send.Pieces,x549.Send.Lost,x549.Send.Closed,x549.Send.Sent,x549.Send.Again,x549.Send.Done,x549.Recv.Recv.Base,x549.Recv.Recv.Ready,x549.Recv.Recv.Parts,x549.Recv.End,x549.In.Buf,x549.In.Bad,x549.In.Seen,v196,v197,v198,v199,v200,v201,v202,v203,v204,v205,v206,v207,v208,v209,v210,v211),(fun i=>if i=28 then 23 else i),⟨(.sames M M),(.cons (.blk M M M) (.cons (.blk M M M) (.cons (.tail M) (.cons (.tail M) (.cons (EntW.lst M) .nil))))),cA [0,1,23,24,25] M (by decide),(fun i hi=>by first | rfl | (show (if _ then _ else _)=_; (repeat' split) <;> omega))⟩,?_⟩
          exact h
         ·
          replace h:=bT h hc547
          obtain ⟨x550,hx550,h⟩:=aZ h
          obtain ⟨x551,hx551,h⟩:=aZ h
          obtain ⟨x552,hx552,h⟩:=aS h
          obtain ⟨x553,hx553,h⟩:=aZ h
          refine qO M [⟨[3],[0],[(47,.agg (w38 v180 v181 v182 v183 v184 v185 v186 v187 v188 v189 v190 v191 v192 v193 v194 v195))],[]⟩,
           ⟨[0],[],[(48,.slice false (a0.map cM.d))],[]⟩,
           ⟨[9],[],[(49,.int .i64 v179)],[]⟩,
           ⟨[48,49],[],[(50,.fptr (v1 x550))],[]⟩,
           ⟨[50],[],[(51,.fptr [.int .u8 x550.Path])],[]⟩,
           ⟨[51],[],[(52,.int .u8 x550.Path)],[]⟩,
           ⟨[52],[],[(53,.int .u8 x551)],[]⟩,
           ⟨[53],[],[(54,.int .i64 x552)],[]⟩,
           ⟨[47,54],[],[(55,.agg (v0 x553))],[]⟩,
           ⟨[3,55],[0],[],[(0,.blk 38 (v0 x553))]⟩] M ?_ (by kernel_rfl) ?_
          ·refine .cons (lop M M fun S hA=>(bY (cs:=q9) M M (lb M) underlying38 ag38 ti38 (by decide) (svaR hA M M) (agi hA M M) (nle M) M)) ?_
           refine .cons (lop M M fun S hA=>(aK M M (lb M) (svaL hA M M))) ?_
           refine .cons (lop M M fun S hA=>(aK M M (lb M) (svaI hA M M))) ?_
           refine .cons (lop M M fun S hA=>(dB cM (cs:=q11) M M (lb M) underlying22 ti46 (svaL hA M M) (svaI hA M M) hx550 M M)) ?_
           refine .cons (lop M M fun S hA=>(cV (cs':=[.int _ _]) M M (lb M) underlying46 M ti5 (by decide) (sv (d:=.fptr q11) (agr hA M M)) M)) ?_
           refine .cons (lop M M fun S hA=>(eB M M (lb M) underlying5 ag5 ti5 (by decide) (sv (d:=.fptr [.int _ _]) (agr hA M M)) (nle M))) ?_
           refine .cons (lop M M fun S hA=>(uO M M (lb M) (svaI hA M M) (sv (d:=.int _ 4) M) hx551)) ?_
           refine .cons (lop M M fun S hA=>(fB M M (lb M) ⟨_,underlying5⟩ underlying3 (svaI hA M M) hx552)) ?_
           refine .cons (lop M M fun S hA=>(aX (r:=.agg q9) M M (lb M) cl14 (.cons (svaA q9 hA M M) (.cons (svaI hA M M) .nil)) M (pJ _ _ _ hx553))) ?_
           refine .cons (lop M M fun S hA=>(bQ (ds':=q9) M M ti38 (svaR hA M M) (agi hA M M) (svaA q9 hA M M) M M M (nle M) M)) ?_
           exact .nil
          refine bZ ?_
          refine aM ⟨(v175,v176,v177,v178,x553.Send.Base,x553.Send.Data,x553.Send.Next,x553.Send.Pieces,x553.Send.Lost,x553.Send.Closed,x553.Send.Sent,x553.Send.Again,x553.Send.Done,x553.Recv.Recv.Base,x553.Recv.Recv.Ready,x553.Recv.Recv.Parts,x553.Recv.End,x553.In.Buf,x553.In.Bad,x553.In.Seen,v196,v197,v198,v199,v200,v201,v202,v203,v204,v205,v206,v207,v208,v209,v210,v211),(fun i=>if i=28 then 23 else i),⟨(.sames M M),(.cons (.blk M M M) (.cons (.blk M M M) (.cons (.tail M) (.cons (.tail M) (.cons (EntW.lst M) .nil))))),cA [0,1,23,24,25] M (by decide),(fun i hi=>by first | rfl | (show (if _ then _ else _)=_; (repeat' split) <;> omega))⟩,?_⟩
          exact h
     ·
      rintro ⟨v432,v433,v434,v435,v436,v437,v438,v439,v440,v441,v442,v443,v444,v445,v446,v447,v448,v449,v450,v451,v452,v453,v454,v455,v456,v457,v458,v459,v460,v461,v462,v463,v464,v465,v466,v467⟩ h
      unfold cS at h
      refine gP (α:=Bool) (fun z=>⟨[(0,.slice false (a0.map cM.d)),(3,.ref 0 0),(4,.ref 1 0),(5,.gsl 28 aQ.sz (v432.map aQ.d)),(6,.gsl 24 aQ.sz (v433.map aQ.d)),(7,.osl 25 dY.sz v434.length),(8,.int .i64 v435),(9,.int .i64 v179),(183,.bool z)],[(0,.blk 38 (w38 v436 v437 v438 v439 v440 v441 v442 v443 v444 v445 v446 v447 v448 v449 v450 v451)),(1,.blk 38 (w38 v452 v453 v454 v455 v456 v457 v458 v459 v460 v461 v462 v463 v464 v465 v466 v467)),(28,.tail 44 aQ.sz v432.length),(24,.tail 44 aQ.sz v433.length),(25,.blk 56 (D.flat (v434.map dY.d)))]⟩) (fun z=>eT v179 (bK a0 n0) v432 v433 v434 v435 v436 v437 v438 v439 v440 v441 v442 v443 v444 v445 v446 v447 v448 v449 v450 v451 v452 v453 v454 v455 v456 v457 v458 v459 v460 v461 v462 v463 v464 v465 v466 v467 z=some r) ?_ ?_
      ·
       obtain ⟨x489,hx489,h⟩:=aS h
       obtain ⟨x490,hx490,h⟩:=aZ h
       refine bE (aA M (aK M M (lb M) (sv (d:=.gsl _ _ _) M))<|aA M (cN aQ (l:=v433) M M (lb M) underlying40 (svg M))<|aA M (aK M M (lb M) (sv (d:=.gsl _ _ _) M))<|aA M (cN aQ (l:=v432) M M (lb M) underlying40 (svg M))<|aA M (aP M M (lb M) (svI M) (svI M) M hx489)<|aA M (mvB M M M M)<|aF M M (.one M) M (by decide) (fun hb=>(aK M M (lb M) (sv (d:=.gsl _ _ _) M)))<|aF M M (.one M) M (by decide) (fun hb=>(aK M M (lb M) (sv (d:=.gsl _ _ _) M)))<|aF M M (.one M) M (by decide) (fun hb=>(aK M M (lb M) (sv (d:=.gsl _ _ _) M)))<|aF M M (.one M) M (by decide) (fun hb=>(cN aQ (l:=v433) M M (lb M) underlying40 (SV.gsls (svc (d:=.gsl 24 aQ.sz (v433.map aQ.d)) M hb))))<|aF M M (.one M) M (by decide) (fun hb=>(uS aQ M M (lb M) underlying40 ti44 (SV.gsls (svc (d:=.gsl 28 aQ.sz (v432.map aQ.d)) M hb)) M ⟨_,(svcI M hb)⟩ (gd_t hx490 hb))) <|?_)
       refine zE M M (.one M) M (by decide) (fun hc491=>?_) (fun hc491=>?_)
       ·
        replace h:=bS h hc491
        refine oQ 166 M hc491 ?_
        refine oQ 167 M hc491 ?_
        refine oQ 168 M hc491 ?_
        refine oQ 169 M hc491 ?_
        refine oQ 170 M hc491 ?_
        obtain ⟨x492,hx492,h⟩:=aZ h
        obtain ⟨x493,hx493,h⟩:=aS h
        obtain ⟨x494,hx494,h⟩:=aZ h
        obtain ⟨x495,hx495,h⟩:=aS h
        obtain ⟨x496,hx496,h⟩:=aS h
        obtain ⟨x497,hx497,h⟩:=aZ h
        obtain ⟨x498,hx498,h⟩:=aS h
        obtain ⟨x499,hx499,h⟩:=aS h
        refine aA M (aX (r:=.bool _) M M (lb M) cl15 (.cons (svg M) (.cons (svL M) .nil)) M (nN _ _ _ hx492))<|aF M M (.one M) M (by decide) (fun hb=>(dN M M (lb M) (svB M)))<|aA M (dT M M (lb M) (svB M) M M hx493)<|aA M (mvB M M M M)<|aF M M (.one M) M (by decide) (fun hb=>(lra q9 la38 M M M M M (nle M) M))<|aF M M (.one M) M (by decide) (fun hb=>(aX (r:=.int _ _) M M (lb M) cl16 (.cons (svcA (w38 v436 v437 v438 v439 v440 v441 v442 v443 v444 v445 v446 v447 v448 v449 v450 v451) M hb) .nil) M (eL _ _ (gd_t hx494 hb))))<|aF M M (.one M) M (by decide) (fun hb=>(aP M M (lb M) (svcI M hb) (sv (d:=.int _ 0) M) M hx495))<|aA M (dT M M (lb M) (svB M) M M hx496)<|aA M (mvB M M M M)<|aF M M (.one M) M (by decide) (fun hb=>(lra q9 la38 M M M M M (nle M) M))<|aF M M (.one M) M (by decide) (fun hb=>(aX (r:=.int _ _) M M (lb M) cl16 (.cons (svcA (w38 v452 v453 v454 v455 v456 v457 v458 v459 v460 v461 v462 v463 v464 v465 v466 v467) M hb) .nil) M (eL _ _ (gd_t hx497 hb))))<|aF M M (.one M) M (by decide) (fun hb=>(aP M M (lb M) (svcI M hb) (sv (d:=.int _ 0) M) M hx498))<|aA M (dT M M (lb M) (svB M) M M hx499)<|cB ?_
        refine aM ⟨x499,(fun i=>i),⟨(.sames M M),(.cons (.blk M M M) (.cons (.blk M M M) (.cons (.tail M) (.cons (.tail M) (.cons (EntW.lst M) .nil))))),cA [0,1,28,24,25] M (by decide),fun _ _=>M⟩,?_⟩
        exact h
       ·
        replace h:=bT h hc491
        obtain ⟨x500,hx500,h⟩:=aS h
        obtain ⟨x501,hx501,h⟩:=aZ h
        obtain ⟨x502,hx502,h⟩:=aS h
        obtain ⟨x503,hx503,h⟩:=aS h
        obtain ⟨x504,hx504,h⟩:=aZ h
        obtain ⟨x505,hx505,h⟩:=aS h
        obtain ⟨x506,hx506,h⟩:=aS h
        refine aF M M (.one M) M (by decide) (fun hb=>(dN M M (lb M) (svcB M hb)))<|aA M (dT M M (lb M) (svB M) M M hx500)<|aA M (mvB M M M M)<|aF M M (.one M) M (by decide) (fun hb=>(lra q9 la38 M M M M M (nle M) M))<|aF M M (.one M) M (by decide) (fun hb=>(aX (r:=.int _ _) M M (lb M) cl16 (.cons (svcA (w38 v436 v437 v438 v439 v440 v441 v442 v443 v444 v445 v446 v447 v448 v449 v450 v451) M hb) .nil) M (eL _ _ (gd_t hx501 hb))))<|aF M M (.one M) M (by decide) (fun hb=>(aP M M (lb M) (svcI M hb) (sv (d:=.int _ 0) M) M hx502))<|aA M (dT M M (lb M) (svB M) M M hx503)<|aA M (mvB M M M M)<|aF M M (.one M) M (by decide) (fun hb=>(lra q9 la38 M M M M M (nle M) M))<|aF M M (.one M) M (by decide) (fun hb=>(aX (r:=.int _ _) M M (lb M) cl16 (.cons (svcA (w38 v452 v453 v454 v455 v456 v457 v458 v459 v460 v461 v462 v463 v464 v465 v466 v467) M hb) .nil) M (eL _ _ (gd_t hx504 hb))))<|aF M M (.one M) M (by decide) (fun hb=>(aP M M (lb M) (svcI M hb) (sv (d:=.int _ 0) M) M hx505))<|aA M (dT M M (lb M) (svB M) M M hx506)<|cB ?_
        refine aM ⟨x506,(fun i=>i),⟨(.sames M M),(.cons (.blk M M M) (.cons (.blk M M M) (.cons (.tail M) (.cons (.tail M) (.cons (EntW.lst M) .nil))))),cA [0,1,28,24,25] M (by decide),fun _ _=>M⟩,?_⟩
        exact h
      ·
       rintro v486 h
       unfold eT at h
       refine aR (b:=_) M (fun hc487=>?_) (fun hc487=>?_)
       ·
        replace h:=bS h hc487
        refine aC (aA M (aE M M (lb M) (sv (d:=.bool false) M))<|aB ?_)
        refine aT ?_
        refine bP ?_
        refine bA ?_
        refine bA ?_
        refine bP ?_
        refine bA ?_
        obtain rfl:=sj_ h
        refine ⟨.inr M,(.cons (sv M) .nil)⟩
       ·
        replace h:=bT h hc487
        refine aV ?_
        refine bZ ?_
        refine aM ?_
        obtain ⟨x488,hx488,h⟩:=aS h
        refine bE (aA M (mvI M M M M)<|aA M (bN M M (lb M) (svI M) (sv (d:=.int _ 1) M) M hx488)<|aA M (asI M M M M)<|cB ?_)
        refine aM ⟨(n0,v432,v433,v434,v435,x488,v436,v437,v438,v439,v440,v441,v442,v443,v444,v445,v446,v447,v448,v449,v450,v451,v452,v453,v454,v455,v456,v457,v458,v459,v460,v461,v462,v463,v464,v465,v466,v467),(fun i=>if i=23 then 28 else i),⟨(.sames M M),(.cons (.blk M M M) (.cons (.blk M M M) (.cons (.tail M) (.cons (.tail M) (.cons (EntW.lst M) .nil))))),cA [0,1,28,24,25] M (by decide),(fun i hi=>by first | rfl | (show (if _ then _ else _)=_; (repeat' split) <;> omega))⟩,?_,?_⟩
        exact h
        exact Nat.lt_succ_self _
    ·
     replace h:=bT h hc384
     refine cQ ?_
     refine bJ ?_
     refine bJ ?_
     refine cR ?_
     refine aM ?_
     refine aW ?_
     refine aC (aA M (aE M M (lb M) (sv (d:=.int _ 0) M))<|aB ?_)
     refine bG ?_
     refine dA (α:=Nat × Int × Int × (List UInt8) × Int × (List aL) × (List aI) × Bool × Bool × Bool × Bool × Int × (List UInt8) × (List aU) × Int × (List UInt8) × Int × Int) (fun z=>⟨[(3,.ref 0 0),(4,.ref 1 0),(5,.gsl 23 aQ.sz (v175.map aQ.d)),(6,.gsl 24 aQ.sz (v176.map aQ.d)),(8,.int .i64 v178),(20,.int .i64 z.2.1)],[(0,.blk 38 (w38 z.2.2.1 z.2.2.2.1 z.2.2.2.2.1 z.2.2.2.2.2.1 z.2.2.2.2.2.2.1 z.2.2.2.2.2.2.2.1 z.2.2.2.2.2.2.2.2.1 z.2.2.2.2.2.2.2.2.2.1 z.2.2.2.2.2.2.2.2.2.2.1 z.2.2.2.2.2.2.2.2.2.2.2.1 z.2.2.2.2.2.2.2.2.2.2.2.2.1 z.2.2.2.2.2.2.2.2.2.2.2.2.2.1 z.2.2.2.2.2.2.2.2.2.2.2.2.2.2.1 z.2.2.2.2.2.2.2.2.2.2.2.2.2.2.2.1 z.2.2.2.2.2.2.2.2.2.2.2.2.2.2.2.2.1 z.2.2.2.2.2.2.2.2.2.2.2.2.2.2.2.2.2)),(1,.blk 38 (w38 v196 v197 v198 v199 v200 v201 v202 v203 v204 v205 v206 v207 v208 v209 v210 v211)),(23,.tail 44 aQ.sz v175.length),(24,.tail 44 aQ.sz v176.length)]⟩) (fun z=>dQ v175 v176 v178 v196 v197 v198 v199 v200 v201 v202 v203 v204 v205 v206 v207 v208 v209 v210 v211 z.1 z.2.1 z.2.2.1 z.2.2.2.1 z.2.2.2.2.1 z.2.2.2.2.2.1 z.2.2.2.2.2.2.1 z.2.2.2.2.2.2.2.1 z.2.2.2.2.2.2.2.2.1 z.2.2.2.2.2.2.2.2.2.1 z.2.2.2.2.2.2.2.2.2.2.1 z.2.2.2.2.2.2.2.2.2.2.2.1 z.2.2.2.2.2.2.2.2.2.2.2.2.1 z.2.2.2.2.2.2.2.2.2.2.2.2.2.1 z.2.2.2.2.2.2.2.2.2.2.2.2.2.2.1 z.2.2.2.2.2.2.2.2.2.2.2.2.2.2.2.1 z.2.2.2.2.2.2.2.2.2.2.2.2.2.2.2.2.1 z.2.2.2.2.2.2.2.2.2.2.2.2.2.2.2.2.2=some r) (fun z=>z.1) (fuel,0,v180,v181,v182,v183,v184,v185,v186,v187,v188,v189,v190,v191,v192,v193,v194,v195) (fun i=>i) ⟨(.sames M M),(.cons (.blk M M M) (.cons (.blk M M M) (.cons (.tail M) (.cons (.tail M) .nil)))),cA [0,1,23,24] M (by decide),fun _ _=>M⟩ ?_ ?_
     ·exact h
     ·
      rintro ⟨n3,v558,v559,v560,v561,v562,v563,v564,v565,v566,v567,v568,v569,v570,v571,v572,v573,v574⟩ h
      cases n3 with
      | zero=>exact absurd h (by unfold dQ; exact nofun)
      | succ n3 =>
       unfold dQ at h
       refine aW ?_
       obtain ⟨x579,hx579,h⟩:=aS h
       refine aC (aA M (mvI M M M M)<|aA M (aP M M (lb M) (svI M) (sv (d:=.int _ 4) M) M hx579)<|aB ?_)
       refine aR (b:=_) M (fun hc580=>?_) (fun hc580=>?_)
       ·
        replace h:=bS h hc580
        refine aV ?_
        refine aM ?_
        refine aW ?_
        refine bG ?_
        obtain ⟨x581,hx581,h⟩:=aZ h
        refine bE (aA M (lra q9 la38 M M M M M (nle M) M)<|aA M (mvI M M M M)<|aA M (aX (r:=.agg q9) M M (lb M) cl14 (.cons (svA q9 M) (.cons (svI M) .nil)) M (pJ _ _ _ hx581))<|aA M (stA q9 q9 ti38 M M M M M M M M (nle M) M)<|cB ?_)
        refine bZ ?_
        refine aM ?_
        obtain ⟨x582,hx582,h⟩:=aS h
        refine bE (aA M (mvI M M M M)<|aA M (bN M M (lb M) (svI M) (sv (d:=.int _ 1) M) M hx582)<|aA M (asI M M M M)<|cB ?_)
        refine aM ⟨(n3,x582,x581.Send.Base,x581.Send.Data,x581.Send.Next,x581.Send.Pieces,x581.Send.Lost,x581.Send.Closed,x581.Send.Sent,x581.Send.Again,x581.Send.Done,x581.Recv.Recv.Base,x581.Recv.Recv.Ready,x581.Recv.Recv.Parts,x581.Recv.End,x581.In.Buf,x581.In.Bad,x581.In.Seen),(fun i=>i),⟨(.sames M M),(.cons (.blk M M M) (.cons (.blk M M M) (.cons (.tail M) (.cons (.tail M) .nil)))),cA [0,1,23,24] M (by decide),fun _ _=>M⟩,?_,?_⟩
        exact h
        exact Nat.lt_succ_self _
       ·
        replace h:=bT h hc580
        refine cQ ?_
        refine bJ ?_
        refine bJ ?_
        refine cR ?_
        refine aM ?_
        refine aW ?_
        refine aC (aA M (aE M M (lb M) (sv (d:=.int _ 0) M))<|aB ?_)
        refine bG ?_
        refine dA (α:=Nat × (List aH) × Int × Int × (List UInt8) × Int × (List aL) × (List aI) × Bool × Bool × Bool × Bool × Int × (List UInt8) × (List aU) × Int × (List UInt8) × Int × Int × Int × (List UInt8) × Int × (List aL) × (List aI) × Bool × Bool × Bool × Bool × Int × (List UInt8) × (List aU) × Int × (List UInt8) × Int × Int) (fun z=>⟨[(3,.ref 0 0),(4,.ref 1 0),(5,.gsl 23 aQ.sz (v175.map aQ.d)),(6,.gsl 24 aQ.sz (z.2.1.map aQ.d)),(8,.int .i64 v178),(21,.int .i64 z.2.2.1)],[(0,.blk 38 (w38 z.2.2.2.1 z.2.2.2.2.1 z.2.2.2.2.2.1 z.2.2.2.2.2.2.1 z.2.2.2.2.2.2.2.1 z.2.2.2.2.2.2.2.2.1 z.2.2.2.2.2.2.2.2.2.1 z.2.2.2.2.2.2.2.2.2.2.1 z.2.2.2.2.2.2.2.2.2.2.2.1 z.2.2.2.2.2.2.2.2.2.2.2.2.1 z.2.2.2.2.2.2.2.2.2.2.2.2.2.1 z.2.2.2.2.2.2.2.2.2.2.2.2.2.2.1 z.2.2.2.2.2.2.2.2.2.2.2.2.2.2.2.1 z.2.2.2.2.2.2.2.2.2.2.2.2.2.2.2.2.1 z.2.2.2.2.2.2.2.2.2.2.2.2.2.2.2.2.2.1 z.2.2.2.2.2.2.2.2.2.2.2.2.2.2.2.2.2.2.1)),(1,.blk 38 (w38 z.2.2.2.2.2.2.2.2.2.2.2.2.2.2.2.2.2.2.2.1 z.2.2.2.2.2.2.2.2.2.2.2.2.2.2.2.2.2.2.2.2.1 z.2.2.2.2.2.2.2.2.2.2.2.2.2.2.2.2.2.2.2.2.2.1 z.2.2.2.2.2.2.2.2.2.2.2.2.2.2.2.2.2.2.2.2.2.2.1 z.2.2.2.2.2.2.2.2.2.2.2.2.2.2.2.2.2.2.2.2.2.2.2.1 z.2.2.2.2.2.2.2.2.2.2.2.2.2.2.2.2.2.2.2.2.2.2.2.2.1 z.2.2.2.2.2.2.2.2.2.2.2.2.2.2.2.2.2.2.2.2.2.2.2.2.2.1 z.2.2.2.2.2.2.2.2.2.2.2.2.2.2.2.2.2.2.2.2.2.2.2.2.2.2.1 z.2.2.2.2.2.2.2.2.2.2.2.2.2.2.2.2.2.2.2.2.2.2.2.2.2.2.2.1 z.2.2.2.2.2.2.2.2.2.2.2.2.2.2.2.2.2.2.2.2.2.2.2.2.2.2.2.2.1 z.2.2.2.2.2.2.2.2.2.2.2.2.2.2.2.2.2.2.2.2.2.2.2.2.2.2.2.2.2.1 z.2.2.2.2.2.2.2.2.2.2.2.2.2.2.2.2.2.2.2.2.2.2.2.2.2.2.2.2.2.2.1 z.2.2.2.2.2.2.2.2.2.2.2.2.2.2.2.2.2.2.2.2.2.2.2.2.2.2.2.2.2.2.2.1 z.2.2.2.2.2.2.2.2.2.2.2.2.2.2.2.2.2.2.2.2.2.2.2.2.2.2.2.2.2.2.2.2.1 z.2.2.2.2.2.2.2.2.2.2.2.2.2.2.2.2.2.2.2.2.2.2.2.2.2.2.2.2.2.2.2.2.2.1 z.2.2.2.2.2.2.2.2.2.2.2.2.2.2.2.2.2.2.2.2.2.2.2.2.2.2.2.2.2.2.2.2.2.2)),(23,.tail 44 aQ.sz v175.length),(24,.tail 44 aQ.sz z.2.1.length)]⟩) (fun z=>dP v175 v178 z.1 z.2.1 z.2.2.1 z.2.2.2.1 z.2.2.2.2.1 z.2.2.2.2.2.1 z.2.2.2.2.2.2.1 z.2.2.2.2.2.2.2.1 z.2.2.2.2.2.2.2.2.1 z.2.2.2.2.2.2.2.2.2.1 z.2.2.2.2.2.2.2.2.2.2.1 z.2.2.2.2.2.2.2.2.2.2.2.1 z.2.2.2.2.2.2.2.2.2.2.2.2.1 z.2.2.2.2.2.2.2.2.2.2.2.2.2.1 z.2.2.2.2.2.2.2.2.2.2.2.2.2.2.1 z.2.2.2.2.2.2.2.2.2.2.2.2.2.2.2.1 z.2.2.2.2.2.2.2.2.2.2.2.2.2.2.2.2.1 z.2.2.2.2.2.2.2.2.2.2.2.2.2.2.2.2.2.1 z.2.2.2.2.2.2.2.2.2.2.2.2.2.2.2.2.2.2.1 z.2.2.2.2.2.2.2.2.2.2.2.2.2.2.2.2.2.2.2.1 z.2.2.2.2.2.2.2.2.2.2.2.2.2.2.2.2.2.2.2.2.1 z.2.2.2.2.2.2.2.2.2.2.2.2.2.2.2.2.2.2.2.2.2.1 z.2.2.2.2.2.2.2.2.2.2.2.2.2.2.2.2.2.2.2.2.2.2.1 z.2.2.2.2.2.2.2.2.2.2.2.2.2.2.2.2.2.2.2.2.2.2.2.1 z.2.2.2.2.2.2.2.2.2.2.2.2.2.2.2.2.2.2.2.2.2.2.2.2.1 z.2.2.2.2.2.2.2.2.2.2.2.2.2.2.2.2.2.2.2.2.2.2.2.2.2.1 z.2.2.2.2.2.2.2.2.2.2.2.2.2.2.2.2.2.2.2.2.2.2.2.2.2.2.1 z.2.2.2.2.2.2.2.2.2.2.2.2.2.2.2.2.2.2.2.2.2.2.2.2.2.2.2.1 z.2.2.2.2.2.2.2.2.2.2.2.2.2.2.2.2.2.2.2.2.2.2.2.2.2.2.2.2.1 z.2.2.2.2.2.2.2.2.2.2.2.2.2.2.2.2.2.2.2.2.2.2.2.2.2.2.2.2.2.1 z.2.2.2.2.2.2.2.2.2.2.2.2.2.2.2.2.2.2.2.2.2.2.2.2.2.2.2.2.2.2.1 z.2.2.2.2.2.2.2.2.2.2.2.2.2.2.2.2.2.2.2.2.2.2.2.2.2.2.2.2.2.2.2.1 z.2.2.2.2.2.2.2.2.2.2.2.2.2.2.2.2.2.2.2.2.2.2.2.2.2.2.2.2.2.2.2.2.1 z.2.2.2.2.2.2.2.2.2.2.2.2.2.2.2.2.2.2.2.2.2.2.2.2.2.2.2.2.2.2.2.2.2.1 z.2.2.2.2.2.2.2.2.2.2.2.2.2.2.2.2.2.2.2.2.2.2.2.2.2.2.2.2.2.2.2.2.2.2=some r) (fun z=>z.1) (fuel,v176,0,v559,v560,v561,v562,v563,v564,v565,v566,v567,v568,v569,v570,v571,v572,v573,v574,v196,v197,v198,v199,v200,v201,v202,v203,v204,v205,v206,v207,v208,v209,v210,v211) (fun i=>i) ⟨(.sames M M),(.cons (.blk M M M) (.cons (.blk M M M) (.cons (.tail M) (.cons (.tail M) .nil)))),cA [0,1,23,24] M (by decide),fun _ _=>M⟩ ?_ ?_
        ·exact h
        ·
         rintro ⟨n4,v596,v597,v598,v599,v600,v601,v602,v603,v604,v605,v606,v607,v608,v609,v610,v611,v612,v613,v614,v615,v616,v617,v618,v619,v620,v621,v622,v623,v624,v625,v626,v627,v628,v629⟩ h
         cases n4 with
         | zero=>exact absurd h (by unfold dP; exact nofun)
         | succ n4 =>
          unfold dP at h
          refine aW ?_
          obtain ⟨x643,hx643,h⟩:=aS h
          obtain ⟨x644,hx644,h⟩:=aZ h
          obtain ⟨x645,hx645,h⟩:=aS h
          refine aC (aA M (mvI M M M M)<|aA M (mvI M M M M)<|aA M (aP M M (lb M) (svI M) (svI M) M hx643)<|aA M (mvB M M M M)<|aF M M (.one M) M (by decide) (fun hb=>(lra q9 la38 M M M M M (nle M) M))<|aF M M (.one M) M (by decide) (fun hb=>(aX (r:=.bool _) M M (lb M) cl17 (.cons (svcA (w38 v598 v599 v600 v601 v602 v603 v604 v605 v606 v607 v608 v609 v610 v611 v612 v613) M hb) .nil) M (nE _ _ (gd_t hx644 hb))))<|aA M (cC M M (lb M) (svB M) M M hx645)<|aB ?_)
          refine aR (b:=_) M (fun hc646=>?_) (fun hc646=>?_)
          ·
           replace h:=bS h hc646
           refine aV ?_
           refine aM ?_
           refine aW ?_
           refine bG ?_
           obtain ⟨x647,hx647,h⟩:=aZ h
           refine aC (aA M (lra q9 la38 M M M M M (nle M) M)<|aA M (aX (r:=.tuple q31) M M (lb M) cl9 (.cons (svA q9 M) (.cons (sv (d:=.int _ 0) M) (.cons (sv (d:=.int _ 32) M) .nil))) M (nF _ _ _ _ hx647))<|aA M (aK M M (lb M) (sv (d:=.tuple q31) M))<|aA M (bD (d:=.agg q9) M M (lb M) (sv (d:=.tuple q31) M) M)<|aA M (bD (d:=.agg q19) M M (lb M) (sv (d:=.tuple q31) M) M)<|aA M (bD (d:=.str _) M M (lb M) (sv (d:=.tuple q31) M) M)<|aA M (bD (d:=.bool _) M M (lb M) (sv (d:=.tuple q31) M) M)<|aA M (bI (cs:=q10) (cs':=(w38 0 [] 0 ([]:List aL) ([]:List aI) false false false false 0 [] ([]:List aU) 0 [] 0 0)) 25 M M (lb M) M ti38 M M (.k (.k (.k (.cons (.nils _) (.cons (.nils _) (.k4 (.k (.k (.cons (.nils _) (.all _)))))))))))<|aA M (bI (cs:=q19) (cs':=(w44 0 0 0 false)) 26 M M (lb M) M ti52 M M (.all _))<|aA M (stA q9 q9 ti38 M M M M M M M M (nle M) M)<|aA M (stA q19 q19 ti52 M M M M M M M M (nle M) M)<|aA M (aE M M (lb M) (sv (d:=.str _) M))<|aA M (asB M M M M)<|aB ?_)
           obtain ⟨x648,hx648,h⟩:=aZ h
           refine aC (aA M (lra q9 la38 M M M M M (nle M) M)<|aA M (faR 0 M M M underlying52 M ti3 (lb M) M M)<|aA M (aG (d:=.int _ _) M M (lb M) underlying3 ag3 ti3 (by decide) (svR M) M (nle M) M)<|aA M (aK M M (lb M) (sv (d:=.str _) M))<|aA M (aX (r:=.tuple q32) M M (lb M) cl10 (.cons (svA q9 M) (.cons (svI M) (.cons (sv (d:=.str _) M) .nil))) M (kL _ _ _ _ hx648))<|aA M (aK M M (lb M) (sv (d:=.tuple q32) M))<|aA M (bD (d:=.agg q9) M M (lb M) (sv (d:=.tuple q32) M) M)<|aA M (bD (d:=.slice _ _) M M (lb M) (sv (d:=.tuple q32) M) M)<|aA M (bD (d:=.int _ _) M M (lb M) (sv (d:=.tuple q32) M) M)<|aA M (bI (cs:=q10) (cs':=(w38 0 [] 0 ([]:List aL) ([]:List aI) false false false false 0 [] ([]:List aU) 0 [] 0 0)) 27 M M (lb M) M ti38 M M (.k (.k (.k (.cons (.nils _) (.cons (.nils _) (.k4 (.k (.k (.cons (.nils _) (.all _)))))))))))<|aA M (stA q9 q9 ti38 M M M M M M M M (nle M) M)<|aA M (aE M M (lb M) (svL M))<|aA M (asI M M M M)<|aB ?_)
           obtain ⟨x649,hx649,h⟩:=aZ h
           obtain ⟨x650,hx650,h⟩:=aZ h
           obtain ⟨x651,hx651,h⟩:=aZ h
           obtain ⟨x652,hx652,h⟩:=aZ h
           refine dH M [⟨[22],[25],[(216,.agg (v0 x647.1))],[]⟩,
            ⟨[26],[27],[(217,.agg (v0 x648.1))],[]⟩,
            ⟨[217],[],[(218,.int .i64 x649)],[]⟩,
            ⟨[216,218],[],[(219,.agg (v0 x650))],[]⟩,
            ⟨[26],[27],[(220,.agg (v0 x648.1))],[]⟩,
            ⟨[6],[],[(221,.gsl 24 aQ.sz (v596.map aQ.d))],[]⟩,
            ⟨[27],[],[(222,.slice false (x648.2.1.map aQ.d))],[]⟩,
            ⟨[222],[],[(223,.slice false (x651.map aQ.d))],[]⟩,
            ⟨[221,223],[24,28],[(224,.gsl 28 aQ.sz (x652.map aQ.d))],[(28,.tail 44 aQ.sz x652.length),(24,.none)]⟩,
            ⟨[3,219],[0],[],[(0,.blk 38 (v0 x650))]⟩,
            ⟨[4,220],[1],[],[(1,.blk 38 (v0 x648.1))]⟩,
            ⟨[224],[],[(6,.gsl 28 aQ.sz (x652.map aQ.d))],[]⟩] M ?_ (by kernel_rfl) ?_
           ·refine .cons (lop M M fun S hA=>(bY (cs:=q9) M M (lb M) underlying38 ag38 ti38 (by decide) (svaR hA M M) (agi hA M M) (nle M) M)) ?_
            refine .cons (lop M M fun S hA=>(bY (cs:=q9) M M (lb M) underlying38 ag38 ti38 (by decide) (svaR hA M M) (agi hA M M) (nle M) M)) ?_
            refine .cons (lop M M fun S hA=>(aX (r:=.int _ _) M M (lb M) cl13 (.cons (svaA q9 hA M M) .nil) M (oM _ _ hx649))) ?_
            refine .cons (lop M M fun S hA=>(aX (r:=.agg q9) M M (lb M) cl12 (.cons (svaA q9 hA M M) (.cons (svaI hA M M) .nil)) M (nU _ _ _ hx650))) ?_
            refine .cons (lop M M fun S hA=>(bY (cs:=q9) M M (lb M) underlying38 ag38 ti38 (by decide) (svaR hA M M) (agi hA M M) (nle M) M)) ?_
            refine .cons (lop M M fun S hA=>(aK M M (lb M) (sv (d:=.gsl _ _ _) (agr hA M M)))) ?_
            refine .cons (lop M M fun S hA=>(aK M M (lb M) (svaL hA M M))) ?_
            refine .cons (lop M M fun S hA=>(aX (r:=.slice _ _) M M (lb M) cl11 (.cons (svaL hA M M) .nil) M (nX _ _ hx651))) ?_
            refine .cons (lop M M fun S hA=>(mN aQ 28 M M (lb M) underlying40 ti44 M (agr hA M M) (agi hA M M) (agi hA M M) (svaL hA M M) hx652)) ?_
            refine .cons (lop M M fun S hA=>(bQ (ds':=q9) M M ti38 (svaR hA M M) (agi hA M M) (svaA q9 hA M M) M M M (nle M) M)) ?_
            refine .cons (lop M M fun S hA=>(bQ (ds':=q9) M M ti38 (svaR hA M M) (agi hA M M) (svaA q9 hA M M) M M M (nle M) M)) ?_
            refine .cons (lop M M fun S hA=>(aE M M (lb M) (sv (d:=.gsl _ _ _) (agr hA M M)))) ?_
            exact .nil
           obtain ⟨x653,hx653,h⟩:=aS h
           refine aC (aA M (mvI M M M M)<|aA M (aP M M (lb M) (svI M) (sv (d:=.int _ 0) M) M hx653)<|aB ?_)
           refine aR (b:=_) M (fun hc654=>?_) (fun hc654=>?_)
           ·
            replace h:=bS h hc654
            refine aC (aA M (aE M M (lb M) (sv (d:=.bool false) M))<|aB ?_)
            refine aT ?_
            refine bP ?_
            refine bA ?_
            refine bA ?_
            refine bP ?_
            refine bA ?_
            obtain rfl:=sj_ h
            refine ⟨.inr M,(.cons (sv M) .nil)⟩
           ·
            replace h:=bT h hc654
            refine aV ?_
            refine bZ ?_
            refine aM ?_
            obtain ⟨x655,hx655,h⟩:=aS h
            refine bE (aA M (mvI M M M M)<|aA M (bN M M (lb M) (svI M) (sv (d:=.int _ 1) M) M hx655)<|aA M (asI M M M M)<|cB ?_)
            refine aM ⟨(n4,x652,x655,x650.Send.Base,x650.Send.Data,x650.Send.Next,x650.Send.Pieces,x650.Send.Lost,x650.Send.Closed,x650.Send.Sent,x650.Send.Again,x650.Send.Done,x650.Recv.Recv.Base,x650.Recv.Recv.Ready,x650.Recv.Recv.Parts,x650.Recv.End,x650.In.Buf,x650.In.Bad,x650.In.Seen,x648.1.Send.Base,x648.1.Send.Data,x648.1.Send.Next,x648.1.Send.Pieces,x648.1.Send.Lost,x648.1.Send.Closed,x648.1.Send.Sent,x648.1.Send.Again,x648.1.Send.Done,x648.1.Recv.Recv.Base,x648.1.Recv.Recv.Ready,x648.1.Recv.Recv.Parts,x648.1.Recv.End,x648.1.In.Buf,x648.1.In.Bad,x648.1.In.Seen),(fun i=>if i=24 then 28 else i),⟨(.sames M M),(.cons (.blk M M M) (.cons (.blk M M M) (.cons (.tail M) (.cons (.tail M) .nil)))),cA [0,1,23,28] M (by decide),(fun i hi=>by first | rfl | (show (if _ then _ else _)=_; (repeat' split) <;> omega))⟩,?_,?_⟩
            exact h
            exact Nat.lt_succ_self _
          ·
           replace h:=bT h hc646
           refine cQ ?_
           refine bJ ?_
           refine bJ ?_
           refine cR ?_
           refine aM ?_
           obtain ⟨x656,hx656,h⟩:=aZ h
           obtain ⟨x657,hx657,h⟩:=aS h
           obtain ⟨x658,hx658,h⟩:=aS h
           obtain ⟨x659,hx659,h⟩:=aS h
           obtain ⟨x660,hx660,h⟩:=aS h
           obtain ⟨x661,hx661,h⟩:=aZ h
           obtain ⟨x662,hx662,h⟩:=aS h
           refine aC (aA M (aK M M (lb M) (sv (d:=.gsl _ _ _) M))<|aA M (aK M M (lb M) (sv (d:=.gsl _ _ _) M))<|aA M (aX (r:=.bool _) M M (lb M) cl15 (.cons (svg M) (.cons (svg M) .nil)) M (nN _ _ _ hx656))<|aA M (mvB M M M M)<|aF M M (.one M) M (by decide) (fun hb=>(faR 0 M M M underlying38 M ti28 (lb M) M M))<|aF M M (.one M) M (by decide) (fun hb=>(aO M M (lb M) underlying28 M ti9 (by decide) (svcR M hb) (off':=1) M))<|aF M M (.one M) M (by decide) (fun hb=>(aG (d:=.str _) M M (lb M) underlying9 ag9 ti9 (by decide) (svcR M hb) M (nle M) M))<|aF M M (.one M) M (by decide) (fun hb=>(jC M M (lb M) (svc (d:=.str _) M hb) (sv (d:=.str []) M) M hx657))<|aA M (cC M M (lb M) (svB M) M M hx658)<|aA M (mvB M M M M)<|aF M M (.one M) M (by decide) (fun hb=>(faR 13 M M M underlying38 M ti36 (lb M) M M))<|aF M M (.one M) M (by decide) (fun hb=>(aO M M (lb M) underlying36 M ti9 (by decide) (svcR M hb) (off':=13) M))<|aF M M (.one M) M (by decide) (fun hb=>(aG (d:=.str _) M M (lb M) underlying9 ag9 ti9 (by decide) (svcR M hb) M (nle M) M))<|aF M M (.one M) M (by decide) (fun hb=>(jC M M (lb M) (svc (d:=.str _) M hb) (sv (d:=.str []) M) M hx659))<|aA M (cC M M (lb M) (svB M) M M hx660)<|aA M (mvB M M M M)<|aF M M (.one M) M (by decide) (fun hb=>(aX (r:=.bool _) M M (lb M) cl5 .nil M (lX  _ (gd_t hx661 hb))))<|aA M (cC M M (lb M) (svB M) M M hx662)<|aA M (asB M M M M)<|aB ?_)
           refine aT ?_
           obtain rfl:=sj_ h
           refine ⟨.inr M,(.cons (sv M) .nil)⟩
end Go.Proofs.YtfaflcdfgaoehaaGreat
