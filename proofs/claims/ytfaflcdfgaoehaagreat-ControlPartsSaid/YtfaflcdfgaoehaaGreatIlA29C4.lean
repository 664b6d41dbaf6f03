/-
  A part of the proof: rules and plain facts. No condition.
-/
import Derived.Test.YtfaflcdfgaoehaaGreatProg
import Derived.KernelRfl
import Derived.Test.YtfaflcdfgaoehaaGreatIlA29D
import Derived.Test.YtfaflcdfgaoehaaGreatIlA29C3
set_option linter.all false
set_option maxRecDepth 8000
set_option maxHeartbeats 2000000
open Go Go.IL Go.Fn Go.Proofs
namespace Go.Proofs.YtfaflcdfgaoehaaGreat
theorem ag44 : gF Tryz.prog 44 = true:=by kernel_rfl
theorem cl5 : bF Tryz.prog 5:=⟨Tryz.f5,Tryz.func5,rfl,rfl⟩
theorem cl7 : bF Tryz.prog 7:=⟨Tryz.f7,Tryz.func7,rfl,rfl⟩
theorem cl11 : bF Tryz.prog 11:=⟨Tryz.f11,Tryz.func11,rfl,rfl⟩
theorem cl15 : bF Tryz.prog 15:=⟨Tryz.f15,Tryz.func15,rfl,rfl⟩
theorem cl38 : bF Tryz.prog 38:=⟨Tryz.f38,Tryz.func38,rfl,rfl⟩



theorem tC (a0 : aH) (a1 : aH) (r : Bool) (h : jS a0 a1 = some r) : cD Tryz.prog 38 [.agg (v1 a0),.agg (v1 a1)] (.bool r):=by
 refine bA (rs:=[.bool r]) Tryz.func38 rfl Tryz.ntmps38 (nle rfl) rfl fun O hO=>?_
 show IWP _ _ _ _ ⟨[(0,.agg (v1 a0)),(1,.agg (v1 a1))],[]⟩ _
 unfold jS at h
 refine aC (aA rfl (bR (cs:=q10) 0 rfl rfl (lb rfl) rfl (svA q10 rfl) rfl rfl) <|aA rfl (bR (cs:=q10) 1 rfl rfl (lb rfl) rfl (svA q10 rfl) rfl rfl) <|aA rfl (aE rfl rfl (lb rfl) (sv (d:=.bool false) rfl)) <|aB ?_)
 refine aV ?_
 obtain ⟨x1,hx1,h⟩:=aR h
 refine aC (aA rfl (faR 8 rfl rfl rfl Tryz.underlying44 rfl ti42 (lb rfl) rfl rfl) <|aA rfl (lrL la42 rfl rfl rfl rfl rfl (nle rfl) rfl) <|aA rfl (cJ bN (l:=a0.Pairs) rfl rfl (lb rfl) Tryz.underlying42 (svL rfl)) <|aA rfl (faR 8 rfl rfl rfl Tryz.underlying44 rfl ti42 (lb rfl) rfl rfl) <|aA rfl (lrL la42 rfl rfl rfl rfl rfl (nle rfl) rfl) <|aA rfl (cJ bN (l:=a1.Pairs) rfl rfl (lb rfl) Tryz.underlying42 (svL rfl)) <|aA rfl (aP rfl rfl (lb rfl) (svI rfl) (svI rfl) rfl hx1) <|aB ?_)
 refine aT (b:=_) rfl (fun hc2=>?_) (fun hc2=>?_)
 ·
  replace h:=bT h hc2
  refine aC (aA rfl (aE rfl rfl (lb rfl) (sv (d:=.bool false) rfl)) <|aB ?_)
  refine aS ?_
  refine aZ ?_
  obtain rfl:=Option.some.inj h
  refine ⟨.inr rfl,(.cons (sv rfl) .nil)⟩
 ·
  replace h:=bU h hc2
  refine aU ?_
  refine aN ?_
  refine aV ?_
  refine aC (aA rfl (aE rfl rfl (lb rfl) (sv (d:=.int _ 0) rfl)) <|aB ?_)
  refine bG ?_
  refine cW (α:=Nat × Int) (fun z=>⟨[(2,.ref 0 0),(3,.ref 1 0),(5,.int .i64 z.2)],[(0,.blk 44 (v1 a0)),(1,.blk 44 (v1 a1))]⟩) (fun z=>fA a0 a1 z.1 z.2 = some r) (fun z=>z.1) (fuel,0) (fun i=>i) ⟨(.sames rfl rfl),(.cons (.blk rfl rfl rfl) (.cons (.blk rfl rfl rfl) .nil)),bX [0,1] rfl (by decide),fun _ _=>rfl⟩ ?_ ?_
  ·exact h
  ·
   rintro ⟨n0,v10⟩ h
   cases n0 with
   | zero=>exact absurd h (by unfold fA; exact nofun)
   | succ n0 =>
    unfold fA at h
    refine aV ?_
    obtain ⟨x18,hx18,h⟩:=aR h
    refine aC (aA rfl (mvI rfl rfl rfl rfl) <|aA rfl (faR 8 rfl rfl rfl Tryz.underlying44 rfl ti42 (lb rfl) rfl rfl) <|aA rfl (lrL la42 rfl rfl rfl rfl rfl (nle rfl) rfl) <|aA rfl (cJ bN (l:=a0.Pairs) rfl rfl (lb rfl) Tryz.underlying42 (svL rfl)) <|aA rfl (aP rfl rfl (lb rfl) (svI rfl) (svI rfl) rfl hx18) <|aB ?_)
    refine aT (b:=_) rfl (fun hc19=>?_) (fun hc19=>?_)
    ·
     replace h:=bT h hc19
     refine aU ?_
     refine aN ?_
     refine aV ?_
     refine bG ?_
     obtain ⟨x20,hx20,h⟩:=aY h
     obtain ⟨x21,hx21,h⟩:=aY h
     obtain ⟨x22,hx22,h⟩:=aR h
     refine dG rfl [⟨[2],[],[(20,.ref 0 8)],[]⟩,
      ⟨[20],[0],[(21,.slice false (a0.Pairs.map bN.d))],[]⟩,
      ⟨[5],[],[(22,.int .i64 v10)],[]⟩,
      ⟨[21,22],[],[(23,.fptr [.int .i64 x20.ID,.int .i64 x20.Value])],[]⟩,
      ⟨[23],[],[(24,.agg [.int .i64 x20.ID,.int .i64 x20.Value])],[]⟩,
      ⟨[3],[],[(25,.ref 1 8)],[]⟩,
      ⟨[25],[1],[(26,.slice false (a1.Pairs.map bN.d))],[]⟩,
      ⟨[5],[],[(27,.int .i64 v10)],[]⟩,
      ⟨[26,27],[],[(28,.fptr [.int .i64 x21.ID,.int .i64 x21.Value])],[]⟩,
      ⟨[28],[],[(29,.agg [.int .i64 x21.ID,.int .i64 x21.Value])],[]⟩,
      ⟨[24,29],[],[(30,.bool (!x22))],[]⟩] rfl ?_ (by kernel_rfl) ?_
     ·refine .cons (lop rfl rfl fun S hA=>(aO rfl rfl (lb rfl) Tryz.underlying44 rfl ti42 (by decide) (svaR hA rfl rfl) (off':=8) rfl)) ?_
      refine .cons (lop rfl rfl fun S hA=>(aG (d:=.slice _ _) rfl rfl (lb rfl) Tryz.underlying42 ag42 ti42 (by decide) (svaR hA rfl rfl) (agi hA rfl rfl) (nle rfl) rfl)) ?_
      refine .cons (lop rfl rfl fun S hA=>(aK rfl rfl (lb rfl) (svaI hA rfl rfl))) ?_
      refine .cons (lop rfl rfl fun S hA=>(cY bN (cs:=q25) rfl rfl (lb rfl) Tryz.underlying42 qN (svaL hA rfl rfl) (svaI hA rfl rfl) hx20 rfl rfl)) ?_
      refine .cons (lop rfl rfl fun S hA=>(cQ (cs:=q25) rfl rfl (lb rfl) Tryz.underlying136 aCh qN (by decide) (sv (d:=.fptr q25) (agr hA rfl rfl)) (nle rfl) rfl)) ?_
      refine .cons (lop rfl rfl fun S hA=>(aO rfl rfl (lb rfl) Tryz.underlying44 rfl ti42 (by decide) (svaR hA rfl rfl) (off':=8) rfl)) ?_
      refine .cons (lop rfl rfl fun S hA=>(aG (d:=.slice _ _) rfl rfl (lb rfl) Tryz.underlying42 ag42 ti42 (by decide) (svaR hA rfl rfl) (agi hA rfl rfl) (nle rfl) rfl)) ?_
      refine .cons (lop rfl rfl fun S hA=>(aK rfl rfl (lb rfl) (svaI hA rfl rfl))) ?_
      refine .cons (lop rfl rfl fun S hA=>(cY bN (cs:=q25) rfl rfl (lb rfl) Tryz.underlying42 qN (svaL hA rfl rfl) (svaI hA rfl rfl) hx21 rfl rfl)) ?_
      refine .cons (lop rfl rfl fun S hA=>(cQ (cs:=q25) rfl rfl (lb rfl) Tryz.underlying136 aCh qN (by decide) (sv (d:=.fptr q25) (agr hA rfl rfl)) (nle rfl) rfl)) ?_
      refine .cons (lop rfl rfl fun S hA=>(wY rfl rfl (lb rfl) Tryz.underlying136 aD1.1 aD1.2 (svaA q25 hA rfl rfl) (svaA q25 hA rfl rfl) (congrArg some hx22))) ?_
      exact .nil
     refine aT (b:=_) rfl (fun hc23=>?_) (fun hc23=>?_)
     ·
      replace h:=bT h hc23
      refine aC (aA rfl (aE rfl rfl (lb rfl) (sv (d:=.bool false) rfl)) <|aB ?_)
      refine aS ?_
      refine bP ?_
      refine aZ ?_
      refine aZ ?_
      refine bP ?_
      refine aZ ?_
      obtain rfl:=Option.some.inj h
      refine ⟨.inr rfl,(.cons (sv rfl) .nil)⟩
     ·
      replace h:=bU h hc23
      refine aU ?_
      refine bZ ?_
      refine aN ?_
      obtain ⟨x24,hx24,h⟩:=aR h
      refine bD (aA rfl (mvI rfl rfl rfl rfl) <|aA rfl (bL rfl rfl (lb rfl) (svI rfl) (sv (d:=.int _ 1) rfl) rfl hx24) <|aA rfl (asI rfl rfl rfl rfl) <|bW ?_)
      refine aN ⟨(n0,x24),(fun i=>i),⟨(.sames rfl rfl),(.cons (.blk rfl rfl rfl) (.cons (.blk rfl rfl rfl) .nil)),bX [0,1] rfl (by decide),fun _ _=>rfl⟩,?_,?_⟩
      exact h
      exact Nat.lt_succ_self _
    ·
     replace h:=bU h hc19
     refine cN ?_
     refine bI ?_
     refine bI ?_
     refine cO ?_
     refine aN ?_
     obtain ⟨x25,hx25,h⟩:=aR h
     obtain ⟨x26,hx26,h⟩:=aR h
     obtain ⟨x27,hx27,h⟩:=aR h
     obtain ⟨x28,hx28,h⟩:=aR h
     obtain ⟨x29,hx29,h⟩:=aR h
     obtain ⟨x30,hx30,h⟩:=aR h
     obtain ⟨x31,hx31,h⟩:=aR h
     obtain ⟨x32,hx32,h⟩:=aR h
     obtain ⟨x33,hx33,h⟩:=aR h
     obtain ⟨x34,hx34,h⟩:=aR h
     obtain ⟨x35,hx35,h⟩:=aR h
     obtain ⟨x36,hx36,h⟩:=aR h
     obtain ⟨x37,hx37,h⟩:=aR h
     obtain ⟨x38,hx38,h⟩:=aR h
     obtain ⟨x39,hx39,h⟩:=aR h
     obtain ⟨x40,hx40,h⟩:=aR h
     obtain ⟨x41,hx41,h⟩:=aR h
     refine aC (aA rfl (faR 0 rfl rfl rfl Tryz.underlying44 rfl ti5 (lb rfl) rfl rfl) <|aA rfl (aG (d:=.int _ _) rfl rfl (lb rfl) Tryz.underlying5 ag5 ti5 (by decide) (svR rfl) rfl (nle rfl) rfl) <|aA rfl (faR 0 rfl rfl rfl Tryz.underlying44 rfl ti5 (lb rfl) rfl rfl) <|aA rfl (aG (d:=.int _ _) rfl rfl (lb rfl) Tryz.underlying5 ag5 ti5 (by decide) (svR rfl) rfl (nle rfl) rfl) <|aA rfl (aP rfl rfl (lb rfl) (svI rfl) (svI rfl) rfl hx25) <|aA rfl (mvB rfl rfl rfl rfl) <|aF rfl rfl (.one rfl) rfl (by decide) (fun hb=>(faR 1 rfl rfl rfl Tryz.underlying44 rfl ti4 (lb rfl) rfl rfl)) <|aF rfl rfl (.one rfl) rfl (by decide) (fun hb=>(aG (d:=.bool _) rfl rfl (lb rfl) Tryz.underlying4 ag4 ti4 (by decide) (svcR rfl hb) rfl (nle rfl) rfl)) <|aF rfl rfl (.one rfl) rfl (by decide) (fun hb=>(faR 1 rfl rfl rfl Tryz.underlying44 rfl ti4 (lb rfl) rfl rfl)) <|aF rfl rfl (.one rfl) rfl (by decide) (fun hb=>(aG (d:=.bool _) rfl rfl (lb rfl) Tryz.underlying4 ag4 ti4 (by decide) (svcR rfl hb) rfl (nle rfl) rfl)) <|aF rfl rfl (.one rfl) rfl (by decide) (fun hb=>(tU rfl rfl (lb rfl) Tryz.underlying4 (svcB rfl hb) (svcB rfl hb) hx26)) <|aA rfl (bO rfl rfl (lb rfl) (svB rfl) rfl rfl hx27) <|aA rfl (mvB rfl rfl rfl rfl) <|aF rfl rfl (.one rfl) rfl (by decide) (fun hb=>(faR 2 rfl rfl rfl Tryz.underlying44 rfl ti3 (lb rfl) rfl rfl)) <|aF rfl rfl (.one rfl) rfl (by decide) (fun hb=>(aG (d:=.int _ _) rfl rfl (lb rfl) Tryz.underlying3 ag3 ti3 (by decide) (svcR rfl hb) rfl (nle rfl) rfl)) <|aF rfl rfl (.one rfl) rfl (by decide) (fun hb=>(faR 2 rfl rfl rfl Tryz.underlying44 rfl ti3 (lb rfl) rfl rfl)) <|aF rfl rfl (.one rfl) rfl (by decide) (fun hb=>(aG (d:=.int _ _) rfl rfl (lb rfl) Tryz.underlying3 ag3 ti3 (by decide) (svcR rfl hb) rfl (nle rfl) rfl)) <|aF rfl rfl (.one rfl) rfl (by decide) (fun hb=>(aP rfl rfl (lb rfl) (svcI rfl hb) (svcI rfl hb) rfl hx28)) <|aA rfl (bO rfl rfl (lb rfl) (svB rfl) rfl rfl hx29) <|aA rfl (mvB rfl rfl rfl rfl) <|aF rfl rfl (.one rfl) rfl (by decide) (fun hb=>(faR 3 rfl rfl rfl Tryz.underlying44 rfl ti3 (lb rfl) rfl rfl)) <|aF rfl rfl (.one rfl) rfl (by decide) (fun hb=>(aG (d:=.int _ _) rfl rfl (lb rfl) Tryz.underlying3 ag3 ti3 (by decide) (svcR rfl hb) rfl (nle rfl) rfl)) <|aF rfl rfl (.one rfl) rfl (by decide) (fun hb=>(faR 3 rfl rfl rfl Tryz.underlying44 rfl ti3 (lb rfl) rfl rfl)) <|aF rfl rfl (.one rfl) rfl (by decide) (fun hb=>(aG (d:=.int _ _) rfl rfl (lb rfl) Tryz.underlying3 ag3 ti3 (by decide) (svcR rfl hb) rfl (nle rfl) rfl)) <|aF rfl rfl (.one rfl) rfl (by decide) (fun hb=>(aP rfl rfl (lb rfl) (svcI rfl hb) (svcI rfl hb) rfl hx30)) <|aA rfl (bO rfl rfl (lb rfl) (svB rfl) rfl rfl hx31) <|aA rfl (mvB rfl rfl rfl rfl) <|aF rfl rfl (.one rfl) rfl (by decide) (fun hb=>(faR 4 rfl rfl rfl Tryz.underlying44 rfl ti3 (lb rfl) rfl rfl)) <|aF rfl rfl (.one rfl) rfl (by decide) (fun hb=>(aG (d:=.int _ _) rfl rfl (lb rfl) Tryz.underlying3 ag3 ti3 (by decide) (svcR rfl hb) rfl (nle rfl) rfl)) <|aF rfl rfl (.one rfl) rfl (by decide) (fun hb=>(faR 4 rfl rfl rfl Tryz.underlying44 rfl ti3 (lb rfl) rfl rfl)) <|aF rfl rfl (.one rfl) rfl (by decide) (fun hb=>(aG (d:=.int _ _) rfl rfl (lb rfl) Tryz.underlying3 ag3 ti3 (by decide) (svcR rfl hb) rfl (nle rfl) rfl)) <|aF rfl rfl (.one rfl) rfl (by decide) (fun hb=>(aP rfl rfl (lb rfl) (svcI rfl hb) (svcI rfl hb) rfl hx32)) <|aA rfl (bO rfl rfl (lb rfl) (svB rfl) rfl rfl hx33) <|aA rfl (mvB rfl rfl rfl rfl) <|aF rfl rfl (.one rfl) rfl (by decide) (fun hb=>(faR 5 rfl rfl rfl Tryz.underlying44 rfl ti3 (lb rfl) rfl rfl)) <|aF rfl rfl (.one rfl) rfl (by decide) (fun hb=>(aG (d:=.int _ _) rfl rfl (lb rfl) Tryz.underlying3 ag3 ti3 (by decide) (svcR rfl hb) rfl (nle rfl) rfl)) <|aF rfl rfl (.one rfl) rfl (by decide) (fun hb=>(faR 5 rfl rfl rfl Tryz.underlying44 rfl ti3 (lb rfl) rfl rfl)) <|aF rfl rfl (.one rfl) rfl (by decide) (fun hb=>(aG (d:=.int _ _) rfl rfl (lb rfl) Tryz.underlying3 ag3 ti3 (by decide) (svcR rfl hb) rfl (nle rfl) rfl)) <|aF rfl rfl (.one rfl) rfl (by decide) (fun hb=>(aP rfl rfl (lb rfl) (svcI rfl hb) (svcI rfl hb) rfl hx34)) <|aA rfl (bO rfl rfl (lb rfl) (svB rfl) rfl rfl hx35) <|aA rfl (mvB rfl rfl rfl rfl) <|aF rfl rfl (.one rfl) rfl (by decide) (fun hb=>(faR 6 rfl rfl rfl Tryz.underlying44 rfl ti3 (lb rfl) rfl rfl)) <|aF rfl rfl (.one rfl) rfl (by decide) (fun hb=>(aG (d:=.int _ _) rfl rfl (lb rfl) Tryz.underlying3 ag3 ti3 (by decide) (svcR rfl hb) rfl (nle rfl) rfl)) <|aF rfl rfl (.one rfl) rfl (by decide) (fun hb=>(faR 6 rfl rfl rfl Tryz.underlying44 rfl ti3 (lb rfl) rfl rfl)) <|aF rfl rfl (.one rfl) rfl (by decide) (fun hb=>(aG (d:=.int _ _) rfl rfl (lb rfl) Tryz.underlying3 ag3 ti3 (by decide) (svcR rfl hb) rfl (nle rfl) rfl)) <|aF rfl rfl (.one rfl) rfl (by decide) (fun hb=>(aP rfl rfl (lb rfl) (svcI rfl hb) (svcI rfl hb) rfl hx36)) <|aA rfl (bO rfl rfl (lb rfl) (svB rfl) rfl rfl hx37) <|aA rfl (mvB rfl rfl rfl rfl) <|aF rfl rfl (.one rfl) rfl (by decide) (fun hb=>(faR 7 rfl rfl rfl Tryz.underlying44 rfl ti3 (lb rfl) rfl rfl)) <|aF rfl rfl (.one rfl) rfl (by decide) (fun hb=>(aG (d:=.int _ _) rfl rfl (lb rfl) Tryz.underlying3 ag3 ti3 (by decide) (svcR rfl hb) rfl (nle rfl) rfl)) <|aF rfl rfl (.one rfl) rfl (by decide) (fun hb=>(faR 7 rfl rfl rfl Tryz.underlying44 rfl ti3 (lb rfl) rfl rfl)) <|aF rfl rfl (.one rfl) rfl (by decide) (fun hb=>(aG (d:=.int _ _) rfl rfl (lb rfl) Tryz.underlying3 ag3 ti3 (by decide) (svcR rfl hb) rfl (nle rfl) rfl)) <|aF rfl rfl (.one rfl) rfl (by decide) (fun hb=>(aP rfl rfl (lb rfl) (svcI rfl hb) (svcI rfl hb) rfl hx38)) <|aA rfl (bO rfl rfl (lb rfl) (svB rfl) rfl rfl hx39) <|aA rfl (mvB rfl rfl rfl rfl) <|aF rfl rfl (.one rfl) rfl (by decide) (fun hb=>(faR 9 rfl rfl rfl Tryz.underlying44 rfl ti9 (lb rfl) rfl rfl)) <|aF rfl rfl (.one rfl) rfl (by decide) (fun hb=>(aG (d:=.str _) rfl rfl (lb rfl) Tryz.underlying9 ag9 ti9 (by decide) (svcR rfl hb) rfl (nle rfl) rfl)) <|aF rfl rfl (.one rfl) rfl (by decide) (fun hb=>(faR 9 rfl rfl rfl Tryz.underlying44 rfl ti9 (lb rfl) rfl rfl)) <|aF rfl rfl (.one rfl) rfl (by decide) (fun hb=>(aG (d:=.str _) rfl rfl (lb rfl) Tryz.underlying9 ag9 ti9 (by decide) (svcR rfl hb) rfl (nle rfl) rfl)) <|aF rfl rfl (.one rfl) rfl (by decide) (fun hb=>(jM rfl rfl (lb rfl) (svc (d:=.str _) rfl hb) (svc (d:=.str _) rfl hb) rfl hx40)) <|aA rfl (bO rfl rfl (lb rfl) (svB rfl) rfl rfl hx41) <|aA rfl (asB rfl rfl rfl rfl) <|aB ?_)
     refine aS ?_
     obtain rfl:=Option.some.inj h
     refine ⟨.inr rfl,(.cons (sv rfl) .nil)⟩

theorem mS (a0 : (List aH)) (a1 : (List aH)) (r : Bool) (h : fP a0 a1 = some r) : cD Tryz.prog 15 [.slice false (a0.map aQ.d),.slice false (a1.map aQ.d)] (.bool r):=by
 refine bA (rs:=[.bool r]) Tryz.func15 rfl Tryz.ntmps15 (nle rfl) rfl fun O hO=>?_
 show IWP _ _ _ _ ⟨[(0,.slice false (a0.map aQ.d)),(1,.slice false (a1.map aQ.d))],[]⟩ _
 unfold fP at h
 refine aC (aA rfl (aE rfl rfl (lb rfl) (sv (d:=.bool false) rfl)) <|aB ?_)
 refine aV ?_
 obtain ⟨x1,hx1,h⟩:=aR h
 refine aC (aA rfl (mvL rfl rfl rfl rfl) <|aA rfl (cJ aQ (l:=a0) rfl rfl (lb rfl) Tryz.underlying40 (svL rfl)) <|aA rfl (mvL rfl rfl rfl rfl) <|aA rfl (cJ aQ (l:=a1) rfl rfl (lb rfl) Tryz.underlying40 (svL rfl)) <|aA rfl (aP rfl rfl (lb rfl) (svI rfl) (svI rfl) rfl hx1) <|aB ?_)
 refine aT (b:=_) rfl (fun hc2=>?_) (fun hc2=>?_)
 ·
  replace h:=bT h hc2
  refine aC (aA rfl (aE rfl rfl (lb rfl) (sv (d:=.bool false) rfl)) <|aB ?_)
  refine aS ?_
  refine aZ ?_
  obtain rfl:=Option.some.inj h
  refine ⟨.inr rfl,(.cons (sv rfl) .nil)⟩
 ·
  replace h:=bU h hc2
  refine aU ?_
  refine aN ?_
  refine aV ?_
  refine aC (aA rfl (aE rfl rfl (lb rfl) (sv (d:=.int _ 0) rfl)) <|aB ?_)
  refine bG ?_
  refine cW (α:=Nat × Int) (fun z=>⟨[(0,.slice false (a0.map aQ.d)),(1,.slice false (a1.map aQ.d)),(5,.int .i64 z.2)],[]⟩) (fun z=>eH a0 a1 z.1 z.2 = some r) (fun z=>z.1) (fuel,0) (fun i=>i) ⟨(.sames rfl rfl),.nil,bX [] rfl (by decide),fun _ _=>rfl⟩ ?_ ?_
  ·exact h
  ·
   rintro ⟨n0,v10⟩ h
   cases n0 with
   | zero=>exact absurd h (by unfold eH; exact nofun)
   | succ n0 =>
    unfold eH at h
    refine aV ?_
    obtain ⟨x18,hx18,h⟩:=aR h
    refine aC (aA rfl (mvI rfl rfl rfl rfl) <|aA rfl (mvL rfl rfl rfl rfl) <|aA rfl (cJ aQ (l:=a0) rfl rfl (lb rfl) Tryz.underlying40 (svL rfl)) <|aA rfl (aP rfl rfl (lb rfl) (svI rfl) (svI rfl) rfl hx18) <|aB ?_)
    refine aT (b:=_) rfl (fun hc19=>?_) (fun hc19=>?_)
    ·
     replace h:=bT h hc19
     refine aU ?_
     refine aN ?_
     refine aV ?_
     refine bG ?_
     obtain ⟨x20,hx20,h⟩:=aY h
     obtain ⟨x21,hx21,h⟩:=aY h
     obtain ⟨x22,hx22,h⟩:=aY h
     refine dG rfl [⟨[0],[],[(17,.slice false (a0.map aQ.d))],[]⟩,
      ⟨[5],[],[(18,.int .i64 v10)],[]⟩,
      ⟨[17,18],[],[(19,.fptr (v1 x20))],[]⟩,
      ⟨[19],[],[(20,.agg (v1 x20))],[]⟩,
      ⟨[1],[],[(21,.slice false (a1.map aQ.d))],[]⟩,
      ⟨[5],[],[(22,.int .i64 v10)],[]⟩,
      ⟨[21,22],[],[(23,.fptr (v1 x21))],[]⟩,
      ⟨[23],[],[(24,.agg (v1 x21))],[]⟩,
      ⟨[20,24],[],[(25,.bool x22)],[]⟩,
      ⟨[25],[],[(26,.bool (!x22))],[]⟩] rfl ?_ (by kernel_rfl) ?_
     ·refine .cons (lop rfl rfl fun S hA=>(aK rfl rfl (lb rfl) (svaL hA rfl rfl))) ?_
      refine .cons (lop rfl rfl fun S hA=>(aK rfl rfl (lb rfl) (svaI hA rfl rfl))) ?_
      refine .cons (lop rfl rfl fun S hA=>(cY aQ (cs:=q10) rfl rfl (lb rfl) Tryz.underlying40 ti44 (svaL hA rfl rfl) (svaI hA rfl rfl) hx20 rfl rfl)) ?_
      refine .cons (lop rfl rfl fun S hA=>(cQ (cs:=q10) rfl rfl (lb rfl) Tryz.underlying44 ag44 ti44 (by decide) (sv (d:=.fptr q10) (agr hA rfl rfl)) (nle rfl) rfl)) ?_
      refine .cons (lop rfl rfl fun S hA=>(aK rfl rfl (lb rfl) (svaL hA rfl rfl))) ?_
      refine .cons (lop rfl rfl fun S hA=>(aK rfl rfl (lb rfl) (svaI hA rfl rfl))) ?_
      refine .cons (lop rfl rfl fun S hA=>(cY aQ (cs:=q10) rfl rfl (lb rfl) Tryz.underlying40 ti44 (svaL hA rfl rfl) (svaI hA rfl rfl) hx21 rfl rfl)) ?_
      refine .cons (lop rfl rfl fun S hA=>(cQ (cs:=q10) rfl rfl (lb rfl) Tryz.underlying44 ag44 ti44 (by decide) (sv (d:=.fptr q10) (agr hA rfl rfl)) (nle rfl) rfl)) ?_
      refine .cons (lop rfl rfl fun S hA=>(aW (r:=.bool _) rfl rfl (lb rfl) cl38 (.cons (svaA q10 hA rfl rfl) (.cons (svaA q10 hA rfl rfl) .nil)) rfl (tC _ _ _ hx22))) ?_
      refine .cons (lop rfl rfl fun S hA=>(dD rfl rfl (lb rfl) (svaB hA rfl rfl))) ?_
      exact .nil
     refine aT (b:=_) rfl (fun hc23=>?_) (fun hc23=>?_)
     ·
      replace h:=bT h hc23
      refine aC (aA rfl (aE rfl rfl (lb rfl) (sv (d:=.bool false) rfl)) <|aB ?_)
      refine aS ?_
      refine bP ?_
      refine aZ ?_
      refine aZ ?_
      refine bP ?_
      refine aZ ?_
      obtain rfl:=Option.some.inj h
      refine ⟨.inr rfl,(.cons (sv rfl) .nil)⟩
     ·
      replace h:=bU h hc23
      refine aU ?_
      refine bZ ?_
      refine aN ?_
      obtain ⟨x24,hx24,h⟩:=aR h
      refine bD (aA rfl (mvI rfl rfl rfl rfl) <|aA rfl (bL rfl rfl (lb rfl) (svI rfl) (sv (d:=.int _ 1) rfl) rfl hx24) <|aA rfl (asI rfl rfl rfl rfl) <|bW ?_)
      refine aN ⟨(n0,x24),(fun i=>i),⟨(.sames rfl rfl),.nil,bX [] rfl (by decide),fun _ _=>rfl⟩,?_,?_⟩
      exact h
      exact Nat.lt_succ_self _
    ·
     replace h:=bU h hc19
     refine cN ?_
     refine bI ?_
     refine bI ?_
     refine cO ?_
     refine aN ?_
     refine aC (aA rfl (aE rfl rfl (lb rfl) (sv (d:=.bool true) rfl)) <|aB ?_)
     refine aS ?_
     obtain rfl:=Option.some.inj h
     refine ⟨.inr rfl,(.cons (sv rfl) .nil)⟩

theorem oA (a0 : (List aH)) (a1 : Int) (r : Bool) (h : fD a0 a1 = some r) : cD Tryz.prog 4 [.slice false (a0.map aQ.d), .int .u8 a1] (.bool r) := by
 refine bA (rs:=[.bool r]) Tryz.func4 rfl Tryz.ntmps4 (nle rfl) rfl fun O hO=>?_
 show IWP _ _ _ _ ⟨[(0,.slice false (a0.map aQ.d)),(1,.int .u8 a1)],[]⟩ _
 unfold fD at h
 refine aC (aA rfl (aE rfl rfl (lb rfl) (sv (d:=.bool false) rfl)) <|aB ?_)
 refine aV ?_
 obtain ⟨x1,hx1,h⟩:=aR h
 refine aC (aA rfl (mvL rfl rfl rfl rfl) <|aA rfl (cJ aQ (l:=a0) rfl rfl (lb rfl) Tryz.underlying40 (svL rfl)) <|aA rfl (aP rfl rfl (lb rfl) (svI rfl) (sv (d:=.int _ 8) rfl) rfl hx1) <|aB ?_)
 refine aT (b:=_) rfl (fun hc2=>?_) (fun hc2=>?_)
 ·
  replace h:=bT h hc2
  obtain ⟨x3,hx3,h⟩:=aY h
  refine aC (aA rfl (aW (r:=.bool _) rfl rfl (lb rfl) cl5 .nil rfl (gX  _ hx3)) <|aA rfl (asB rfl rfl rfl rfl) <|aB ?_)
  refine aS ?_
  refine aZ ?_
  obtain rfl:=Option.some.inj h
  refine ⟨.inr rfl,(.cons (sv rfl) .nil)⟩
 ·
  replace h:=bU h hc2
  refine aU ?_
  refine aN ?_
  obtain ⟨x4,hx4,h⟩:=aY h
  refine aC (aA rfl (aW (r:=.agg q8) rfl rfl (lb rfl) cl6 .nil rfl (lQ  _ hx4)) <|aA rfl (bJ (cs:=q9) (cs':=(w36 0 [] 0 ([] : List aM) ([] : List aI) false false false false 0 [] ([] : List aX) 0 [] 0 0)) 0 rfl rfl (lb rfl) rfl ti38 rfl rfl (.k (.k (.k (.cons (.nils _) (.cons (.nils _) (.k4 (.k (.k (.cons (.nils _) (.all _))))))))))) <|aA rfl (stA q8 q8 ti38 rfl rfl rfl rfl rfl rfl rfl rfl (nle rfl) rfl) <|aB ?_)
  refine aC (aA rfl (aE rfl rfl (lb rfl) (sv (d:=.nils) rfl)) <|aB ?_)
  refine aV ?_
  refine aC (aA rfl (aE rfl rfl (lb rfl) (sv (d:=.int _ 0) rfl)) <|aB ?_)
  refine bG ?_
  refine cW (α:=Nat × (List aH) × Int × Int × (List UInt8) × Int × (List aM) × (List aI) × Bool × Bool × Bool × Bool × Int × (List UInt8) × (List aX) × Int × (List UInt8) × Int × Int) (fun z=>⟨[(0,.slice false (a0.map aQ.d)),(1,.int .u8 a1),(5,.ref 0 0),(6,.osl 22 aQ.sz z.2.1.length),(7,.int .i64 z.2.2.1)],[(0,.blk 38 (w36 z.2.2.2.1 z.2.2.2.2.1 z.2.2.2.2.2.1 z.2.2.2.2.2.2.1 z.2.2.2.2.2.2.2.1 z.2.2.2.2.2.2.2.2.1 z.2.2.2.2.2.2.2.2.2.1 z.2.2.2.2.2.2.2.2.2.2.1 z.2.2.2.2.2.2.2.2.2.2.2.1 z.2.2.2.2.2.2.2.2.2.2.2.2.1 z.2.2.2.2.2.2.2.2.2.2.2.2.2.1 z.2.2.2.2.2.2.2.2.2.2.2.2.2.2.1 z.2.2.2.2.2.2.2.2.2.2.2.2.2.2.2.1 z.2.2.2.2.2.2.2.2.2.2.2.2.2.2.2.2.1 z.2.2.2.2.2.2.2.2.2.2.2.2.2.2.2.2.2.1 z.2.2.2.2.2.2.2.2.2.2.2.2.2.2.2.2.2.2)),(22,.blk 44 (D.flat (z.2.1.map aQ.d)))]⟩) (fun z=>dA a0 a1 z.1 z.2.1 z.2.2.1 z.2.2.2.1 z.2.2.2.2.1 z.2.2.2.2.2.1 z.2.2.2.2.2.2.1 z.2.2.2.2.2.2.2.1 z.2.2.2.2.2.2.2.2.1 z.2.2.2.2.2.2.2.2.2.1 z.2.2.2.2.2.2.2.2.2.2.1 z.2.2.2.2.2.2.2.2.2.2.2.1 z.2.2.2.2.2.2.2.2.2.2.2.2.1 z.2.2.2.2.2.2.2.2.2.2.2.2.2.1 z.2.2.2.2.2.2.2.2.2.2.2.2.2.2.1 z.2.2.2.2.2.2.2.2.2.2.2.2.2.2.2.1 z.2.2.2.2.2.2.2.2.2.2.2.2.2.2.2.2.1 z.2.2.2.2.2.2.2.2.2.2.2.2.2.2.2.2.2.1 z.2.2.2.2.2.2.2.2.2.2.2.2.2.2.2.2.2.2 = some r) (fun z=>z.1) (fuel,([] : (List aH)),0,x4.Send.Base,x4.Send.Data,x4.Send.Next,x4.Send.Pieces,x4.Send.Lost,x4.Send.Closed,x4.Send.Sent,x4.Send.Again,x4.Send.Done,x4.Recv.Recv.Base,x4.Recv.Recv.Ready,x4.Recv.Recv.Parts,x4.Recv.End,x4.In.Buf,x4.In.Bad,x4.In.Seen) (fun i=>if i = 22 then 73 else i) ⟨(.s rfl rfl (.s rfl rfl (.s rfl rfl (.cons (.nilo rfl) (.sames rfl rfl))))),(.cons (.blk rfl rfl rfl) (.cons (.nilb rfl) .nil)),bX [0,73] rfl (by decide),(fun i hi=>by first | rfl | (show (if _ then _ else _) = _; (repeat' split) <;> omega))⟩ ?_ ?_
  ·exact h
  ·
   rintro ⟨n0,v19,v20,v21,v22,v23,v24,v25,v26,v27,v28,v29,v30,v31,v32,v33,v34,v35,v36⟩ h
   cases n0 with
   | zero=>exact absurd h (by unfold dA; exact nofun)
   | succ n0 =>
    unfold dA at h
    refine aV ?_
    obtain ⟨x51,hx51,h⟩:=aR h
    refine aC (aA rfl (mvI rfl rfl rfl rfl) <|aA rfl (mvL rfl rfl rfl rfl) <|aA rfl (cJ aQ (l:=a0) rfl rfl (lb rfl) Tryz.underlying40 (svL rfl)) <|aA rfl (aP rfl rfl (lb rfl) (svI rfl) (svI rfl) rfl hx51) <|aB ?_)
    refine aT (b:=_) rfl (fun hc52=>?_) (fun hc52=>?_)
    ·
     replace h:=bT h hc52
     refine aU ?_
     refine aN ?_
     refine aV ?_
     refine bG ?_
     refine aV ?_
     obtain ⟨x53,hx53,h⟩:=aY h
     obtain ⟨x54,hx54,h⟩:=aY h
     refine aC (aA rfl (mvL rfl rfl rfl rfl) <|aA rfl (mvI rfl rfl rfl rfl) <|aA rfl (cY aQ (cs:=q10) rfl rfl (lb rfl) Tryz.underlying40 ti44 (svL rfl) (svI rfl) hx53 rfl rfl) <|aA rfl (cQ (cs:=q10) rfl rfl (lb rfl) Tryz.underlying44 ag44 ti44 (by decide) (sv (d:=.fptr q10) rfl) (nle rfl) rfl) <|aA rfl (aW (r:=.bool _) rfl rfl (lb rfl) cl7 (.cons (svA q10 rfl) .nil) rfl (sN _ _ hx54)) <|aA rfl (dD rfl rfl (lb rfl) (svB rfl)) <|aB ?_)
     refine aT (b:=_) rfl (fun hc55=>?_) (fun hc55=>?_)
     ·
      replace h:=bT h hc55
      obtain ⟨x56,hx56,h⟩:=aY h
      refine aC (aA rfl (aW (r:=.bool _) rfl rfl (lb rfl) cl5 .nil rfl (gX  _ hx56)) <|aA rfl (asB rfl rfl rfl rfl) <|aB ?_)
      refine aS ?_
      refine aZ ?_
      refine bP ?_
      refine aZ ?_
      refine aZ ?_
      refine bP ?_
      refine aZ ?_
      obtain rfl:=Option.some.inj h
      refine ⟨.inr rfl,(.cons (sv rfl) .nil)⟩
     ·
      replace h:=bU h hc55
      refine aU ?_
      refine aN ?_
      obtain ⟨x57,hx57,h⟩:=aY h
      obtain ⟨x58,hx58,h⟩:=aY h
      refine dG rfl [⟨[5],[0],[(41,.agg (w36 v21 v22 v23 v24 v25 v26 v27 v28 v29 v30 v31 v32 v33 v34 v35 v36))],[]⟩,
       ⟨[0],[],[(42,.slice false (a0.map aQ.d))],[]⟩,
       ⟨[7],[],[(43,.int .i64 v20)],[]⟩,
       ⟨[42,43],[],[(44,.fptr (v1 x57))],[]⟩,
       ⟨[44],[],[(45,.agg (v1 x57))],[]⟩,
       ⟨[41,45],[],[(46,.tuple [.agg (v0 x58.1),.int .i64 x58.2])],[]⟩,
       ⟨[46],[],[(40,.tuple [.agg (v0 x58.1),.int .i64 x58.2])],[]⟩,
       ⟨[40],[],[(47,.agg (v0 x58.1))],[]⟩,
       ⟨[40],[],[(48,.int .i64 x58.2)],[]⟩,
       ⟨[],[23],[(8,.ref 23 0)],[(23,.blk 38 (w36 0 [] 0 ([] : List aM) ([] : List aI) false false false false 0 [] ([] : List aX) 0 [] 0 0))]⟩,
       ⟨[8,47],[23],[],[(23,.blk 38 (v0 x58.1))]⟩,
       ⟨[48],[],[(9,.int .i64 x58.2)],[]⟩] rfl ?_ (by kernel_rfl) ?_
      ·refine .cons (lop rfl rfl fun S hA=>(cA (cs:=q8) rfl rfl (lb rfl) Tryz.underlying38 ag38 ti38 (by decide) (svaR hA rfl rfl) (agi hA rfl rfl) (nle rfl) rfl)) ?_
       refine .cons (lop rfl rfl fun S hA=>(aK rfl rfl (lb rfl) (svaL hA rfl rfl))) ?_
       refine .cons (lop rfl rfl fun S hA=>(aK rfl rfl (lb rfl) (svaI hA rfl rfl))) ?_
       refine .cons (lop rfl rfl fun S hA=>(cY aQ (cs:=q10) rfl rfl (lb rfl) Tryz.underlying40 ti44 (svaL hA rfl rfl) (svaI hA rfl rfl) hx57 rfl rfl)) ?_
       refine .cons (lop rfl rfl fun S hA=>(cQ (cs:=q10) rfl rfl (lb rfl) Tryz.underlying44 ag44 ti44 (by decide) (sv (d:=.fptr q10) (agr hA rfl rfl)) (nle rfl) rfl)) ?_
       refine .cons (lop rfl rfl fun S hA=>(aW (r:=.tuple q35) rfl rfl (lb rfl) cl8 (.cons (svaA q8 hA rfl rfl) (.cons (svaA q10 hA rfl rfl) .nil)) rfl (oO _ _ _ hx58))) ?_
       refine .cons (lop rfl rfl fun S hA=>(aK rfl rfl (lb rfl) (sv (d:=.tuple q35) (agr hA rfl rfl)))) ?_
       refine .cons (lop rfl rfl fun S hA=>(bE (d:=.agg q8) rfl rfl (lb rfl) (sv (d:=.tuple q35) (agr hA rfl rfl)) rfl)) ?_
       refine .cons (lop rfl rfl fun S hA=>(bE (d:=.int _ _) rfl rfl (lb rfl) (sv (d:=.tuple q35) (agr hA rfl rfl)) rfl)) ?_
       refine .cons (lop rfl rfl fun S hA=>(bJ (cs:=q9) (cs':=(w36 0 [] 0 ([] : List aM) ([] : List aI) false false false false 0 [] ([] : List aX) 0 [] 0 0)) 23 rfl rfl (lb rfl) (agi hA rfl rfl) ti38 rfl rfl (.k (.k (.k (.cons (.nils _) (.cons (.nils _) (.k4 (.k (.k (.cons (.nils _) (.all _)))))))))))) ?_
       refine .cons (lop rfl rfl fun S hA=>(bQ (ds':=q8) rfl rfl ti38 (svaR hA rfl rfl) (agi hA rfl rfl) (svaA q8 hA rfl rfl) rfl rfl rfl (nle rfl) rfl)) ?_
       refine .cons (lop rfl rfl fun S hA=>(aE rfl rfl (lb rfl) (svaI hA rfl rfl))) ?_
       exact .nil
      refine aC (aA rfl (lra q8 la38 rfl rfl rfl rfl rfl (nle rfl) rfl) <|aA rfl (stA q8 q8 ti38 rfl rfl rfl rfl rfl rfl rfl rfl (nle rfl) rfl) <|aB ?_)
      obtain ⟨x59,hx59,h⟩:=aR h
      refine aC (aA rfl (mvI rfl rfl rfl rfl) <|aA rfl (aP rfl rfl (lb rfl) (svI rfl) (sv (d:=.int _ 0) rfl) rfl hx59) <|aB ?_)
      refine aT (b:=_) rfl (fun hc60=>?_) (fun hc60=>?_)
      ·
       replace h:=bT h hc60
       obtain ⟨x61,hx61,h⟩:=aY h
       obtain ⟨x62,hx62,h⟩:=aY h
       refine bD (aA rfl (aK rfl rfl (lb rfl) (sv (d:=.osl _ _ _) rfl)) <|aA rfl (mvL rfl rfl rfl rfl) <|aA rfl (mvI rfl rfl rfl rfl) <|aA rfl (cY aQ (cs:=q10) rfl rfl (lb rfl) Tryz.underlying40 ti44 (svL rfl) (svI rfl) hx61 rfl rfl) <|aA rfl (cQ (cs:=q10) rfl rfl (lb rfl) Tryz.underlying44 ag44 ti44 (by decide) (sv (d:=.fptr q10) rfl) (nle rfl) rfl) <|aA rfl (jP aQ.toEnc0 ([x61] : (List aH)) 24 rfl rfl (lb rfl) Tryz.underlying40 ti44 rfl (.cons (svA q10 rfl) .nil) rfl rfl (by decide)) <|aA rfl (kS aQ.toEnc0 25 rfl rfl (lb rfl) Tryz.underlying40 ti44 rfl rfl rfl rfl rfl (qK aQ.toEnc0 rfl rfl rfl) hx62) <|aA rfl (aE rfl rfl (lb rfl) (sv (d:=.osl _ _ _) rfl)) <|bW ?_)
       refine bZ ?_
       refine aN ?_
       obtain ⟨x63,hx63,h⟩:=aR h
       refine bD (aA rfl (mvI rfl rfl rfl rfl) <|aA rfl (bL rfl rfl (lb rfl) (svI rfl) (sv (d:=.int _ 1) rfl) rfl hx63) <|aA rfl (asI rfl rfl rfl rfl) <|bW ?_)
       refine aN ⟨(n0,x62,x63,x58.1.Send.Base,x58.1.Send.Data,x58.1.Send.Next,x58.1.Send.Pieces,x58.1.Send.Lost,x58.1.Send.Closed,x58.1.Send.Sent,x58.1.Send.Again,x58.1.Send.Done,x58.1.Recv.Recv.Base,x58.1.Recv.Recv.Ready,x58.1.Recv.Recv.Parts,x58.1.Recv.End,x58.1.In.Buf,x58.1.In.Bad,x58.1.In.Seen),(fun i=>if i = 22 then 25 else i),⟨(.sames rfl rfl),(.cons (.blk rfl rfl rfl) (.cons (EntW.lst rfl) .nil)),bX [0,25] rfl (by decide),(fun i hi=>by first | rfl | (show (if _ then _ else _) = _; (repeat' split) <;> omega))⟩,?_,?_⟩
       exact h
       exact Nat.lt_succ_self _
      ·
       replace h:=bU h hc60
       refine aU ?_
       refine bZ ?_
       refine aN ?_
       obtain ⟨x64,hx64,h⟩:=aR h
       refine bD (aA rfl (mvI rfl rfl rfl rfl) <|aA rfl (bL rfl rfl (lb rfl) (svI rfl) (sv (d:=.int _ 1) rfl) rfl hx64) <|aA rfl (asI rfl rfl rfl rfl) <|bW ?_)
       refine aN ⟨(n0,v19,x64,x58.1.Send.Base,x58.1.Send.Data,x58.1.Send.Next,x58.1.Send.Pieces,x58.1.Send.Lost,x58.1.Send.Closed,x58.1.Send.Sent,x58.1.Send.Again,x58.1.Send.Done,x58.1.Recv.Recv.Base,x58.1.Recv.Recv.Ready,x58.1.Recv.Recv.Parts,x58.1.Recv.End,x58.1.In.Buf,x58.1.In.Bad,x58.1.In.Seen),(fun i=>i),⟨(.sames rfl rfl),(.cons (.blk rfl rfl rfl) (.cons (EntW.lst rfl) .nil)),bX [0,22] rfl (by decide),fun _ _=>rfl⟩,?_,?_⟩
       exact h
       exact Nat.lt_succ_self _
    ·
     replace h:=bU h hc52
     refine cN ?_
     refine bI ?_
     refine bI ?_
     refine cO ?_
     refine aN ?_
     refine aC (aA rfl (faR 0 rfl rfl rfl Tryz.underlying38 rfl ti28 (lb rfl) rfl rfl) <|aA rfl (faR 1 rfl rfl rfl Tryz.underlying28 rfl ti9 (lb rfl) rfl rfl) <|aA rfl (aG (d:=.str _) rfl rfl (lb rfl) Tryz.underlying9 ag9 ti9 (by decide) (svR rfl) rfl (nle rfl) rfl) <|aA rfl (aE rfl rfl (lb rfl) (sv (d:=.str _) rfl)) <|aB ?_)
     obtain ⟨x65,hx65,h⟩:=aR h
     obtain ⟨x66,hx66,h⟩:=aR h
     obtain ⟨x67,hx67,h⟩:=aY h
     refine aC (aA rfl (mvI rfl rfl rfl rfl) <|aA rfl (fX rfl rfl (lb rfl) ⟨_,Tryz.underlying5⟩ Tryz.underlying3 (svI rfl) hx65) <|aA rfl (aK rfl rfl (lb rfl) (sv (d:=.str _) rfl)) <|aA rfl (dB rfl rfl (lb rfl) Tryz.underlying9 (sv (d:=.str _) rfl) rfl) <|aA rfl (bL rfl rfl (lb rfl) (svI rfl) (sv (d:=.int _ 1) rfl) rfl hx66) <|aA rfl (aBu rfl rfl (lb rfl) (svI rfl) (svI rfl) hx67) <|aA rfl (asI rfl rfl rfl rfl) <|aB ?_)
     obtain ⟨x68,hx68,h⟩:=aY h
     obtain ⟨x69,hx69,h⟩:=aY h
     refine aC (aA rfl (aW (r:=.agg q8) rfl rfl (lb rfl) cl6 .nil rfl (lQ  _ hx68)) <|aA rfl (aK rfl rfl (lb rfl) (sv (d:=.str _) rfl)) <|aA rfl (aW (r:=.tuple q30) rfl rfl (lb rfl) cl10 (.cons (svA q8 rfl) (.cons (sv (d:=.int _ 0) rfl) (.cons (sv (d:=.str _) rfl) .nil))) rfl (iE _ _ _ _ hx69)) <|aA rfl (aK rfl rfl (lb rfl) (sv (d:=.tuple q30) rfl)) <|aA rfl (bE (d:=.agg q8) rfl rfl (lb rfl) (sv (d:=.tuple q30) rfl) rfl) <|aA rfl (bE (d:=.slice _ _) rfl rfl (lb rfl) (sv (d:=.tuple q30) rfl) rfl) <|aA rfl (bE (d:=.int _ _) rfl rfl (lb rfl) (sv (d:=.tuple q30) rfl) rfl) <|aA rfl (bJ (cs:=q9) (cs':=(w36 0 [] 0 ([] : List aM) ([] : List aI) false false false false 0 [] ([] : List aX) 0 [] 0 0)) 23 rfl rfl (lb rfl) rfl ti38 rfl rfl (.k (.k (.k (.cons (.nils _) (.cons (.nils _) (.k4 (.k (.k (.cons (.nils _) (.all _))))))))))) <|aA rfl (stA q8 q8 ti38 rfl rfl rfl rfl rfl rfl rfl rfl (nle rfl) rfl) <|aA rfl (aE rfl rfl (lb rfl) (svL rfl)) <|aA rfl (asI rfl rfl rfl rfl) <|aB ?_)
     obtain ⟨x70,hx70,h⟩:=aY h
     obtain ⟨x71,hx71,h⟩:=aY h
     obtain ⟨x72,hx72,h⟩:=aY h
     refine dG rfl [⟨[],[],[(76,.agg (v0 x70))],[]⟩,
      ⟨[11],[],[(77,.int .i64 x67)],[]⟩,
      ⟨[10],[],[(78,.str v22)],[]⟩,
      ⟨[11],[],[(79,.int .i64 x67)],[]⟩,
      ⟨[78,79],[],[(80,.str x71)],[]⟩,
      ⟨[76,77,80],[],[(81,.tuple [.agg (v0 x72.1),.slice false (x72.2.1.map aQ.d),.int .u32 x72.2.2])],[]⟩,
      ⟨[81],[],[(75,.tuple [.agg (v0 x72.1),.slice false (x72.2.1.map aQ.d),.int .u32 x72.2.2])],[]⟩,
      ⟨[75],[],[(82,.agg (v0 x72.1))],[]⟩,
      ⟨[75],[],[(83,.slice false (x72.2.1.map aQ.d))],[]⟩,
      ⟨[75],[],[(84,.int .u32 x72.2.2)],[]⟩,
      ⟨[],[24],[(15,.ref 24 0)],[(24,.blk 38 (w36 0 [] 0 ([] : List aM) ([] : List aI) false false false false 0 [] ([] : List aX) 0 [] 0 0))]⟩,
      ⟨[15,82],[24],[],[(24,.blk 38 (v0 x72.1))]⟩,
      ⟨[83],[],[(16,.slice false (x72.2.1.map aQ.d))],[]⟩,
      ⟨[84],[],[(17,.int .u32 x72.2.2)],[]⟩] rfl ?_ (by kernel_rfl) ?_
     ·refine .cons (lop rfl rfl fun S hA=>(aW (r:=.agg q8) rfl rfl (lb rfl) cl6 .nil rfl (lQ  _ hx70))) ?_
      refine .cons (lop rfl rfl fun S hA=>(aK rfl rfl (lb rfl) (svaI hA rfl rfl))) ?_
      refine .cons (lop rfl rfl fun S hA=>(aK rfl rfl (lb rfl) (sv (d:=.str _) (agr hA rfl rfl)))) ?_
      refine .cons (lop rfl rfl fun S hA=>(aK rfl rfl (lb rfl) (svaI hA rfl rfl))) ?_
      refine .cons (lop rfl rfl fun S hA=>(hT rfl rfl (lb rfl) Tryz.underlying9 (sv (d:=.str _) (agr hA rfl rfl)) ⟨_,(svaI hA rfl rfl)⟩ rfl hx71)) ?_
      refine .cons (lop rfl rfl fun S hA=>(aW (r:=.tuple q30) rfl rfl (lb rfl) cl10 (.cons (svaA q8 hA rfl rfl) (.cons (svaI hA rfl rfl) (.cons (sv (d:=.str _) (agr hA rfl rfl)) .nil))) rfl (iE _ _ _ _ hx72))) ?_
      refine .cons (lop rfl rfl fun S hA=>(aK rfl rfl (lb rfl) (sv (d:=.tuple q30) (agr hA rfl rfl)))) ?_
      refine .cons (lop rfl rfl fun S hA=>(bE (d:=.agg q8) rfl rfl (lb rfl) (sv (d:=.tuple q30) (agr hA rfl rfl)) rfl)) ?_
      refine .cons (lop rfl rfl fun S hA=>(bE (d:=.slice _ _) rfl rfl (lb rfl) (sv (d:=.tuple q30) (agr hA rfl rfl)) rfl)) ?_
      refine .cons (lop rfl rfl fun S hA=>(bE (d:=.int _ _) rfl rfl (lb rfl) (sv (d:=.tuple q30) (agr hA rfl rfl)) rfl)) ?_
      refine .cons (lop rfl rfl fun S hA=>(bJ (cs:=q9) (cs':=(w36 0 [] 0 ([] : List aM) ([] : List aI) false false false false 0 [] ([] : List aX) 0 [] 0 0)) 24 rfl rfl (lb rfl) (agi hA rfl rfl) ti38 rfl rfl (.k (.k (.k (.cons (.nils _) (.cons (.nils _) (.k4 (.k (.k (.cons (.nils _) (.all _)))))))))))) ?_
      refine .cons (lop rfl rfl fun S hA=>(bQ (ds':=q8) rfl rfl ti38 (svaR hA rfl rfl) (agi hA rfl rfl) (svaA q8 hA rfl rfl) rfl rfl rfl (nle rfl) rfl)) ?_
      refine .cons (lop rfl rfl fun S hA=>(aE rfl rfl (lb rfl) (svaL hA rfl rfl))) ?_
      refine .cons (lop rfl rfl fun S hA=>(aE rfl rfl (lb rfl) (svaI hA rfl rfl))) ?_
      exact .nil
     obtain ⟨x73,hx73,h⟩:=aY h
     obtain ⟨x74,hx74,h⟩:=aY h
     refine dG rfl [⟨[15],[24],[(86,.agg (v0 x72.1))],[]⟩,
      ⟨[10],[],[(87,.str v22)],[]⟩,
      ⟨[11],[],[(88,.int .i64 x67)],[]⟩,
      ⟨[87,88],[],[(89,.str x73)],[]⟩,
      ⟨[86,89],[],[(90,.tuple [.agg (v0 x74.1),.slice false (x74.2.1.map aQ.d),.int .u32 x74.2.2])],[]⟩,
      ⟨[90],[],[(85,.tuple [.agg (v0 x74.1),.slice false (x74.2.1.map aQ.d),.int .u32 x74.2.2])],[]⟩,
      ⟨[85],[],[(91,.agg (v0 x74.1))],[]⟩,
      ⟨[85],[],[(92,.slice false (x74.2.1.map aQ.d))],[]⟩,
      ⟨[85],[],[(93,.int .u32 x74.2.2)],[]⟩,
      ⟨[],[25],[(18,.ref 25 0)],[(25,.blk 38 (w36 0 [] 0 ([] : List aM) ([] : List aI) false false false false 0 [] ([] : List aX) 0 [] 0 0))]⟩,
      ⟨[18,91],[25],[],[(25,.blk 38 (v0 x74.1))]⟩,
      ⟨[92],[],[(19,.slice false (x74.2.1.map aQ.d))],[]⟩,
      ⟨[93],[],[(20,.int .u32 x74.2.2)],[]⟩] rfl ?_ (by kernel_rfl) ?_
     ·refine .cons (lop rfl rfl fun S hA=>(cA (cs:=q8) rfl rfl (lb rfl) Tryz.underlying38 ag38 ti38 (by decide) (svaR hA rfl rfl) (agi hA rfl rfl) (nle rfl) rfl)) ?_
      refine .cons (lop rfl rfl fun S hA=>(aK rfl rfl (lb rfl) (sv (d:=.str _) (agr hA rfl rfl)))) ?_
      refine .cons (lop rfl rfl fun S hA=>(aK rfl rfl (lb rfl) (svaI hA rfl rfl))) ?_
      refine .cons (lop rfl rfl fun S hA=>(hT rfl rfl (lb rfl) Tryz.underlying9 (sv (d:=.str _) (agr hA rfl rfl)) rfl ⟨_,(svaI hA rfl rfl)⟩ hx73)) ?_
      refine .cons (lop rfl rfl fun S hA=>(aW (r:=.tuple q30) rfl rfl (lb rfl) cl10 (.cons (svaA q8 hA rfl rfl) (.cons (sv (d:=.int _ 0) rfl) (.cons (sv (d:=.str _) (agr hA rfl rfl)) .nil))) rfl (iE _ _ _ _ hx74))) ?_
      refine .cons (lop rfl rfl fun S hA=>(aK rfl rfl (lb rfl) (sv (d:=.tuple q30) (agr hA rfl rfl)))) ?_
      refine .cons (lop rfl rfl fun S hA=>(bE (d:=.agg q8) rfl rfl (lb rfl) (sv (d:=.tuple q30) (agr hA rfl rfl)) rfl)) ?_
      refine .cons (lop rfl rfl fun S hA=>(bE (d:=.slice _ _) rfl rfl (lb rfl) (sv (d:=.tuple q30) (agr hA rfl rfl)) rfl)) ?_
      refine .cons (lop rfl rfl fun S hA=>(bE (d:=.int _ _) rfl rfl (lb rfl) (sv (d:=.tuple q30) (agr hA rfl rfl)) rfl)) ?_
      refine .cons (lop rfl rfl fun S hA=>(bJ (cs:=q9) (cs':=(w36 0 [] 0 ([] : List aM) ([] : List aI) false false false false 0 [] ([] : List aX) 0 [] 0 0)) 25 rfl rfl (lb rfl) (agi hA rfl rfl) ti38 rfl rfl (.k (.k (.k (.cons (.nils _) (.cons (.nils _) (.k4 (.k (.k (.cons (.nils _) (.all _)))))))))))) ?_
      refine .cons (lop rfl rfl fun S hA=>(bQ (ds':=q8) rfl rfl ti38 (svaR hA rfl rfl) (agi hA rfl rfl) (svaA q8 hA rfl rfl) rfl rfl rfl (nle rfl) rfl)) ?_
      refine .cons (lop rfl rfl fun S hA=>(aE rfl rfl (lb rfl) (svaL hA rfl rfl))) ?_
      refine .cons (lop rfl rfl fun S hA=>(aE rfl rfl (lb rfl) (svaI hA rfl rfl))) ?_
      exact .nil
     obtain ⟨x75,hx75,h⟩:=aR h
     obtain ⟨x76,hx76,h⟩:=aR h
     obtain ⟨x77,hx77,h⟩:=aR h
     refine aC (aA rfl (mvI rfl rfl rfl rfl) <|aA rfl (aP rfl rfl (lb rfl) (svI rfl) (sv (d:=.int _ 0) rfl) rfl hx75) <|aA rfl (mvB rfl rfl rfl rfl) <|aF rfl rfl (.one rfl) rfl (by decide) (fun hb=>(mvL rfl rfl rfl rfl)) <|aF rfl rfl (.one rfl) rfl (by decide) (fun hb=>(cJ aQ (l:=x72.2.1) rfl rfl (lb rfl) Tryz.underlying57 (svcL rfl hb))) <|aF rfl rfl (.one rfl) rfl (by decide) (fun hb=>(aP rfl rfl (lb rfl) (svcI rfl hb) (sv (d:=.int _ 0) rfl) rfl hx76)) <|aA rfl (bO rfl rfl (lb rfl) (svB rfl) rfl rfl hx77) <|aA rfl (asB rfl rfl rfl rfl) <|aB ?_)
     refine gK (α:=Bool) (fun z=>⟨[(4,.bool z)],[]⟩) (fun z=>eM z = some r) ?_ ?_
     ·
      obtain ⟨x124,hx124,h⟩:=aR h
      obtain ⟨x125,hx125,h⟩:=aR h
      obtain ⟨x126,hx126,h⟩:=aR h
      obtain ⟨x127,hx127,h⟩:=aR h
      obtain ⟨x128,hx128,h⟩:=aR h
      refine bD (aA rfl (mvI rfl rfl rfl rfl) <|aA rfl (aP rfl rfl (lb rfl) (svI rfl) (sv (d:=.int _ 0) rfl) rfl hx124) <|aA rfl (mvB rfl rfl rfl rfl) <|aF rfl rfl (.one rfl) rfl (by decide) (fun hb=>(mvI rfl rfl rfl rfl)) <|aF rfl rfl (.one rfl) rfl (by decide) (fun hb=>(aP rfl rfl (lb rfl) (svcI rfl hb) (sv (d:=.int _ 0) rfl) rfl hx125)) <|aA rfl (bO rfl rfl (lb rfl) (svB rfl) rfl rfl hx126) <|aA rfl (mvB rfl rfl rfl rfl) <|aF rfl rfl (.one rfl) rfl (by decide) (fun hb=>(mvI rfl rfl rfl rfl)) <|aF rfl rfl (.one rfl) rfl (by decide) (fun hb=>(aP rfl rfl (lb rfl) (svcI rfl hb) (sv (d:=.int _ 0) rfl) rfl hx127)) <|aA rfl (bO rfl rfl (lb rfl) (svB rfl) rfl rfl hx128) <|aA rfl (mvB rfl rfl rfl rfl) <|aF rfl rfl (.one rfl) rfl (by decide) (fun hb=>(mvL rfl rfl rfl rfl)) <|?_)
      refine fQ rfl rfl (.one rfl) rfl (by decide) (fun hc129=>?_) (fun hc129=>?_)
      ·
       replace h:=bT h hc129
       refine nU 112 rfl hc129 ?_
       obtain ⟨x130,hx130,h⟩:=aY h
       refine aA rfl (dU (r':=.osl 26 aQ.sz x130.length) (H1':=[(26,.blk 44 (D.flat (x130.map aQ.d)))]) 26 [] rfl rfl (lb rfl) cl11 (.cons (svL rfl) .nil) rfl rfl ⟨rfl,rfl,by decide,rfl,List.forall_mem_nil _⟩ (jZ _ _ hx130) rfl rfl (List.forall_mem_cons.2 ⟨⟨rfl,(jT aQ)⟩,List.forall_mem_nil _⟩) (by simp only [List.map_cons,List.map_nil,Ent.ren,eS,fH]; rfl)) <|aF rfl rfl (.one rfl) rfl (by decide) (fun hb=>(aK rfl rfl (lb rfl) (sv (d:=.osl _ _ _) rfl))) <|?_
       refine fQ rfl rfl (.one rfl) rfl (by decide) (fun hc131=>?_) (fun hc131=>absurd hc131 (by rw [(aEk hc129)]; decide))
       refine nU 114 rfl hc131 ?_
       obtain ⟨x132,hx132,h⟩:=aY h
       obtain ⟨x133,hx133,h⟩:=aR h
       refine aA rfl (pD (r:=.bool x132) rfl rfl (lb rfl) cl15 (.cons (sv (d:=.osl _ _ _) rfl) (.cons (sv (d:=.osl _ _ _) rfl) .nil)) (.cons (FDT aQ rfl rfl) (.cons (FDT aQ rfl rfl) .nil)) rfl rfl (mS _ _ _ hx132)) <|aA rfl (nT rfl rfl (lb rfl) (svB rfl) rfl rfl hx133) <|aA rfl (mvB rfl rfl rfl rfl) <|aF rfl rfl (.one rfl) rfl (by decide) (fun hb=>(mvL rfl rfl rfl rfl)) <|?_
       refine fQ rfl rfl (.one rfl) rfl (by decide) (fun hc134=>?_) (fun hc134=>?_)
       ·
        replace h:=bT h hc134
        refine nU 118 rfl hc134 ?_
        obtain ⟨x135,hx135,h⟩:=aY h
        refine aA rfl (dU (r':=.osl 27 aQ.sz x135.length) (H1':=[(27,.blk 44 (D.flat (x135.map aQ.d)))]) 27 [] rfl rfl (lb rfl) cl11 (.cons (svL rfl) .nil) rfl rfl ⟨rfl,rfl,by decide,rfl,List.forall_mem_nil _⟩ (jZ _ _ hx135) rfl rfl (List.forall_mem_cons.2 ⟨⟨rfl,(jT aQ)⟩,List.forall_mem_nil _⟩) (by simp only [List.map_cons,List.map_nil,Ent.ren,eS,fH]; rfl)) <|aF rfl rfl (.one rfl) rfl (by decide) (fun hb=>(mvL rfl rfl rfl rfl)) <|?_
        refine fQ rfl rfl (.one rfl) rfl (by decide) (fun hc136=>?_) (fun hc136=>absurd hc136 (by rw [(aEk hc134)]; decide))
        refine nU 120 rfl hc136 ?_
        obtain ⟨x137,hx137,h⟩:=aY h
        refine aA rfl (dU (r':=.osl 28 aQ.sz x137.length) (H1':=[(28,.blk 44 (D.flat (x137.map aQ.d)))]) 28 [] rfl rfl (lb rfl) cl11 (.cons (svL rfl) .nil) rfl rfl ⟨rfl,rfl,by decide,rfl,List.forall_mem_nil _⟩ (jZ _ _ hx137) rfl rfl (List.forall_mem_cons.2 ⟨⟨rfl,(jT aQ)⟩,List.forall_mem_nil _⟩) (by simp only [List.map_cons,List.map_nil,Ent.ren,eS,fH]; rfl)) <|?_
        refine fQ rfl rfl (.one rfl) rfl (by decide) (fun hc138=>?_) (fun hc138=>absurd hc138 (by rw [(aEk hc134)]; decide))
        obtain ⟨x139,hx139,h⟩:=aY h
        refine aA rfl (kS aQ.toEnc0 29 rfl rfl (lb rfl) Tryz.underlying40 ti44 rfl rfl rfl rfl rfl (qK aQ.toEnc0 rfl rfl rfl) hx139) <|aF rfl rfl (.one rfl) rfl (by decide) (fun hb=>(aK rfl rfl (lb rfl) (sv (d:=.osl _ _ _) rfl))) <|?_
        refine fQ rfl rfl (.one rfl) rfl (by decide) (fun hc140=>?_) (fun hc140=>absurd hc140 (by rw [(aEk hc134)]; decide))
        refine nU 123 rfl hc140 ?_
        obtain ⟨x141,hx141,h⟩:=aY h
        obtain ⟨x142,hx142,h⟩:=aR h
        obtain ⟨x143,hx143,h⟩:=aY h
        obtain ⟨x144,hx144,h⟩:=aR h
        obtain ⟨x145,hx145,h⟩:=aR h
        obtain ⟨x146,hx146,h⟩:=aY h
        obtain ⟨x147,hx147,h⟩:=aR h
        refine aA rfl (pD (r:=.bool x141) rfl rfl (lb rfl) cl15 (.cons (sv (d:=.osl _ _ _) rfl) (.cons (sv (d:=.osl _ _ _) rfl) .nil)) (.cons (FDT aQ rfl rfl) (.cons (FDT aQ rfl rfl) .nil)) rfl rfl (mS _ _ _ hx141)) <|aA rfl (nT rfl rfl (lb rfl) (svB rfl) rfl rfl hx142) <|aA rfl (mvB rfl rfl rfl rfl) <|aF rfl rfl (.one rfl) rfl (by decide) (fun hb=>(lra q8 la38 rfl rfl rfl rfl rfl (nle rfl) rfl)) <|aF rfl rfl (.one rfl) rfl (by decide) (fun hb=>(lra q8 la38 rfl rfl rfl rfl rfl (nle rfl) rfl)) <|aF rfl rfl (.one rfl) rfl (by decide) (fun hb=>(aW (r:=.bool _) rfl rfl (lb rfl) cl18 (.cons (svcA (v0 x69.1) rfl hb) (.cons (svcA (v0 x74.1) rfl hb) .nil)) rfl (kZ _ _ _ (gd_t hx143 hb)))) <|aA rfl (bO rfl rfl (lb rfl) (svB rfl) rfl rfl hx144) <|aA rfl (mvB rfl rfl rfl rfl) <|aF rfl rfl (.one rfl) rfl (by decide) (fun hb=>(mvB rfl rfl rfl rfl)) <|aF rfl rfl (.one rfl) rfl (by decide) (fun hb=>(dD rfl rfl (lb rfl) (svcB rfl hb))) <|aA rfl (bO rfl rfl (lb rfl) (svB rfl) rfl rfl hx145) <|aA rfl (mvB rfl rfl rfl rfl) <|aF rfl rfl (.one rfl) rfl (by decide) (fun hb=>(aW (r:=.bool _) rfl rfl (lb rfl) cl5 .nil rfl (gX  _ (gd_t hx146 hb)))) <|aA rfl (bO rfl rfl (lb rfl) (svB rfl) rfl rfl hx147) <|aA rfl (asB rfl rfl rfl rfl) <|bW ?_
        refine aN ⟨x147,(fun i=>i),⟨(.sames rfl rfl),.nil,bX [] rfl (by decide),fun _ _=>rfl⟩,?_⟩
        exact h
       ·
        replace h:=bU h hc134
        refine aF rfl rfl (.one rfl) rfl (by decide) (fun hb=>(mvL rfl rfl rfl rfl)) <|?_
        refine fQ rfl rfl (.one rfl) rfl (by decide) (fun hc148=>absurd hc148 (by rw [(aEl hc134)]; decide)) (fun hc148=>?_)
        refine fQ rfl rfl (.one rfl) rfl (by decide) (fun hc149=>absurd hc149 (by rw [(aEl hc134)]; decide)) (fun hc149=>?_)
        refine aF rfl rfl (.one rfl) rfl (by decide) (fun hb=>(aK rfl rfl (lb rfl) (sv (d:=.osl _ _ _) rfl))) <|?_
        refine fQ rfl rfl (.one rfl) rfl (by decide) (fun hc150=>absurd hc150 (by rw [(aEl hc134)]; decide)) (fun hc150=>?_)
        obtain ⟨x151,hx151,h⟩:=aR h
        obtain ⟨x152,hx152,h⟩:=aY h
        obtain ⟨x153,hx153,h⟩:=aR h
        obtain ⟨x154,hx154,h⟩:=aR h
        obtain ⟨x155,hx155,h⟩:=aY h
        obtain ⟨x156,hx156,h⟩:=aR h
        refine aA rfl (bO rfl rfl (lb rfl) (svB rfl) rfl rfl hx151) <|aA rfl (mvB rfl rfl rfl rfl) <|aF rfl rfl (.one rfl) rfl (by decide) (fun hb=>(lra q8 la38 rfl rfl rfl rfl rfl (nle rfl) rfl)) <|aF rfl rfl (.one rfl) rfl (by decide) (fun hb=>(lra q8 la38 rfl rfl rfl rfl rfl (nle rfl) rfl)) <|aF rfl rfl (.one rfl) rfl (by decide) (fun hb=>(aW (r:=.bool _) rfl rfl (lb rfl) cl18 (.cons (svcA (v0 x69.1) rfl hb) (.cons (svcA (v0 x74.1) rfl hb) .nil)) rfl (kZ _ _ _ (gd_t hx152 hb)))) <|aA rfl (bO rfl rfl (lb rfl) (svB rfl) rfl rfl hx153) <|aA rfl (mvB rfl rfl rfl rfl) <|aF rfl rfl (.one rfl) rfl (by decide) (fun hb=>(mvB rfl rfl rfl rfl)) <|aF rfl rfl (.one rfl) rfl (by decide) (fun hb=>(dD rfl rfl (lb rfl) (svcB rfl hb))) <|aA rfl (bO rfl rfl (lb rfl) (svB rfl) rfl rfl hx154) <|aA rfl (mvB rfl rfl rfl rfl) <|aF rfl rfl (.one rfl) rfl (by decide) (fun hb=>(aW (r:=.bool _) rfl rfl (lb rfl) cl5 .nil rfl (gX  _ (gd_t hx155 hb)))) <|aA rfl (bO rfl rfl (lb rfl) (svB rfl) rfl rfl hx156) <|aA rfl (asB rfl rfl rfl rfl) <|bW ?_
        refine aN ⟨x156,(fun i=>i),⟨(.sames rfl rfl),.nil,bX [] rfl (by decide),fun _ _=>rfl⟩,?_⟩
        exact h
      ·
       replace h:=bU h hc129
       refine aF rfl rfl (.one rfl) rfl (by decide) (fun hb=>(aK rfl rfl (lb rfl) (sv (d:=.osl _ _ _) rfl))) <|?_
       refine fQ rfl rfl (.one rfl) rfl (by decide) (fun hc157=>absurd hc157 (by rw [(aEl hc129)]; decide)) (fun hc157=>?_)
       obtain ⟨x158,hx158,h⟩:=aR h
       refine aA rfl (bO rfl rfl (lb rfl) (svB rfl) rfl rfl hx158) <|aA rfl (mvB rfl rfl rfl rfl) <|aF rfl rfl (.one rfl) rfl (by decide) (fun hb=>(mvL rfl rfl rfl rfl)) <|?_
       refine fQ rfl rfl (.one rfl) rfl (by decide) (fun hc159=>absurd hc159 (by rw [(aB6 hx158)]; decide)) (fun hc159=>?_)
       refine aF rfl rfl (.one rfl) rfl (by decide) (fun hb=>(mvL rfl rfl rfl rfl)) <|?_
       refine fQ rfl rfl (.one rfl) rfl (by decide) (fun hc160=>absurd hc160 (by rw [(aB6 hx158)]; decide)) (fun hc160=>?_)
       refine fQ rfl rfl (.one rfl) rfl (by decide) (fun hc161=>absurd hc161 (by rw [(aB6 hx158)]; decide)) (fun hc161=>?_)
       refine aF rfl rfl (.one rfl) rfl (by decide) (fun hb=>(aK rfl rfl (lb rfl) (sv (d:=.osl _ _ _) rfl))) <|?_
       refine fQ rfl rfl (.one rfl) rfl (by decide) (fun hc162=>absurd hc162 (by rw [(aB6 hx158)]; decide)) (fun hc162=>?_)
       obtain ⟨x163,hx163,h⟩:=aR h
       obtain ⟨x164,hx164,h⟩:=aY h
       obtain ⟨x165,hx165,h⟩:=aR h
       obtain ⟨x166,hx166,h⟩:=aR h
       obtain ⟨x167,hx167,h⟩:=aY h
       obtain ⟨x168,hx168,h⟩:=aR h
       refine aA rfl (bO rfl rfl (lb rfl) (svB rfl) rfl rfl hx163) <|aA rfl (mvB rfl rfl rfl rfl) <|aF rfl rfl (.one rfl) rfl (by decide) (fun hb=>(lra q8 la38 rfl rfl rfl rfl rfl (nle rfl) rfl)) <|aF rfl rfl (.one rfl) rfl (by decide) (fun hb=>(lra q8 la38 rfl rfl rfl rfl rfl (nle rfl) rfl)) <|aF rfl rfl (.one rfl) rfl (by decide) (fun hb=>(aW (r:=.bool _) rfl rfl (lb rfl) cl18 (.cons (svcA (v0 x69.1) rfl hb) (.cons (svcA (v0 x74.1) rfl hb) .nil)) rfl (kZ _ _ _ (gd_t hx164 hb)))) <|aA rfl (bO rfl rfl (lb rfl) (svB rfl) rfl rfl hx165) <|aA rfl (mvB rfl rfl rfl rfl) <|aF rfl rfl (.one rfl) rfl (by decide) (fun hb=>(mvB rfl rfl rfl rfl)) <|aF rfl rfl (.one rfl) rfl (by decide) (fun hb=>(dD rfl rfl (lb rfl) (svcB rfl hb))) <|aA rfl (bO rfl rfl (lb rfl) (svB rfl) rfl rfl hx166) <|aA rfl (mvB rfl rfl rfl rfl) <|aF rfl rfl (.one rfl) rfl (by decide) (fun hb=>(aW (r:=.bool _) rfl rfl (lb rfl) cl5 .nil rfl (gX  _ (gd_t hx167 hb)))) <|aA rfl (bO rfl rfl (lb rfl) (svB rfl) rfl rfl hx168) <|aA rfl (asB rfl rfl rfl rfl) <|bW ?_
       refine aN ⟨x168,(fun i=>i),⟨(.sames rfl rfl),.nil,bX [] rfl (by decide),fun _ _=>rfl⟩,?_⟩
       exact h
     ·
      rintro v123 h
      unfold eM at h
      refine aS ?_
      obtain rfl:=Option.some.inj h
      refine ⟨.inr rfl,(.cons (sv rfl) .nil)⟩
end Go.Proofs.YtfaflcdfgaoehaaGreat
