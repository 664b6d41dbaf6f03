/-
  A part of the proof: rules and plain facts. No condition.
-/
import Derived.Test.YtdnjagkihgjpcaaProg
import Derived.KernelRfl
import Derived.Test.YtdnjagkihgjpcaaIlMb
import Derived.Test.YtdnjagkihgjpcaaIlA19C5
set_option linter.all false
set_option maxRecDepth 8000
set_option maxHeartbeats 2000000
open Go Go.IL Go.Fn Go.Proofs
open Go.Proofs.Try
namespace Go.Proofs.Ytdnjagkihgjpcaa
theorem ti23:TI prog 23 (some (.agg #[.int .u8 0,.int .i64 0,.int .i64 0,.int .i64 0,.bool false])) 5 40:=by unfold TI; kernel_rfl
theorem ag23:kJ prog 23=true:=by kernel_rfl
theorem cl7:bM prog 7:=⟨f7,func7,rfl,rfl⟩
theorem cl8:bM prog 8:=⟨f8,func8,rfl,rfl⟩
def la23:=LA.mk underlying23 ag23 ti23 (by decide)


theorem qD (a0:eY) (a1:(List Int)) (r:Bool) (h:iD a0 a1=some r):fS prog 3 [.agg (v0 a0),.slice false (a1.map (eInt .i64).d)] (.bool r):=by
 refine cR (rs:=[.bool r]) func3 M ntmps3 (nle M) M fun O hO=>?_
 show IWP _ _ _ _ ⟨[(0,.agg (v0 a0)),(1,.slice false (a1.map (eInt .i64).d))],[]⟩ _
 unfold iD at h
 refine aF (aA M (fE (cs:=q8) 0 M M (lb M) M (svA q8 M) M M)<|aA M (aI M M (lb M) (sv (d:=.bool false) M))<|aE ?_)
 refine aU ?_
 obtain ⟨x1,hx1,h⟩:=aK h
 refine aF (aA M (mvL M M M M)<|aA M (dU (eInt .i64) (l:=a1) M M (lb M) underlying24 (svL M))<|aA M (aO M M (lb M) (svI M) (sv (d:=.int _ 40) M) M hx1)<|aE ?_)
 refine aW (b:=_) M (fun hc2=>?_) (fun hc2=>?_)
 ·
  replace h:=bX h hc2
  obtain ⟨x3,hx3,h⟩:=aL h
  refine aF (aA M (bJ (r:=.bool _) M M (lb M) cl7 .nil M (gV  _ hx3))<|aA M (asB M M M M)<|aE ?_)
  refine bB ?_
  refine bP ?_
  obtain rfl:=sj_ h
  refine ⟨.inr M,(.cons (sv M) .nil)⟩
 ·
  replace h:=bY h hc2
  refine aT ?_
  refine aJ ?_
  refine aF (aA M (aI M M (lb M) (sv (d:=.nilp) M))<|aE ?_)
  refine fL (α:=Bool) (fun z=>⟨[(4,.bool z)],[]⟩) (fun z=>eM z=some r) ?_ ?_
  ·
   obtain ⟨x97,hx97,h⟩:=aL h
   obtain ⟨x98,hx98,h⟩:=aK h
   refine aS (aA M (aD M M (lb M) (sv (d:=.nilp) M))<|aA M (lra q8 la23 M M M M M (nle M) M)<|aA M (bJ (r:=.int _ _) M M (lb M) cl8 (.cons (sv (d:=.nilp) M) (.cons (svA q8 M) .nil)) M (sT _ _ hx97))<|aA M (aO M M (lb M) (svI M) (sv (d:=.int _ 1) M) M hx98)<|aA M (mvB M M M M)<|aH M M (.one M) M (by decide) (fun hb=>(aD M M (lb M) (sv (d:=.nilp) M))) <|?_)
   refine fZ (.slice false (([]:List aG).map aC.d)) M M (.one M) M (by decide) (fun hc99=>?_) (fun hc99=>?_)
   ·
    replace h:=bX h hc99
    refine kY 15 M hc99 ?_
    obtain ⟨x100,hx100,h⟩:=aL h
    obtain ⟨x101,hx101,h⟩:=aK h
    obtain ⟨x102,hx102,h⟩:=aK h
    refine aA M (bJ (r:=.slice _ _) M M (lb M) cl9 (.cons (sv (d:=.nilp) M) .nil) M (qB  _ hx100))<|aH M M (.one M) M (by decide) (fun hb=>(dU aC (l:=x100) M M (lb M) underlying28 (svL M)))<|aH M M (.one M) M (by decide) (fun hb=>(aO M M (lb M) (svcI M hb) (sv (d:=.int _ 0) M) M hx101))<|aA M (bC M M (lb M) (svB M) M M hx102)<|aA M (mvB M M M M)<|aH M M (.one M) M (by decide) (fun hb=>(aD M M (lb M) (sv (d:=.nilp) M))) <|?_
    refine fZ (.slice false (([]:List Int).map (eInt .i64).d)) M M (.one M) M (by decide) (fun hc103=>?_) (fun hc103=>?_)
    ·
     replace h:=bX h hc103
     refine kY 21 M hc103 ?_
     obtain ⟨x104,hx104,h⟩:=aL h
     obtain ⟨x105,hx105,h⟩:=aK h
     obtain ⟨x106,hx106,h⟩:=aK h
     refine aA M (bJ (r:=.slice _ _) M M (lb M) cl10 (.cons (sv (d:=.nilp) M) .nil) M (nL  _ hx104))<|aH M M (.one M) M (by decide) (fun hb=>(dU (eInt .i64) (l:=x104) M M (lb M) underlying24 (svL M)))<|aH M M (.one M) M (by decide) (fun hb=>(aO M M (lb M) (svcI M hb) (sv (d:=.int _ 0) M) M hx105))<|aA M (bC M M (lb M) (svB M) M M hx106)<|aA M (mvB M M M M)<|aH M M (.one M) M (by decide) (fun hb=>(aD M M (lb M) (sv (d:=.nilp) M)))<|aH M M (.one M) M (by decide) (fun hb=>(faR 1 M M M underlying23 M ti3 (lb M) M M))<|aH M M (.one M) M (by decide) (fun hb=>(aR (d:=.int _ _) M M (lb M) underlying3 ag3 ti3 (by decide) (svcR M hb) M (nle M) M)) <|?_
     refine fZ (.slice false (([]:List Int).map (eInt .i64).d)) M M (.one M) M (by decide) (fun hc107=>?_) (fun hc107=>?_)
     ·
      replace h:=bX h hc107
      refine kY 27 M hc107 ?_
      refine kY 28 M hc107 ?_
      refine kY 29 M hc107 ?_
      obtain ⟨x108,hx108,h⟩:=aL h
      obtain ⟨x109,hx109,h⟩:=aK h
      obtain ⟨x110,hx110,h⟩:=aK h
      refine aA M (bJ (r:=.slice _ _) M M (lb M) cl11 (.cons (sv (d:=.nilp) M) (.cons (svI M) .nil)) M (qH _ _ hx108))<|aH M M (.one M) M (by decide) (fun hb=>(dU (eInt .i64) (l:=x108) M M (lb M) underlying24 (svL M)))<|aH M M (.one M) M (by decide) (fun hb=>(aO M M (lb M) (svcI M hb) (sv (d:=.int _ 0) M) M hx109))<|aA M (bC M M (lb M) (svB M) M M hx110)<|aA M (mvB M M M M)<|aH M M (.one M) M (by decide) (fun hb=>(aD M M (lb M) (sv (d:=.nilp) M)))<|aH M M (.one M) M (by decide) (fun hb=>(faR 1 M M M underlying23 M ti3 (lb M) M M))<|aH M M (.one M) M (by decide) (fun hb=>(aR (d:=.int _ _) M M (lb M) underlying3 ag3 ti3 (by decide) (svcR M hb) M (nle M) M)) <|?_
      refine fZ (.slice false (([]:List Int).map (eInt .i64).d)) M M (.one M) M (by decide) (fun hc111=>?_) (fun hc111=>?_)
      ·
       replace h:=bX h hc111
       refine kY 35 M hc111 ?_
       refine kY 36 M hc111 ?_
       refine kY 37 M hc111 ?_
       obtain ⟨x112,hx112,h⟩:=aL h
       obtain ⟨x113,hx113,h⟩:=aK h
       obtain ⟨x114,hx114,h⟩:=aK h
       refine aA M (bJ (r:=.slice _ _) M M (lb M) cl12 (.cons (sv (d:=.nilp) M) (.cons (svI M) .nil)) M (qJ _ _ hx112))<|aH M M (.one M) M (by decide) (fun hb=>(dU (eInt .i64) (l:=x112) M M (lb M) underlying24 (svL M)))<|aH M M (.one M) M (by decide) (fun hb=>(aO M M (lb M) (svcI M hb) (sv (d:=.int _ 0) M) M hx113))<|aA M (bC M M (lb M) (svB M) M M hx114)<|aA M (mvB M M M M)<|aH M M (.one M) M (by decide) (fun hb=>(aD M M (lb M) (sv (d:=.nilp) M)))<|aH M M (.one M) M (by decide) (fun hb=>(mvL M M M M)) <|?_
       refine fZ (.slice false (([]:List Int).map (eInt .i64).d)) M M (.one M) M (by decide) (fun hc115=>?_) (fun hc115=>?_)
       ·
        replace h:=bX h hc115
        refine kY 43 M hc115 ?_
        refine kY 44 M hc115 ?_
        obtain ⟨x116,hx116,h⟩:=aL h
        obtain ⟨x117,hx117,h⟩:=aK h
        obtain ⟨x118,hx118,h⟩:=aK h
        obtain ⟨x119,hx119,h⟩:=aL h
        obtain ⟨x120,hx120,h⟩:=aK h
        obtain ⟨x121,hx121,h⟩:=aK h
        obtain ⟨x122,hx122,h⟩:=aL h
        obtain ⟨x123,hx123,h⟩:=aK h
        refine aA M (bJ (r:=.slice _ _) M M (lb M) cl13 (.cons (sv (d:=.nilp) M) (.cons (svL M) .nil)) M (oC _ _ hx116))<|aH M M (.one M) M (by decide) (fun hb=>(dU (eInt .i64) (l:=x116) M M (lb M) underlying24 (svL M)))<|aH M M (.one M) M (by decide) (fun hb=>(aO M M (lb M) (svcI M hb) (sv (d:=.int _ 0) M) M hx117))<|aA M (bC M M (lb M) (svB M) M M hx118)<|aA M (mvB M M M M)<|aH M M (.one M) M (by decide) (fun hb=>(aD M M (lb M) (sv (d:=.nilp) M)))<|aH M M (.one M) M (by decide) (fun hb=>(bJ (r:=.int _ _) M M (lb M) cl14 (.cons (svc (d:=.nilp) M hb) .nil) M (iH  _ (gd_t hx119 hb))))<|aH M M (.one M) M (by decide) (fun hb=>(aO M M (lb M) (svcI M hb) (sv (d:=.int _ 0) M) M hx120))<|aA M (bC M M (lb M) (svB M) M M hx121)<|aA M (mvB M M M M)<|aH M M (.one M) M (by decide) (fun hb=>(bJ (r:=.bool _) M M (lb M) cl7 .nil M (gV  _ (gd_t hx122 hb))))<|aA M (bC M M (lb M) (svB M) M M hx123)<|aA M (asB M M M M)<|bE ?_
        refine aJ ⟨x123,(fun i=>i),⟨(.sames M M),.nil,aY [] M (by decide),fun _ _=>M⟩,?_⟩
        exact h
       ·
        replace h:=bY h hc115
        obtain ⟨x124,hx124,h⟩:=aK h
        obtain ⟨x125,hx125,h⟩:=aK h
        obtain ⟨x126,hx126,h⟩:=aL h
        obtain ⟨x127,hx127,h⟩:=aK h
        obtain ⟨x128,hx128,h⟩:=aK h
        obtain ⟨x129,hx129,h⟩:=aL h
        obtain ⟨x130,hx130,h⟩:=aK h
        refine aH M M (.one M) M (by decide) (fun hb=>(dU (eInt .i64) (l:=([]:(List Int))) M M (lb M) underlying24 (svcL M hb)))<|aH M M (.one M) M (by decide) (fun hb=>(aO M M (lb M) (svcI M hb) (sv (d:=.int _ 0) M) M hx124))<|aA M (bC M M (lb M) (svB M) M M hx125)<|aA M (mvB M M M M)<|aH M M (.one M) M (by decide) (fun hb=>(aD M M (lb M) (sv (d:=.nilp) M)))<|aH M M (.one M) M (by decide) (fun hb=>(bJ (r:=.int _ _) M M (lb M) cl14 (.cons (svc (d:=.nilp) M hb) .nil) M (iH  _ (gd_t hx126 hb))))<|aH M M (.one M) M (by decide) (fun hb=>(aO M M (lb M) (svcI M hb) (sv (d:=.int _ 0) M) M hx127))<|aA M (bC M M (lb M) (svB M) M M hx128)<|aA M (mvB M M M M)<|aH M M (.one M) M (by decide) (fun hb=>(bJ (r:=.bool _) M M (lb M) cl7 .nil M (gV  _ (gd_t hx129 hb))))<|aA M (bC M M (lb M) (svB M) M M hx130)<|aA M (asB M M M M)<|bE ?_
        refine aJ ⟨x130,(fun i=>i),⟨(.sames M M),.nil,aY [] M (by decide),fun _ _=>M⟩,?_⟩
        exact h
      ·
       replace h:=bY h hc111
       obtain ⟨x131,hx131,h⟩:=aK h
       obtain ⟨x132,hx132,h⟩:=aK h
       refine aH M M (.one M) M (by decide) (fun hb=>(dU (eInt .i64) (l:=([]:(List Int))) M M (lb M) underlying24 (svcL M hb)))<|aH M M (.one M) M (by decide) (fun hb=>(aO M M (lb M) (svcI M hb) (sv (d:=.int _ 0) M) M hx131))<|aA M (bC M M (lb M) (svB M) M M hx132)<|aA M (mvB M M M M)<|aH M M (.one M) M (by decide) (fun hb=>(aD M M (lb M) (sv (d:=.nilp) M)))<|aH M M (.one M) M (by decide) (fun hb=>(mvL M M M M)) <|?_
       refine fZ (.slice false (([]:List Int).map (eInt .i64).d)) M M (.one M) M (by decide) (fun hc133=>absurd hc133 (by rw [(nR hx132 (tX hc111))]; decide)) (fun hc133=>?_)
       obtain ⟨x134,hx134,h⟩:=aK h
       obtain ⟨x135,hx135,h⟩:=aK h
       obtain ⟨x136,hx136,h⟩:=aL h
       obtain ⟨x137,hx137,h⟩:=aK h
       obtain ⟨x138,hx138,h⟩:=aK h
       obtain ⟨x139,hx139,h⟩:=aL h
       obtain ⟨x140,hx140,h⟩:=aK h
       refine aH M M (.one M) M (by decide) (fun hb=>(dU (eInt .i64) (l:=([]:(List Int))) M M (lb M) underlying24 (svcL M hb)))<|aH M M (.one M) M (by decide) (fun hb=>(aO M M (lb M) (svcI M hb) (sv (d:=.int _ 0) M) M hx134))<|aA M (bC M M (lb M) (svB M) M M hx135)<|aA M (mvB M M M M)<|aH M M (.one M) M (by decide) (fun hb=>(aD M M (lb M) (sv (d:=.nilp) M)))<|aH M M (.one M) M (by decide) (fun hb=>(bJ (r:=.int _ _) M M (lb M) cl14 (.cons (svc (d:=.nilp) M hb) .nil) M (iH  _ (gd_t hx136 hb))))<|aH M M (.one M) M (by decide) (fun hb=>(aO M M (lb M) (svcI M hb) (sv (d:=.int _ 0) M) M hx137))<|aA M (bC M M (lb M) (svB M) M M hx138)<|aA M (mvB M M M M)<|aH M M (.one M) M (by decide) (fun hb=>(bJ (r:=.bool _) M M (lb M) cl7 .nil M (gV  _ (gd_t hx139 hb))))<|aA M (bC M M (lb M) (svB M) M M hx140)<|aA M (asB M M M M)<|bE ?_
       refine aJ ⟨x140,(fun i=>i),⟨(.sames M M),.nil,aY [] M (by decide),fun _ _=>M⟩,?_⟩
       exact h
     ·
      replace h:=bY h hc107
      obtain ⟨x141,hx141,h⟩:=aK h
      obtain ⟨x142,hx142,h⟩:=aK h
      refine aH M M (.one M) M (by decide) (fun hb=>(dU (eInt .i64) (l:=([]:(List Int))) M M (lb M) underlying24 (svcL M hb)))<|aH M M (.one M) M (by decide) (fun hb=>(aO M M (lb M) (svcI M hb) (sv (d:=.int _ 0) M) M hx141))<|aA M (bC M M (lb M) (svB M) M M hx142)<|aA M (mvB M M M M)<|aH M M (.one M) M (by decide) (fun hb=>(aD M M (lb M) (sv (d:=.nilp) M)))<|aH M M (.one M) M (by decide) (fun hb=>(faR 1 M M M underlying23 M ti3 (lb M) M M))<|aH M M (.one M) M (by decide) (fun hb=>(aR (d:=.int _ _) M M (lb M) underlying3 ag3 ti3 (by decide) (svcR M hb) M (nle M) M)) <|?_
      refine fZ (.slice false (([]:List Int).map (eInt .i64).d)) M M (.one M) M (by decide) (fun hc143=>absurd hc143 (by rw [(nR hx142 (tX hc107))]; decide)) (fun hc143=>?_)
      obtain ⟨x144,hx144,h⟩:=aK h
      obtain ⟨x145,hx145,h⟩:=aK h
      refine aH M M (.one M) M (by decide) (fun hb=>(dU (eInt .i64) (l:=([]:(List Int))) M M (lb M) underlying24 (svcL M hb)))<|aH M M (.one M) M (by decide) (fun hb=>(aO M M (lb M) (svcI M hb) (sv (d:=.int _ 0) M) M hx144))<|aA M (bC M M (lb M) (svB M) M M hx145)<|aA M (mvB M M M M)<|aH M M (.one M) M (by decide) (fun hb=>(aD M M (lb M) (sv (d:=.nilp) M)))<|aH M M (.one M) M (by decide) (fun hb=>(mvL M M M M)) <|?_
      refine fZ (.slice false (([]:List Int).map (eInt .i64).d)) M M (.one M) M (by decide) (fun hc146=>absurd hc146 (by rw [(nR hx145 (nR hx142 (tX hc107)))]; decide)) (fun hc146=>?_)
      obtain ⟨x147,hx147,h⟩:=aK h
      obtain ⟨x148,hx148,h⟩:=aK h
      obtain ⟨x149,hx149,h⟩:=aL h
      obtain ⟨x150,hx150,h⟩:=aK h
      obtain ⟨x151,hx151,h⟩:=aK h
      obtain ⟨x152,hx152,h⟩:=aL h
      obtain ⟨x153,hx153,h⟩:=aK h
      refine aH M M (.one M) M (by decide) (fun hb=>(dU (eInt .i64) (l:=([]:(List Int))) M M (lb M) underlying24 (svcL M hb)))<|aH M M (.one M) M (by decide) (fun hb=>(aO M M (lb M) (svcI M hb) (sv (d:=.int _ 0) M) M hx147))<|aA M (bC M M (lb M) (svB M) M M hx148)<|aA M (mvB M M M M)<|aH M M (.one M) M (by decide) (fun hb=>(aD M M (lb M) (sv (d:=.nilp) M)))<|aH M M (.one M) M (by decide) (fun hb=>(bJ (r:=.int _ _) M M (lb M) cl14 (.cons (svc (d:=.nilp) M hb) .nil) M (iH  _ (gd_t hx149 hb))))<|aH M M (.one M) M (by decide) (fun hb=>(aO M M (lb M) (svcI M hb) (sv (d:=.int _ 0) M) M hx150))<|aA M (bC M M (lb M) (svB M) M M hx151)<|aA M (mvB M M M M)<|aH M M (.one M) M (by decide) (fun hb=>(bJ (r:=.bool _) M M (lb M) cl7 .nil M (gV  _ (gd_t hx152 hb))))<|aA M (bC M M (lb M) (svB M) M M hx153)<|aA M (asB M M M M)<|bE ?_
      refine aJ ⟨x153,(fun i=>i),⟨(.sames M M),.nil,aY [] M (by decide),fun _ _=>M⟩,?_⟩
      exact h
    ·
     replace h:=bY h hc103
     obtain ⟨x154,hx154,h⟩:=aK h
     obtain ⟨x155,hx155,h⟩:=aK h
     refine aH M M (.one M) M (by decide) (fun hb=>(dU (eInt .i64) (l:=([]:(List Int))) M M (lb M) underlying24 (svcL M hb)))<|aH M M (.one M) M (by decide) (fun hb=>(aO M M (lb M) (svcI M hb) (sv (d:=.int _ 0) M) M hx154))<|aA M (bC M M (lb M) (svB M) M M hx155)<|aA M (mvB M M M M)<|aH M M (.one M) M (by decide) (fun hb=>(aD M M (lb M) (sv (d:=.nilp) M)))<|aH M M (.one M) M (by decide) (fun hb=>(faR 1 M M M underlying23 M ti3 (lb M) M M))<|aH M M (.one M) M (by decide) (fun hb=>(aR (d:=.int _ _) M M (lb M) underlying3 ag3 ti3 (by decide) (svcR M hb) M (nle M) M)) <|?_
     refine fZ (.slice false (([]:List Int).map (eInt .i64).d)) M M (.one M) M (by decide) (fun hc156=>absurd hc156 (by rw [(nR hx155 (tX hc103))]; decide)) (fun hc156=>?_)
     obtain ⟨x157,hx157,h⟩:=aK h
     obtain ⟨x158,hx158,h⟩:=aK h
     refine aH M M (.one M) M (by decide) (fun hb=>(dU (eInt .i64) (l:=([]:(List Int))) M M (lb M) underlying24 (svcL M hb)))<|aH M M (.one M) M (by decide) (fun hb=>(aO M M (lb M) (svcI M hb) (sv (d:=.int _ 0) M) M hx157))<|aA M (bC M M (lb M) (svB M) M M hx158)<|aA M (mvB M M M M)<|aH M M (.one M) M (by decide) (fun hb=>(aD M M (lb M) (sv (d:=.nilp) M)))<|aH M M (.one M) M (by decide) (fun hb=>(faR 1 M M M underlying23 M ti3 (lb M) M M))<|aH M M (.one M) M (by decide) (fun hb=>(aR (d:=.int _ _) M M (lb M) underlying3 ag3 ti3 (by decide) (svcR M hb) M (nle M) M)) <|?_
     refine fZ (.slice false (([]:List Int).map (eInt .i64).d)) M M (.one M) M (by decide) (fun hc159=>absurd hc159 (by rw [(nR hx158 (nR hx155 (tX hc103)))]; decide)) (fun hc159=>?_)
     obtain ⟨x160,hx160,h⟩:=aK h
     obtain ⟨x161,hx161,h⟩:=aK h
     refine aH M M (.one M) M (by decide) (fun hb=>(dU (eInt .i64) (l:=([]:(List Int))) M M (lb M) underlying24 (svcL M hb)))<|aH M M (.one M) M (by decide) (fun hb=>(aO M M (lb M) (svcI M hb) (sv (d:=.int _ 0) M) M hx160))<|aA M (bC M M (lb M) (svB M) M M hx161)<|aA M (mvB M M M M)<|aH M M (.one M) M (by decide) (fun hb=>(aD M M (lb M) (sv (d:=.nilp) M)))<|aH M M (.one M) M (by decide) (fun hb=>(mvL M M M M)) <|?_
     refine fZ (.slice false (([]:List Int).map (eInt .i64).d)) M M (.one M) M (by decide) (fun hc162=>absurd hc162 (by rw [(nR hx161 (nR hx158 (nR hx155 (tX hc103))))]; decide)) (fun hc162=>?_)
     obtain ⟨x163,hx163,h⟩:=aK h
     obtain ⟨x164,hx164,h⟩:=aK h
     obtain ⟨x165,hx165,h⟩:=aL h
     obtain ⟨x166,hx166,h⟩:=aK h
     obtain ⟨x167,hx167,h⟩:=aK h
     obtain ⟨x168,hx168,h⟩:=aL h
     obtain ⟨x169,hx169,h⟩:=aK h
     refine aH M M (.one M) M (by decide) (fun hb=>(dU (eInt .i64) (l:=([]:(List Int))) M M (lb M) underlying24 (svcL M hb)))<|aH M M (.one M) M (by decide) (fun hb=>(aO M M (lb M) (svcI M hb) (sv (d:=.int _ 0) M) M hx163))<|aA M (bC M M (lb M) (svB M) M M hx164)<|aA M (mvB M M M M)<|aH M M (.one M) M (by decide) (fun hb=>(aD M M (lb M) (sv (d:=.nilp) M)))<|aH M M (.one M) M (by decide) (fun hb=>(bJ (r:=.int _ _) M M (lb M) cl14 (.cons (svc (d:=.nilp) M hb) .nil) M (iH  _ (gd_t hx165 hb))))<|aH M M (.one M) M (by decide) (fun hb=>(aO M M (lb M) (svcI M hb) (sv (d:=.int _ 0) M) M hx166))<|aA M (bC M M (lb M) (svB M) M M hx167)<|aA M (mvB M M M M)<|aH M M (.one M) M (by decide) (fun hb=>(bJ (r:=.bool _) M M (lb M) cl7 .nil M (gV  _ (gd_t hx168 hb))))<|aA M (bC M M (lb M) (svB M) M M hx169)<|aA M (asB M M M M)<|bE ?_
     refine aJ ⟨x169,(fun i=>i),⟨(.sames M M),.nil,aY [] M (by decide),fun _ _=>M⟩,?_⟩
     exact h
   ·
    replace h:=bY h hc99
    obtain ⟨x170,hx170,h⟩:=aK h
    obtain ⟨x171,hx171,h⟩:=aK h
    refine aH M M (.one M) M (by decide) (fun hb=>(dU aC (l:=([]:(List aG))) M M (lb M) underlying28 (svcL M hb)))<|aH M M (.one M) M (by decide) (fun hb=>(aO M M (lb M) (svcI M hb) (sv (d:=.int _ 0) M) M hx170))<|aA M (bC M M (lb M) (svB M) M M hx171)<|aA M (mvB M M M M)<|aH M M (.one M) M (by decide) (fun hb=>(aD M M (lb M) (sv (d:=.nilp) M))) <|?_
    refine fZ (.slice false (([]:List Int).map (eInt .i64).d)) M M (.one M) M (by decide) (fun hc172=>absurd hc172 (by rw [(nR hx171 (tX hc99))]; decide)) (fun hc172=>?_)
    obtain ⟨x173,hx173,h⟩:=aK h
    obtain ⟨x174,hx174,h⟩:=aK h
    refine aH M M (.one M) M (by decide) (fun hb=>(dU (eInt .i64) (l:=([]:(List Int))) M M (lb M) underlying24 (svcL M hb)))<|aH M M (.one M) M (by decide) (fun hb=>(aO M M (lb M) (svcI M hb) (sv (d:=.int _ 0) M) M hx173))<|aA M (bC M M (lb M) (svB M) M M hx174)<|aA M (mvB M M M M)<|aH M M (.one M) M (by decide) (fun hb=>(aD M M (lb M) (sv (d:=.nilp) M)))<|aH M M (.one M) M (by decide) (fun hb=>(faR 1 M M M underlying23 M ti3 (lb M) M M))<|aH M M (.one M) M (by decide) (fun hb=>(aR (d:=.int _ _) M M (lb M) underlying3 ag3 ti3 (by decide) (svcR M hb) M (nle M) M)) <|?_
    refine fZ (.slice false (([]:List Int).map (eInt .i64).d)) M M (.one M) M (by decide) (fun hc175=>absurd hc175 (by rw [(nR hx174 (nR hx171 (tX hc99)))]; decide)) (fun hc175=>?_)
    obtain ⟨x176,hx176,h⟩:=aK h
    obtain ⟨x177,hx177,h⟩:=aK h
    refine aH M M (.one M) M (by decide) (fun hb=>(dU (eInt .i64) (l:=([]:(List Int))) M M (lb M) underlying24 (svcL M hb)))<|aH M M (.one M) M (by decide) (fun hb=>(aO M M (lb M) (svcI M hb) (sv (d:=.int _ 0) M) M hx176))<|aA M (bC M M (lb M) (svB M) M M hx177)<|aA M (mvB M M M M)<|aH M M (.one M) M (by decide) (fun hb=>(aD M M (lb M) (sv (d:=.nilp) M)))<|aH M M (.one M) M (by decide) (fun hb=>(faR 1 M M M underlying23 M ti3 (lb M) M M))<|aH M M (.one M) M (by decide) (fun hb=>(aR (d:=.int _ _) M M (lb M) underlying3 ag3 ti3 (by decide) (svcR M hb) M (nle M) M)) <|?_
    refine fZ (.slice false (([]:List Int).map (eInt .i64).d)) M M (.one M) M (by decide) (fun hc178=>absurd hc178 (by rw [(nR hx177 (nR hx174 (nR hx171 (tX hc99))))]; decide)) (fun hc178=>?_)
    obtain ⟨x179,hx179,h⟩:=aK h
    obtain ⟨x180,hx180,h⟩:=aK h
    refine aH M M (.one M) M (by decide) (fun hb=>(dU (eInt .i64) (l:=([]:(List Int))) M M (lb M) underlying24 (svcL M hb)))<|aH M M (.one M) M (by decide) (fun hb=>(aO M M (lb M) (svcI M hb) (sv (d:=.int _ 0) M) M hx179))<|aA M (bC M M (lb M) (svB M) M M hx180)<|aA M (mvB M M M M)<|aH M M (.one M) M (by decide) (fun hb=>(aD M M (lb M) (sv (d:=.nilp) M)))<|aH M M (.one M) M (by decide) (fun hb=>(mvL M M M M)) <|?_
    refine fZ (.slice false (([]:List Int).map (eInt .i64).d)) M M (.one M) M (by decide) (fun hc181=>absurd hc181 (by rw [(nR hx180 (nR hx177 (nR hx174 (nR hx171 (tX hc99)))))]; decide)) (fun hc181=>?_)
    obtain ⟨x182,hx182,h⟩:=aK h
    obtain ⟨x183,hx183,h⟩:=aK h
    obtain ⟨x184,hx184,h⟩:=aL h
    obtain ⟨x185,hx185,h⟩:=aK h
    obtain ⟨x186,hx186,h⟩:=aK h
    obtain ⟨x187,hx187,h⟩:=aL h
    obtain ⟨x188,hx188,h⟩:=aK h
    refine aH M M (.one M) M (by decide) (fun hb=>(dU (eInt .i64) (l:=([]:(List Int))) M M (lb M) underlying24 (svcL M hb)))<|aH M M (.one M) M (by decide) (fun hb=>(aO M M (lb M) (svcI M hb) (sv (d:=.int _ 0) M) M hx182))<|aA M (bC M M (lb M) (svB M) M M hx183)<|aA M (mvB M M M M)<|aH M M (.one M) M (by decide) (fun hb=>(aD M M (lb M) (sv (d:=.nilp) M)))<|aH M M (.one M) M (by decide) (fun hb=>(bJ (r:=.int _ _) M M (lb M) cl14 (.cons (svc (d:=.nilp) M hb) .nil) M (iH  _ (gd_t hx184 hb))))<|aH M M (.one M) M (by decide) (fun hb=>(aO M M (lb M) (svcI M hb) (sv (d:=.int _ 0) M) M hx185))<|aA M (bC M M (lb M) (svB M) M M hx186)<|aA M (mvB M M M M)<|aH M M (.one M) M (by decide) (fun hb=>(bJ (r:=.bool _) M M (lb M) cl7 .nil M (gV  _ (gd_t hx187 hb))))<|aA M (bC M M (lb M) (svB M) M M hx188)<|aA M (asB M M M M)<|bE ?_
    refine aJ ⟨x188,(fun i=>i),⟨(.sames M M),.nil,aY [] M (by decide),fun _ _=>M⟩,?_⟩
    exact h
  ·
   rintro v96 h
   unfold eM at h
   refine bB ?_
   obtain rfl:=sj_ h
   refine ⟨.inr M,(.cons (sv M) .nil)⟩

end Go.Proofs.Ytdnjagkihgjpcaa
