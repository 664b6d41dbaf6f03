/-
  A part of the proof: rules and plain facts. No condition.
-/
import Derived.Test.YtdnjagkihgjpcaaProg
import Derived.KernelRfl
import Derived.Test.YtdnjagkihgjpcaaIlMb
import Derived.Test.YtdnjagkihgjpcaaIlA19C3
set_option linter.all false
set_option maxRecDepth 8000
set_option maxHeartbeats 2000000
open Go Go.IL Go.Fn Go.Proofs
open Go.Proofs.Try
namespace Go.Proofs.Ytdnjagkihgjpcaa
theorem ag57:kJ prog 57=true:=by kernel_rfl
theorem pl40:∀ w,(Array.mapM (m:=Sem) (fun (f:Field)=>Functor.map (Prod.mk f.offset) (sizeOf f.type)) (fieldsOf prog 40)).run prog w = .ok #[(0,1),(1,1),(2,1),(3,1)] w:=fun w=>by kernel_rfl
theorem cl25:bM prog 25:=⟨f25,func25,rfl,rfl⟩
theorem cl26:bM prog 26:=⟨f26,func26,rfl,rfl⟩
theorem cl38:bM prog 38:=⟨f38,func38,rfl,rfl⟩
theorem cl57:bM prog 57:=⟨f57,func57,rfl,rfl⟩
theorem cl58:bM prog 58:=⟨f58,func58,rfl,rfl⟩
theorem cl59:bM prog 59:=⟨f59,func59,rfl,rfl⟩
theorem cl60:bM prog 60:=⟨f60,func60,rfl,rfl⟩
theorem cl61:bM prog 61:=⟨f61,func61,rfl,rfl⟩
theorem cl62:bM prog 62:=⟨f62,func62,rfl,rfl⟩
theorem cl63:bM prog 63:=⟨f63,func63,rfl,rfl⟩
theorem cl64:bM prog 64:=⟨f64,func64,rfl,rfl⟩
theorem cl73:bM prog 73:=⟨f73,func73,rfl,rfl⟩
theorem cl87:bM prog 87:=⟨f87,func87,rfl,rfl⟩
theorem cl88:bM prog 88:=⟨f88,func88,rfl,rfl⟩
theorem cl89:bM prog 89:=⟨f89,func89,rfl,rfl⟩
theorem cl90:bM prog 90:=⟨f90,func90,rfl,rfl⟩
theorem cl94:bM prog 94:=⟨f94,func94,rfl,rfl⟩



theorem lQ (nr:Nat):∀ (a0:Int) (a1:Int) (a2:Int) (a3:(List aG)) (r:(List aG)) (h:bQ nr a0 a1 a2 a3=some r),FnH prog 38 [.osl 1000 aC.sz a3.length,.int .i64 a0,.int .i64 a1,.int .i64 a2,.fn 27 []] [(1000,.blk 40 (D.flat (a3.map aC.d)))] (retD []) [(1000,.blk 40 (D.flat (r.map aC.d)))]:=by
 induction nr with
 | zero=>intro a0 a1 a2 a3 r h; cases h
 | succ nr ih =>
 intro a0 a1 a2 a3 r h
 replace h:fT (bQ nr) a0 a1 a2 a3=some r:=h
 refine cF (rs:=[]) func38 M ntmps38 (nle M) fun O hO=>?_
 show IWP _ _ _ _ ⟨[(0,.osl 1000 aC.sz a3.length),(1,.int .i64 a0),(2,.int .i64 a1),(3,.int .i64 a2),(4,.fn 27 [])],[(1000,.blk 40 (D.flat (a3.map aC.d)))]⟩ _
 unfold fT at h
 refine aF (aA M (aI M M (lb M) (sv (d:=.bool true) M))<|aE ?_)
 refine aF (aA M (aI M M (lb M) (sv (d:=.bool true) M))<|aE ?_)
 refine aV ?_
 refine bS (α:=Nat × (List aG) × Int × Int × Bool × Bool × Int) (fun z=>⟨[(0,.osl 1000 aC.sz z.2.1.length),(1,.int .i64 z.2.2.1),(2,.int .i64 z.2.2.2.1),(3,.int .i64 z.2.2.2.2.2.2),(4,.fn 27 []),(10,.bool z.2.2.2.2.1),(11,.bool z.2.2.2.2.2.1)],[(1000,.blk 40 (D.flat (z.2.1.map aC.d)))]⟩) (fun z=>bU (bQ nr) z.1 z.2.1 z.2.2.1 z.2.2.2.1 z.2.2.2.2.1 z.2.2.2.2.2.1 z.2.2.2.2.2.2=some r) (fun z=>z.1) (fuel,a3,a0,a1,true,true,a2) (fun i=>i) ⟨(.sames M M),(.cons (EntW.lst M) .nil),aY [1000] M (by decide),fun _ _=>M⟩ ?_ ?_
 ·exact h
 ·
  rintro ⟨n0,v70,v71,v72,v73,v74,v154⟩ h
  cases n0 with
  | zero=>exact absurd h (by unfold bU; exact nofun)
  | succ n0 =>
   unfold bU at h
   refine aV ?_
   obtain ⟨x234,hx234,h⟩:=aK h
   refine aF (aA M (mvI M M M M)<|aA M (mvI M M M M)<|aA M (aQ M M (lb M) (svI M) (svI M) M hx234)<|aA M (asI M M M M)<|aE ?_)
   refine aU ?_
   obtain ⟨x235,hx235,h⟩:=aK h
   refine aF (aA M (mvI M M M M)<|aA M (aO M M (lb M) (svI M) (sv (d:=.int _ 12) M) M hx235)<|aE ?_)
   refine aW (b:=_) M (fun hc236=>?_) (fun hc236=>?_)
   ·
    replace h:=bX h hc236
    obtain ⟨x237,hx237,h⟩:=aL h
    obtain ⟨hk238,h⟩:=iG h
    refine aF (aA M (aD M M (lb M) (sv (d:=.osl _ _ _) M))<|aA M (mvI M M M M)<|aA M (mvI M M M M)<|aA M (aD M M (lb M) (sv (d:=.fn 27 []) M))<|aA M (bG (r':=.tuple []) (H1':=[(1000,.blk 40 (D.flat (x237.map aC.d)))]) 0 [1000] M M (lb M) cl57 (.cons (sv (d:=.osl _ _ _) M) (.cons (svI M) (.cons (svI M) (.cons (sv (d:=.fn 27 []) M) .nil)))) M M ⟨M,M,by decide,M,List.forall_mem_cons.2 ⟨⟨M,M,(fW aC M),(bK aC)⟩,List.forall_mem_nil _⟩⟩ (kM _ _ _ _ hx237) M M (List.forall_mem_cons.2 ⟨⟨M,(bK aC)⟩,List.forall_mem_nil _⟩) (by simp only [List.map_cons,List.map_nil,Ent.ren,bL,bT]; rfl))<|aE ?_)
    refine bB ?_
    refine bP ?_
    refine dB ?_
    refine bP ?_
    refine dB ?_
    obtain rfl:=sj_ h
    refine ⟨.inr M,(fun i=>i),⟨.nil,(.cons (EntW.lst M) .nil),aY [1000] M (by decide),fun _ _=>M⟩,.nil,M⟩
   ·
    replace h:=bY h hc236
    refine aT ?_
    refine aJ ?_
    refine aU ?_
    obtain ⟨x239,hx239,h⟩:=aK h
    refine aF (aA M (mvI M M M M)<|aA M (aO M M (lb M) (svI M) (sv (d:=.int _ 0) M) M hx239)<|aE ?_)
    refine aW (b:=_) M (fun hc240=>?_) (fun hc240=>?_)
    ·
     replace h:=bX h hc240
     obtain ⟨x241,hx241,h⟩:=aL h
     obtain ⟨hk242,h⟩:=iG h
     refine aF (aA M (aD M M (lb M) (sv (d:=.osl _ _ _) M))<|aA M (mvI M M M M)<|aA M (mvI M M M M)<|aA M (aD M M (lb M) (sv (d:=.fn 27 []) M))<|aA M (bG (r':=.tuple []) (H1':=[(1000,.blk 40 (D.flat (x241.map aC.d)))]) 0 [1000] M M (lb M) cl58 (.cons (sv (d:=.osl _ _ _) M) (.cons (svI M) (.cons (svI M) (.cons (sv (d:=.fn 27 []) M) .nil)))) M M ⟨M,M,by decide,M,List.forall_mem_cons.2 ⟨⟨M,M,(fW aC M),(bK aC)⟩,List.forall_mem_nil _⟩⟩ (lO _ _ _ _ hx241) M M (List.forall_mem_cons.2 ⟨⟨M,(bK aC)⟩,List.forall_mem_nil _⟩) (by simp only [List.map_cons,List.map_nil,Ent.ren,bL,bT]; rfl))<|aE ?_)
     refine bB ?_
     refine bP ?_
     refine dB ?_
     refine bP ?_
     refine dB ?_
     obtain rfl:=sj_ h
     refine ⟨.inr M,(fun i=>i),⟨.nil,(.cons (EntW.lst M) .nil),aY [1000] M (by decide),fun _ _=>M⟩,.nil,M⟩
    ·
     replace h:=bY h hc240
     refine aT ?_
     refine aJ ?_
     refine fL (α:=(List aG) × Int) (fun z=>⟨[(0,.osl 1000 aC.sz z.1.length),(1,.int .i64 v71),(2,.int .i64 v72),(3,.int .i64 z.2),(4,.fn 27 []),(10,.bool v73),(11,.bool v74),(12,.int .i64 x234)],[(1000,.blk 40 (D.flat (z.1.map aC.d)))]⟩) (fun z=>eK (bQ nr) v71 v72 v73 v74 (bU (bQ nr) n0) x234 z.1 z.2=some r) ?_ ?_
     ·
      refine aF (aA M (mvB M M M M)<|aA M (eX M M (lb M) (svB M))<|aE ?_)
      refine aW (b:=_) M (fun hc309=>?_) (fun hc309=>?_)
      ·
       replace h:=bX h hc309
       obtain ⟨x310,hx310,h⟩:=aL h
       obtain ⟨hk311,h⟩:=iG h
       refine aF (aA M (aD M M (lb M) (sv (d:=.osl _ _ _) M))<|aA M (mvI M M M M)<|aA M (mvI M M M M)<|aA M (aD M M (lb M) (sv (d:=.fn 27 []) M))<|aA M (bG (r':=.tuple []) (H1':=[(1000,.blk 40 (D.flat (x310.map aC.d)))]) 0 [1000] M M (lb M) cl59 (.cons (sv (d:=.osl _ _ _) M) (.cons (svI M) (.cons (svI M) (.cons (sv (d:=.fn 27 []) M) .nil)))) M M ⟨M,M,by decide,M,List.forall_mem_cons.2 ⟨⟨M,M,(fW aC M),(bK aC)⟩,List.forall_mem_nil _⟩⟩ (kN _ _ _ _ hx310) M M (List.forall_mem_cons.2 ⟨⟨M,(bK aC)⟩,List.forall_mem_nil _⟩) (by simp only [List.map_cons,List.map_nil,Ent.ren,bL,bT]; rfl))<|aE ?_)
       obtain ⟨x312,hx312,h⟩:=aK h
       refine aS (aA M (mvI M M M M)<|aA M (aQ M M (lb M) (svI M) (sv (d:=.int _ 1) M) M hx312)<|aA M (asI M M M M)<|bE ?_)
       refine aJ ⟨(x310,x312),(fun i=>i),⟨(.cons (.same (congrArg (D.osl _ _) hk311.symm) M) (.sames M M)),(.cons (EntW.lst M) .nil),aY [1000] M (by decide),fun _ _=>M⟩,?_⟩
       exact h
      ·
       replace h:=bY h hc309
       refine aT ?_
       refine aJ ⟨(v70,v154),(fun i=>i),⟨(.sames M M),(.cons (EntW.lst M) .nil),aY [1000] M (by decide),fun _ _=>M⟩,?_⟩
       exact h
     ·
      rintro ⟨v247,v248⟩ h
      unfold eK at h
      obtain ⟨x249,hx249,h⟩:=aL h
      refine aF (aA M (aD M M (lb M) (sv (d:=.osl _ _ _) M))<|aA M (mvI M M M M)<|aA M (mvI M M M M)<|aA M (aD M M (lb M) (sv (d:=.fn 27 []) M))<|aA M (mG (r:=.tuple [.int .i64 x249.1,.int .i64 x249.2]) M M (lb M) cl60 (.cons (sv (d:=.osl _ _ _) M) (.cons (svI M) (.cons (svI M) (.cons (sv (d:=.fn 27 []) M) .nil)))) (.cons (FDT aC M M) (.all _)) M M (lE _ _ _ _ hx249))<|aA M (aD M M (lb M) (sv (d:=.tuple q17) M))<|aA M (cM (d:=.int _ _) M M (lb M) (sv (d:=.tuple q17) M) M)<|aA M (cM (d:=.int _ _) M M (lb M) (sv (d:=.tuple q17) M) M)<|aA M (asI M M M M)<|aA M (asI M M M M)<|aE ?_)
      refine fL (α:=(List aG) × Int × Int) (fun z=>⟨[(0,.osl 1000 aC.sz z.1.length),(1,.int .i64 v71),(2,.int .i64 v72),(3,.int .i64 v248),(4,.fn 27 []),(10,.bool v73),(11,.bool v74),(12,.int .i64 x234),(13,.int .i64 z.2.1),(14,.int .i64 z.2.2)],[(1000,.blk 40 (D.flat (z.1.map aC.d)))]⟩) (fun z=>eJ (bQ nr) v71 v72 v73 v74 (bU (bQ nr) n0) x234 v248 z.1 z.2.1 z.2.2=some r) ?_ ?_
      ·
       obtain ⟨x302,hx302,h⟩:=aK h
       refine aF (aA M (mvI M M M M)<|aA M (aO M M (lb M) (svI M) (sv (d:=.int _ 2) M) M hx302)<|aE ?_)
       refine aW (b:=_) M (fun hc303=>?_) (fun hc303=>?_)
       ·
        replace h:=bX h hc303
        obtain ⟨x304,hx304,h⟩:=aL h
        obtain ⟨hk305,h⟩:=iG h
        refine aF (aA M (aD M M (lb M) (sv (d:=.osl _ _ _) M))<|aA M (mvI M M M M)<|aA M (mvI M M M M)<|aA M (aD M M (lb M) (sv (d:=.fn 27 []) M))<|aA M (bG (r':=.tuple []) (H1':=[(1000,.blk 40 (D.flat (x304.map aC.d)))]) 0 [1000] M M (lb M) cl61 (.cons (sv (d:=.osl _ _ _) M) (.cons (svI M) (.cons (svI M) (.cons (sv (d:=.fn 27 []) M) .nil)))) M M ⟨M,M,by decide,M,List.forall_mem_cons.2 ⟨⟨M,M,(fW aC M),(bK aC)⟩,List.forall_mem_nil _⟩⟩ (kP _ _ _ _ hx304) M M (List.forall_mem_cons.2 ⟨⟨M,(bK aC)⟩,List.forall_mem_nil _⟩) (by simp only [List.map_cons,List.map_nil,Ent.ren,bL,bT]; rfl))<|aE ?_)
        obtain ⟨x306,hx306,h⟩:=aK h
        obtain ⟨x307,hx307,h⟩:=aK h
        obtain ⟨x308,hx308,h⟩:=aK h
        refine aF (aA M (mvI M M M M)<|aA M (aQ M M (lb M) (svI M) (sv (d:=.int _ 1) M) M hx306)<|aA M (mvI M M M M)<|aA M (mvI M M M M)<|aA M (aQ M M (lb M) (svI M) (svI M) M hx307)<|aA M (aQ M M (lb M) (svI M) (svI M) M hx308)<|aA M (asI M M M M)<|aE ?_)
        refine aS (aA M (aI M M (lb M) (sv (d:=.int _ 1) M))<|bE ?_)
        refine aJ ⟨(x304,x308,1),(fun i=>i),⟨(.cons (.same (congrArg (D.osl _ _) hk305.symm) M) (.sames M M)),(.cons (EntW.lst M) .nil),aY [1000] M (by decide),fun _ _=>M⟩,?_⟩
        exact h
       ·
        replace h:=bY h hc303
        refine aT ?_
        refine aJ ⟨(v247,x249.1,x249.2),(fun i=>i),⟨(.sames M M),(.cons (EntW.lst M) .nil),aY [1000] M (by decide),fun _ _=>M⟩,?_⟩
        exact h
      ·
       rintro ⟨v257,v258,v259⟩ h
       unfold eJ at h
       refine fL (α:=(List aG)) (fun z=>⟨[(0,.osl 1000 aC.sz z.length),(1,.int .i64 v71),(2,.int .i64 v72),(3,.int .i64 v248),(4,.fn 27 []),(10,.bool v73),(11,.bool v74),(12,.int .i64 x234),(13,.int .i64 v258)],[(1000,.blk 40 (D.flat (z.map aC.d)))]⟩) (fun z=>eI (bQ nr) v71 v72 v73 v74 (bU (bQ nr) n0) x234 v248 v258 z=some r) ?_ ?_
       ·
        obtain ⟨x295,hx295,h⟩:=aK h
        obtain ⟨x296,hx296,h⟩:=aK h
        obtain ⟨x297,hx297,h⟩:=aK h
        refine aF (aA M (mvB M M M M)<|aA M (mvB M M M M)<|aH M M (.one M) M (by decide) (fun hb=>(mvB M M M M))<|aA M (bC M M (lb M) (svB M) M M hx295)<|aA M (mvB M M M M)<|aH M M (.one M) M (by decide) (fun hb=>(mvI M M M M))<|aH M M (.one M) M (by decide) (fun hb=>(aO M M (lb M) (svcI M hb) (sv (d:=.int _ 1) M) M hx296))<|aA M (bC M M (lb M) (svB M) M M hx297)<|aE ?_)
        refine aW (b:=_) M (fun hc298=>?_) (fun hc298=>?_)
        ·
         replace h:=bX h hc298
         obtain ⟨x299,hx299,h⟩:=aL h
         obtain ⟨hk300,h⟩:=iG h
         refine aF (aA M (aD M M (lb M) (sv (d:=.osl _ _ _) M))<|aA M (mvI M M M M)<|aA M (mvI M M M M)<|aA M (aD M M (lb M) (sv (d:=.fn 27 []) M))<|aA M (bG (r':=.bool x299.1) (H1':=[(1000,.blk 40 (D.flat (x299.2.map aC.d)))]) 0 [1000] M M (lb M) cl62 (.cons (sv (d:=.osl _ _ _) M) (.cons (svI M) (.cons (svI M) (.cons (sv (d:=.fn 27 []) M) .nil)))) M M ⟨M,M,by decide,M,List.forall_mem_cons.2 ⟨⟨M,M,(fW aC M),(bK aC)⟩,List.forall_mem_nil _⟩⟩ (jE _ _ _ _ hx299) M M (List.forall_mem_cons.2 ⟨⟨M,(bK aC)⟩,List.forall_mem_nil _⟩) (by simp only [List.map_cons,List.map_nil,Ent.ren,bL,bT]; rfl))<|aE ?_)
         refine aW (b:=_) M (fun hc301=>?_) (fun hc301=>?_)
         ·
          replace h:=bX h hc301
          refine bB ?_
          refine bP ?_
          refine dB ?_
          refine bP ?_
          refine dB ?_
          obtain rfl:=sj_ h
          refine ⟨.inr M,(fun i=>i),⟨.nil,(.cons (EntW.lst M) .nil),aY [1000] M (by decide),fun _ _=>M⟩,.nil,M⟩
         ·
          replace h:=bY h hc301
          refine aT ?_
          refine aJ ⟨x299.2,(fun i=>i),⟨(.cons (.same (congrArg (D.osl _ _) hk300.symm) M) (.sames M M)),(.cons (EntW.lst M) .nil),aY [1000] M (by decide),fun _ _=>M⟩,?_⟩
          exact h
        ·
         replace h:=bY h hc298
         refine aT ?_
         refine aJ ⟨v257,(fun i=>i),⟨(.sames M M),(.cons (EntW.lst M) .nil),aY [1000] M (by decide),fun _ _=>M⟩,?_⟩
         exact h
       ·
        rintro v267 h
        unfold eI at h
        refine aU ?_
        obtain ⟨x268,hx268,h⟩:=aK h
        obtain ⟨x269,hx269,h⟩:=aK h
        obtain ⟨x270,hx270,h⟩:=aL h
        obtain ⟨x271,hx271,h⟩:=aL h
        obtain ⟨x272,hx272,h⟩:=aL h
        obtain ⟨x273,hx273,h⟩:=aL h
        obtain ⟨x274,hx274,h⟩:=aL h
        obtain ⟨x275,hx275,h⟩:=aK h
        obtain ⟨x276,hx276,h⟩:=aK h
        refine dN M [⟨[1],[],[(81,.int .i64 v71)],[]⟩,
         ⟨[81],[],[(82,.bool x268)],[]⟩,
         ⟨[82],[],[(83,.bool x268)],[]⟩,
         ⟨[4,83],[],[(84,.cnd (x268 == true) (.fn 27 []))],[]⟩,
         ⟨[0,83],[],[(85,.cnd (x268 == true) (.osl 1000 aC.sz v267.length))],[]⟩,
         ⟨[1,83],[],[(86,.cnd (x268 == true) (.int .i64 v71))],[]⟩,
         ⟨[83,86],[],[(87,.cnd (x268 == true) (.int .i64 x269))],[]⟩,
         ⟨[83,85,87],[],[(88,.cnd (x268 == true) (.ref 1000 (((x269:Int).toNat) * aC.sz + 0)))],[]⟩,
         ⟨[83,88],[1000],[(89,.cnd (x268 == true) (.agg (v2 x271)))],[]⟩,
         ⟨[0,83],[],[(90,.cnd (x268 == true) (.osl 1000 aC.sz v267.length))],[]⟩,
         ⟨[13,83],[],[(91,.cnd (x268 == true) (.int .i64 v258))],[]⟩,
         ⟨[83,90,91],[],[(92,.cnd (x268 == true) (.ref 1000 (((v258:Int).toNat) * aC.sz + 0)))],[]⟩,
         ⟨[83,92],[1000],[(93,.cnd (x268 == true) (.agg (v2 x273)))],[]⟩,
         ⟨[83,84,89,93],[],[(94,.cnd (x268 == true) (.int .i64 x274))],[]⟩,
         ⟨[83,94],[],[(95,.cnd (x268 == true) (.bool x275))],[]⟩,
         ⟨[83,95],[],[(96,.cnd (x268 == true) (.bool (!x275)))],[]⟩,
         ⟨[83,96],[],[(97,.bool x276)],[]⟩] M ?_ (by kernel_rfl) ?_
        ·refine .cons (lop M M fun S hA=>(aD M M (lb M) (svaI hA M M))) ?_
         refine .cons (lop M M fun S hA=>(aO M M (lb M) (svaI hA M M) (sv (d:=.int _ 0) M) M hx268)) ?_
         refine .cons (lop M M fun S hA=>(aD M M (lb M) (svaB hA M M))) ?_
         refine .cons (lopg M M M M (by decide) (fun S hA=>grd1 hA M M) (fun S hA hb=>(aD M M (lb M) (sv (d:=.fn 27 []) (agr hA M M))))) ?_
         refine .cons (lopg M M M M (by decide) (fun S hA=>grd1 hA M M) (fun S hA hb=>(aD M M (lb M) (sv (d:=.osl _ _ _) (agr hA M M))))) ?_
         refine .cons (lopg M M M M (by decide) (fun S hA=>grd1 hA M M) (fun S hA hb=>(aD M M (lb M) (svaI hA M M)))) ?_
         refine .cons (lopg M M M M (by decide) (fun S hA=>grd1 hA M M) (fun S hA hb=>(aQ M M (lb M) (svc (d:=.int _ _) (agr hA M M) hb) (sv (d:=.int _ 1) M) M hx269))) ?_
         refine .cons (lopg M M M M (by decide) (fun S hA=>grd1 hA M M) (fun S hA hb=>(aX aC.toEnc0 M M (lb M) underlying28 ti40 (svc (d:=.osl _ _ _) (agr hA M M) hb) M (svc (d:=.int _ _) (agr hA M M) hb) (gd_t hx270 hb)))) ?_
         refine .cons (lopg M M M M (by decide) (fun S hA=>grd1 hA M M) (fun S hA hb=>(bW aC.toEnc0 (cs:=q9) M M (lb M) underlying40 ag40 ti40 (by decide) (svc (d:=.ref _ _) (agr hA M M) hb) (agi hA M M) (gd_t hx271 hb) (nle M) M))) ?_
         refine .cons (lopg M M M M (by decide) (fun S hA=>grd1 hA M M) (fun S hA hb=>(aD M M (lb M) (sv (d:=.osl _ _ _) (agr hA M M))))) ?_
         refine .cons (lopg M M M M (by decide) (fun S hA=>grd1 hA M M) (fun S hA hb=>(aD M M (lb M) (svaI hA M M)))) ?_
         refine .cons (lopg M M M M (by decide) (fun S hA=>grd1 hA M M) (fun S hA hb=>(aX aC.toEnc0 M M (lb M) underlying28 ti40 (svc (d:=.osl _ _ _) (agr hA M M) hb) M (svc (d:=.int _ _) (agr hA M M) hb) (gd_t hx272 hb)))) ?_
         refine .cons (lopg M M M M (by decide) (fun S hA=>grd1 hA M M) (fun S hA hb=>(bW aC.toEnc0 (cs:=q9) M M (lb M) underlying40 ag40 ti40 (by decide) (svc (d:=.ref _ _) (agr hA M M) hb) (agi hA M M) (gd_t hx273 hb) (nle M) M))) ?_
         refine .cons (lopg M M M M (by decide) (fun S hA=>grd1 hA M M) (fun S hA hb=>(jO (r:=.int _ _) M M (lb M) cl27 (svc (d:=.fn 27 []) (agr hA M M) hb) (.cons (svc (d:=.agg (v2 x271)) (agr hA M M) hb) (.cons (svc (d:=.agg (v2 x273)) (agr hA M M) hb) .nil)) M (dS _ _ _ (gd_t hx274 hb))))) ?_
         refine .cons (lopg M M M M (by decide) (fun S hA=>grd1 hA M M) (fun S hA hb=>(aO M M (lb M) (svc (d:=.int _ _) (agr hA M M) hb) (sv (d:=.int _ 0) M) M hx275))) ?_
         refine .cons (lopg M M M M (by decide) (fun S hA=>grd1 hA M M) (fun S hA hb=>(eX M M (lb M) (svc (d:=.bool _) (agr hA M M) hb)))) ?_
         refine .cons (lop M M fun S hA=>(bC M M (lb M) (svaB hA M M) (agr hA M M) M hx276)) ?_
         exact .nil
        refine aW (b:=_) M (fun hc277=>?_) (fun hc277=>?_)
        ·
         replace h:=bX h hc277
         obtain ⟨x278,hx278,h⟩:=aL h
         obtain ⟨hk279,h⟩:=iG h
         refine aF (aA M (aD M M (lb M) (sv (d:=.osl _ _ _) M))<|aA M (mvI M M M M)<|aA M (mvI M M M M)<|aA M (mvI M M M M)<|aA M (aD M M (lb M) (sv (d:=.fn 27 []) M))<|aA M (bG (r':=.int .i64 x278.1) (H1':=[(1000,.blk 40 (D.flat (x278.2.map aC.d)))]) 0 [1000] M M (lb M) cl63 (.cons (sv (d:=.osl _ _ _) M) (.cons (svI M) (.cons (svI M) (.cons (svI M) (.cons (sv (d:=.fn 27 []) M) .nil))))) M M ⟨M,M,by decide,M,List.forall_mem_cons.2 ⟨⟨M,M,(fW aC M),(bK aC)⟩,List.forall_mem_nil _⟩⟩ (kG _ _ _ _ _ hx278) M M (List.forall_mem_cons.2 ⟨⟨M,(bK aC)⟩,List.forall_mem_nil _⟩) (by simp only [List.map_cons,List.map_nil,Ent.ren,bL,bT]; rfl))<|aA M (asI M M M M)<|aE ?_)
         refine aF (aA M (mvI M M M M)<|aA M (asI M M M M)<|aE ?_)
         refine cA ?_
         refine bD ?_
         refine cC ?_
         refine aJ ⟨(n0,x278.2,x278.1,v72,v73,v74,v248),(fun i=>i),⟨(.cons (.same (congrArg (D.osl _ _) hk279.symm) M) (.sames M M)),(.cons (EntW.lst M) .nil),aY [1000] M (by decide),fun _ _=>M⟩,?_,?_⟩
         exact h
         exact Nat.lt_succ_self _
        ·
         replace h:=bY h hc277
         refine aT ?_
         refine aJ ?_
         obtain ⟨x280,hx280,h⟩:=aL h
         obtain ⟨hk281,h⟩:=iG h
         refine aF (aA M (aD M M (lb M) (sv (d:=.osl _ _ _) M))<|aA M (mvI M M M M)<|aA M (mvI M M M M)<|aA M (mvI M M M M)<|aA M (aD M M (lb M) (sv (d:=.fn 27 []) M))<|aA M (bG (r':=.tuple [.int .i64 x280.1,.bool x280.2.1]) (H1':=[(1000,.blk 40 (D.flat (x280.2.2.map aC.d)))]) 0 [1000] M M (lb M) cl64 (.cons (sv (d:=.osl _ _ _) M) (.cons (svI M) (.cons (svI M) (.cons (svI M) (.cons (sv (d:=.fn 27 []) M) .nil))))) M M ⟨M,M,by decide,M,List.forall_mem_cons.2 ⟨⟨M,M,(fW aC M),(bK aC)⟩,List.forall_mem_nil _⟩⟩ (lD _ _ _ _ _ hx280) M M (List.forall_mem_cons.2 ⟨⟨M,(bK aC)⟩,List.forall_mem_nil _⟩) (by simp only [List.map_cons,List.map_nil,Ent.ren,bL,bT]; rfl))<|aA M (aD M M (lb M) (sv (d:=.tuple q19) M))<|aA M (cM (d:=.int _ _) M M (lb M) (sv (d:=.tuple q19) M) M)<|aA M (cM (d:=.bool _) M M (lb M) (sv (d:=.tuple q19) M) M)<|aA M (asI M M M M)<|aA M (asB M M M M)<|aE ?_)
         refine aF (aA M (mvB M M M M)<|aA M (asB M M M M)<|aE ?_)
         obtain ⟨x282,hx282,h⟩:=aK h
         obtain ⟨x283,hx283,h⟩:=aK h
         refine aF (aA M (mvI M M M M)<|aA M (mvI M M M M)<|aA M (aQ M M (lb M) (svI M) (svI M) M hx282)<|aA M (mvI M M M M)<|aA M (mvI M M M M)<|aA M (aQ M M (lb M) (svI M) (svI M) M hx283)<|aA M (asI M M M M)<|aA M (asI M M M M)<|aE ?_)
         obtain ⟨x284,hx284,h⟩:=aL h
         refine aF (aA M (mvI M M M M)<|aA M (lK M M (lb M) (svI M) (sv (d:=.int _ 8) M) hx284)<|aA M (asI M M M M)<|aE ?_)
         obtain ⟨x285,hx285,h⟩:=aK h
         refine aF (aA M (mvI M M M M)<|aA M (mvI M M M M)<|aA M (aO M M (lb M) (svI M) (svI M) M hx285)<|aE ?_)
         refine aW (b:=_) M (fun hc286=>?_) (fun hc286=>?_)
         ·
          replace h:=bX h hc286
          obtain ⟨x287,hx287,h⟩:=aK h
          refine aF (aA M (mvI M M M M)<|aA M (mvI M M M M)<|aA M (aO M M (lb M) (svI M) (svI M) M hx287)<|aA M (asB M M M M)<|aE ?_)
          obtain ⟨x288,hx288,h⟩:=aL h
          obtain ⟨hk289,h⟩:=iG h
          refine aF (aA M (aD M M (lb M) (sv (d:=.osl _ _ _) M))<|aA M (mvI M M M M)<|aA M (mvI M M M M)<|aA M (mvI M M M M)<|aA M (aD M M (lb M) (sv (d:=.fn 27 []) M))<|aA M (bG (r':=.tuple []) (H1':=[(1000,.blk 40 (D.flat (x288.map aC.d)))]) 0 [1000] M M (lb M) cl38 (.cons (sv (congrArg (D.osl _ _) hk281.symm)) (.cons (svI M) (.cons (svI M) (.cons (svI M) (.cons (sv (d:=.fn 27 []) M) .nil))))) M M ⟨M,M,by decide,M,List.forall_mem_cons.2 ⟨⟨M,M,(fW aC M),(bK aC)⟩,List.forall_mem_nil _⟩⟩ (ih _ _ _ _ _ hx288) M M (List.forall_mem_cons.2 ⟨⟨M,(bK aC)⟩,List.forall_mem_nil _⟩) (by simp only [List.map_cons,List.map_nil,Ent.ren,bL,bT]; rfl))<|aE ?_)
          obtain ⟨x290,hx290,h⟩:=aK h
          refine aS (aA M (mvI M M M M)<|aA M (aQ M M (lb M) (svI M) (sv (d:=.int _ 1) M) M hx290)<|aA M (asI M M M M)<|bE ?_)
          refine bI ?_
          refine aJ ⟨(n0,x288,x290,v72,x287,x280.2.1,v248),(fun i=>i),⟨(.cons (.same (congrArg (D.osl _ _) hk289.symm) M) (.sames M M)),(.cons (EntW.lst M) .nil),aY [1000] M (by decide),fun _ _=>M⟩,?_,?_⟩
          exact h
          exact Nat.lt_succ_self _
         ·
          replace h:=bY h hc286
          obtain ⟨x291,hx291,h⟩:=aK h
          refine aF (aA M (mvI M M M M)<|aA M (mvI M M M M)<|aA M (aO M M (lb M) (svI M) (svI M) M hx291)<|aA M (asB M M M M)<|aE ?_)
          obtain ⟨x292,hx292,h⟩:=aK h
          obtain ⟨x293,hx293,h⟩:=aL h
          obtain ⟨hk294,h⟩:=iG h
          refine aF (aA M (aD M M (lb M) (sv (d:=.osl _ _ _) M))<|aA M (mvI M M M M)<|aA M (aQ M M (lb M) (svI M) (sv (d:=.int _ 1) M) M hx292)<|aA M (mvI M M M M)<|aA M (mvI M M M M)<|aA M (aD M M (lb M) (sv (d:=.fn 27 []) M))<|aA M (bG (r':=.tuple []) (H1':=[(1000,.blk 40 (D.flat (x293.map aC.d)))]) 0 [1000] M M (lb M) cl38 (.cons (sv (congrArg (D.osl _ _) hk281.symm)) (.cons (svI M) (.cons (svI M) (.cons (svI M) (.cons (sv (d:=.fn 27 []) M) .nil))))) M M ⟨M,M,by decide,M,List.forall_mem_cons.2 ⟨⟨M,M,(fW aC M),(bK aC)⟩,List.forall_mem_nil _⟩⟩ (ih _ _ _ _ _ hx293) M M (List.forall_mem_cons.2 ⟨⟨M,(bK aC)⟩,List.forall_mem_nil _⟩) (by simp only [List.map_cons,List.map_nil,Ent.ren,bL,bT]; rfl))<|aE ?_)
          refine aS (aA M (mvI M M M M)<|aA M (asI M M M M)<|bE ?_)
          refine bI ?_
          refine aJ ⟨(n0,x293,v71,x280.1,x291,x280.2.1,v248),(fun i=>i),⟨(.cons (.same (congrArg (D.osl _ _) hk294.symm) M) (.sames M M)),(.cons (EntW.lst M) .nil),aY [1000] M (by decide),fun _ _=>M⟩,?_,?_⟩
          exact h
          exact Nat.lt_succ_self _

theorem kQ (a0:(List aG)) (r:(List aG)) (h:fG a0=some r):FnH prog 26 [.osl 1000 aC.sz a0.length,.fn 27 []] [(1000,.blk 40 (D.flat (a0.map aC.d)))] (retD []) [(1000,.blk 40 (D.flat (r.map aC.d)))]:=by
 refine cF (rs:=[]) func26 M ntmps26 (nle M) fun O hO=>?_
 show IWP _ _ _ _ ⟨[(0,.osl 1000 aC.sz a0.length),(1,.fn 27 [])],[(1000,.blk 40 (D.flat (a0.map aC.d)))]⟩ _
 unfold fG at h
 refine aF (aA M (aD M M (lb M) (sv (d:=.osl _ _ _) M))<|aA M (mW M M (lb M) underlying28 (sv (d:=.osl _ _ _) M))<|aA M (asI M M M M)<|aE ?_)
 obtain ⟨x1,hx1,h⟩:=aK h
 obtain ⟨x2,hx2,h⟩:=aL h
 obtain ⟨x3,hx3,h⟩:=aL h
 obtain ⟨hk4,h⟩:=iG h
 refine aS (aA M (aD M M (lb M) (sv (d:=.osl _ _ _) M))<|aA M (mvI M M M M)<|aA M (mvI M M M M)<|aA M (kX M M (lb M) ⟨_,underlying3⟩ underlying81 (svI M) hx1)<|aA M (bJ (r:=.int _ _) M M (lb M) cl39 (.cons (svI M) .nil) M (pN _ _ hx2))<|aA M (aD M M (lb M) (sv (d:=.fn 27 []) M))<|aA M (bG (r':=.tuple []) (H1':=[(1000,.blk 40 (D.flat (x3.map aC.d)))]) 0 [1000] M M (lb M) cl38 (.cons (sv (d:=.osl _ _ _) M) (.cons (sv (d:=.int _ 0) M) (.cons (svI M) (.cons (svI M) (.cons (sv (d:=.fn 27 []) M) .nil))))) M M ⟨M,M,by decide,M,List.forall_mem_cons.2 ⟨⟨M,M,(fW aC M),(bK aC)⟩,List.forall_mem_nil _⟩⟩ (lQ _ _ _ _ _ _ hx3) M M (List.forall_mem_cons.2 ⟨⟨M,(bK aC)⟩,List.forall_mem_nil _⟩) (by simp only [List.map_cons,List.map_nil,Ent.ren,bL,bT]; rfl))<|bE ?_)
 obtain rfl:=sj_ h
 refine ⟨.inl M,(fun i=>i),⟨.nil,(.cons (EntW.lst M) .nil),aY [1000] M (by decide),fun _ _=>M⟩,.nil,M⟩

theorem rC (a0:Int) (a1:Int) (a2:(List aP)) (a3:Int) (a4:Int) (a5:(List aM)) (a6:Int) (a7:(List Int)) (r:(List aG)) (h:nW a0 a1 a2 a3 a4 a5 a6 a7=some r):FnH prog 9 [.ref 1000 0] [(1000,.blk 60 (mixD aB.toEnc0 (w22 a0 a1 a2 a3 a4) a5 [.int .i64 a6,.osl 1001 (eInt .i64).sz a7.length])),(1001,.blk 3 (D.flat (a7.map (eInt .i64).d)))] (.osl 0 aC.sz r.length) [(1000,.blk 60 (mixD aB.toEnc0 (w22 a0 a1 a2 a3 a4) a5 [.int .i64 a6,.osl 1001 (eInt .i64).sz a7.length])),(1001,.blk 3 (D.flat (a7.map (eInt .i64).d))),(0,.blk 40 (D.flat (r.map aC.d)))]:=by
 refine cF (rs:=[.osl 0 aC.sz r.length]) func9 M ntmps9 (nle M) fun O hO=>?_
 show IWP _ _ _ _ ⟨[(0,.ref 1000 0)],[(1000,.blk 60 (mixD aB.toEnc0 (w22 a0 a1 a2 a3 a4) a5 [.int .i64 a6,.osl 1001 (eInt .i64).sz a7.length])),(1001,.blk 3 (D.flat (a7.map (eInt .i64).d)))]⟩ _
 unfold nW at h
 refine aF (aA M (aI M M (lb M) (sv (d:=.nils) M))<|aE ?_)
 refine aU ?_
 refine aF (aA M (mvR M M M M)<|aA M (pT M M (lb M) underlying26 (svR M) (sv (d:=.nilp) M))<|aE ?_)
 refine gM M M ?_
 refine aT ?_
 refine aJ ?_
 refine aF (aA M (aI M M (lb M) (sv (d:=.nils) M))<|aE ?_)
 refine aU ?_
 obtain ⟨x1,hx1,h⟩:=aL h
 refine aF (aA M (mvR M M M M)<|aA M (aN M M (lb M) (svR M))<|aA M (faR 2 M M M underlying60 M ti55 (lb M) M M)<|aA M (pS aB.toEnc0 (cs:=q10) M M (lb M) underlying55 ag55 ti55 (by decide) (svR M) M (nle M) (by rfl))<|aA M (bJ (r:=.slice _ _) M M (lb M) cl24 (.cons (svA q10 M) .nil) M (sM _ _ hx1))<|aA M (dU (eInt .i64) (l:=x1) M M (lb M) underlying24 (svL M))<|aA M (aD M M (lb M) (sv (d:=.int _ 0) M))<|aE ?_)
 refine aV ?_
 refine bS (α:=Nat × (List aG) × Int) (fun z=>⟨[(0,.ref 1000 0),(3,.osl 21 aC.sz z.2.1.length),(13,.slice false (x1.map (eInt .i64).d)),(14,.int .i64 (x1.length:Int)),(15,.int .i64 z.2.2)],[(1000,.blk 60 (mixD aB.toEnc0 (w22 a0 a1 a2 a3 a4) a5 [.int .i64 a6,.osl 1001 (eInt .i64).sz a7.length])),(21,.blk 40 (D.flat (z.2.1.map aC.d))),(1001,.blk 3 (D.flat (a7.map (eInt .i64).d)))]⟩) (fun z=>jD a0 a1 a2 a3 a4 a5 a6 a7 x1 z.1 z.2.1 z.2.2=some r) (fun z=>z.1) (fuel,([]:(List aG)),0) (fun i=>if i=21 then 71 else i) ⟨(.s M M (.cons (.nilo M) (.sames M M))),(.cons (EntW.mix aB M (SubC.of_eq M) (SubC.of_eq M) M M) (.cons (.nilb M) (.cons (EntW.lst M) .nil))),aY [1000,71,1001] M (by decide),(fun i hi=>by first | rfl | (show (if _ then _ else _)=_; (repeat' split) <;> omega))⟩ ?_ ?_
 ·exact h
 ·
  rintro ⟨n0,v11,v12⟩ h
  cases n0 with
  | zero=>exact absurd h (by unfold jD; exact nofun)
  | succ n0 =>
   unfold jD at h
   obtain ⟨x22,hx22,h⟩:=aK h
   refine aF (aA M (aO M M (lb M) (svI M) (svI M) M hx22)<|aE ?_)
   refine aU ?_
   refine aW (b:=_) M (fun hc23=>?_) (fun hc23=>?_)
   ·
    replace h:=bX h hc23
    refine aT ?_
    refine aJ ?_
    refine aU ?_
    refine aV ?_
    obtain ⟨x24,hx24,h⟩:=aL h
    refine aF (aA M (iV (eInt .i64) (cs:=[.int _ _]) M M (lb M) underlying24 ti3 (svL M) (svI M) hx24 M M)<|aA M (iU M M (lb M) underlying3 ag3 ti3 (by decide) (sv (d:=.fptr [.int _ _]) M) (nle M))<|aA M (asI M M M M)<|aE ?_)
    obtain ⟨x25,hx25,h⟩:=aL h
    obtain ⟨hk26,h⟩:=iG h
    obtain ⟨x27,hx27,h⟩:=aL h
    refine aF (aA M (mvR M M M M)<|aA M (mvI M M M M)<|aA M (aN M M (lb M) (svR M))<|aA M (faR 5 M M M underlying60 M ti58 (lb M) M M)<|aA M (dO aB.toEnc0 M M (lb M) underlying58 ti57 (svR M) hk26 (svI M) hx25)<|aA M (vW aB.toEnc0 (b:=5) (k:=0) (cs:=q6) M M (lb M) underlying57 ag57 ti57 (by decide) (svR M) M M hx27 (nle M) M)<|aA M (gN (cs:=q6) (cs':=[.int .i64 0,.int .i64 0,.int .i64 0,.int .i64 0,.int .i64 0,.bool false]) 22 M M (lb M) M ti57 M M (.all _))<|aA M (stA q6 q6 ti57 M M M M M M M M (nle M) M)<|aE ?_)
    obtain ⟨x28,hx28,h⟩:=aL h
    obtain ⟨x29,hx29,h⟩:=aL h
    refine iM M [⟨[3],[],[(25,.osl 21 aC.sz v11.length)],[]⟩,
     ⟨[6],[],[(26,.ref 22 0)],[]⟩,
     ⟨[26],[22],[(27,.int .i64 x27.id)],[]⟩,
     ⟨[0],[],[(28,.ref 1000 0)],[]⟩,
     ⟨[6],[],[(29,.ref 22 1)],[]⟩,
     ⟨[29],[22],[(30,.int .i64 x27.up)],[]⟩,
     ⟨[28,30],[1000,1001],[(31,.int .i64 x28)],[]⟩,
     ⟨[6],[],[(32,.ref 22 4)],[]⟩,
     ⟨[32],[22],[(33,.int .i64 x27.weight)],[]⟩,
     ⟨[6],[],[(34,.ref 22 5)],[]⟩,
     ⟨[34],[22],[(35,.bool x27.closed)],[]⟩,
     ⟨[27,31,33,35],[],[(36,.agg (w23 x27.id x28 x27.weight x27.closed))],[]⟩,
     ⟨[36],[23],[(37,.osl 23 aC.sz (([(⟨x27.id,x28,x27.weight,x27.closed⟩:aG)]:(List aG)).length))],[(23,.blk 40 (D.flat ((([(⟨x27.id,x28,x27.weight,x27.closed⟩:aG)]:(List aG))).map aC.d)))]⟩,
     ⟨[25,37],[21,23,24],[(38,.osl 24 aC.sz x29.length)],[(24,.blk 40 (D.flat (x29.map aC.d))),(21,.none)]⟩,
     ⟨[38],[],[(3,.osl 24 aC.sz x29.length)],[]⟩] M ?_ (by kernel_rfl) ?_
    ·refine .cons (lop M M fun S hA=>(aD M M (lb M) (sv (d:=.osl _ _ _) (agr hA M M)))) ?_
     refine .cons (lop M M fun S hA=>(bF M M (lb M) underlying57 M ti3 (by decide) (svaR hA M M) (off':=0) M)) ?_
     refine .cons (lop M M fun S hA=>(aR (d:=.int _ _) M M (lb M) underlying3 ag3 ti3 (by decide) (svaR hA M M) (agi hA M M) (nle M) M)) ?_
     refine .cons (lop M M fun S hA=>(aD M M (lb M) (svaR hA M M))) ?_
     refine .cons (lop M M fun S hA=>(bF M M (lb M) underlying57 M ti3 (by decide) (svaR hA M M) (off':=1) M)) ?_
     refine .cons (lop M M fun S hA=>(aR (d:=.int _ _) M M (lb M) underlying3 ag3 ti3 (by decide) (svaR hA M M) (agi hA M M) (nle M) M)) ?_
     refine .cons (lop M M fun S hA=>(iF (r':=.int .i64 x28) (V:=[(1000,.blk 60 (mixD aB.toEnc0 (w22 a0 a1 a2 a3 a4) a5 [.int .i64 a6,.osl 1001 (eInt .i64).sz a7.length])),(1001,.blk 3 (D.flat (a7.map (eInt .i64).d)))]) 23 [1000,1001] M M (lb M) cl25 (.cons (svaR hA M M) (.cons (svaI hA M M) .nil)) M M M ⟨by decide,M,List.forall_mem_cons.2 ⟨⟨M,M,(jI aB (agi hA M M) M M),(cW aB M M)⟩,List.forall_mem_cons.2 ⟨⟨M,M,(fW (eInt .i64) (agi hA M M)),(bK (eInt .i64))⟩,List.forall_mem_nil _⟩⟩⟩ (jV _ _ _ _ _ _ _ _ _ _ hx28) M M (List.forall_mem_cons.2 ⟨⟨M,(cW aB M M)⟩,List.forall_mem_cons.2 ⟨⟨M,(bK (eInt .i64))⟩,List.forall_mem_nil _⟩⟩) (by simp only [List.map_cons,List.map_nil,Ent.ren,bL,bT,dE]; rfl) (List.forall_mem_cons.2 ⟨(agi hA M M),List.forall_mem_cons.2 ⟨(agi hA M M),List.forall_mem_nil _⟩⟩) M)) ?_
     refine .cons (lop M M fun S hA=>(bF M M (lb M) underlying57 M ti3 (by decide) (svaR hA M M) (off':=4) M)) ?_
     refine .cons (lop M M fun S hA=>(aR (d:=.int _ _) M M (lb M) underlying3 ag3 ti3 (by decide) (svaR hA M M) (agi hA M M) (nle M) M)) ?_
     refine .cons (lop M M fun S hA=>(bF M M (lb M) underlying57 M ti4 (by decide) (svaR hA M M) (off':=5) M)) ?_
     refine .cons (lop M M fun S hA=>(aR (d:=.bool _) M M (lb M) underlying4 ag4 ti4 (by decide) (svaR hA M M) (agi hA M M) (nle M) M)) ?_
     refine .cons (lop M M fun S hA=>(cV (cs:=q9) M M (lb M) underlying40 ti40 pl40 M (.cons (svaI hA M M) (.cons (svaI hA M M) (.cons (svaI hA M M) (.cons (svaB hA M M) .nil)))) M)) ?_
     refine .cons (lop M M fun S hA=>(nM aC.toEnc0 ([(⟨x27.id,x28,x27.weight,x27.closed⟩:aG)]:(List aG)) 23 M M (lb M) underlying28 ti40 (agi hA M M) (.cons (svaA q9 hA M M) .nil) M M (by decide))) ?_
     refine .cons (lop M M fun S hA=>(lZ aC.toEnc0 24 M M (lb M) underlying28 ti40 M (agr hA M M) M (agi hA M M) (agi hA M M) (rQ aC.toEnc0 (agr hA M M) M (agi hA M M)) hx29)) ?_
     refine .cons (lop M M fun S hA=>(aI M M (lb M) (sv (d:=.osl _ _ _) (agr hA M M)))) ?_
     exact .nil
    refine bI ?_
    refine aJ ?_
    obtain ⟨x30,hx30,h⟩:=aK h
    refine aS (aA M (aQ M M (lb M) (svI M) (sv (d:=.int _ 1) M) M hx30)<|aA M (mvI M M M M)<|bE ?_)
    refine aJ ⟨(n0,x29,x30),(fun i=>if i=21 then 24 else i),⟨(.sames M M),(.cons (EntW.mix aB M (SubC.of_eq M) (SubC.of_eq M) M M) (.cons (EntW.lst M) (.cons (EntW.lst M) .nil))),aY [1000,24,1001] M (by decide),(fun i hi=>by first | rfl | (show (if _ then _ else _)=_; (repeat' split) <;> omega))⟩,?_,?_⟩
    exact h
    exact Nat.lt_succ_self _
   ·
    replace h:=bY h hc23
    refine cA ?_
    refine bD ?_
    refine bD ?_
    refine cC ?_
    refine aJ ?_
    obtain ⟨x31,hx31,h⟩:=aL h
    obtain ⟨hk32,h⟩:=iG h
    refine aF (aA M (aD M M (lb M) (sv (d:=.osl _ _ _) M))<|aA M (bG (r':=.tuple []) (H1':=[(21,.blk 40 (D.flat (x31.map aC.d)))]) 22 [21] M M (lb M) cl26 (.cons (sv (d:=.osl _ _ _) M) (.cons (sv (d:=.fn 27 []) M) .nil)) M M ⟨M,M,by decide,M,List.forall_mem_cons.2 ⟨⟨M,M,(fW aC M),(bK aC)⟩,List.forall_mem_nil _⟩⟩ (kQ _ _ hx31) M M (List.forall_mem_cons.2 ⟨⟨M,(bK aC)⟩,List.forall_mem_nil _⟩) (by simp only [List.map_cons,List.map_nil,Ent.ren,bL,bT]; rfl))<|aE ?_)
    refine aF (aA M (aD M M (lb M) (sv (d:=.osl _ _ _) M))<|aA M (aI M M (lb M) (sv (d:=.osl _ _ _) M))<|aE ?_)
    refine bB ?_
    obtain rfl:=sj_ h
    refine ⟨.inr M,(fun i=>if i=0 then 21 else i),⟨.nil,(.cons (EntW.mix aB M (SubC.of_eq M) (SubC.of_eq M) M M) (.cons (EntW.lst M) (.cons (EntW.lst M) .nil))),aY [1000,1001,21] M (by decide),(fun i hi=>by first | rfl | (show (if _ then _ else _)=_; (repeat' split) <;> omega))⟩,(.cons (sv (congrArg (D.osl _ _) hk32.symm)) .nil),M⟩

theorem qR (a0:(List aG)) (r:(List aG)) (h:nH a0=some r):FnH prog 19 [.osl 1000 aC.sz a0.length] [(1000,.blk 40 (D.flat (a0.map aC.d)))] (.slice false (r.map aC.d)) [(1000,.blk 40 (D.flat (a0.map aC.d)))]:=by
 refine cF (rs:=[.slice false (r.map aC.d)]) func19 M ntmps19 (nle M) fun O hO=>?_
 show IWP _ _ _ _ ⟨[(0,.osl 1000 aC.sz a0.length)],[(1000,.blk 40 (D.flat (a0.map aC.d)))]⟩ _
 unfold nH at h
 refine aF (aA M (aI M M (lb M) (sv (d:=.nils) M))<|aE ?_)
 refine aF (aA M (aI M M (lb M) (sv (d:=.nils) M))<|aE ?_)
 refine aU ?_
 refine aF (aA M (aI M M (lb M) (sv (d:=.int _ 0) M))<|aE ?_)
 refine aV ?_
 refine bS (α:=Nat × (List aG) × Int) (fun z=>⟨[(0,.osl 1000 aC.sz a0.length),(3,.gsl 21 aC.sz (z.2.1.map aC.d)),(4,.int .i64 z.2.2)],[(1000,.blk 40 (D.flat (a0.map aC.d))),(21,.tail 50 aC.sz z.2.1.length)]⟩) (fun z=>iN a0 z.1 z.2.1 z.2.2=some r) (fun z=>z.1) (fuel,([]:(List aG)),0) (fun i=>if i=21 then 71 else i) ⟨(.s M M (.cons (.nils M) (.sames M M))),(.cons (EntW.lst M) (.cons (.nils M) .nil)),aY [1000,71] M (by decide),(fun i hi=>by first | rfl | (show (if _ then _ else _)=_; (repeat' split) <;> omega))⟩ ?_ ?_
 ·exact h
 ·
  rintro ⟨n0,v7,v8⟩ h
  cases n0 with
  | zero=>exact absurd h (by unfold iN; exact nofun)
  | succ n0 =>
   unfold iN at h
   refine aU ?_
   obtain ⟨x15,hx15,h⟩:=aK h
   refine aF (aA M (mvI M M M M)<|aA M (aD M M (lb M) (sv (d:=.osl _ _ _) M))<|aA M (mW M M (lb M) underlying28 (sv (d:=.osl _ _ _) M))<|aA M (aO M M (lb M) (svI M) (svI M) M hx15)<|aE ?_)
   refine aW (b:=_) M (fun hc16=>?_) (fun hc16=>?_)
   ·
    replace h:=bX h hc16
    refine aT ?_
    refine aJ ?_
    refine aU ?_
    refine aV ?_
    obtain ⟨x17,hx17,h⟩:=aL h
    obtain ⟨x18,hx18,h⟩:=aL h
    obtain ⟨x19,hx19,h⟩:=aL h
    refine aS (aA M (aD M M (lb M) (sv (d:=.gsl _ _ _) M))<|aA M (aD M M (lb M) (sv (d:=.osl _ _ _) M))<|aA M (mvI M M M M)<|aA M (aX aC.toEnc0 M M (lb M) underlying28 ti40 (sv (d:=.osl _ _ _) M) M (svI M) hx17)<|aA M (bW aC.toEnc0 (cs:=q9) M M (lb M) underlying40 ag40 ti40 (by decide) (svR M) M hx18 (nle M) M)<|aA M (sH aC ([x18]:(List aG)) 22 M M (lb M) underlying46 ti50 M (.cons (svA q9 M) .nil) M M (by decide))<|aA M (wJ aC 23 M M (lb M) underlying46 ti50 M M M M (svg M) hx19)<|aA M (aI M M (lb M) (sv (d:=.gsl _ _ _) M))<|bE ?_)
    refine bI ?_
    refine aJ ?_
    obtain ⟨x20,hx20,h⟩:=aK h
    refine aS (aA M (mvI M M M M)<|aA M (aQ M M (lb M) (svI M) (sv (d:=.int _ 1) M) M hx20)<|aA M (asI M M M M)<|bE ?_)
    refine aJ ⟨(n0,x19,x20),(fun i=>if i=21 then 23 else i),⟨(.sames M M),(.cons (EntW.lst M) (.cons (.tail M) .nil)),aY [1000,23] M (by decide),(fun i hi=>by first | rfl | (show (if _ then _ else _)=_; (repeat' split) <;> omega))⟩,?_,?_⟩
    exact h
    exact Nat.lt_succ_self _
   ·
    replace h:=bY h hc16
    refine cA ?_
    refine bD ?_
    refine bD ?_
    refine cC ?_
    refine aJ ?_
    refine aF (aA M (aD M M (lb M) (sv (d:=.gsl _ _ _) M))<|aA M (aI M M (lb M) (sv (d:=.gsl _ _ _) M))<|aE ?_)
    refine bB ?_
    obtain rfl:=sj_ h
    refine ⟨.inr M,(fun i=>i),⟨.nil,(.cons (EntW.lst M) .nil),aY [1000] M (by decide),fun _ _=>M⟩,(.cons (yW M M) .nil),M⟩

theorem rI (a0:Int) (a1:Int) (a2:Int) (a3:(List aP)) (a4:Int) (a5:Int) (a6:(List aM)) (a7:Int) (a8:(List Int)) (r:(List Int)) (h:oN a0 a1 a2 a3 a4 a5 a6 a7 a8=some r):FnH prog 11 [.ref 1000 0,.int .i64 a0] [(1000,.blk 60 (mixD aB.toEnc0 (w22 a1 a2 a3 a4 a5) a6 [.int .i64 a7,.osl 1001 (eInt .i64).sz a8.length])),(1001,.blk 3 (D.flat (a8.map (eInt .i64).d)))] (.osl 0 (eInt .i64).sz r.length) [(1000,.blk 60 (mixD aB.toEnc0 (w22 a1 a2 a3 a4 a5) a6 [.int .i64 a7,.osl 1001 (eInt .i64).sz a8.length])),(1001,.blk 3 (D.flat (a8.map (eInt .i64).d))),(0,.blk 3 (D.flat (r.map (eInt .i64).d)))]:=by
 refine cF (rs:=[.osl 0 (eInt .i64).sz r.length]) func11 M ntmps11 (nle M) fun O hO=>?_
 show IWP _ _ _ _ ⟨[(0,.ref 1000 0),(1,.int .i64 a0)],[(1000,.blk 60 (mixD aB.toEnc0 (w22 a1 a2 a3 a4 a5) a6 [.int .i64 a7,.osl 1001 (eInt .i64).sz a8.length])),(1001,.blk 3 (D.flat (a8.map (eInt .i64).d)))]⟩ _
 unfold oN at h
 refine aF (aA M (aI M M (lb M) (sv (d:=.nils) M))<|aE ?_)
 refine aU ?_
 refine aF (aA M (mvR M M M M)<|aA M (pT M M (lb M) underlying26 (svR M) (sv (d:=.nilp) M))<|aE ?_)
 refine gM M M ?_
 refine aT ?_
 refine aJ ?_
 refine aF (aA M (aI M M (lb M) (sv (d:=.nils) M))<|aE ?_)
 obtain ⟨x1,hx1,h⟩:=aL h
 refine aF (aA M (mvR M M M M)<|aA M (mvI M M M M)<|aA M (iF (r':=.int .i64 x1) (V:=[(1000,.blk 60 (mixD aB.toEnc0 (w22 a1 a2 a3 a4 a5) a6 [.int .i64 a7,.osl 1001 (eInt .i64).sz a8.length])),(1001,.blk 3 (D.flat (a8.map (eInt .i64).d)))]) 0 [1000,1001] M M (lb M) cl28 (.cons (svR M) (.cons (svI M) .nil)) M M M ⟨by decide,M,List.forall_mem_cons.2 ⟨⟨M,M,(jI aB M M M),(cW aB M M)⟩,List.forall_mem_cons.2 ⟨⟨M,M,(fW (eInt .i64) M),(bK (eInt .i64))⟩,List.forall_mem_nil _⟩⟩⟩ (gJ _ _ _ _ _ _ _ _ _ _ hx1) M M (List.forall_mem_cons.2 ⟨⟨M,(cW aB M M)⟩,List.forall_mem_cons.2 ⟨⟨M,(bK (eInt .i64))⟩,List.forall_mem_nil _⟩⟩) (by simp only [List.map_cons,List.map_nil,Ent.ren,bL,bT,dE]; rfl) (List.forall_mem_cons.2 ⟨M,List.forall_mem_cons.2 ⟨M,List.forall_mem_nil _⟩⟩) M)<|aA M (asI M M M M)<|aE ?_)
 refine aU ?_
 refine aV ?_
 refine bS (α:=Nat × (List Int) × Int) (fun z=>⟨[(0,.ref 1000 0),(5,.osl 21 (eInt .i64).sz z.2.1.length),(6,.int .i64 z.2.2)],[(1000,.blk 60 (mixD aB.toEnc0 (w22 a1 a2 a3 a4 a5) a6 [.int .i64 a7,.osl 1001 (eInt .i64).sz a8.length])),(21,.blk 3 (D.flat (z.2.1.map (eInt .i64).d))),(1001,.blk 3 (D.flat (a8.map (eInt .i64).d)))]⟩) (fun z=>jL a1 a2 a3 a4 a5 a6 a7 a8 z.1 z.2.1 z.2.2=some r) (fun z=>z.1) (fuel,([]:(List Int)),x1) (fun i=>if i=21 then 71 else i) ⟨(.s M M (.cons (.nilo M) (.sames M M))),(.cons (EntW.mix aB M (SubC.of_eq M) (SubC.of_eq M) M M) (.cons (.nilb M) (.cons (EntW.lst M) .nil))),aY [1000,71,1001] M (by decide),(fun i hi=>by first | rfl | (show (if _ then _ else _)=_; (repeat' split) <;> omega))⟩ ?_ ?_
 ·exact h
 ·
  rintro ⟨n0,v14,v15⟩ h
  cases n0 with
  | zero=>exact absurd h (by unfold jL; exact nofun)
  | succ n0 =>
   unfold jL at h
   refine aU ?_
   obtain ⟨x28,hx28,h⟩:=aK h
   obtain ⟨x29,hx29,h⟩:=aL h
   obtain ⟨hk30,h⟩:=iG h
   obtain ⟨x31,hx31,h⟩:=aL h
   obtain ⟨x32,hx32,h⟩:=aK h
   obtain ⟨x33,hx33,h⟩:=aK h
   refine aF (aA M (mvI M M M M)<|aA M (aO M M (lb M) (svI M) (sv (d:=.int _ (-1)) M) M hx28)<|aA M (mvB M M M M)<|aH M M (.one M) M (by decide) (fun hb=>(mvR M M M M))<|aH M M (.one M) M (by decide) (fun hb=>(mvI M M M M))<|aH M M (.one M) M (by decide) (fun hb=>(aN M M (lb M) (svcR M hb)))<|aH M M (.one M) M (by decide) (fun hb=>(bF M M (lb M) underlying60 M ti58 (by decide) (svcR M hb) (off':=5) M))<|aH M M (.one M) M (by decide) (fun hb=>(dO aB.toEnc0 M M (lb M) underlying58 ti57 (svcR M hb) (hk30 hb) (svcI M hb) (gd_t hx29 hb)))<|aH M M (.one M) M (by decide) (fun hb=>(cB M M (lb M) underlying57 M ti3 (by decide) (svcR M hb) (k':=1) M))<|aH M M (.one M) M (by decide) (fun hb=>(cI aB.toEnc0 (b:=5) (k:=1) (d:=.int _ _) M M (lb M) underlying3 ag3 ti3 (by decide) (svcR M hb) M M (gd_t hx31 hb) (nle M) M))<|aH M M (.one M) M (by decide) (fun hb=>(aO M M (lb M) (svcI M hb) (sv (d:=.int _ (-1)) M) M hx32))<|aA M (bC M M (lb M) (svB M) M M hx33)<|aE ?_)
   refine aW (b:=_) M (fun hc34=>?_) (fun hc34=>?_)
   ·
    replace h:=bX h hc34
    refine aT ?_
    refine aJ ?_
    refine aV ?_
    obtain ⟨x35,hx35,h⟩:=aL h
    obtain ⟨hk36,h⟩:=iG h
    obtain ⟨x37,hx37,h⟩:=aL h
    refine aF (aA M (mvR M M M M)<|aA M (mvI M M M M)<|aA M (aN M M (lb M) (svR M))<|aA M (faR 5 M M M underlying60 M ti58 (lb M) M M)<|aA M (dO aB.toEnc0 M M (lb M) underlying58 ti57 (svR M) hk36 (svI M) hx35)<|aA M (cB M M (lb M) underlying57 M ti3 (by decide) (svR M) (k':=1) M)<|aA M (cI aB.toEnc0 (b:=5) (k:=1) (d:=.int _ _) M M (lb M) underlying3 ag3 ti3 (by decide) (svR M) M M hx37 (nle M) M)<|aA M (asI M M M M)<|aE ?_)
    obtain ⟨x38,hx38,h⟩:=aL h
    obtain ⟨x39,hx39,h⟩:=aL h
    refine aS (aA M (aD M M (lb M) (sv (d:=.osl _ _ _) M))<|aA M (mvR M M M M)<|aA M (mvI M M M M)<|aA M (iF (r':=.int .i64 x38) (V:=[(1000,.blk 60 (mixD aB.toEnc0 (w22 a1 a2 a3 a4 a5) a6 [.int .i64 a7,.osl 1001 (eInt .i64).sz a8.length])),(1001,.blk 3 (D.flat (a8.map (eInt .i64).d)))]) 22 [1000,1001] M M (lb M) cl25 (.cons (svR M) (.cons (svI M) .nil)) M M M ⟨by decide,M,List.forall_mem_cons.2 ⟨⟨M,M,(jI aB M M M),(cW aB M M)⟩,List.forall_mem_cons.2 ⟨⟨M,M,(fW (eInt .i64) M),(bK (eInt .i64))⟩,List.forall_mem_nil _⟩⟩⟩ (jV _ _ _ _ _ _ _ _ _ _ hx38) M M (List.forall_mem_cons.2 ⟨⟨M,(cW aB M M)⟩,List.forall_mem_cons.2 ⟨⟨M,(bK (eInt .i64))⟩,List.forall_mem_nil _⟩⟩) (by simp only [List.map_cons,List.map_nil,Ent.ren,bL,bT,dE]; rfl) (List.forall_mem_cons.2 ⟨M,List.forall_mem_cons.2 ⟨M,List.forall_mem_nil _⟩⟩) M)<|aA M (nM (eInt .i64).toEnc0 ([x38]:(List Int)) 22 M M (lb M) underlying24 ti3 M (.cons (svI M) .nil) M M (by decide))<|aA M (lZ (eInt .i64).toEnc0 23 M M (lb M) underlying24 ti3 M M M M M (rQ (eInt .i64).toEnc0 M M M) hx39)<|aA M (aI M M (lb M) (sv (d:=.osl _ _ _) M))<|bE ?_)
    refine bI ?_
    refine aJ ⟨(n0,x39,x37.up),(fun i=>if i=21 then 23 else i),⟨(.sames M M),(.cons (EntW.mix aB M (SubC.of_eq M) (SubC.of_eq M) M M) (.cons (EntW.lst M) (.cons (EntW.lst M) .nil))),aY [1000,23,1001] M (by decide),(fun i hi=>by first | rfl | (show (if _ then _ else _)=_; (repeat' split) <;> omega))⟩,?_,?_⟩
    exact h
    exact Nat.lt_succ_self _
   ·
    replace h:=bY h hc34
    refine cA ?_
    refine bD ?_
    refine bD ?_
    refine cC ?_
    refine aJ ?_
    refine aF (aA M (aD M M (lb M) (sv (d:=.osl _ _ _) M))<|aA M (aI M M (lb M) (sv (d:=.osl _ _ _) M))<|aE ?_)
    refine bB ?_
    obtain rfl:=sj_ h
    refine ⟨.inr M,(fun i=>if i=0 then 21 else i),⟨.nil,(.cons (EntW.mix aB M (SubC.of_eq M) (SubC.of_eq M) M M) (.cons (EntW.lst M) (.cons (EntW.lst M) .nil))),aY [1000,1001,21] M (by decide),(fun i hi=>by first | rfl | (show (if _ then _ else _)=_; (repeat' split) <;> omega))⟩,(.cons (sv M) .nil),M⟩

theorem qT (a0:Int) (r:Bool) (h:pJ a0=some r):fS prog 90 [.int .i64 a0] (.bool r):=by
 refine cR (rs:=[.bool r]) func90 M ntmps90 (nle M) M fun O hO=>?_
 show IWP _ _ _ _ ⟨[(0,.int .i64 a0)],[]⟩ _
 unfold pJ at h
 refine aF (aA M (aI M M (lb M) (sv (d:=.bool false) M))<|aE ?_)
 obtain ⟨x1,hx1,h⟩:=aK h
 refine aF (aA M (mvI M M M M)<|aA M (mvI M M M M)<|aA M (aO M M (lb M) (svI M) (svI M) M hx1)<|aA M (asB M M M M)<|aE ?_)
 refine bB ?_
 obtain rfl:=sj_ h
 refine ⟨.inr M,(.cons (sv M) .nil)⟩

theorem fR (a0:Int) (a1:Int) (r:Bool) (h:gD a0 a1=some r):fS prog 73 [.int .i64 a0,.int .i64 a1] (.bool r):=by
 refine cR (rs:=[.bool r]) func73 M ntmps73 (nle M) M fun O hO=>?_
 show IWP _ _ _ _ ⟨[(0,.int .i64 a0),(1,.int .i64 a1)],[]⟩ _
 unfold gD at h
 refine aF (aA M (aI M M (lb M) (sv (d:=.bool false) M))<|aE ?_)
 obtain ⟨x1,hx1,h⟩:=aL h
 obtain ⟨x2,hx2,h⟩:=aL h
 obtain ⟨x3,hx3,h⟩:=aK h
 obtain ⟨x4,hx4,h⟩:=aK h
 obtain ⟨x5,hx5,h⟩:=aK h
 refine aF (aA M (mvI M M M M)<|aA M (bJ (r:=.bool _) M M (lb M) cl90 (.cons (svI M) .nil) M (qT _ _ hx1))<|aA M (mvB M M M M)<|aH M M (.one M) M (by decide) (fun hb=>(mvI M M M M))<|aH M M (.one M) M (by decide) (fun hb=>(bJ (r:=.bool _) M M (lb M) cl90 (.cons (svcI M hb) .nil) M (qT _ _ (gd_t hx2 hb))))<|aH M M (.one M) M (by decide) (fun hb=>(eX M M (lb M) (svcB M hb)))<|aA M (bC M M (lb M) (svB M) M M hx3)<|aA M (mvB M M M M)<|aH M M (.one M) M (by decide) (fun hb=>(mvI M M M M))<|aH M M (.one M) M (by decide) (fun hb=>(mvI M M M M))<|aH M M (.one M) M (by decide) (fun hb=>(aO M M (lb M) (svcI M hb) (svcI M hb) M hx4))<|aA M (qN M M (lb M) (svB M) M M hx5)<|aA M (asB M M M M)<|aE ?_)
 refine bB ?_
 obtain rfl:=sj_ h
 refine ⟨.inr M,(.cons (sv M) .nil)⟩

theorem nJ (a0:Int) (a1:Int) (a2:(List Int)) (r:(List Int)) (h:hZ a0 a1 a2=some r):FnH prog 67 [.osl 1000 (eInt .i64).sz a2.length,.int .i64 a0,.int .i64 a1] [(1000,.blk 3 (D.flat (a2.map (eInt .i64).d)))] (retD []) [(1000,.blk 3 (D.flat (r.map (eInt .i64).d)))]:=by
 refine cF (rs:=[]) func67 M ntmps67 (nle M) fun O hO=>?_
 show IWP _ _ _ _ ⟨[(0,.osl 1000 (eInt .i64).sz a2.length),(1,.int .i64 a0),(2,.int .i64 a1)],[(1000,.blk 3 (D.flat (a2.map (eInt .i64).d)))]⟩ _
 unfold hZ at h
 obtain ⟨x1,hx1,h⟩:=aK h
 refine aF (aA M (mvI M M M M)<|aA M (aQ M M (lb M) (svI M) (sv (d:=.int _ 1) M) M hx1)<|aA M (asI M M M M)<|aE ?_)
 refine aV ?_
 refine bS (α:=Nat × (List Int) × Int) (fun z=>⟨[(0,.osl 1000 (eInt .i64).sz z.2.1.length),(1,.int .i64 a0),(2,.int .i64 a1),(6,.int .i64 z.2.2)],[(1000,.blk 3 (D.flat (z.2.1.map (eInt .i64).d)))]⟩) (fun z=>eB a0 a1 z.1 z.2.1 z.2.2=some r) (fun z=>z.1) (fuel,a2,x1) (fun i=>i) ⟨(.sames M M),(.cons (EntW.lst M) .nil),aY [1000] M (by decide),fun _ _=>M⟩ ?_ ?_
 ·exact h
 ·
  rintro ⟨n0,v73,v74⟩ h
  cases n0 with
  | zero=>exact absurd h (by unfold eB; exact nofun)
  | succ n0 =>
   unfold eB at h
   refine aU ?_
   obtain ⟨x146,hx146,h⟩:=aK h
   refine aF (aA M (mvI M M M M)<|aA M (mvI M M M M)<|aA M (aO M M (lb M) (svI M) (svI M) M hx146)<|aE ?_)
   refine aW (b:=_) M (fun hc147=>?_) (fun hc147=>?_)
   ·
    replace h:=bX h hc147
    refine aT ?_
    refine aJ ?_
    refine aU ?_
    refine aV ?_
    refine aF (aA M (mvI M M M M)<|aA M (asI M M M M)<|aE ?_)
    refine aV ?_
    refine bS (α:=Nat × (List Int) × Int) (fun z=>⟨[(0,.osl 1000 (eInt .i64).sz z.2.1.length),(1,.int .i64 a0),(2,.int .i64 a1),(6,.int .i64 v74),(7,.int .i64 z.2.2)],[(1000,.blk 3 (D.flat (z.2.1.map (eInt .i64).d)))]⟩) (fun z=>eR a0 v74 (eB a0 a1 n0) z.1 z.2.1 z.2.2=some r) (fun z=>z.1) (fuel,v73,v74) (fun i=>i) ⟨(.sames M M),(.cons (EntW.lst M) .nil),aY [1000] M (by decide),fun _ _=>M⟩ ?_ ?_
    ·exact h
    ·
     rintro ⟨n1,v170,v171⟩ h
     cases n1 with
     | zero=>exact absurd h (by unfold eR; exact nofun)
     | succ n1 =>
      unfold eR at h
      refine aU ?_
      obtain ⟨x194,hx194,h⟩:=aK h
      obtain ⟨x195,hx195,h⟩:=aL h
      obtain ⟨x196,hx196,h⟩:=aL h
      obtain ⟨x197,hx197,h⟩:=aK h
      obtain ⟨x198,hx198,h⟩:=aL h
      obtain ⟨x199,hx199,h⟩:=aL h
      obtain ⟨x200,hx200,h⟩:=aL h
      obtain ⟨x201,hx201,h⟩:=aK h
      refine dN M [⟨[7],[],[(16,.int .i64 v171)],[]⟩,
       ⟨[1],[],[(17,.int .i64 a0)],[]⟩,
       ⟨[16,17],[],[(18,.bool x194)],[]⟩,
       ⟨[18],[],[(19,.bool x194)],[]⟩,
       ⟨[0,19],[],[(20,.cnd (x194 == true) (.osl 1000 (eInt .i64).sz v170.length))],[]⟩,
       ⟨[7,19],[],[(21,.cnd (x194 == true) (.int .i64 v171))],[]⟩,
       ⟨[19,20,21],[],[(22,.cnd (x194 == true) (.ref 1000 (((v171:Int).toNat) * (eInt .i64).sz + 0)))],[]⟩,
       ⟨[19,22],[1000],[(23,.cnd (x194 == true) (.int .i64 x196))],[]⟩,
       ⟨[0,19],[],[(24,.cnd (x194 == true) (.osl 1000 (eInt .i64).sz v170.length))],[]⟩,
       ⟨[7,19],[],[(25,.cnd (x194 == true) (.int .i64 v171))],[]⟩,
       ⟨[19,25],[],[(26,.cnd (x194 == true) (.int .i64 x197))],[]⟩,
       ⟨[19,24,26],[],[(27,.cnd (x194 == true) (.ref 1000 (((x197:Int).toNat) * (eInt .i64).sz + 0)))],[]⟩,
       ⟨[19,27],[1000],[(28,.cnd (x194 == true) (.int .i64 x199))],[]⟩,
       ⟨[19,23,28],[],[(29,.cnd (x194 == true) (.bool x200))],[]⟩,
       ⟨[19,29],[],[(30,.bool x201)],[]⟩] M ?_ (by kernel_rfl) ?_
      ·refine .cons (lop M M fun S hA=>(aD M M (lb M) (svaI hA M M))) ?_
       refine .cons (lop M M fun S hA=>(aD M M (lb M) (svaI hA M M))) ?_
       refine .cons (lop M M fun S hA=>(aO M M (lb M) (svaI hA M M) (svaI hA M M) M hx194)) ?_
       refine .cons (lop M M fun S hA=>(aD M M (lb M) (svaB hA M M))) ?_
       refine .cons (lopg M M M M (by decide) (fun S hA=>grd1 hA M M) (fun S hA hb=>(aD M M (lb M) (sv (d:=.osl _ _ _) (agr hA M M))))) ?_
       refine .cons (lopg M M M M (by decide) (fun S hA=>grd1 hA M M) (fun S hA hb=>(aD M M (lb M) (svaI hA M M)))) ?_
       refine .cons (lopg M M M M (by decide) (fun S hA=>grd1 hA M M) (fun S hA hb=>(aX (eInt .i64).toEnc0 M M (lb M) underlying24 ti3 (svc (d:=.osl _ _ _) (agr hA M M) hb) M (svc (d:=.int _ _) (agr hA M M) hb) (gd_t hx195 hb)))) ?_
       refine .cons (lopg M M M M (by decide) (fun S hA=>grd1 hA M M) (fun S hA hb=>(bO (eInt .i64).toEnc0 (d:=.int _ _) M M (lb M) underlying3 ag3 ti3 (by decide) (svc (d:=.ref _ _) (agr hA M M) hb) (agi hA M M) (gd_t hx196 hb) (nle M) M))) ?_
       refine .cons (lopg M M M M (by decide) (fun S hA=>grd1 hA M M) (fun S hA hb=>(aD M M (lb M) (sv (d:=.osl _ _ _) (agr hA M M))))) ?_
       refine .cons (lopg M M M M (by decide) (fun S hA=>grd1 hA M M) (fun S hA hb=>(aD M M (lb M) (svaI hA M M)))) ?_
       refine .cons (lopg M M M M (by decide) (fun S hA=>grd1 hA M M) (fun S hA hb=>(aQ M M (lb M) (svc (d:=.int _ _) (agr hA M M) hb) (sv (d:=.int _ 1) M) M hx197))) ?_
       refine .cons (lopg M M M M (by decide) (fun S hA=>grd1 hA M M) (fun S hA hb=>(aX (eInt .i64).toEnc0 M M (lb M) underlying24 ti3 (svc (d:=.osl _ _ _) (agr hA M M) hb) M (svc (d:=.int _ _) (agr hA M M) hb) (gd_t hx198 hb)))) ?_
       refine .cons (lopg M M M M (by decide) (fun S hA=>grd1 hA M M) (fun S hA hb=>(bO (eInt .i64).toEnc0 (d:=.int _ _) M M (lb M) underlying3 ag3 ti3 (by decide) (svc (d:=.ref _ _) (agr hA M M) hb) (agi hA M M) (gd_t hx199 hb) (nle M) M))) ?_
       refine .cons (lopg M M M M (by decide) (fun S hA=>grd1 hA M M) (fun S hA hb=>(bJ (r:=.bool _) M M (lb M) cl73 (.cons (svc (d:=.int _ _) (agr hA M M) hb) (.cons (svc (d:=.int _ _) (agr hA M M) hb) .nil)) M (fR _ _ _ (gd_t hx200 hb))))) ?_
       refine .cons (lop M M fun S hA=>(bC M M (lb M) (svaB hA M M) (agr hA M M) M hx201)) ?_
       exact .nil
      refine aW (b:=_) M (fun hc202=>?_) (fun hc202=>?_)
      ·
       replace h:=bX h hc202
       refine aT ?_
       refine aJ ?_
       refine aU ?_
       refine aV ?_
       obtain ⟨x203,hx203,h⟩:=aK h
       obtain ⟨x204,hx204,h⟩:=aK h
       obtain ⟨x205,hx205,h⟩:=aL h
       obtain ⟨x206,hx206,h⟩:=aL h
       obtain ⟨x207,hx207,h⟩:=aL h
       obtain ⟨x208,hx208,h⟩:=aL h
       obtain ⟨x209,hx209,h⟩:=aL h
       obtain ⟨x210,hx210,h⟩:=aL h
       obtain ⟨x211,hx211,h⟩:=aK h
       obtain ⟨x212,hx212,h⟩:=aL h
       obtain ⟨x213,hx213,h⟩:=aL h
       obtain ⟨x214,hx214,h⟩:=aK h
       refine iM M [⟨[0],[],[(33,.osl 1000 (eInt .i64).sz v170.length)],[]⟩,
        ⟨[7],[],[(34,.int .i64 v171)],[]⟩,
        ⟨[0],[],[(35,.osl 1000 (eInt .i64).sz v170.length)],[]⟩,
        ⟨[7],[],[(36,.int .i64 v171)],[]⟩,
        ⟨[36],[],[(37,.int .i64 x203)],[]⟩,
        ⟨[0],[],[(38,.osl 1000 (eInt .i64).sz v170.length)],[]⟩,
        ⟨[7],[],[(39,.int .i64 v171)],[]⟩,
        ⟨[39],[],[(40,.int .i64 x204)],[]⟩,
        ⟨[38,40],[],[(41,.ref 1000 (((x204:Int).toNat) * (eInt .i64).sz + 0))],[]⟩,
        ⟨[41],[1000],[(42,.int .i64 x206)],[]⟩,
        ⟨[0],[],[(43,.osl 1000 (eInt .i64).sz v170.length)],[]⟩,
        ⟨[7],[],[(44,.int .i64 v171)],[]⟩,
        ⟨[43,44],[],[(45,.ref 1000 (((v171:Int).toNat) * (eInt .i64).sz + 0))],[]⟩,
        ⟨[45],[1000],[(46,.int .i64 x208)],[]⟩,
        ⟨[33,34],[],[(47,.ref 1000 (((v171:Int).toNat) * (eInt .i64).sz + 0))],[]⟩,
        ⟨[42,47],[1000],[],[(1000,.blk 3 (D.flat (x211.map (eInt .i64).d)))]⟩,
        ⟨[35,37],[],[(48,.ref 1000 (((x203:Int).toNat) * (eInt .i64).sz + 0))],[]⟩,
        ⟨[46,48],[1000],[],[(1000,.blk 3 (D.flat (x214.map (eInt .i64).d)))]⟩] M ?_ (by kernel_rfl) ?_
       ·refine .cons (lop M M fun S hA=>(aD M M (lb M) (sv (d:=.osl _ _ _) (agr hA M M)))) ?_
        refine .cons (lop M M fun S hA=>(aD M M (lb M) (svaI hA M M))) ?_
        refine .cons (lop M M fun S hA=>(aD M M (lb M) (sv (d:=.osl _ _ _) (agr hA M M)))) ?_
        refine .cons (lop M M fun S hA=>(aD M M (lb M) (svaI hA M M))) ?_
        refine .cons (lop M M fun S hA=>(aQ M M (lb M) (svaI hA M M) (sv (d:=.int _ 1) M) M hx203)) ?_
        refine .cons (lop M M fun S hA=>(aD M M (lb M) (sv (d:=.osl _ _ _) (agr hA M M)))) ?_
        refine .cons (lop M M fun S hA=>(aD M M (lb M) (svaI hA M M))) ?_
        refine .cons (lop M M fun S hA=>(aQ M M (lb M) (svaI hA M M) (sv (d:=.int _ 1) M) M hx204)) ?_
        refine .cons (lop M M fun S hA=>(aX (eInt .i64).toEnc0 M M (lb M) underlying24 ti3 (sv (d:=.osl _ _ _) (agr hA M M)) M (svaI hA M M) hx205)) ?_
        refine .cons (lop M M fun S hA=>(bO (eInt .i64).toEnc0 (d:=.int _ _) M M (lb M) underlying3 ag3 ti3 (by decide) (svaR hA M M) (agi hA M M) hx206 (nle M) M)) ?_
        refine .cons (lop M M fun S hA=>(aD M M (lb M) (sv (d:=.osl _ _ _) (agr hA M M)))) ?_
        refine .cons (lop M M fun S hA=>(aD M M (lb M) (svaI hA M M))) ?_
        refine .cons (lop M M fun S hA=>(aX (eInt .i64).toEnc0 M M (lb M) underlying24 ti3 (sv (d:=.osl _ _ _) (agr hA M M)) M (svaI hA M M) hx207)) ?_
        refine .cons (lop M M fun S hA=>(bO (eInt .i64).toEnc0 (d:=.int _ _) M M (lb M) underlying3 ag3 ti3 (by decide) (svaR hA M M) (agi hA M M) hx208 (nle M) M)) ?_
        refine .cons (lop M M fun S hA=>(aX (eInt .i64).toEnc0 M M (lb M) underlying24 ti3 (sv (d:=.osl _ _ _) (agr hA M M)) M (svaI hA M M) hx209)) ?_
        refine .cons (lop M M fun S hA=>(bR (eInt .i64).toEnc0 (a':=x206) M M ti3 (svaR hA M M) (agi hA M M) (svaI hA M M) M M M hx210 (nle M) M hx211)) ?_
        refine .cons (lop M M fun S hA=>(aX (eInt .i64).toEnc0 M M (lb M) underlying24 ti3 (sv (d:=.osl _ _ _) (agr hA M M)) (bV hx211 M) (svaI hA M M) hx212)) ?_
        refine .cons (lop M M fun S hA=>(bR (eInt .i64).toEnc0 (a':=x208) M M ti3 (svaR hA M M) (agi hA M M) (svaI hA M M) M M M hx213 (nle M) M hx214)) ?_
        exact .nil
       refine bI ?_
       refine aJ ?_
       obtain ⟨x215,hx215,h⟩:=aK h
       refine aS (aA M (mvI M M M M)<|aA M (aQ M M (lb M) (svI M) (sv (d:=.int _ 1) M) M hx215)<|aA M (asI M M M M)<|bE ?_)
       refine aJ ⟨(n1,x214,x215),(fun i=>i),⟨(.cons (.same (congrArg (D.osl _ _) (bV hx214 (bV hx211 M)).symm) M) (.sames M M)),(.cons (EntW.lst M) .nil),aY [1000] M (by decide),fun _ _=>M⟩,?_,?_⟩
       exact h
       exact Nat.lt_succ_self _
      ·
       replace h:=bY h hc202
       refine cA ?_
       refine bD ?_
       refine bD ?_
       refine cC ?_
       refine bI ?_
       refine aJ ?_
       obtain ⟨x216,hx216,h⟩:=aK h
       refine aS (aA M (mvI M M M M)<|aA M (aQ M M (lb M) (svI M) (sv (d:=.int _ 1) M) M hx216)<|aA M (asI M M M M)<|bE ?_)
       refine aJ ⟨(n0,v170,x216),(fun i=>i),⟨(.sames M M),(.cons (EntW.lst M) .nil),aY [1000] M (by decide),fun _ _=>M⟩,?_,?_⟩
       exact h
       exact Nat.lt_succ_self _
   ·
    replace h:=bY h hc147
    refine cA ?_
    refine bD ?_
    refine bD ?_
    refine cC ?_
    obtain rfl:=sj_ h
    refine ⟨.inl M,(fun i=>i),⟨.nil,(.cons (EntW.lst M) .nil),aY [1000] M (by decide),fun _ _=>M⟩,.nil,M⟩

theorem lT (a0:Int) (a1:Int) (a2:Int) (a3:(List Int)) (r:(List Int)) (h:hM a0 a1 a2 a3=some r):FnH prog 87 (w24 (.osl 1000 (eInt .i64).sz a3.length) a0 a1 a2) [(1000,.blk 3 (D.flat (a3.map (eInt .i64).d)))] (retD []) [(1000,.blk 3 (D.flat (r.map (eInt .i64).d)))]:=by
 refine cF (rs:=[]) func87 M ntmps87 (nle M) fun O hO=>?_
 show IWP _ _ _ _ ⟨[(0,.osl 1000 (eInt .i64).sz a3.length),(1,.int .i64 a0),(2,.int .i64 a1),(3,.int .i64 a2)],[(1000,.blk 3 (D.flat (a3.map (eInt .i64).d)))]⟩ _
 unfold hM at h
 refine aF (aA M (mvI M M M M)<|aA M (asI M M M M)<|aE ?_)
 refine aV ?_
 refine bS (α:=Nat × (List Int) × Int) (fun z=>⟨[(0,.osl 1000 (eInt .i64).sz z.2.1.length),(2,.int .i64 a1),(3,.int .i64 a2),(8,.int .i64 z.2.2)],[(1000,.blk 3 (D.flat (z.2.1.map (eInt .i64).d)))]⟩) (fun z=>eE a1 a2 z.1 z.2.1 z.2.2=some r) (fun z=>z.1) (fuel,a3,a0) (fun i=>i) ⟨(.sames M M),(.cons (EntW.lst M) .nil),aY [1000] M (by decide),fun _ _=>M⟩ ?_ ?_
 ·exact h
 ·
  rintro ⟨n0,v54,v55⟩ h
  cases n0 with
  | zero=>exact absurd h (by unfold eE; exact nofun)
  | succ n0 =>
   unfold eE at h
   refine aV ?_
   obtain ⟨x109,hx109,h⟩:=aK h
   obtain ⟨x110,hx110,h⟩:=aK h
   refine aF (aA M (mvI M M M M)<|aA M (aQ M M (lb M) (sv (d:=.int _ 2) M) (svI M) M hx109)<|aA M (aQ M M (lb M) (svI M) (sv (d:=.int _ 1) M) M hx110)<|aA M (asI M M M M)<|aE ?_)
   refine aU ?_
   obtain ⟨x111,hx111,h⟩:=aK h
   refine aF (aA M (mvI M M M M)<|aA M (mvI M M M M)<|aA M (aO M M (lb M) (svI M) (svI M) M hx111)<|aE ?_)
   refine aW (b:=_) M (fun hc112=>?_) (fun hc112=>?_)
   ·
    replace h:=bX h hc112
    refine cA ?_
    refine bD ?_
    refine oV M ?_
    refine bD ?_
    refine cC ?_
    obtain rfl:=sj_ h
    refine ⟨.inl M,(fun i=>i),⟨.nil,(.cons (EntW.lst M) .nil),aY [1000] M (by decide),fun _ _=>M⟩,.nil,M⟩
   ·
    replace h:=bY h hc112
    refine aT ?_
    refine aJ ?_
    refine fL (α:=Int) (fun z=>⟨[(0,.osl 1000 (eInt .i64).sz v54.length),(2,.int .i64 a1),(3,.int .i64 a2),(8,.int .i64 v55),(9,.int .i64 z)],[(1000,.blk 3 (D.flat (v54.map (eInt .i64).d)))]⟩) (fun z=>gL a2 v54 v55 (eE a1 a2 n0) z=some r) ?_ ?_
    ·
     obtain ⟨x149,hx149,h⟩:=aK h
     obtain ⟨x150,hx150,h⟩:=aK h
     obtain ⟨x151,hx151,h⟩:=aK h
     obtain ⟨x152,hx152,h⟩:=aL h
     obtain ⟨x153,hx153,h⟩:=aL h
     obtain ⟨x154,hx154,h⟩:=aK h
     obtain ⟨x155,hx155,h⟩:=aK h
     obtain ⟨x156,hx156,h⟩:=aL h
     obtain ⟨x157,hx157,h⟩:=aL h
     obtain ⟨x158,hx158,h⟩:=aL h
     obtain ⟨x159,hx159,h⟩:=aK h
     refine dN M [⟨[9],[],[(17,.int .i64 x110)],[]⟩,
      ⟨[17],[],[(18,.int .i64 x149)],[]⟩,
      ⟨[2],[],[(19,.int .i64 a1)],[]⟩,
      ⟨[18,19],[],[(20,.bool x150)],[]⟩,
      ⟨[20],[],[(21,.bool x150)],[]⟩,
      ⟨[0,21],[],[(22,.cnd (x150 == true) (.osl 1000 (eInt .i64).sz v54.length))],[]⟩,
      ⟨[3,21],[],[(23,.cnd (x150 == true) (.int .i64 a2))],[]⟩,
      ⟨[9,21],[],[(24,.cnd (x150 == true) (.int .i64 x110))],[]⟩,
      ⟨[21,23,24],[],[(25,.cnd (x150 == true) (.int .i64 x151))],[]⟩,
      ⟨[21,22,25],[],[(26,.cnd (x150 == true) (.ref 1000 (((x151:Int).toNat) * (eInt .i64).sz + 0)))],[]⟩,
      ⟨[21,26],[1000],[(27,.cnd (x150 == true) (.int .i64 x153))],[]⟩,
      ⟨[0,21],[],[(28,.cnd (x150 == true) (.osl 1000 (eInt .i64).sz v54.length))],[]⟩,
      ⟨[3,21],[],[(29,.cnd (x150 == true) (.int .i64 a2))],[]⟩,
      ⟨[9,21],[],[(30,.cnd (x150 == true) (.int .i64 x110))],[]⟩,
      ⟨[21,29,30],[],[(31,.cnd (x150 == true) (.int .i64 x154))],[]⟩,
      ⟨[21,31],[],[(32,.cnd (x150 == true) (.int .i64 x155))],[]⟩,
      ⟨[21,28,32],[],[(33,.cnd (x150 == true) (.ref 1000 (((x155:Int).toNat) * (eInt .i64).sz + 0)))],[]⟩,
      ⟨[21,33],[1000],[(34,.cnd (x150 == true) (.int .i64 x157))],[]⟩,
      ⟨[21,27,34],[],[(35,.cnd (x150 == true) (.bool x158))],[]⟩,
      ⟨[21,35],[],[(36,.bool x159)],[]⟩] M ?_ (by kernel_rfl) ?_
     ·refine .cons (lop M M fun S hA=>(aD M M (lb M) (svaI hA M M))) ?_
      refine .cons (lop M M fun S hA=>(aQ M M (lb M) (svaI hA M M) (sv (d:=.int _ 1) M) M hx149)) ?_
      refine .cons (lop M M fun S hA=>(aD M M (lb M) (svaI hA M M))) ?_
      refine .cons (lop M M fun S hA=>(aO M M (lb M) (svaI hA M M) (svaI hA M M) M hx150)) ?_
      refine .cons (lop M M fun S hA=>(aD M M (lb M) (svaB hA M M))) ?_
      refine .cons (lopg M M M M (by decide) (fun S hA=>grd1 hA M M) (fun S hA hb=>(aD M M (lb M) (sv (d:=.osl _ _ _) (agr hA M M))))) ?_
      refine .cons (lopg M M M M (by decide) (fun S hA=>grd1 hA M M) (fun S hA hb=>(aD M M (lb M) (svaI hA M M)))) ?_
      refine .cons (lopg M M M M (by decide) (fun S hA=>grd1 hA M M) (fun S hA hb=>(aD M M (lb M) (svaI hA M M)))) ?_
      refine .cons (lopg M M M M (by decide) (fun S hA=>grd1 hA M M) (fun S hA hb=>(aQ M M (lb M) (svc (d:=.int _ _) (agr hA M M) hb) (svc (d:=.int _ _) (agr hA M M) hb) M hx151))) ?_
      refine .cons (lopg M M M M (by decide) (fun S hA=>grd1 hA M M) (fun S hA hb=>(aX (eInt .i64).toEnc0 M M (lb M) underlying24 ti3 (svc (d:=.osl _ _ _) (agr hA M M) hb) M (svc (d:=.int _ _) (agr hA M M) hb) (gd_t hx152 hb)))) ?_
      refine .cons (lopg M M M M (by decide) (fun S hA=>grd1 hA M M) (fun S hA hb=>(bO (eInt .i64).toEnc0 (d:=.int _ _) M M (lb M) underlying3 ag3 ti3 (by decide) (svc (d:=.ref _ _) (agr hA M M) hb) (agi hA M M) (gd_t hx153 hb) (nle M) M))) ?_
      refine .cons (lopg M M M M (by decide) (fun S hA=>grd1 hA M M) (fun S hA hb=>(aD M M (lb M) (sv (d:=.osl _ _ _) (agr hA M M))))) ?_
      refine .cons (lopg M M M M (by decide) (fun S hA=>grd1 hA M M) (fun S hA hb=>(aD M M (lb M) (svaI hA M M)))) ?_
      refine .cons (lopg M M M M (by decide) (fun S hA=>grd1 hA M M) (fun S hA hb=>(aD M M (lb M) (svaI hA M M)))) ?_
      refine .cons (lopg M M M M (by decide) (fun S hA=>grd1 hA M M) (fun S hA hb=>(aQ M M (lb M) (svc (d:=.int _ _) (agr hA M M) hb) (svc (d:=.int _ _) (agr hA M M) hb) M hx154))) ?_
      refine .cons (lopg M M M M (by decide) (fun S hA=>grd1 hA M M) (fun S hA hb=>(aQ M M (lb M) (svc (d:=.int _ _) (agr hA M M) hb) (sv (d:=.int _ 1) M) M hx155))) ?_
      refine .cons (lopg M M M M (by decide) (fun S hA=>grd1 hA M M) (fun S hA hb=>(aX (eInt .i64).toEnc0 M M (lb M) underlying24 ti3 (svc (d:=.osl _ _ _) (agr hA M M) hb) M (svc (d:=.int _ _) (agr hA M M) hb) (gd_t hx156 hb)))) ?_
      refine .cons (lopg M M M M (by decide) (fun S hA=>grd1 hA M M) (fun S hA hb=>(bO (eInt .i64).toEnc0 (d:=.int _ _) M M (lb M) underlying3 ag3 ti3 (by decide) (svc (d:=.ref _ _) (agr hA M M) hb) (agi hA M M) (gd_t hx157 hb) (nle M) M))) ?_
      refine .cons (lopg M M M M (by decide) (fun S hA=>grd1 hA M M) (fun S hA hb=>(bJ (r:=.bool _) M M (lb M) cl73 (.cons (svc (d:=.int _ _) (agr hA M M) hb) (.cons (svc (d:=.int _ _) (agr hA M M) hb) .nil)) M (fR _ _ _ (gd_t hx158 hb))))) ?_
      refine .cons (lop M M fun S hA=>(bC M M (lb M) (svaB hA M M) (agr hA M M) M hx159)) ?_
      exact .nil
     refine aW (b:=_) M (fun hc160=>?_) (fun hc160=>?_)
     ·
      replace h:=bX h hc160
      obtain ⟨x161,hx161,h⟩:=aK h
      refine aS (aA M (mvI M M M M)<|aA M (aQ M M (lb M) (svI M) (sv (d:=.int _ 1) M) M hx161)<|aA M (asI M M M M)<|bE ?_)
      refine aJ ⟨x161,(fun i=>i),⟨(.sames M M),(.cons (EntW.lst M) .nil),aY [1000] M (by decide),fun _ _=>M⟩,?_⟩
      exact h
     ·
      replace h:=bY h hc160
      refine aT ?_
      refine aJ ⟨x110,(fun i=>i),⟨(.sames M M),(.cons (EntW.lst M) .nil),aY [1000] M (by decide),fun _ _=>M⟩,?_⟩
      exact h
    ·
     rintro v126 h
     unfold gL at h
     refine aU ?_
     obtain ⟨x127,hx127,h⟩:=aK h
     obtain ⟨x128,hx128,h⟩:=aL h
     obtain ⟨x129,hx129,h⟩:=aL h
     obtain ⟨x130,hx130,h⟩:=aK h
     obtain ⟨x131,hx131,h⟩:=aL h
     obtain ⟨x132,hx132,h⟩:=aL h
     obtain ⟨x133,hx133,h⟩:=aL h
     refine dN M [⟨[0],[],[(39,.osl 1000 (eInt .i64).sz v54.length)],[]⟩,
      ⟨[3],[],[(40,.int .i64 a2)],[]⟩,
      ⟨[8],[],[(41,.int .i64 v55)],[]⟩,
      ⟨[40,41],[],[(42,.int .i64 x127)],[]⟩,
      ⟨[39,42],[],[(43,.ref 1000 (((x127:Int).toNat) * (eInt .i64).sz + 0))],[]⟩,
      ⟨[43],[1000],[(44,.int .i64 x129)],[]⟩,
      ⟨[0],[],[(45,.osl 1000 (eInt .i64).sz v54.length)],[]⟩,
      ⟨[3],[],[(46,.int .i64 a2)],[]⟩,
      ⟨[9],[],[(47,.int .i64 v126)],[]⟩,
      ⟨[46,47],[],[(48,.int .i64 x130)],[]⟩,
      ⟨[45,48],[],[(49,.ref 1000 (((x130:Int).toNat) * (eInt .i64).sz + 0))],[]⟩,
      ⟨[49],[1000],[(50,.int .i64 x132)],[]⟩,
      ⟨[44,50],[],[(51,.bool x133)],[]⟩,
      ⟨[51],[],[(52,.bool (!x133))],[]⟩] M ?_ (by kernel_rfl) ?_
     ·refine .cons (lop M M fun S hA=>(aD M M (lb M) (sv (d:=.osl _ _ _) (agr hA M M)))) ?_
      refine .cons (lop M M fun S hA=>(aD M M (lb M) (svaI hA M M))) ?_
      refine .cons (lop M M fun S hA=>(aD M M (lb M) (svaI hA M M))) ?_
      refine .cons (lop M M fun S hA=>(aQ M M (lb M) (svaI hA M M) (svaI hA M M) M hx127)) ?_
      refine .cons (lop M M fun S hA=>(aX (eInt .i64).toEnc0 M M (lb M) underlying24 ti3 (sv (d:=.osl _ _ _) (agr hA M M)) M (svaI hA M M) hx128)) ?_
      refine .cons (lop M M fun S hA=>(bO (eInt .i64).toEnc0 (d:=.int _ _) M M (lb M) underlying3 ag3 ti3 (by decide) (svaR hA M M) (agi hA M M) hx129 (nle M) M)) ?_
      refine .cons (lop M M fun S hA=>(aD M M (lb M) (sv (d:=.osl _ _ _) (agr hA M M)))) ?_
      refine .cons (lop M M fun S hA=>(aD M M (lb M) (svaI hA M M))) ?_
      refine .cons (lop M M fun S hA=>(aD M M (lb M) (svaI hA M M))) ?_
      refine .cons (lop M M fun S hA=>(aQ M M (lb M) (svaI hA M M) (svaI hA M M) M hx130)) ?_
      refine .cons (lop M M fun S hA=>(aX (eInt .i64).toEnc0 M M (lb M) underlying24 ti3 (sv (d:=.osl _ _ _) (agr hA M M)) M (svaI hA M M) hx131)) ?_
      refine .cons (lop M M fun S hA=>(bO (eInt .i64).toEnc0 (d:=.int _ _) M M (lb M) underlying3 ag3 ti3 (by decide) (svaR hA M M) (agi hA M M) hx132 (nle M) M)) ?_
      refine .cons (lop M M fun S hA=>(bJ (r:=.bool _) M M (lb M) cl73 (.cons (svaI hA M M) (.cons (svaI hA M M) .nil)) M (fR _ _ _ hx133))) ?_
      refine .cons (lop M M fun S hA=>(eX M M (lb M) (svaB hA M M))) ?_
      exact .nil
     refine aW (b:=_) M (fun hc134=>?_) (fun hc134=>?_)
     ·
      replace h:=bX h hc134
      refine bB ?_
      refine bP ?_
      refine dB ?_
      refine bP ?_
      refine dB ?_
      obtain rfl:=sj_ h
      refine ⟨.inr M,(fun i=>i),⟨.nil,(.cons (EntW.lst M) .nil),aY [1000] M (by decide),fun _ _=>M⟩,.nil,M⟩
     ·
      replace h:=bY h hc134
      refine aT ?_
      refine aJ ?_
      obtain ⟨x135,hx135,h⟩:=aK h
      obtain ⟨x136,hx136,h⟩:=aK h
      obtain ⟨x137,hx137,h⟩:=aK h
      obtain ⟨x138,hx138,h⟩:=aL h
      obtain ⟨x139,hx139,h⟩:=aL h
      obtain ⟨x140,hx140,h⟩:=aK h
      obtain ⟨x141,hx141,h⟩:=aL h
      obtain ⟨x142,hx142,h⟩:=aL h
      obtain ⟨x143,hx143,h⟩:=aL h
      obtain ⟨x144,hx144,h⟩:=aL h
      obtain ⟨x145,hx145,h⟩:=aK h
      obtain ⟨x146,hx146,h⟩:=aL h
      obtain ⟨x147,hx147,h⟩:=aL h
      obtain ⟨x148,hx148,h⟩:=aK h
      refine dN M [⟨[0],[],[(53,.osl 1000 (eInt .i64).sz v54.length)],[]⟩,
       ⟨[3],[],[(54,.int .i64 a2)],[]⟩,
       ⟨[8],[],[(55,.int .i64 v55)],[]⟩,
       ⟨[54,55],[],[(56,.int .i64 x135)],[]⟩,
       ⟨[0],[],[(57,.osl 1000 (eInt .i64).sz v54.length)],[]⟩,
       ⟨[3],[],[(58,.int .i64 a2)],[]⟩,
       ⟨[9],[],[(59,.int .i64 v126)],[]⟩,
       ⟨[58,59],[],[(60,.int .i64 x136)],[]⟩,
       ⟨[0],[],[(61,.osl 1000 (eInt .i64).sz v54.length)],[]⟩,
       ⟨[3],[],[(62,.int .i64 a2)],[]⟩,
       ⟨[9],[],[(63,.int .i64 v126)],[]⟩,
       ⟨[62,63],[],[(64,.int .i64 x137)],[]⟩,
       ⟨[61,64],[],[(65,.ref 1000 (((x137:Int).toNat) * (eInt .i64).sz + 0))],[]⟩,
       ⟨[65],[1000],[(66,.int .i64 x139)],[]⟩,
       ⟨[0],[],[(67,.osl 1000 (eInt .i64).sz v54.length)],[]⟩,
       ⟨[3],[],[(68,.int .i64 a2)],[]⟩,
       ⟨[8],[],[(69,.int .i64 v55)],[]⟩,
       ⟨[68,69],[],[(70,.int .i64 x140)],[]⟩,
       ⟨[67,70],[],[(71,.ref 1000 (((x140:Int).toNat) * (eInt .i64).sz + 0))],[]⟩,
       ⟨[71],[1000],[(72,.int .i64 x142)],[]⟩,
       ⟨[53,56],[],[(73,.ref 1000 (((x135:Int).toNat) * (eInt .i64).sz + 0))],[]⟩,
       ⟨[66,73],[1000],[],[(1000,.blk 3 (D.flat (x145.map (eInt .i64).d)))]⟩,
       ⟨[57,60],[],[(74,.ref 1000 (((x136:Int).toNat) * (eInt .i64).sz + 0))],[]⟩,
       ⟨[72,74],[1000],[],[(1000,.blk 3 (D.flat (x148.map (eInt .i64).d)))]⟩] M ?_ (by kernel_rfl) ?_
      ·refine .cons (lop M M fun S hA=>(aD M M (lb M) (sv (d:=.osl _ _ _) (agr hA M M)))) ?_
       refine .cons (lop M M fun S hA=>(aD M M (lb M) (svaI hA M M))) ?_
       refine .cons (lop M M fun S hA=>(aD M M (lb M) (svaI hA M M))) ?_
       refine .cons (lop M M fun S hA=>(aQ M M (lb M) (svaI hA M M) (svaI hA M M) M hx135)) ?_
       refine .cons (lop M M fun S hA=>(aD M M (lb M) (sv (d:=.osl _ _ _) (agr hA M M)))) ?_
       refine .cons (lop M M fun S hA=>(aD M M (lb M) (svaI hA M M))) ?_
       refine .cons (lop M M fun S hA=>(aD M M (lb M) (svaI hA M M))) ?_
       refine .cons (lop M M fun S hA=>(aQ M M (lb M) (svaI hA M M) (svaI hA M M) M hx136)) ?_
       refine .cons (lop M M fun S hA=>(aD M M (lb M) (sv (d:=.osl _ _ _) (agr hA M M)))) ?_
       refine .cons (lop M M fun S hA=>(aD M M (lb M) (svaI hA M M))) ?_
       refine .cons (lop M M fun S hA=>(aD M M (lb M) (svaI hA M M))) ?_
       refine .cons (lop M M fun S hA=>(aQ M M (lb M) (svaI hA M M) (svaI hA M M) M hx137)) ?_
       refine .cons (lop M M fun S hA=>(aX (eInt .i64).toEnc0 M M (lb M) underlying24 ti3 (sv (d:=.osl _ _ _) (agr hA M M)) M (svaI hA M M) hx138)) ?_
       refine .cons (lop M M fun S hA=>(bO (eInt .i64).toEnc0 (d:=.int _ _) M M (lb M) underlying3 ag3 ti3 (by decide) (svaR hA M M) (agi hA M M) hx139 (nle M) M)) ?_
       refine .cons (lop M M fun S hA=>(aD M M (lb M) (sv (d:=.osl _ _ _) (agr hA M M)))) ?_
       refine .cons (lop M M fun S hA=>(aD M M (lb M) (svaI hA M M))) ?_
       refine .cons (lop M M fun S hA=>(aD M M (lb M) (svaI hA M M))) ?_
       refine .cons (lop M M fun S hA=>(aQ M M (lb M) (svaI hA M M) (svaI hA M M) M hx140)) ?_
       refine .cons (lop M M fun S hA=>(aX (eInt .i64).toEnc0 M M (lb M) underlying24 ti3 (sv (d:=.osl _ _ _) (agr hA M M)) M (svaI hA M M) hx141)) ?_
       refine .cons (lop M M fun S hA=>(bO (eInt .i64).toEnc0 (d:=.int _ _) M M (lb M) underlying3 ag3 ti3 (by decide) (svaR hA M M) (agi hA M M) hx142 (nle M) M)) ?_
       refine .cons (lop M M fun S hA=>(aX (eInt .i64).toEnc0 M M (lb M) underlying24 ti3 (sv (d:=.osl _ _ _) (agr hA M M)) M (svaI hA M M) hx143)) ?_
       refine .cons (lop M M fun S hA=>(bR (eInt .i64).toEnc0 (a':=x139) M M ti3 (svaR hA M M) (agi hA M M) (svaI hA M M) M M M hx144 (nle M) M hx145)) ?_
       refine .cons (lop M M fun S hA=>(aX (eInt .i64).toEnc0 M M (lb M) underlying24 ti3 (sv (d:=.osl _ _ _) (agr hA M M)) (bV hx145 M) (svaI hA M M) hx146)) ?_
       refine .cons (lop M M fun S hA=>(bR (eInt .i64).toEnc0 (a':=x142) M M ti3 (svaR hA M M) (agi hA M M) (svaI hA M M) M M M hx147 (nle M) M hx148)) ?_
       exact .nil
      refine aS (aA M (mvI M M M M)<|aA M (asI M M M M)<|bE ?_)
      refine bI ?_
      refine aJ ⟨(n0,x148,v126),(fun i=>i),⟨(.cons (.same (congrArg (D.osl _ _) (bV hx148 (bV hx145 M)).symm) M) (.sames M M)),(.cons (EntW.lst M) .nil),aY [1000] M (by decide),fun _ _=>M⟩,?_,?_⟩
      exact h
      exact Nat.lt_succ_self _

theorem oZ (a0:Int) (a1:Int) (a2:(List Int)) (r:(List Int)) (h:jQ a0 a1 a2=some r):FnH prog 68 [.osl 1000 (eInt .i64).sz a2.length,.int .i64 a0,.int .i64 a1] [(1000,.blk 3 (D.flat (a2.map (eInt .i64).d)))] (retD []) [(1000,.blk 3 (D.flat (r.map (eInt .i64).d)))]:=by
 refine cF (rs:=[]) func68 M ntmps68 (nle M) fun O hO=>?_
 show IWP _ _ _ _ ⟨[(0,.osl 1000 (eInt .i64).sz a2.length),(1,.int .i64 a0),(2,.int .i64 a1)],[(1000,.blk 3 (D.flat (a2.map (eInt .i64).d)))]⟩ _
 unfold jQ at h
 refine aF (aA M (mvI M M M M)<|aA M (asI M M M M)<|aE ?_)
 refine aF (aA M (aI M M (lb M) (sv (d:=.int _ 0) M))<|aE ?_)
 obtain ⟨x1,hx1,h⟩:=aK h
 refine aF (aA M (mvI M M M M)<|aA M (mvI M M M M)<|aA M (aQ M M (lb M) (svI M) (svI M) M hx1)<|aA M (asI M M M M)<|aE ?_)
 refine aU ?_
 obtain ⟨x2,hx2,h⟩:=aK h
 obtain ⟨x3,hx3,h⟩:=aL h
 refine aF (aA M (mvI M M M M)<|aA M (aQ M M (lb M) (svI M) (sv (d:=.int _ 1) M) M hx2)<|aA M (lK M M (lb M) (svI M) (sv (d:=.int _ 2) M) hx3)<|aA M (asI M M M M)<|aE ?_)
 refine aV ?_
 refine bS (α:=Nat × (List Int) × Int) (fun z=>⟨[(0,.osl 1000 (eInt .i64).sz z.2.1.length),(6,.int .i64 a0),(7,.int .i64 0),(8,.int .i64 x1),(9,.int .i64 z.2.2)],[(1000,.blk 3 (D.flat (z.2.1.map (eInt .i64).d)))]⟩) (fun z=>fN a0 x1 z.1 z.2.1 z.2.2=some r) (fun z=>z.1) (fuel,a2,x3) (fun i=>i) ⟨(.sames M M),(.cons (EntW.lst M) .nil),aY [1000] M (by decide),fun _ _=>M⟩ ?_ ?_
 ·exact h
 ·
  rintro ⟨n0,v9,v10⟩ h
  cases n0 with
  | zero=>exact absurd h (by unfold fN; exact nofun)
  | succ n0 =>
   unfold fN at h
   refine aU ?_
   obtain ⟨x16,hx16,h⟩:=aK h
   refine aF (aA M (mvI M M M M)<|aA M (aO M M (lb M) (svI M) (sv (d:=.int _ 0) M) M hx16)<|aE ?_)
   refine aW (b:=_) M (fun hc17=>?_) (fun hc17=>?_)
   ·
    replace h:=bX h hc17
    refine aT ?_
    refine aJ ?_
    refine aU ?_
    refine aV ?_
    obtain ⟨x18,hx18,h⟩:=aL h
    obtain ⟨hk19,h⟩:=iG h
    refine aS (aA M (aD M M (lb M) (sv (d:=.osl _ _ _) M))<|aA M (mvI M M M M)<|aA M (mvI M M M M)<|aA M (mvI M M M M)<|aA M (bG (r':=.tuple []) (H1':=[(1000,.blk 3 (D.flat (x18.map (eInt .i64).d)))]) 0 [1000] M M (lb M) cl87 (.cons (sv (d:=.osl _ _ _) M) (.cons (svI M) (.cons (svI M) (.cons (svI M) .nil)))) M M ⟨M,M,by decide,M,List.forall_mem_cons.2 ⟨⟨M,M,(fW (eInt .i64) M),(bK (eInt .i64))⟩,List.forall_mem_nil _⟩⟩ (lT _ _ _ _ _ hx18) M M (List.forall_mem_cons.2 ⟨⟨M,(bK (eInt .i64))⟩,List.forall_mem_nil _⟩) (by simp only [List.map_cons,List.map_nil,Ent.ren,bL,bT]; rfl))<|bE ?_)
    refine bI ?_
    refine aJ ?_
    obtain ⟨x20,hx20,h⟩:=aK h
    refine aS (aA M (mvI M M M M)<|aA M (aQ M M (lb M) (svI M) (sv (d:=.int _ 1) M) M hx20)<|aA M (asI M M M M)<|bE ?_)
    refine aJ ⟨(n0,x18,x20),(fun i=>i),⟨(.cons (.same (congrArg (D.osl _ _) hk19.symm) M) (.sames M M)),(.cons (EntW.lst M) .nil),aY [1000] M (by decide),fun _ _=>M⟩,?_,?_⟩
    exact h
    exact Nat.lt_succ_self _
   ·
    replace h:=bY h hc17
    refine cA ?_
    refine bD ?_
    refine bD ?_
    refine cC ?_
    refine aJ ?_
    obtain ⟨x21,hx21,h⟩:=aK h
    refine aF (aA M (mvI M M M M)<|aA M (aQ M M (lb M) (svI M) (sv (d:=.int _ 1) M) M hx21)<|aA M (asI M M M M)<|aE ?_)
    refine aV ?_
    refine bS (α:=Nat × (List Int) × Int) (fun z=>⟨[(0,.osl 1000 (eInt .i64).sz z.2.1.length),(6,.int .i64 a0),(7,.int .i64 0),(10,.int .i64 z.2.2)],[(1000,.blk 3 (D.flat (z.2.1.map (eInt .i64).d)))]⟩) (fun z=>fM a0 z.1 z.2.1 z.2.2=some r) (fun z=>z.1) (fuel,v9,x21) (fun i=>i) ⟨(.sames M M),(.cons (EntW.lst M) .nil),aY [1000] M (by decide),fun _ _=>M⟩ ?_ ?_
    ·exact h
    ·
     rintro ⟨n1,v39,v40⟩ h
     cases n1 with
     | zero=>exact absurd h (by unfold fM; exact nofun)
     | succ n1 =>
      unfold fM at h
      refine aU ?_
      obtain ⟨x58,hx58,h⟩:=aK h
      refine aF (aA M (mvI M M M M)<|aA M (aO M M (lb M) (svI M) (sv (d:=.int _ 0) M) M hx58)<|aE ?_)
      refine aW (b:=_) M (fun hc59=>?_) (fun hc59=>?_)
      ·
       replace h:=bX h hc59
       refine aT ?_
       refine aJ ?_
       refine aU ?_
       refine aV ?_
       obtain ⟨x60,hx60,h⟩:=aK h
       obtain ⟨x61,hx61,h⟩:=aK h
       obtain ⟨x62,hx62,h⟩:=aL h
       obtain ⟨x63,hx63,h⟩:=aL h
       obtain ⟨x64,hx64,h⟩:=aL h
       obtain ⟨x65,hx65,h⟩:=aL h
       obtain ⟨x66,hx66,h⟩:=aL h
       obtain ⟨x67,hx67,h⟩:=aL h
       obtain ⟨x68,hx68,h⟩:=aK h
       obtain ⟨x69,hx69,h⟩:=aL h
       obtain ⟨x70,hx70,h⟩:=aL h
       obtain ⟨x71,hx71,h⟩:=aK h
       refine dN M [⟨[0],[],[(33,.osl 1000 (eInt .i64).sz v39.length)],[]⟩,
        ⟨[6],[],[(34,.int .i64 a0)],[]⟩,
        ⟨[0],[],[(35,.osl 1000 (eInt .i64).sz v39.length)],[]⟩,
        ⟨[6],[],[(36,.int .i64 a0)],[]⟩,
        ⟨[10],[],[(37,.int .i64 v40)],[]⟩,
        ⟨[36,37],[],[(38,.int .i64 x60)],[]⟩,
        ⟨[0],[],[(39,.osl 1000 (eInt .i64).sz v39.length)],[]⟩,
        ⟨[6],[],[(40,.int .i64 a0)],[]⟩,
        ⟨[10],[],[(41,.int .i64 v40)],[]⟩,
        ⟨[40,41],[],[(42,.int .i64 x61)],[]⟩,
        ⟨[39,42],[],[(43,.ref 1000 (((x61:Int).toNat) * (eInt .i64).sz + 0))],[]⟩,
        ⟨[43],[1000],[(44,.int .i64 x63)],[]⟩,
        ⟨[0],[],[(45,.osl 1000 (eInt .i64).sz v39.length)],[]⟩,
        ⟨[6],[],[(46,.int .i64 a0)],[]⟩,
        ⟨[45,46],[],[(47,.ref 1000 (((a0:Int).toNat) * (eInt .i64).sz + 0))],[]⟩,
        ⟨[47],[1000],[(48,.int .i64 x65)],[]⟩,
        ⟨[33,34],[],[(49,.ref 1000 (((a0:Int).toNat) * (eInt .i64).sz + 0))],[]⟩,
        ⟨[44,49],[1000],[],[(1000,.blk 3 (D.flat (x68.map (eInt .i64).d)))]⟩,
        ⟨[35,38],[],[(50,.ref 1000 (((x60:Int).toNat) * (eInt .i64).sz + 0))],[]⟩,
        ⟨[48,50],[1000],[],[(1000,.blk 3 (D.flat (x71.map (eInt .i64).d)))]⟩] M ?_ (by kernel_rfl) ?_
       ·refine .cons (lop M M fun S hA=>(aD M M (lb M) (sv (d:=.osl _ _ _) (agr hA M M)))) ?_
        refine .cons (lop M M fun S hA=>(aD M M (lb M) (svaI hA M M))) ?_
        refine .cons (lop M M fun S hA=>(aD M M (lb M) (sv (d:=.osl _ _ _) (agr hA M M)))) ?_
        refine .cons (lop M M fun S hA=>(aD M M (lb M) (svaI hA M M))) ?_
        refine .cons (lop M M fun S hA=>(aD M M (lb M) (svaI hA M M))) ?_
        refine .cons (lop M M fun S hA=>(aQ M M (lb M) (svaI hA M M) (svaI hA M M) M hx60)) ?_
        refine .cons (lop M M fun S hA=>(aD M M (lb M) (sv (d:=.osl _ _ _) (agr hA M M)))) ?_
        refine .cons (lop M M fun S hA=>(aD M M (lb M) (svaI hA M M))) ?_
        refine .cons (lop M M fun S hA=>(aD M M (lb M) (svaI hA M M))) ?_
        refine .cons (lop M M fun S hA=>(aQ M M (lb M) (svaI hA M M) (svaI hA M M) M hx61)) ?_
        refine .cons (lop M M fun S hA=>(aX (eInt .i64).toEnc0 M M (lb M) underlying24 ti3 (sv (d:=.osl _ _ _) (agr hA M M)) M (svaI hA M M) hx62)) ?_
        refine .cons (lop M M fun S hA=>(bO (eInt .i64).toEnc0 (d:=.int _ _) M M (lb M) underlying3 ag3 ti3 (by decide) (svaR hA M M) (agi hA M M) hx63 (nle M) M)) ?_
        refine .cons (lop M M fun S hA=>(aD M M (lb M) (sv (d:=.osl _ _ _) (agr hA M M)))) ?_
        refine .cons (lop M M fun S hA=>(aD M M (lb M) (svaI hA M M))) ?_
        refine .cons (lop M M fun S hA=>(aX (eInt .i64).toEnc0 M M (lb M) underlying24 ti3 (sv (d:=.osl _ _ _) (agr hA M M)) M (svaI hA M M) hx64)) ?_
        refine .cons (lop M M fun S hA=>(bO (eInt .i64).toEnc0 (d:=.int _ _) M M (lb M) underlying3 ag3 ti3 (by decide) (svaR hA M M) (agi hA M M) hx65 (nle M) M)) ?_
        refine .cons (lop M M fun S hA=>(aX (eInt .i64).toEnc0 M M (lb M) underlying24 ti3 (sv (d:=.osl _ _ _) (agr hA M M)) M (svaI hA M M) hx66)) ?_
        refine .cons (lop M M fun S hA=>(bR (eInt .i64).toEnc0 (a':=x63) M M ti3 (svaR hA M M) (agi hA M M) (svaI hA M M) M M M hx67 (nle M) M hx68)) ?_
        refine .cons (lop M M fun S hA=>(aX (eInt .i64).toEnc0 M M (lb M) underlying24 ti3 (sv (d:=.osl _ _ _) (agr hA M M)) (bV hx68 M) (svaI hA M M) hx69)) ?_
        refine .cons (lop M M fun S hA=>(bR (eInt .i64).toEnc0 (a':=x65) M M ti3 (svaR hA M M) (agi hA M M) (svaI hA M M) M M M hx70 (nle M) M hx71)) ?_
        exact .nil
       obtain ⟨x72,hx72,h⟩:=aL h
       obtain ⟨hk73,h⟩:=iG h
       refine aS (aA M (aD M M (lb M) (sv (d:=.osl _ _ _) M))<|aA M (mvI M M M M)<|aA M (mvI M M M M)<|aA M (mvI M M M M)<|aA M (bG (r':=.tuple []) (H1':=[(1000,.blk 3 (D.flat (x72.map (eInt .i64).d)))]) 0 [1000] M M (lb M) cl87 (.cons (sv (congrArg (D.osl _ _) (bV hx71 (bV hx68 M)).symm)) (.cons (svI M) (.cons (svI M) (.cons (svI M) .nil)))) M M ⟨M,M,by decide,M,List.forall_mem_cons.2 ⟨⟨M,M,(fW (eInt .i64) M),(bK (eInt .i64))⟩,List.forall_mem_nil _⟩⟩ (lT _ _ _ _ _ hx72) M M (List.forall_mem_cons.2 ⟨⟨M,(bK (eInt .i64))⟩,List.forall_mem_nil _⟩) (by simp only [List.map_cons,List.map_nil,Ent.ren,bL,bT]; rfl))<|bE ?_)
       refine bI ?_
       refine aJ ?_
       obtain ⟨x74,hx74,h⟩:=aK h
       refine aS (aA M (mvI M M M M)<|aA M (aQ M M (lb M) (svI M) (sv (d:=.int _ 1) M) M hx74)<|aA M (asI M M M M)<|bE ?_)
       refine aJ ⟨(n1,x72,x74),(fun i=>i),⟨(.cons (.same (congrArg (D.osl _ _) hk73.symm) M) (.sames M M)),(.cons (EntW.lst M) .nil),aY [1000] M (by decide),fun _ _=>M⟩,?_,?_⟩
       exact h
       exact Nat.lt_succ_self _
      ·
       replace h:=bY h hc59
       refine cA ?_
       refine bD ?_
       refine bD ?_
       refine cC ?_
       obtain rfl:=sj_ h
       refine ⟨.inl M,(fun i=>i),⟨.nil,(.cons (EntW.lst M) .nil),aY [1000] M (by decide),fun _ _=>M⟩,.nil,M⟩

theorem jR (a0:(List Int)) (a1:Int) (a2:Int) (a3:Int) (r:(Int × Int × Int)) (h:gO a0 a1 a2 a3=some r):FnH prog 94 [.slice false (a0.map (eInt .i64).d),.int .i64 a1,.int .i64 a2,.ref 1000 0] [(1000,.blk 3 [.int .i64 a3])] (retD [.int .i64 r.1,.int .i64 r.2.1]) [(1000,.blk 3 [.int .i64 r.2.2])]:=by
 refine cF (rs:=[.int .i64 r.1,.int .i64 r.2.1]) func94 M ntmps94 (nle M) fun O hO=>?_
 show IWP _ _ _ _ ⟨[(0,.slice false (a0.map (eInt .i64).d)),(1,.int .i64 a1),(2,.int .i64 a2),(3,.ref 1000 0)],[(1000,.blk 3 [.int .i64 a3])]⟩ _
 unfold gO at h
 refine aF (aA M (aI M M (lb M) (sv (d:=.int _ 0) M))<|aA M (aI M M (lb M) (sv (d:=.int _ 0) M))<|aE ?_)
 refine aU ?_
 obtain ⟨x1,hx1,h⟩:=aL h
 obtain ⟨x2,hx2,h⟩:=aL h
 obtain ⟨x3,hx3,h⟩:=aL h
 refine dN M [⟨[0],[],[(10,.slice false (a0.map (eInt .i64).d))],[]⟩,
  ⟨[2],[],[(11,.int .i64 a2)],[]⟩,
  ⟨[10,11],[],[(12,.fptr [.int .i64 x1])],[]⟩,
  ⟨[12],[],[(13,.int .i64 x1)],[]⟩,
  ⟨[0],[],[(14,.slice false (a0.map (eInt .i64).d))],[]⟩,
  ⟨[1],[],[(15,.int .i64 a1)],[]⟩,
  ⟨[14,15],[],[(16,.fptr [.int .i64 x2])],[]⟩,
  ⟨[16],[],[(17,.int .i64 x2)],[]⟩,
  ⟨[13,17],[],[(18,.bool x3)],[]⟩] M ?_ (by kernel_rfl) ?_
 ·refine .cons (lop M M fun S hA=>(aD M M (lb M) (svaL hA M M))) ?_
  refine .cons (lop M M fun S hA=>(aD M M (lb M) (svaI hA M M))) ?_
  refine .cons (lop M M fun S hA=>(iV (eInt .i64) (cs:=[.int _ _]) M M (lb M) underlying24 ti3 (svaL hA M M) (svaI hA M M) hx1 M M)) ?_
  refine .cons (lop M M fun S hA=>(iU M M (lb M) underlying3 ag3 ti3 (by decide) (sv (d:=.fptr [.int _ _]) (agr hA M M)) (nle M))) ?_
  refine .cons (lop M M fun S hA=>(aD M M (lb M) (svaL hA M M))) ?_
  refine .cons (lop M M fun S hA=>(aD M M (lb M) (svaI hA M M))) ?_
  refine .cons (lop M M fun S hA=>(iV (eInt .i64) (cs:=[.int _ _]) M M (lb M) underlying24 ti3 (svaL hA M M) (svaI hA M M) hx2 M M)) ?_
  refine .cons (lop M M fun S hA=>(iU M M (lb M) underlying3 ag3 ti3 (by decide) (sv (d:=.fptr [.int _ _]) (agr hA M M)) (nle M))) ?_
  refine .cons (lop M M fun S hA=>(bJ (r:=.bool _) M M (lb M) cl73 (.cons (svaI hA M M) (.cons (svaI hA M M) .nil)) M (fR _ _ _ hx3))) ?_
  exact .nil
 refine aW (b:=_) M (fun hc4=>?_) (fun hc4=>?_)
 ·
  replace h:=bX h hc4
  obtain ⟨x5,hx5,h⟩:=aK h
  refine aF (aA M (mvR M M M M)<|aA M (aN M M (lb M) (svR M))<|aA M (aR (d:=.int _ _) M M (lb M) underlying3 ag3 ti3 (by decide) (svR M) M (nle M) M)<|aA M (aQ M M (lb M) (svI M) (sv (d:=.int _ 1) M) M hx5)<|aA M (aN M M (lb M) (svR M))<|aA M (fD (ds':=[.int _ _]) M M ti3 (svR M) M (svI M) M M M (nle M) M)<|aE ?_)
  refine aF (aA M (mvI M M M M)<|aA M (mvI M M M M)<|aA M (asI M M M M)<|aA M (asI M M M M)<|aE ?_)
  refine bB ?_
  refine bP ?_
  obtain rfl:=sj_ h
  refine ⟨.inr M,(fun i=>i),⟨.nil,(.cons (.blk M M M) .nil),aY [1000] M (by decide),fun _ _=>M⟩,(.cons (sv M) (.cons (sv M) .nil)),M⟩
 ·
  replace h:=bY h hc4
  refine aT ?_
  refine aJ ?_
  refine aF (aA M (mvI M M M M)<|aA M (mvI M M M M)<|aA M (asI M M M M)<|aA M (asI M M M M)<|aE ?_)
  refine bB ?_
  obtain rfl:=sj_ h
  refine ⟨.inr M,(fun i=>i),⟨.nil,(.cons (.blk M M M) .nil),aY [1000] M (by decide),fun _ _=>M⟩,(.cons (sv M) (.cons (sv M) .nil)),M⟩

theorem mN (a0:(List Int)) (a1:Int) (a2:Int) (a3:Int) (a4:Int) (r:(Int × Int)) (h:iJ a0 a1 a2 a3 a4=some r):FnH prog 89 [.slice false (a0.map (eInt .i64).d),.int .i64 a1,.int .i64 a2,.int .i64 a3,.ref 1000 0] [(1000,.blk 3 [.int .i64 a4])] (.int .i64 r.1) [(1000,.blk 3 [.int .i64 r.2])]:=by
 refine cF (rs:=[.int .i64 r.1]) func89 M ntmps89 (nle M) fun O hO=>?_
 show IWP _ _ _ _ ⟨[(0,.slice false (a0.map (eInt .i64).d)),(1,.int .i64 a1),(2,.int .i64 a2),(3,.int .i64 a3),(4,.ref 1000 0)],[(1000,.blk 3 [.int .i64 a4])]⟩ _
 unfold iJ at h
 refine aF (aA M (aI M M (lb M) (sv (d:=.int _ 0) M))<|aE ?_)
 obtain ⟨x1,hx1,h⟩:=aL h
 refine aF (aA M (mvL M M M M)<|aA M (mvI M M M M)<|aA M (mvI M M M M)<|aA M (mvR M M M M)<|aA M (bG (r':=.tuple [.int .i64 x1.1,.int .i64 x1.2.1]) (H1':=[(1000,.blk 3 [.int .i64 x1.2.2])]) 0 [1000] M M (lb M) cl94 (.cons (svL M) (.cons (svI M) (.cons (svI M) (.cons (svR M) .nil)))) M M ⟨M,M,by decide,M,List.forall_mem_cons.2 ⟨⟨M,M,M,M⟩,List.forall_mem_nil _⟩⟩ (jR _ _ _ _ _ hx1) M M (List.forall_mem_cons.2 ⟨⟨M,M⟩,List.forall_mem_nil _⟩) M)<|aA M (aD M M (lb M) (sv (d:=.tuple q17) M))<|aA M (cM (d:=.int _ _) M M (lb M) (sv (d:=.tuple q17) M) M)<|aA M (cM (d:=.int _ _) M M (lb M) (sv (d:=.tuple q17) M) M)<|aA M (asI M M M M)<|aA M (asI M M M M)<|aE ?_)
 obtain ⟨x2,hx2,h⟩:=aL h
 refine aF (aA M (mvL M M M M)<|aA M (mvI M M M M)<|aA M (mvI M M M M)<|aA M (mvR M M M M)<|aA M (bG (r':=.tuple [.int .i64 x2.1,.int .i64 x2.2.1]) (H1':=[(1000,.blk 3 [.int .i64 x2.2.2])]) 0 [1000] M M (lb M) cl94 (.cons (svL M) (.cons (svI M) (.cons (svI M) (.cons (svR M) .nil)))) M M ⟨M,M,by decide,M,List.forall_mem_cons.2 ⟨⟨M,M,M,M⟩,List.forall_mem_nil _⟩⟩ (jR _ _ _ _ _ hx2) M M (List.forall_mem_cons.2 ⟨⟨M,M⟩,List.forall_mem_nil _⟩) M)<|aA M (aD M M (lb M) (sv (d:=.tuple q17) M))<|aA M (cM (d:=.int _ _) M M (lb M) (sv (d:=.tuple q17) M) M)<|aA M (cM (d:=.int _ _) M M (lb M) (sv (d:=.tuple q17) M) M)<|aA M (asI M M M M)<|aA M (asI M M M M)<|aE ?_)
 obtain ⟨x3,hx3,h⟩:=aL h
 refine aF (aA M (mvL M M M M)<|aA M (mvI M M M M)<|aA M (mvI M M M M)<|aA M (mvR M M M M)<|aA M (bG (r':=.tuple [.int .i64 x3.1,.int .i64 x3.2.1]) (H1':=[(1000,.blk 3 [.int .i64 x3.2.2])]) 0 [1000] M M (lb M) cl94 (.cons (svL M) (.cons (svI M) (.cons (svI M) (.cons (svR M) .nil)))) M M ⟨M,M,by decide,M,List.forall_mem_cons.2 ⟨⟨M,M,M,M⟩,List.forall_mem_nil _⟩⟩ (jR _ _ _ _ _ hx3) M M (List.forall_mem_cons.2 ⟨⟨M,M⟩,List.forall_mem_nil _⟩) M)<|aA M (aD M M (lb M) (sv (d:=.tuple q17) M))<|aA M (cM (d:=.int _ _) M M (lb M) (sv (d:=.tuple q17) M) M)<|aA M (cM (d:=.int _ _) M M (lb M) (sv (d:=.tuple q17) M) M)<|aA M (asI M M M M)<|aA M (asI M M M M)<|aE ?_)
 refine aF (aA M (mvI M M M M)<|aA M (asI M M M M)<|aE ?_)
 refine bB ?_
 obtain rfl:=sj_ h
 refine ⟨.inr M,(fun i=>i),⟨.nil,(.cons (.blk M M M) .nil),aY [1000] M (by decide),fun _ _=>M⟩,(.cons (sv M) .nil),M⟩

theorem gU (a0:(List Int)) (a1:Int) (a2:Int) (r:(Int × Int)) (h:eV a0 a1 a2=some r):FnH prog 88 [.slice false (a0.map (eInt .i64).d),.int .i64 a1,.ref 1000 0] [(1000,.blk 3 [.int .i64 a2])] (.int .i64 r.1) [(1000,.blk 3 [.int .i64 r.2])]:=by
 refine cF (rs:=[.int .i64 r.1]) func88 M ntmps88 (nle M) fun O hO=>?_
 show IWP _ _ _ _ ⟨[(0,.slice false (a0.map (eInt .i64).d)),(1,.int .i64 a1),(2,.ref 1000 0)],[(1000,.blk 3 [.int .i64 a2])]⟩ _
 unfold eV at h
 refine aF (aA M (aI M M (lb M) (sv (d:=.int _ 0) M))<|aE ?_)
 obtain ⟨x1,hx1,h⟩:=aK h
 obtain ⟨x2,hx2,h⟩:=aK h
 obtain ⟨x3,hx3,h⟩:=aL h
 refine aF (aA M (mvL M M M M)<|aA M (mvI M M M M)<|aA M (aQ M M (lb M) (svI M) (sv (d:=.int _ 1) M) M hx1)<|aA M (mvI M M M M)<|aA M (mvI M M M M)<|aA M (aQ M M (lb M) (svI M) (sv (d:=.int _ 1) M) M hx2)<|aA M (mvR M M M M)<|aA M (bG (r':=.int .i64 x3.1) (H1':=[(1000,.blk 3 [.int .i64 x3.2])]) 0 [1000] M M (lb M) cl89 (.cons (svL M) (.cons (svI M) (.cons (svI M) (.cons (svI M) (.cons (svR M) .nil))))) M M ⟨M,M,by decide,M,List.forall_mem_cons.2 ⟨⟨M,M,M,M⟩,List.forall_mem_nil _⟩⟩ (mN _ _ _ _ _ _ hx3) M M (List.forall_mem_cons.2 ⟨⟨M,M⟩,List.forall_mem_nil _⟩) M)<|aA M (asI M M M M)<|aE ?_)
 refine bB ?_
 obtain rfl:=sj_ h
 refine ⟨.inr M,(fun i=>i),⟨.nil,(.cons (.blk M M M) .nil),aY [1000] M (by decide),fun _ _=>M⟩,(.cons (sv M) .nil),M⟩

theorem oR (a0:(List Int)) (a1:Int) (a2:Int) (r:(Int × Int)) (h:jH a0 a1 a2=some r):fS prog 70 [.slice false (a0.map (eInt .i64).d),.int .i64 a1,.int .i64 a2] (retD [.int .i64 r.1,.int .i64 r.2]):=by
 refine cR (rs:=[.int .i64 r.1,.int .i64 r.2]) func70 M ntmps70 (nle M) M fun O hO=>?_
 show IWP _ _ _ _ ⟨[(0,.slice false (a0.map (eInt .i64).d)),(1,.int .i64 a1),(2,.int .i64 a2)],[]⟩ _
 unfold jH at h
 refine aF (aA M (aI M M (lb M) (sv (d:=.int _ 0) M))<|aA M (aI M M (lb M) (sv (d:=.int _ 0) M))<|aE ?_)
 obtain ⟨x1,hx1,h⟩:=aK h
 refine aF (aA M (mvI M M M M)<|aA M (mvI M M M M)<|aA M (aQ M M (lb M) (svI M) (svI M) M hx1)<|aA M (asI M M M M)<|aE ?_)
 refine aF (aA M (gN (cs:=[.int _ _]) (cs':=[.int .i64 0]) 0 M M (lb M) M ti3 M M (.all _))<|aE ?_)
 obtain ⟨x2,hx2,h⟩:=aL h
 obtain ⟨x3,hx3,h⟩:=aK h
 obtain ⟨x4,hx4,h⟩:=aK h
 refine aF (aA M (mvI M M M M)<|aA M (mvI M M M M)<|aA M (lK M M (lb M) (svI M) (sv (d:=.int _ 4) M) hx2)<|aA M (aQ M M (lb M) (svI M) (sv (d:=.int _ 1) M) M hx3)<|aA M (aQ M M (lb M) (svI M) (svI M) M hx4)<|aA M (asI M M M M)<|aE ?_)
 obtain ⟨x5,hx5,h⟩:=aL h
 obtain ⟨x6,hx6,h⟩:=aK h
 obtain ⟨x7,hx7,h⟩:=aK h
 refine aF (aA M (mvI M M M M)<|aA M (mvI M M M M)<|aA M (lK M M (lb M) (svI M) (sv (d:=.int _ 4) M) hx5)<|aA M (aQ M M (lb M) (svI M) (sv (d:=.int _ 2) M) M hx6)<|aA M (aQ M M (lb M) (svI M) (svI M) M hx7)<|aA M (asI M M M M)<|aE ?_)
 obtain ⟨x8,hx8,h⟩:=aL h
 obtain ⟨x9,hx9,h⟩:=aK h
 obtain ⟨x10,hx10,h⟩:=aK h
 refine aF (aA M (mvI M M M M)<|aA M (mvI M M M M)<|aA M (lK M M (lb M) (svI M) (sv (d:=.int _ 4) M) hx8)<|aA M (aQ M M (lb M) (svI M) (sv (d:=.int _ 3) M) M hx9)<|aA M (aQ M M (lb M) (svI M) (svI M) M hx10)<|aA M (asI M M M M)<|aE ?_)
 refine fL (α:=Int × Int) (fun z=>⟨[(9,.ref 0 0),(11,.int .i64 z.1)],[(0,.blk 3 [.int .i64 z.2])]⟩) (fun z=>gH z.1 z.2=some r) ?_ ?_
 ·
  obtain ⟨x34,hx34,h⟩:=aK h
  refine aF (aA M (mvI M M M M)<|aA M (aO M M (lb M) (svI M) (sv (d:=.int _ 8) M) M hx34)<|aE ?_)
  refine aW (b:=_) M (fun hc35=>?_) (fun hc35=>?_)
  ·
   replace h:=bX h hc35
   refine fL (α:=Int × Int × Int × Int) (fun z=>⟨[(0,.slice false (a0.map (eInt .i64).d)),(9,.ref 0 0),(10,.int .i64 z.1),(11,.int .i64 z.2.1),(12,.int .i64 z.2.2.1)],[(0,.blk 3 [.int .i64 z.2.2.2])]⟩) (fun z=>gG a0 z.1 z.2.1 z.2.2.1 z.2.2.2=some r) ?_ ?_
   ·
    obtain ⟨x46,hx46,h⟩:=aK h
    refine aF (aA M (mvI M M M M)<|aA M (aO M M (lb M) (svI M) (sv (d:=.int _ 50) M) M hx46)<|aE ?_)
    refine aW (b:=_) M (fun hc47=>?_) (fun hc47=>?_)
    ·
     replace h:=bX h hc47
     obtain ⟨x48,hx48,h⟩:=aL h
     refine aF (aA M (mvL M M M M)<|aA M (mvI M M M M)<|aA M (bG (r':=.int .i64 x48.1) (H1':=[(0,.blk 3 [.int .i64 x48.2])]) 1 [0] M M (lb M) cl88 (.cons (svL M) (.cons (svI M) (.cons (svR M) .nil))) M M ⟨M,M,by decide,M,List.forall_mem_cons.2 ⟨⟨M,M,M,M⟩,List.forall_mem_nil _⟩⟩ (gU _ _ _ _ hx48) M M (List.forall_mem_cons.2 ⟨⟨M,M⟩,List.forall_mem_nil _⟩) M)<|aA M (asI M M M M)<|aE ?_)
     obtain ⟨x49,hx49,h⟩:=aL h
     refine aF (aA M (mvL M M M M)<|aA M (mvI M M M M)<|aA M (bG (r':=.int .i64 x49.1) (H1':=[(0,.blk 3 [.int .i64 x49.2])]) 1 [0] M M (lb M) cl88 (.cons (svL M) (.cons (svI M) (.cons (svR M) .nil))) M M ⟨M,M,by decide,M,List.forall_mem_cons.2 ⟨⟨M,M,M,M⟩,List.forall_mem_nil _⟩⟩ (gU _ _ _ _ hx49) M M (List.forall_mem_cons.2 ⟨⟨M,M⟩,List.forall_mem_nil _⟩) M)<|aA M (asI M M M M)<|aE ?_)
     obtain ⟨x50,hx50,h⟩:=aL h
     refine aS (aA M (mvL M M M M)<|aA M (mvI M M M M)<|aA M (bG (r':=.int .i64 x50.1) (H1':=[(0,.blk 3 [.int .i64 x50.2])]) 1 [0] M M (lb M) cl88 (.cons (svL M) (.cons (svI M) (.cons (svR M) .nil))) M M ⟨M,M,by decide,M,List.forall_mem_cons.2 ⟨⟨M,M,M,M⟩,List.forall_mem_nil _⟩⟩ (gU _ _ _ _ hx50) M M (List.forall_mem_cons.2 ⟨⟨M,M⟩,List.forall_mem_nil _⟩) M)<|aA M (asI M M M M)<|bE ?_)
     refine aJ ⟨(x48.1,x49.1,x50.1,x50.2),(fun i=>i),⟨(.sames M M),(.cons (.blk M M M) .nil),aY [0] M (by decide),fun _ _=>M⟩,?_⟩
     exact h
    ·
     replace h:=bY h hc47
     refine aT ?_
     refine aJ ⟨(x4,x7,x10,0),(fun i=>i),⟨(.sames M M),(.cons (.blk M M M) .nil),aY [0] M (by decide),fun _ _=>M⟩,?_⟩
     exact h
   ·
    rintro ⟨v41,v42,v43,v44⟩ h
    unfold gG at h
    obtain ⟨x45,hx45,h⟩:=aL h
    refine aS (aA M (mvL M M M M)<|aA M (mvI M M M M)<|aA M (mvI M M M M)<|aA M (mvI M M M M)<|aA M (bG (r':=.int .i64 x45.1) (H1':=[(0,.blk 3 [.int .i64 x45.2])]) 1 [0] M M (lb M) cl89 (.cons (svL M) (.cons (svI M) (.cons (svI M) (.cons (svI M) (.cons (svR M) .nil))))) M M ⟨M,M,by decide,M,List.forall_mem_cons.2 ⟨⟨M,M,M,M⟩,List.forall_mem_nil _⟩⟩ (mN _ _ _ _ _ _ hx45) M M (List.forall_mem_cons.2 ⟨⟨M,M⟩,List.forall_mem_nil _⟩) M)<|aA M (asI M M M M)<|bE ?_)
    refine aJ ⟨(x45.1,x45.2),(fun i=>i),⟨(.sames M M),(.cons (.blk M M M) .nil),aY [0] M (by decide),fun _ _=>M⟩,?_⟩
    exact h
  ·
   replace h:=bY h hc35
   refine aT ?_
   refine aJ ⟨(x7,0),(fun i=>i),⟨(.sames M M),(.cons (.blk M M M) .nil),aY [0] M (by decide),fun _ _=>M⟩,?_⟩
   exact h
 ·
  rintro ⟨v28,v29⟩ h
  unfold gH at h
  refine aF (aA M (aR (d:=.int _ _) M M (lb M) underlying3 ag3 ti3 (by decide) (svR M) M (nle M) M)<|aE ?_)
  refine aV ?_
  obtain ⟨x30,hx30,h⟩:=aK h
  refine aF (aA M (aO M M (lb M) (svI M) (sv (d:=.int _ 0) M) M hx30)<|aA M (asB M M M M)<|aE ?_)
  refine aW (b:=_) M (fun hc31=>?_) (fun hc31=>?_)
  ·
   replace h:=bX h hc31
   refine aF (aA M (mvI M M M M)<|aA M (asI M M M M)<|aA M (aI M M (lb M) (sv (d:=.int _ 1) M))<|aE ?_)
   refine bB ?_
   refine dB ?_
   obtain rfl:=sj_ h
   refine ⟨.inr M,(.cons (sv M) (.cons (sv M) .nil))⟩
  ·
   replace h:=bY h hc31
   obtain ⟨x32,hx32,h⟩:=aK h
   refine aF (aA M (aO M M (lb M) (svI M) (sv (d:=.int _ 12) M) M hx32)<|aA M (asB M M M M)<|aE ?_)
   refine aW (b:=_) M (fun hc33=>?_) (fun hc33=>?_)
   ·
    replace h:=bX h hc33
    refine aF (aA M (mvI M M M M)<|aA M (asI M M M M)<|aA M (aI M M (lb M) (sv (d:=.int _ 2) M))<|aE ?_)
    refine bB ?_
    refine dB ?_
    obtain rfl:=sj_ h
    refine ⟨.inr M,(.cons (sv M) (.cons (sv M) .nil))⟩
   ·
    replace h:=bY h hc33
    refine aF (aA M (mvI M M M M)<|aA M (asI M M M M)<|aA M (aI M M (lb M) (sv (d:=.int _ 0) M))<|aE ?_)
    refine bB ?_
    refine dB ?_
    obtain rfl:=sj_ h
    refine ⟨.inr M,(.cons (sv M) (.cons (sv M) .nil))⟩

theorem nS (a0:Int) (a1:Int) (a2:(List Int)) (r:(List Int)) (h:iI a0 a1 a2=some r):FnH prog 71 [.osl 1000 (eInt .i64).sz a2.length,.int .i64 a0,.int .i64 a1] [(1000,.blk 3 (D.flat (a2.map (eInt .i64).d)))] (retD []) [(1000,.blk 3 (D.flat (r.map (eInt .i64).d)))]:=by
 refine cF (rs:=[]) func71 M ntmps71 (nle M) fun O hO=>?_
 show IWP _ _ _ _ ⟨[(0,.osl 1000 (eInt .i64).sz a2.length),(1,.int .i64 a0),(2,.int .i64 a1)],[(1000,.blk 3 (D.flat (a2.map (eInt .i64).d)))]⟩ _
 unfold iI at h
 refine aF (aA M (mvI M M M M)<|aA M (asI M M M M)<|aE ?_)
 obtain ⟨x1,hx1,h⟩:=aK h
 refine aF (aA M (mvI M M M M)<|aA M (aQ M M (lb M) (svI M) (sv (d:=.int _ 1) M) M hx1)<|aA M (asI M M M M)<|aE ?_)
 refine aV ?_
 refine bS (α:=Nat × (List Int) × Int × Int) (fun z=>⟨[(0,.osl 1000 (eInt .i64).sz z.2.1.length),(6,.int .i64 z.2.2.1),(7,.int .i64 z.2.2.2)],[(1000,.blk 3 (D.flat (z.2.1.map (eInt .i64).d)))]⟩) (fun z=>eS z.1 z.2.1 z.2.2.1 z.2.2.2=some r) (fun z=>z.1) (fuel,a2,a0,x1) (fun i=>i) ⟨(.sames M M),(.cons (EntW.lst M) .nil),aY [1000] M (by decide),fun _ _=>M⟩ ?_ ?_
 ·exact h
 ·
  rintro ⟨n0,v16,v17,v18⟩ h
  cases n0 with
  | zero=>exact absurd h (by unfold eS; exact nofun)
  | succ n0 =>
   unfold eS at h
   refine aU ?_
   obtain ⟨x33,hx33,h⟩:=aK h
   refine aF (aA M (mvI M M M M)<|aA M (mvI M M M M)<|aA M (aO M M (lb M) (svI M) (svI M) M hx33)<|aE ?_)
   refine aW (b:=_) M (fun hc34=>?_) (fun hc34=>?_)
   ·
    replace h:=bX h hc34
    refine aT ?_
    refine aJ ?_
    refine aV ?_
    obtain ⟨x35,hx35,h⟩:=aL h
    obtain ⟨x36,hx36,h⟩:=aL h
    obtain ⟨x37,hx37,h⟩:=aL h
    obtain ⟨x38,hx38,h⟩:=aL h
    obtain ⟨x39,hx39,h⟩:=aL h
    obtain ⟨x40,hx40,h⟩:=aL h
    obtain ⟨x41,hx41,h⟩:=aK h
    obtain ⟨x42,hx42,h⟩:=aL h
    obtain ⟨x43,hx43,h⟩:=aL h
    obtain ⟨x44,hx44,h⟩:=aK h
    refine dN M [⟨[0],[],[(14,.osl 1000 (eInt .i64).sz v16.length)],[]⟩,
     ⟨[6],[],[(15,.int .i64 v17)],[]⟩,
     ⟨[0],[],[(16,.osl 1000 (eInt .i64).sz v16.length)],[]⟩,
     ⟨[7],[],[(17,.int .i64 v18)],[]⟩,
     ⟨[0],[],[(18,.osl 1000 (eInt .i64).sz v16.length)],[]⟩,
     ⟨[7],[],[(19,.int .i64 v18)],[]⟩,
     ⟨[18,19],[],[(20,.ref 1000 (((v18:Int).toNat) * (eInt .i64).sz + 0))],[]⟩,
     ⟨[20],[1000],[(21,.int .i64 x36)],[]⟩,
     ⟨[0],[],[(22,.osl 1000 (eInt .i64).sz v16.length)],[]⟩,
     ⟨[6],[],[(23,.int .i64 v17)],[]⟩,
     ⟨[22,23],[],[(24,.ref 1000 (((v17:Int).toNat) * (eInt .i64).sz + 0))],[]⟩,
     ⟨[24],[1000],[(25,.int .i64 x38)],[]⟩,
     ⟨[14,15],[],[(26,.ref 1000 (((v17:Int).toNat) * (eInt .i64).sz + 0))],[]⟩,
     ⟨[21,26],[1000],[],[(1000,.blk 3 (D.flat (x41.map (eInt .i64).d)))]⟩,
     ⟨[16,17],[],[(27,.ref 1000 (((v18:Int).toNat) * (eInt .i64).sz + 0))],[]⟩,
     ⟨[25,27],[1000],[],[(1000,.blk 3 (D.flat (x44.map (eInt .i64).d)))]⟩] M ?_ (by kernel_rfl) ?_
    ·refine .cons (lop M M fun S hA=>(aD M M (lb M) (sv (d:=.osl _ _ _) (agr hA M M)))) ?_
     refine .cons (lop M M fun S hA=>(aD M M (lb M) (svaI hA M M))) ?_
     refine .cons (lop M M fun S hA=>(aD M M (lb M) (sv (d:=.osl _ _ _) (agr hA M M)))) ?_
     refine .cons (lop M M fun S hA=>(aD M M (lb M) (svaI hA M M))) ?_
     refine .cons (lop M M fun S hA=>(aD M M (lb M) (sv (d:=.osl _ _ _) (agr hA M M)))) ?_
     refine .cons (lop M M fun S hA=>(aD M M (lb M) (svaI hA M M))) ?_
     refine .cons (lop M M fun S hA=>(aX (eInt .i64).toEnc0 M M (lb M) underlying24 ti3 (sv (d:=.osl _ _ _) (agr hA M M)) M (svaI hA M M) hx35)) ?_
     refine .cons (lop M M fun S hA=>(bO (eInt .i64).toEnc0 (d:=.int _ _) M M (lb M) underlying3 ag3 ti3 (by decide) (svaR hA M M) (agi hA M M) hx36 (nle M) M)) ?_
     refine .cons (lop M M fun S hA=>(aD M M (lb M) (sv (d:=.osl _ _ _) (agr hA M M)))) ?_
     refine .cons (lop M M fun S hA=>(aD M M (lb M) (svaI hA M M))) ?_
     refine .cons (lop M M fun S hA=>(aX (eInt .i64).toEnc0 M M (lb M) underlying24 ti3 (sv (d:=.osl _ _ _) (agr hA M M)) M (svaI hA M M) hx37)) ?_
     refine .cons (lop M M fun S hA=>(bO (eInt .i64).toEnc0 (d:=.int _ _) M M (lb M) underlying3 ag3 ti3 (by decide) (svaR hA M M) (agi hA M M) hx38 (nle M) M)) ?_
     refine .cons (lop M M fun S hA=>(aX (eInt .i64).toEnc0 M M (lb M) underlying24 ti3 (sv (d:=.osl _ _ _) (agr hA M M)) M (svaI hA M M) hx39)) ?_
     refine .cons (lop M M fun S hA=>(bR (eInt .i64).toEnc0 (a':=x36) M M ti3 (svaR hA M M) (agi hA M M) (svaI hA M M) M M M hx40 (nle M) M hx41)) ?_
     refine .cons (lop M M fun S hA=>(aX (eInt .i64).toEnc0 M M (lb M) underlying24 ti3 (sv (d:=.osl _ _ _) (agr hA M M)) (bV hx41 M) (svaI hA M M) hx42)) ?_
     refine .cons (lop M M fun S hA=>(bR (eInt .i64).toEnc0 (a':=x38) M M ti3 (svaR hA M M) (agi hA M M) (svaI hA M M) M M M hx43 (nle M) M hx44)) ?_
     exact .nil
    obtain ⟨x45,hx45,h⟩:=aK h
    refine aF (aA M (mvI M M M M)<|aA M (aQ M M (lb M) (svI M) (sv (d:=.int _ 1) M) M hx45)<|aA M (asI M M M M)<|aE ?_)
    obtain ⟨x46,hx46,h⟩:=aK h
    refine aS (aA M (mvI M M M M)<|aA M (aQ M M (lb M) (svI M) (sv (d:=.int _ 1) M) M hx46)<|aA M (asI M M M M)<|bE ?_)
    refine bI ?_
    refine aJ ⟨(n0,x44,x45,x46),(fun i=>i),⟨(.cons (.same (congrArg (D.osl _ _) (bV hx44 (bV hx41 M)).symm) M) (.sames M M)),(.cons (EntW.lst M) .nil),aY [1000] M (by decide),fun _ _=>M⟩,?_,?_⟩
    exact h
    exact Nat.lt_succ_self _
   ·
    replace h:=bY h hc34
    refine cA ?_
    refine bD ?_
    refine bD ?_
    refine cC ?_
    obtain rfl:=sj_ h
    refine ⟨.inl M,(fun i=>i),⟨.nil,(.cons (EntW.lst M) .nil),aY [1000] M (by decide),fun _ _=>M⟩,.nil,M⟩

theorem mF (a0 : Int) (a1:Int) (a2:(List Int)) (r:(Bool × (List Int))) (h:gF a0 a1 a2=some r):FnH prog 72 [.osl 1000 (eInt .i64).sz a2.length,.int .i64 a0,.int .i64 a1] [(1000,.blk 3 (D.flat (a2.map (eInt .i64).d)))] (.bool r.1) [(1000,.blk 3 (D.flat (r.2.map (eInt .i64).d)))]:=by
 refine cF (rs:=[.bool r.1]) func72 M ntmps72 (nle M) fun O hO=>?_
 show IWP _ _ _ _ ⟨[(0,.osl 1000 (eInt .i64).sz a2.length),(1,.int .i64 a0),(2,.int .i64 a1)],[(1000,.blk 3 (D.flat (a2.map (eInt .i64).d)))]⟩ _
 unfold gF at h
 refine aF (aA M (aI M M (lb M) (sv (d:=.bool false) M))<|aE ?_)
 obtain ⟨x1,hx1,h⟩:=aK h
 refine aF (aA M (mvI M M M M)<|aA M (aQ M M (lb M) (svI M) (sv (d:=.int _ 1) M) M hx1)<|aA M (asI M M M M)<|aE ?_)
 refine aU ?_
 refine aF (aA M (aI M M (lb M) (sv (d:=.int _ 0) M))<|aE ?_)
 refine aV ?_
 refine bS (α:=Nat × (List Int) × Int × Int) (fun z=>⟨[(0,.osl 1000 (eInt .i64).sz z.2.1.length),(1,.int .i64 a0),(2,.int .i64 a1),(7,.int .i64 z.2.2.1),(8,.int .i64 z.2.2.2)],[(1000,.blk 3 (D.flat (z.2.1.map (eInt .i64).d)))]⟩) (fun z=>bZ a0 a1 z.1 z.2.1 z.2.2.1 z.2.2.2=some r) (fun z=>z.1) (fuel,a2,x1,0) (fun i=>i) ⟨(.sames M M),(.cons (EntW.lst M) .nil),aY [1000] M (by decide),fun _ _=>M⟩ ?_ ?_
 ·exact h
 ·
  rintro ⟨n0,v272,v273,v274⟩ h
  cases n0 with
  | zero=>exact absurd h (by unfold bZ; exact nofun)
  | succ n0 =>
   unfold bZ at h
   refine aU ?_
   obtain ⟨x545,hx545,h⟩:=aK h
   refine aF (aA M (mvI M M M M)<|aA M (aO M M (lb M) (svI M) (sv (d:=.int _ 5) M) M hx545)<|aE ?_)
   refine aW (b:=_) M (fun hc546=>?_) (fun hc546=>?_)
   ·
    replace h:=bX h hc546
    refine aT ?_
    refine aJ ?_
    refine aU ?_
    refine aV ?_
    refine aU ?_
    refine aV ?_
    refine bS (α:=Nat × Int) (fun z=>⟨[(0,.osl 1000 (eInt .i64).sz v272.length),(1,.int .i64 a0),(2,.int .i64 a1),(7,.int .i64 z.2),(8,.int .i64 v274)],[(1000,.blk 3 (D.flat (v272.map (eInt .i64).d)))]⟩) (fun z=>dX a0 a1 v272 v274 (bZ a0 a1 n0) z.1 z.2=some r) (fun z=>z.1) (fuel,v273) (fun i=>i) ⟨(.sames M M),(.cons (EntW.lst M) .nil),aY [1000] M (by decide),fun _ _=>M⟩ ?_ ?_
    ·exact h
    ·
     rintro ⟨n1,v557⟩ h
     cases n1 with
     | zero=>exact absurd h (by unfold dX; exact nofun)
     | succ n1 =>
      unfold dX at h
      refine aU ?_
      obtain ⟨x568,hx568,h⟩:=aK h
      obtain ⟨x569,hx569,h⟩:=aL h
      obtain ⟨x570,hx570,h⟩:=aL h
      obtain ⟨x571,hx571,h⟩:=aK h
      obtain ⟨x572,hx572,h⟩:=aL h
      obtain ⟨x573,hx573,h⟩:=aL h
      obtain ⟨x574,hx574,h⟩:=aL h
      obtain ⟨x575,hx575,h⟩:=aK h
      refine dN M [⟨[7],[],[(17,.int .i64 v557)],[]⟩,
       ⟨[2],[],[(18,.int .i64 a1)],[]⟩,
       ⟨[17,18],[],[(19,.bool x568)],[]⟩,
       ⟨[19],[],[(20,.bool x568)],[]⟩,
       ⟨[0,20],[],[(21,.cnd (x568 == true) (.osl 1000 (eInt .i64).sz v272.length))],[]⟩,
       ⟨[7,20],[],[(22,.cnd (x568 == true) (.int .i64 v557))],[]⟩,
       ⟨[20,21,22],[],[(23,.cnd (x568 == true) (.ref 1000 (((v557:Int).toNat) * (eInt .i64).sz + 0)))],[]⟩,
       ⟨[20,23],[1000],[(24,.cnd (x568 == true) (.int .i64 x570))],[]⟩,
       ⟨[0,20],[],[(25,.cnd (x568 == true) (.osl 1000 (eInt .i64).sz v272.length))],[]⟩,
       ⟨[7,20],[],[(26,.cnd (x568 == true) (.int .i64 v557))],[]⟩,
       ⟨[20,26],[],[(27,.cnd (x568 == true) (.int .i64 x571))],[]⟩,
       ⟨[20,25,27],[],[(28,.cnd (x568 == true) (.ref 1000 (((x571:Int).toNat) * (eInt .i64).sz + 0)))],[]⟩,
       ⟨[20,28],[1000],[(29,.cnd (x568 == true) (.int .i64 x573))],[]⟩,
       ⟨[20,24,29],[],[(30,.cnd (x568 == true) (.bool x574))],[]⟩,
       ⟨[20,30],[],[(31,.cnd (x568 == true) (.bool (!x574)))],[]⟩,
       ⟨[20,31],[],[(32,.bool x575)],[]⟩] M ?_ (by kernel_rfl) ?_
      ·refine .cons (lop M M fun S hA=>(aD M M (lb M) (svaI hA M M))) ?_
       refine .cons (lop M M fun S hA=>(aD M M (lb M) (svaI hA M M))) ?_
       refine .cons (lop M M fun S hA=>(aO M M (lb M) (svaI hA M M) (svaI hA M M) M hx568)) ?_
       refine .cons (lop M M fun S hA=>(aD M M (lb M) (svaB hA M M))) ?_
       refine .cons (lopg M M M M (by decide) (fun S hA=>grd1 hA M M) (fun S hA hb=>(aD M M (lb M) (sv (d:=.osl _ _ _) (agr hA M M))))) ?_
       refine .cons (lopg M M M M (by decide) (fun S hA=>grd1 hA M M) (fun S hA hb=>(aD M M (lb M) (svaI hA M M)))) ?_
       refine .cons (lopg M M M M (by decide) (fun S hA=>grd1 hA M M) (fun S hA hb=>(aX (eInt .i64).toEnc0 M M (lb M) underlying24 ti3 (svc (d:=.osl _ _ _) (agr hA M M) hb) M (svc (d:=.int _ _) (agr hA M M) hb) (gd_t hx569 hb)))) ?_
       refine .cons (lopg M M M M (by decide) (fun S hA=>grd1 hA M M) (fun S hA hb=>(bO (eInt .i64).toEnc0 (d:=.int _ _) M M (lb M) underlying3 ag3 ti3 (by decide) (svc (d:=.ref _ _) (agr hA M M) hb) (agi hA M M) (gd_t hx570 hb) (nle M) M))) ?_
       refine .cons (lopg M M M M (by decide) (fun S hA=>grd1 hA M M) (fun S hA hb=>(aD M M (lb M) (sv (d:=.osl _ _ _) (agr hA M M))))) ?_
       refine .cons (lopg M M M M (by decide) (fun S hA=>grd1 hA M M) (fun S hA hb=>(aD M M (lb M) (svaI hA M M)))) ?_
       refine .cons (lopg M M M M (by decide) (fun S hA=>grd1 hA M M) (fun S hA hb=>(aQ M M (lb M) (svc (d:=.int _ _) (agr hA M M) hb) (sv (d:=.int _ 1) M) M hx571))) ?_
       refine .cons (lopg M M M M (by decide) (fun S hA=>grd1 hA M M) (fun S hA hb=>(aX (eInt .i64).toEnc0 M M (lb M) underlying24 ti3 (svc (d:=.osl _ _ _) (agr hA M M) hb) M (svc (d:=.int _ _) (agr hA M M) hb) (gd_t hx572 hb)))) ?_
       refine .cons (lopg M M M M (by decide) (fun S hA=>grd1 hA M M) (fun S hA hb=>(bO (eInt .i64).toEnc0 (d:=.int _ _) M M (lb M) underlying3 ag3 ti3 (by decide) (svc (d:=.ref _ _) (agr hA M M) hb) (agi hA M M) (gd_t hx573 hb) (nle M) M))) ?_
       refine .cons (lopg M M M M (by decide) (fun S hA=>grd1 hA M M) (fun S hA hb=>(bJ (r:=.bool _) M M (lb M) cl73 (.cons (svc (d:=.int _ _) (agr hA M M) hb) (.cons (svc (d:=.int _ _) (agr hA M M) hb) .nil)) M (fR _ _ _ (gd_t hx574 hb))))) ?_
       refine .cons (lopg M M M M (by decide) (fun S hA=>grd1 hA M M) (fun S hA hb=>(eX M M (lb M) (svc (d:=.bool _) (agr hA M M) hb)))) ?_
       refine .cons (lop M M fun S hA=>(bC M M (lb M) (svaB hA M M) (agr hA M M) M hx575)) ?_
       exact .nil
      refine aW (b:=_) M (fun hc576=>?_) (fun hc576=>?_)
      ·
       replace h:=bX h hc576
       refine aT ?_
       refine aJ ?_
       refine aV ?_
       obtain ⟨x577,hx577,h⟩:=aK h
       refine aS (aA M (mvI M M M M)<|aA M (aQ M M (lb M) (svI M) (sv (d:=.int _ 1) M) M hx577)<|aA M (asI M M M M)<|bE ?_)
       refine bI ?_
       refine aJ ⟨(n1,x577),(fun i=>i),⟨(.sames M M),(.cons (EntW.lst M) .nil),aY [1000] M (by decide),fun _ _=>M⟩,?_,?_⟩
       exact h
       exact Nat.lt_succ_self _
      ·
       replace h:=bY h hc576
       refine cA ?_
       refine bD ?_
       refine bD ?_
       refine cC ?_
       refine aJ ?_
       refine aU ?_
       obtain ⟨x578,hx578,h⟩:=aK h
       refine aF (aA M (mvI M M M M)<|aA M (mvI M M M M)<|aA M (aO M M (lb M) (svI M) (svI M) M hx578)<|aE ?_)
       refine aW (b:=_) M (fun hc579=>?_) (fun hc579=>?_)
       ·
        replace h:=bX h hc579
        refine aF (aA M (aI M M (lb M) (sv (d:=.bool true) M))<|aE ?_)
        refine bB ?_
        refine bP ?_
        refine dB ?_
        refine bP ?_
        refine bP ?_
        refine dB ?_
        refine bP ?_
        obtain rfl:=sj_ h
        refine ⟨.inr M,(fun i=>i),⟨.nil,(.cons (EntW.lst M) .nil),aY [1000] M (by decide),fun _ _=>M⟩,(.cons (sv M) .nil),M⟩
       ·
        replace h:=bY h hc579
        refine aT ?_
        refine aJ ?_
        refine aU ?_
        obtain ⟨x580,hx580,h⟩:=aK h
        obtain ⟨x581,hx581,h⟩:=aK h
        refine aF (aA M (mvI M M M M)<|aA M (mvI M M M M)<|aA M (aQ M M (lb M) (svI M) (svI M) M hx580)<|aA M (aO M M (lb M) (svI M) (sv (d:=.int _ 50) M) M hx581)<|aE ?_)
        refine aW (b:=_) M (fun hc582=>?_) (fun hc582=>?_)
        ·
         replace h:=bX h hc582
         refine aF (aA M (aI M M (lb M) (sv (d:=.bool false) M))<|aE ?_)
         refine bB ?_
         refine bP ?_
         refine dB ?_
         refine bP ?_
         refine bP ?_
         refine dB ?_
         refine bP ?_
         obtain rfl:=sj_ h
         refine ⟨.inr M,(fun i=>i),⟨.nil,(.cons (EntW.lst M) .nil),aY [1000] M (by decide),fun _ _=>M⟩,(.cons (sv M) .nil),M⟩
        ·
         replace h:=bY h hc582
         refine aT ?_
         refine aJ ?_
         obtain ⟨x583,hx583,h⟩:=aK h
         obtain ⟨x584,hx584,h⟩:=aK h
         obtain ⟨x585,hx585,h⟩:=aL h
         obtain ⟨x586,hx586,h⟩:=aL h
         obtain ⟨x587,hx587,h⟩:=aL h
         obtain ⟨x588,hx588,h⟩:=aL h
         obtain ⟨x589,hx589,h⟩:=aL h
         obtain ⟨x590,hx590,h⟩:=aL h
         obtain ⟨x591,hx591,h⟩:=aK h
         obtain ⟨x592,hx592,h⟩:=aL h
         obtain ⟨x593,hx593,h⟩:=aL h
         obtain ⟨x594,hx594,h⟩:=aK h
         refine dN M [⟨[0],[],[(42,.osl 1000 (eInt .i64).sz v272.length)],[]⟩,
          ⟨[7],[],[(43,.int .i64 v557)],[]⟩,
          ⟨[0],[],[(44,.osl 1000 (eInt .i64).sz v272.length)],[]⟩,
          ⟨[7],[],[(45,.int .i64 v557)],[]⟩,
          ⟨[45],[],[(46,.int .i64 x583)],[]⟩,
          ⟨[0],[],[(47,.osl 1000 (eInt .i64).sz v272.length)],[]⟩,
          ⟨[7],[],[(48,.int .i64 v557)],[]⟩,
          ⟨[48],[],[(49,.int .i64 x584)],[]⟩,
          ⟨[47,49],[],[(50,.ref 1000 (((x584:Int).toNat) * (eInt .i64).sz + 0))],[]⟩,
          ⟨[50],[1000],[(51,.int .i64 x586)],[]⟩,
          ⟨[0],[],[(52,.osl 1000 (eInt .i64).sz v272.length)],[]⟩,
          ⟨[7],[],[(53,.int .i64 v557)],[]⟩,
          ⟨[52,53],[],[(54,.ref 1000 (((v557:Int).toNat) * (eInt .i64).sz + 0))],[]⟩,
          ⟨[54],[1000],[(55,.int .i64 x588)],[]⟩,
          ⟨[42,43],[],[(56,.ref 1000 (((v557:Int).toNat) * (eInt .i64).sz + 0))],[]⟩,
          ⟨[51,56],[1000],[],[(1000,.blk 3 (D.flat (x591.map (eInt .i64).d)))]⟩,
          ⟨[44,46],[],[(57,.ref 1000 (((x583:Int).toNat) * (eInt .i64).sz + 0))],[]⟩,
          ⟨[55,57],[1000],[],[(1000,.blk 3 (D.flat (x594.map (eInt .i64).d)))]⟩] M ?_ (by kernel_rfl) ?_
         ·refine .cons (lop M M fun S hA=>(aD M M (lb M) (sv (d:=.osl _ _ _) (agr hA M M)))) ?_
          refine .cons (lop M M fun S hA=>(aD M M (lb M) (svaI hA M M))) ?_
          refine .cons (lop M M fun S hA=>(aD M M (lb M) (sv (d:=.osl _ _ _) (agr hA M M)))) ?_
          refine .cons (lop M M fun S hA=>(aD M M (lb M) (svaI hA M M))) ?_
          refine .cons (lop M M fun S hA=>(aQ M M (lb M) (svaI hA M M) (sv (d:=.int _ 1) M) M hx583)) ?_
          refine .cons (lop M M fun S hA=>(aD M M (lb M) (sv (d:=.osl _ _ _) (agr hA M M)))) ?_
          refine .cons (lop M M fun S hA=>(aD M M (lb M) (svaI hA M M))) ?_
          refine .cons (lop M M fun S hA=>(aQ M M (lb M) (svaI hA M M) (sv (d:=.int _ 1) M) M hx584)) ?_
          refine .cons (lop M M fun S hA=>(aX (eInt .i64).toEnc0 M M (lb M) underlying24 ti3 (sv (d:=.osl _ _ _) (agr hA M M)) M (svaI hA M M) hx585)) ?_
          refine .cons (lop M M fun S hA=>(bO (eInt .i64).toEnc0 (d:=.int _ _) M M (lb M) underlying3 ag3 ti3 (by decide) (svaR hA M M) (agi hA M M) hx586 (nle M) M)) ?_
          refine .cons (lop M M fun S hA=>(aD M M (lb M) (sv (d:=.osl _ _ _) (agr hA M M)))) ?_
          refine .cons (lop M M fun S hA=>(aD M M (lb M) (svaI hA M M))) ?_
          refine .cons (lop M M fun S hA=>(aX (eInt .i64).toEnc0 M M (lb M) underlying24 ti3 (sv (d:=.osl _ _ _) (agr hA M M)) M (svaI hA M M) hx587)) ?_
          refine .cons (lop M M fun S hA=>(bO (eInt .i64).toEnc0 (d:=.int _ _) M M (lb M) underlying3 ag3 ti3 (by decide) (svaR hA M M) (agi hA M M) hx588 (nle M) M)) ?_
          refine .cons (lop M M fun S hA=>(aX (eInt .i64).toEnc0 M M (lb M) underlying24 ti3 (sv (d:=.osl _ _ _) (agr hA M M)) M (svaI hA M M) hx589)) ?_
          refine .cons (lop M M fun S hA=>(bR (eInt .i64).toEnc0 (a':=x586) M M ti3 (svaR hA M M) (agi hA M M) (svaI hA M M) M M M hx590 (nle M) M hx591)) ?_
          refine .cons (lop M M fun S hA=>(aX (eInt .i64).toEnc0 M M (lb M) underlying24 ti3 (sv (d:=.osl _ _ _) (agr hA M M)) (bV hx591 M) (svaI hA M M) hx592)) ?_
          refine .cons (lop M M fun S hA=>(bR (eInt .i64).toEnc0 (a':=x588) M M ti3 (svaR hA M M) (agi hA M M) (svaI hA M M) M M M hx593 (nle M) M hx594)) ?_
          exact .nil
         refine fL (α:=(List Int)) (fun z=>⟨[(0,.osl 1000 (eInt .i64).sz z.length),(1,.int .i64 a0),(2,.int .i64 a1),(7,.int .i64 v557),(8,.int .i64 v274)],[(1000,.blk 3 (D.flat (z.map (eInt .i64).d)))]⟩) (fun z=>dY a1 v274 (bZ a0 a1 n0) v557 z=some r) ?_ ?_
         ·
          obtain ⟨x743,hx743,h⟩:=aK h
          obtain ⟨x744,hx744,h⟩:=aK h
          refine aF (aA M (mvI M M M M)<|aA M (mvI M M M M)<|aA M (aQ M M (lb M) (svI M) (svI M) M hx743)<|aA M (aO M M (lb M) (svI M) (sv (d:=.int _ 2) M) M hx744)<|aE ?_)
          refine aW (b:=_) M (fun hc745=>?_) (fun hc745=>?_)
          ·
           replace h:=bX h hc745
           obtain ⟨x746,hx746,h⟩:=aK h
           refine aF (aA M (mvI M M M M)<|aA M (aQ M M (lb M) (svI M) (sv (d:=.int _ 1) M) M hx746)<|aA M (asI M M M M)<|aE ?_)
           refine aV ?_
           refine bS (α:=Nat × (List Int) × Int) (fun z=>⟨[(0,.osl 1000 (eInt .i64).sz z.2.1.length),(1,.int .i64 a0),(2,.int .i64 a1),(7,.int .i64 v557),(8,.int .i64 v274),(9,.int .i64 z.2.2)],[(1000,.blk 3 (D.flat (z.2.1.map (eInt .i64).d)))]⟩) (fun z=>dV a1 v274 (bZ a0 a1 n0) v557 z.1 z.2.1 z.2.2=some r) (fun z=>z.1) (fuel,x594,x746) (fun i=>i) ⟨(.cons (.same (congrArg (D.osl _ _) (bV hx594 (bV hx591 M)).symm) M) (.sames M M)),(.cons (EntW.lst M) .nil),aY [1000] M (by decide),fun _ _=>M⟩ ?_ ?_
           ·exact h
           ·
            rintro ⟨n5,v769,v770⟩ h
            cases n5 with
            | zero=>exact absurd h (by unfold dV; exact nofun)
            | succ n5 =>
             unfold dV at h
             refine aU ?_
             obtain ⟨x793,hx793,h⟩:=aK h
             refine aF (aA M (mvI M M M M)<|aA M (aO M M (lb M) (svI M) (sv (d:=.int _ 1) M) M hx793)<|aE ?_)
             refine aW (b:=_) M (fun hc794=>?_) (fun hc794=>?_)
             ·
              replace h:=bX h hc794
              refine aT ?_
              refine aJ ?_
              refine aU ?_
              refine aV ?_
              refine aU ?_
              obtain ⟨x795,hx795,h⟩:=aL h
              obtain ⟨x796,hx796,h⟩:=aL h
              obtain ⟨x797,hx797,h⟩:=aK h
              obtain ⟨x798,hx798,h⟩:=aL h
              obtain ⟨x799,hx799,h⟩:=aL h
              obtain ⟨x800,hx800,h⟩:=aL h
              refine dN M [⟨[0],[],[(68,.osl 1000 (eInt .i64).sz v769.length)],[]⟩,
               ⟨[9],[],[(69,.int .i64 v770)],[]⟩,
               ⟨[68,69],[],[(70,.ref 1000 (((v770:Int).toNat) * (eInt .i64).sz + 0))],[]⟩,
               ⟨[70],[1000],[(71,.int .i64 x796)],[]⟩,
               ⟨[0],[],[(72,.osl 1000 (eInt .i64).sz v769.length)],[]⟩,
               ⟨[9],[],[(73,.int .i64 v770)],[]⟩,
               ⟨[73],[],[(74,.int .i64 x797)],[]⟩,
               ⟨[72,74],[],[(75,.ref 1000 (((x797:Int).toNat) * (eInt .i64).sz + 0))],[]⟩,
               ⟨[75],[1000],[(76,.int .i64 x799)],[]⟩,
               ⟨[71,76],[],[(77,.bool x800)],[]⟩,
               ⟨[77],[],[(78,.bool (!x800))],[]⟩] M ?_ (by kernel_rfl) ?_
              ·refine .cons (lop M M fun S hA=>(aD M M (lb M) (sv (d:=.osl _ _ _) (agr hA M M)))) ?_
               refine .cons (lop M M fun S hA=>(aD M M (lb M) (svaI hA M M))) ?_
               refine .cons (lop M M fun S hA=>(aX (eInt .i64).toEnc0 M M (lb M) underlying24 ti3 (sv (d:=.osl _ _ _) (agr hA M M)) M (svaI hA M M) hx795)) ?_
               refine .cons (lop M M fun S hA=>(bO (eInt .i64).toEnc0 (d:=.int _ _) M M (lb M) underlying3 ag3 ti3 (by decide) (svaR hA M M) (agi hA M M) hx796 (nle M) M)) ?_
               refine .cons (lop M M fun S hA=>(aD M M (lb M) (sv (d:=.osl _ _ _) (agr hA M M)))) ?_
               refine .cons (lop M M fun S hA=>(aD M M (lb M) (svaI hA M M))) ?_
               refine .cons (lop M M fun S hA=>(aQ M M (lb M) (svaI hA M M) (sv (d:=.int _ 1) M) M hx797)) ?_
               refine .cons (lop M M fun S hA=>(aX (eInt .i64).toEnc0 M M (lb M) underlying24 ti3 (sv (d:=.osl _ _ _) (agr hA M M)) M (svaI hA M M) hx798)) ?_
               refine .cons (lop M M fun S hA=>(bO (eInt .i64).toEnc0 (d:=.int _ _) M M (lb M) underlying3 ag3 ti3 (by decide) (svaR hA M M) (agi hA M M) hx799 (nle M) M)) ?_
               refine .cons (lop M M fun S hA=>(bJ (r:=.bool _) M M (lb M) cl73 (.cons (svaI hA M M) (.cons (svaI hA M M) .nil)) M (fR _ _ _ hx800))) ?_
               refine .cons (lop M M fun S hA=>(eX M M (lb M) (svaB hA M M))) ?_
               exact .nil
              refine aW (b:=_) M (fun hc801=>?_) (fun hc801=>?_)
              ·
               replace h:=bX h hc801
               refine cA ?_
               refine bD ?_
               refine oV M ?_
               refine bD ?_
               refine bD ?_
               refine cC ?_
               refine aJ ⟨v769,(fun i=>i),⟨(.sames M M),(.cons (EntW.lst M) .nil),aY [1000] M (by decide),fun _ _=>M⟩,?_⟩
               exact h
              ·
               replace h:=bY h hc801
               refine aT ?_
               refine aJ ?_
               obtain ⟨x802,hx802,h⟩:=aK h
               obtain ⟨x803,hx803,h⟩:=aK h
               obtain ⟨x804,hx804,h⟩:=aL h
               obtain ⟨x805,hx805,h⟩:=aL h
               obtain ⟨x806,hx806,h⟩:=aL h
               obtain ⟨x807,hx807,h⟩:=aL h
               obtain ⟨x808,hx808,h⟩:=aL h
               obtain ⟨x809,hx809,h⟩:=aL h
               obtain ⟨x810,hx810,h⟩:=aK h
               obtain ⟨x811,hx811,h⟩:=aL h
               obtain ⟨x812,hx812,h⟩:=aL h
               obtain ⟨x813,hx813,h⟩:=aK h
               refine iM M [⟨[0],[],[(79,.osl 1000 (eInt .i64).sz v769.length)],[]⟩,
                ⟨[9],[],[(80,.int .i64 v770)],[]⟩,
                ⟨[0],[],[(81,.osl 1000 (eInt .i64).sz v769.length)],[]⟩,
                ⟨[9],[],[(82,.int .i64 v770)],[]⟩,
                ⟨[82],[],[(83,.int .i64 x802)],[]⟩,
                ⟨[0],[],[(84,.osl 1000 (eInt .i64).sz v769.length)],[]⟩,
                ⟨[9],[],[(85,.int .i64 v770)],[]⟩,
                ⟨[85],[],[(86,.int .i64 x803)],[]⟩,
                ⟨[84,86],[],[(87,.ref 1000 (((x803:Int).toNat) * (eInt .i64).sz + 0))],[]⟩,
                ⟨[87],[1000],[(88,.int .i64 x805)],[]⟩,
                ⟨[0],[],[(89,.osl 1000 (eInt .i64).sz v769.length)],[]⟩,
                ⟨[9],[],[(90,.int .i64 v770)],[]⟩,
                ⟨[89,90],[],[(91,.ref 1000 (((v770:Int).toNat) * (eInt .i64).sz + 0))],[]⟩,
                ⟨[91],[1000],[(92,.int .i64 x807)],[]⟩,
                ⟨[79,80],[],[(93,.ref 1000 (((v770:Int).toNat) * (eInt .i64).sz + 0))],[]⟩,
                ⟨[88,93],[1000],[],[(1000,.blk 3 (D.flat (x810.map (eInt .i64).d)))]⟩,
                ⟨[81,83],[],[(94,.ref 1000 (((x802:Int).toNat) * (eInt .i64).sz + 0))],[]⟩,
                ⟨[92,94],[1000],[],[(1000,.blk 3 (D.flat (x813.map (eInt .i64).d)))]⟩] M ?_ (by kernel_rfl) ?_
               ·refine .cons (lop M M fun S hA=>(aD M M (lb M) (sv (d:=.osl _ _ _) (agr hA M M)))) ?_
                refine .cons (lop M M fun S hA=>(aD M M (lb M) (svaI hA M M))) ?_
                refine .cons (lop M M fun S hA=>(aD M M (lb M) (sv (d:=.osl _ _ _) (agr hA M M)))) ?_
                refine .cons (lop M M fun S hA=>(aD M M (lb M) (svaI hA M M))) ?_
                refine .cons (lop M M fun S hA=>(aQ M M (lb M) (svaI hA M M) (sv (d:=.int _ 1) M) M hx802)) ?_
                refine .cons (lop M M fun S hA=>(aD M M (lb M) (sv (d:=.osl _ _ _) (agr hA M M)))) ?_
                refine .cons (lop M M fun S hA=>(aD M M (lb M) (svaI hA M M))) ?_
                refine .cons (lop M M fun S hA=>(aQ M M (lb M) (svaI hA M M) (sv (d:=.int _ 1) M) M hx803)) ?_
                refine .cons (lop M M fun S hA=>(aX (eInt .i64).toEnc0 M M (lb M) underlying24 ti3 (sv (d:=.osl _ _ _) (agr hA M M)) M (svaI hA M M) hx804)) ?_
                refine .cons (lop M M fun S hA=>(bO (eInt .i64).toEnc0 (d:=.int _ _) M M (lb M) underlying3 ag3 ti3 (by decide) (svaR hA M M) (agi hA M M) hx805 (nle M) M)) ?_
                refine .cons (lop M M fun S hA=>(aD M M (lb M) (sv (d:=.osl _ _ _) (agr hA M M)))) ?_
                refine .cons (lop M M fun S hA=>(aD M M (lb M) (svaI hA M M))) ?_
                refine .cons (lop M M fun S hA=>(aX (eInt .i64).toEnc0 M M (lb M) underlying24 ti3 (sv (d:=.osl _ _ _) (agr hA M M)) M (svaI hA M M) hx806)) ?_
                refine .cons (lop M M fun S hA=>(bO (eInt .i64).toEnc0 (d:=.int _ _) M M (lb M) underlying3 ag3 ti3 (by decide) (svaR hA M M) (agi hA M M) hx807 (nle M) M)) ?_
                refine .cons (lop M M fun S hA=>(aX (eInt .i64).toEnc0 M M (lb M) underlying24 ti3 (sv (d:=.osl _ _ _) (agr hA M M)) M (svaI hA M M) hx808)) ?_
                refine .cons (lop M M fun S hA=>(bR (eInt .i64).toEnc0 (a':=x805) M M ti3 (svaR hA M M) (agi hA M M) (svaI hA M M) M M M hx809 (nle M) M hx810)) ?_
                refine .cons (lop M M fun S hA=>(aX (eInt .i64).toEnc0 M M (lb M) underlying24 ti3 (sv (d:=.osl _ _ _) (agr hA M M)) (bV hx810 M) (svaI hA M M) hx811)) ?_
                refine .cons (lop M M fun S hA=>(bR (eInt .i64).toEnc0 (a':=x807) M M ti3 (svaR hA M M) (agi hA M M) (svaI hA M M) M M M hx812 (nle M) M hx813)) ?_
                exact .nil
               refine bI ?_
               refine aJ ?_
               obtain ⟨x814,hx814,h⟩:=aK h
               refine aS (aA M (mvI M M M M)<|aA M (aQ M M (lb M) (svI M) (sv (d:=.int _ 1) M) M hx814)<|aA M (asI M M M M)<|bE ?_)
               refine aJ ⟨(n5,x813,x814),(fun i=>i),⟨(.cons (.same (congrArg (D.osl _ _) (bV hx813 (bV hx810 M)).symm) M) (.sames M M)),(.cons (EntW.lst M) .nil),aY [1000] M (by decide),fun _ _=>M⟩,?_,?_⟩
               exact h
               exact Nat.lt_succ_self _
             ·
              replace h:=bY h hc794
              refine cA ?_
              refine bD ?_
              refine bD ?_
              refine cC ?_
              refine aJ ⟨v769,(fun i=>i),⟨(.sames M M),(.cons (EntW.lst M) .nil),aY [1000] M (by decide),fun _ _=>M⟩,?_⟩
              exact h
          ·
           replace h:=bY h hc745
           refine aT ?_
           refine aJ ⟨x594,(fun i=>i),⟨(.cons (.same (congrArg (D.osl _ _) (bV hx594 (bV hx591 M)).symm) M) (.sames M M)),(.cons (EntW.lst M) .nil),aY [1000] M (by decide),fun _ _=>M⟩,?_⟩
           exact h
         ·
          rintro v667 h
          unfold dY at h
          obtain ⟨x668,hx668,h⟩:=aK h
          obtain ⟨x669,hx669,h⟩:=aK h
          refine aF (aA M (mvI M M M M)<|aA M (mvI M M M M)<|aA M (aQ M M (lb M) (svI M) (svI M) M hx668)<|aA M (aO M M (lb M) (svI M) (sv (d:=.int _ 2) M) M hx669)<|aE ?_)
          refine aW (b:=_) M (fun hc670=>?_) (fun hc670=>?_)
          ·
           replace h:=bX h hc670
           obtain ⟨x671,hx671,h⟩:=aK h
           refine aF (aA M (mvI M M M M)<|aA M (aQ M M (lb M) (svI M) (sv (d:=.int _ 1) M) M hx671)<|aA M (asI M M M M)<|aE ?_)
           refine aV ?_
           refine bS (α:=Nat × (List Int) × Int) (fun z=>⟨[(0,.osl 1000 (eInt .i64).sz z.2.1.length),(1,.int .i64 a0),(2,.int .i64 a1),(7,.int .i64 v557),(8,.int .i64 v274),(10,.int .i64 z.2.2)],[(1000,.blk 3 (D.flat (z.2.1.map (eInt .i64).d)))]⟩) (fun z=>dW a1 v274 (bZ a0 a1 n0) v557 z.1 z.2.1 z.2.2=some r) (fun z=>z.1) (fuel,v667,x671) (fun i=>i) ⟨(.sames M M),(.cons (EntW.lst M) .nil),aY [1000] M (by decide),fun _ _=>M⟩ ?_ ?_
           ·exact h
           ·
            rintro ⟨n4,v694,v695⟩ h
            cases n4 with
            | zero=>exact absurd h (by unfold dW; exact nofun)
            | succ n4 =>
             unfold dW at h
             refine aU ?_
             obtain ⟨x718,hx718,h⟩:=aK h
             refine aF (aA M (mvI M M M M)<|aA M (mvI M M M M)<|aA M (aO M M (lb M) (svI M) (svI M) M hx718)<|aE ?_)
             refine aW (b:=_) M (fun hc719=>?_) (fun hc719=>?_)
             ·
              replace h:=bX h hc719
              refine aT ?_
              refine aJ ?_
              refine aU ?_
              refine aV ?_
              refine aU ?_
              obtain ⟨x720,hx720,h⟩:=aL h
              obtain ⟨x721,hx721,h⟩:=aL h
              obtain ⟨x722,hx722,h⟩:=aK h
              obtain ⟨x723,hx723,h⟩:=aL h
              obtain ⟨x724,hx724,h⟩:=aL h
              obtain ⟨x725,hx725,h⟩:=aL h
              refine dN M [⟨[0],[],[(106,.osl 1000 (eInt .i64).sz v694.length)],[]⟩,
               ⟨[10],[],[(107,.int .i64 v695)],[]⟩,
               ⟨[106,107],[],[(108,.ref 1000 (((v695:Int).toNat) * (eInt .i64).sz + 0))],[]⟩,
               ⟨[108],[1000],[(109,.int .i64 x721)],[]⟩,
               ⟨[0],[],[(110,.osl 1000 (eInt .i64).sz v694.length)],[]⟩,
               ⟨[10],[],[(111,.int .i64 v695)],[]⟩,
               ⟨[111],[],[(112,.int .i64 x722)],[]⟩,
               ⟨[110,112],[],[(113,.ref 1000 (((x722:Int).toNat) * (eInt .i64).sz + 0))],[]⟩,
               ⟨[113],[1000],[(114,.int .i64 x724)],[]⟩,
               ⟨[109,114],[],[(115,.bool x725)],[]⟩,
               ⟨[115],[],[(116,.bool (!x725))],[]⟩] M ?_ (by kernel_rfl) ?_
              ·refine .cons (lop M M fun S hA=>(aD M M (lb M) (sv (d:=.osl _ _ _) (agr hA M M)))) ?_
               refine .cons (lop M M fun S hA=>(aD M M (lb M) (svaI hA M M))) ?_
               refine .cons (lop M M fun S hA=>(aX (eInt .i64).toEnc0 M M (lb M) underlying24 ti3 (sv (d:=.osl _ _ _) (agr hA M M)) M (svaI hA M M) hx720)) ?_
               refine .cons (lop M M fun S hA=>(bO (eInt .i64).toEnc0 (d:=.int _ _) M M (lb M) underlying3 ag3 ti3 (by decide) (svaR hA M M) (agi hA M M) hx721 (nle M) M)) ?_
               refine .cons (lop M M fun S hA=>(aD M M (lb M) (sv (d:=.osl _ _ _) (agr hA M M)))) ?_
               refine .cons (lop M M fun S hA=>(aD M M (lb M) (svaI hA M M))) ?_
               refine .cons (lop M M fun S hA=>(aQ M M (lb M) (svaI hA M M) (sv (d:=.int _ 1) M) M hx722)) ?_
               refine .cons (lop M M fun S hA=>(aX (eInt .i64).toEnc0 M M (lb M) underlying24 ti3 (sv (d:=.osl _ _ _) (agr hA M M)) M (svaI hA M M) hx723)) ?_
               refine .cons (lop M M fun S hA=>(bO (eInt .i64).toEnc0 (d:=.int _ _) M M (lb M) underlying3 ag3 ti3 (by decide) (svaR hA M M) (agi hA M M) hx724 (nle M) M)) ?_
               refine .cons (lop M M fun S hA=>(bJ (r:=.bool _) M M (lb M) cl73 (.cons (svaI hA M M) (.cons (svaI hA M M) .nil)) M (fR _ _ _ hx725))) ?_
               refine .cons (lop M M fun S hA=>(eX M M (lb M) (svaB hA M M))) ?_
               exact .nil
              refine aW (b:=_) M (fun hc726=>?_) (fun hc726=>?_)
              ·
               replace h:=bX h hc726
               refine cA ?_
               refine bD ?_
               refine oV M ?_
               refine bD ?_
               refine bD ?_
               refine cC ?_
               refine bI ?_
               refine aJ ?_
               obtain ⟨x727,hx727,h⟩:=aK h
               refine aS (aA M (mvI M M M M)<|aA M (aQ M M (lb M) (svI M) (sv (d:=.int _ 1) M) M hx727)<|aA M (asI M M M M)<|bE ?_)
               refine aJ ⟨(n0,v694,v557,x727),(fun i=>i),⟨(.sames M M),(.cons (EntW.lst M) .nil),aY [1000] M (by decide),fun _ _=>M⟩,?_,?_⟩
               exact h
               exact Nat.lt_succ_self _
              ·
               replace h:=bY h hc726
               refine aT ?_
               refine aJ ?_
               obtain ⟨x728,hx728,h⟩:=aK h
               obtain ⟨x729,hx729,h⟩:=aK h
               obtain ⟨x730,hx730,h⟩:=aL h
               obtain ⟨x731,hx731,h⟩:=aL h
               obtain ⟨x732,hx732,h⟩:=aL h
               obtain ⟨x733,hx733,h⟩:=aL h
               obtain ⟨x734,hx734,h⟩:=aL h
               obtain ⟨x735,hx735,h⟩:=aL h
               obtain ⟨x736,hx736,h⟩:=aK h
               obtain ⟨x737,hx737,h⟩:=aL h
               obtain ⟨x738,hx738,h⟩:=aL h
               obtain ⟨x739,hx739,h⟩:=aK h
               refine iM M [⟨[0],[],[(117,.osl 1000 (eInt .i64).sz v694.length)],[]⟩,
                ⟨[10],[],[(118,.int .i64 v695)],[]⟩,
                ⟨[0],[],[(119,.osl 1000 (eInt .i64).sz v694.length)],[]⟩,
                ⟨[10],[],[(120,.int .i64 v695)],[]⟩,
                ⟨[120],[],[(121,.int .i64 x728)],[]⟩,
                ⟨[0],[],[(122,.osl 1000 (eInt .i64).sz v694.length)],[]⟩,
                ⟨[10],[],[(123,.int .i64 v695)],[]⟩,
                ⟨[123],[],[(124,.int .i64 x729)],[]⟩,
                ⟨[122,124],[],[(125,.ref 1000 (((x729:Int).toNat) * (eInt .i64).sz + 0))],[]⟩,
                ⟨[125],[1000],[(126,.int .i64 x731)],[]⟩,
                ⟨[0],[],[(127,.osl 1000 (eInt .i64).sz v694.length)],[]⟩,
                ⟨[10],[],[(128,.int .i64 v695)],[]⟩,
                ⟨[127,128],[],[(129,.ref 1000 (((v695:Int).toNat) * (eInt .i64).sz + 0))],[]⟩,
                ⟨[129],[1000],[(130,.int .i64 x733)],[]⟩,
                ⟨[117,118],[],[(131,.ref 1000 (((v695:Int).toNat) * (eInt .i64).sz + 0))],[]⟩,
                ⟨[126,131],[1000],[],[(1000,.blk 3 (D.flat (x736.map (eInt .i64).d)))]⟩,
                ⟨[119,121],[],[(132,.ref 1000 (((x728:Int).toNat) * (eInt .i64).sz + 0))],[]⟩,
                ⟨[130,132],[1000],[],[(1000,.blk 3 (D.flat (x739.map (eInt .i64).d)))]⟩] M ?_ (by kernel_rfl) ?_
               ·refine .cons (lop M M fun S hA=>(aD M M (lb M) (sv (d:=.osl _ _ _) (agr hA M M)))) ?_
                refine .cons (lop M M fun S hA=>(aD M M (lb M) (svaI hA M M))) ?_
                refine .cons (lop M M fun S hA=>(aD M M (lb M) (sv (d:=.osl _ _ _) (agr hA M M)))) ?_
                refine .cons (lop M M fun S hA=>(aD M M (lb M) (svaI hA M M))) ?_
                refine .cons (lop M M fun S hA=>(aQ M M (lb M) (svaI hA M M) (sv (d:=.int _ 1) M) M hx728)) ?_
                refine .cons (lop M M fun S hA=>(aD M M (lb M) (sv (d:=.osl _ _ _) (agr hA M M)))) ?_
                refine .cons (lop M M fun S hA=>(aD M M (lb M) (svaI hA M M))) ?_
                refine .cons (lop M M fun S hA=>(aQ M M (lb M) (svaI hA M M) (sv (d:=.int _ 1) M) M hx729)) ?_
                refine .cons (lop M M fun S hA=>(aX (eInt .i64).toEnc0 M M (lb M) underlying24 ti3 (sv (d:=.osl _ _ _) (agr hA M M)) M (svaI hA M M) hx730)) ?_
                refine .cons (lop M M fun S hA=>(bO (eInt .i64).toEnc0 (d:=.int _ _) M M (lb M) underlying3 ag3 ti3 (by decide) (svaR hA M M) (agi hA M M) hx731 (nle M) M)) ?_
                refine .cons (lop M M fun S hA=>(aD M M (lb M) (sv (d:=.osl _ _ _) (agr hA M M)))) ?_
                refine .cons (lop M M fun S hA=>(aD M M (lb M) (svaI hA M M))) ?_
                refine .cons (lop M M fun S hA=>(aX (eInt .i64).toEnc0 M M (lb M) underlying24 ti3 (sv (d:=.osl _ _ _) (agr hA M M)) M (svaI hA M M) hx732)) ?_
                refine .cons (lop M M fun S hA=>(bO (eInt .i64).toEnc0 (d:=.int _ _) M M (lb M) underlying3 ag3 ti3 (by decide) (svaR hA M M) (agi hA M M) hx733 (nle M) M)) ?_
                refine .cons (lop M M fun S hA=>(aX (eInt .i64).toEnc0 M M (lb M) underlying24 ti3 (sv (d:=.osl _ _ _) (agr hA M M)) M (svaI hA M M) hx734)) ?_
                refine .cons (lop M M fun S hA=>(bR (eInt .i64).toEnc0 (a':=x731) M M ti3 (svaR hA M M) (agi hA M M) (svaI hA M M) M M M hx735 (nle M) M hx736)) ?_
                refine .cons (lop M M fun S hA=>(aX (eInt .i64).toEnc0 M M (lb M) underlying24 ti3 (sv (d:=.osl _ _ _) (agr hA M M)) (bV hx736 M) (svaI hA M M) hx737)) ?_
                refine .cons (lop M M fun S hA=>(bR (eInt .i64).toEnc0 (a':=x733) M M ti3 (svaR hA M M) (agi hA M M) (svaI hA M M) M M M hx738 (nle M) M hx739)) ?_
                exact .nil
               refine bI ?_
               refine aJ ?_
               obtain ⟨x740,hx740,h⟩:=aK h
               refine aS (aA M (mvI M M M M)<|aA M (aQ M M (lb M) (svI M) (sv (d:=.int _ 1) M) M hx740)<|aA M (asI M M M M)<|bE ?_)
               refine aJ ⟨(n4,x739,x740),(fun i=>i),⟨(.cons (.same (congrArg (D.osl _ _) (bV hx739 (bV hx736 M)).symm) M) (.sames M M)),(.cons (EntW.lst M) .nil),aY [1000] M (by decide),fun _ _=>M⟩,?_,?_⟩
               exact h
               exact Nat.lt_succ_self _
             ·
              replace h:=bY h hc719
              refine cA ?_
              refine bD ?_
              refine bD ?_
              refine cC ?_
              refine bI ?_
              refine aJ ?_
              obtain ⟨x741,hx741,h⟩:=aK h
              refine aS (aA M (mvI M M M M)<|aA M (aQ M M (lb M) (svI M) (sv (d:=.int _ 1) M) M hx741)<|aA M (asI M M M M)<|bE ?_)
              refine aJ ⟨(n0,v694,v557,x741),(fun i=>i),⟨(.sames M M),(.cons (EntW.lst M) .nil),aY [1000] M (by decide),fun _ _=>M⟩,?_,?_⟩
              exact h
              exact Nat.lt_succ_self _
          ·
           replace h:=bY h hc670
           refine aT ?_
           refine bI ?_
           refine aJ ?_
           obtain ⟨x742,hx742,h⟩:=aK h
           refine aS (aA M (mvI M M M M)<|aA M (aQ M M (lb M) (svI M) (sv (d:=.int _ 1) M) M hx742)<|aA M (asI M M M M)<|bE ?_)
           refine aJ ⟨(n0,v667,v557,x742),(fun i=>i),⟨(.sames M M),(.cons (EntW.lst M) .nil),aY [1000] M (by decide),fun _ _=>M⟩,?_,?_⟩
           exact h
           exact Nat.lt_succ_self _
   ·
    replace h:=bY h hc546
    refine cA ?_
    refine bD ?_
    refine bD ?_
    refine cC ?_
    refine aJ ?_
    refine aF (aA M (aI M M (lb M) (sv (d:=.bool false) M))<|aE ?_)
    refine bB ?_
    obtain rfl:=sj_ h
    refine ⟨.inr M,(fun i=>i),⟨.nil,(.cons (EntW.lst M) .nil),aY [1000] M (by decide),fun _ _=>M⟩,(.cons (sv M) .nil),M⟩

theorem nD (a0:Int) (a1:Int) (a2:Int) (a3:(List Int)) (r:(Int × (List Int))) (h:hP a0 a1 a2 a3=some r):FnH prog 74 (w24 (.osl 1000 (eInt .i64).sz a3.length) a0 a1 a2) [(1000,.blk 3 (D.flat (a3.map (eInt .i64).d)))] (.int .i64 r.1) [(1000,.blk 3 (D.flat (r.2.map (eInt .i64).d)))]:=by
 refine cF (rs:=[.int .i64 r.1]) func74 M ntmps74 (nle M) fun O hO=>?_
 show IWP _ _ _ _ ⟨[(0,.osl 1000 (eInt .i64).sz a3.length),(1,.int .i64 a0),(2,.int .i64 a1),(3,.int .i64 a2)],[(1000,.blk 3 (D.flat (a3.map (eInt .i64).d)))]⟩ _
 unfold hP at h
 refine aF (aA M (aI M M (lb M) (sv (d:=.int _ 0) M))<|aE ?_)
 obtain ⟨x1,hx1,h⟩:=aL h
 obtain ⟨x2,hx2,h⟩:=aL h
 obtain ⟨x3,hx3,h⟩:=aL h
 obtain ⟨x4,hx4,h⟩:=aL h
 obtain ⟨x5,hx5,h⟩:=aL h
 obtain ⟨x6,hx6,h⟩:=aL h
 obtain ⟨x7,hx7,h⟩:=aK h
 obtain ⟨x8,hx8,h⟩:=aL h
 obtain ⟨x9,hx9,h⟩:=aL h
 obtain ⟨x10,hx10,h⟩:=aK h
 refine dN M [⟨[0],[],[(11,.osl 1000 (eInt .i64).sz a3.length)],[]⟩,
  ⟨[1],[],[(12,.int .i64 a0)],[]⟩,
  ⟨[0],[],[(13,.osl 1000 (eInt .i64).sz a3.length)],[]⟩,
  ⟨[3],[],[(14,.int .i64 a2)],[]⟩,
  ⟨[0],[],[(15,.osl 1000 (eInt .i64).sz a3.length)],[]⟩,
  ⟨[3],[],[(16,.int .i64 a2)],[]⟩,
  ⟨[15,16],[],[(17,.ref 1000 (((a2:Int).toNat) * (eInt .i64).sz + 0))],[]⟩,
  ⟨[17],[1000],[(18,.int .i64 x2)],[]⟩,
  ⟨[0],[],[(19,.osl 1000 (eInt .i64).sz a3.length)],[]⟩,
  ⟨[1],[],[(20,.int .i64 a0)],[]⟩,
  ⟨[19,20],[],[(21,.ref 1000 (((a0:Int).toNat) * (eInt .i64).sz + 0))],[]⟩,
  ⟨[21],[1000],[(22,.int .i64 x4)],[]⟩,
  ⟨[11,12],[],[(23,.ref 1000 (((a0:Int).toNat) * (eInt .i64).sz + 0))],[]⟩,
  ⟨[18,23],[1000],[],[(1000,.blk 3 (D.flat (x7.map (eInt .i64).d)))]⟩,
  ⟨[13,14],[],[(24,.ref 1000 (((a2:Int).toNat) * (eInt .i64).sz + 0))],[]⟩,
  ⟨[22,24],[1000],[],[(1000,.blk 3 (D.flat (x10.map (eInt .i64).d)))]⟩] M ?_ (by kernel_rfl) ?_
 ·refine .cons (lop M M fun S hA=>(aD M M (lb M) (sv (d:=.osl _ _ _) (agr hA M M)))) ?_
  refine .cons (lop M M fun S hA=>(aD M M (lb M) (svaI hA M M))) ?_
  refine .cons (lop M M fun S hA=>(aD M M (lb M) (sv (d:=.osl _ _ _) (agr hA M M)))) ?_
  refine .cons (lop M M fun S hA=>(aD M M (lb M) (svaI hA M M))) ?_
  refine .cons (lop M M fun S hA=>(aD M M (lb M) (sv (d:=.osl _ _ _) (agr hA M M)))) ?_
  refine .cons (lop M M fun S hA=>(aD M M (lb M) (svaI hA M M))) ?_
  refine .cons (lop M M fun S hA=>(aX (eInt .i64).toEnc0 M M (lb M) underlying24 ti3 (sv (d:=.osl _ _ _) (agr hA M M)) M (svaI hA M M) hx1)) ?_
  refine .cons (lop M M fun S hA=>(bO (eInt .i64).toEnc0 (d:=.int _ _) M M (lb M) underlying3 ag3 ti3 (by decide) (svaR hA M M) (agi hA M M) hx2 (nle M) M)) ?_
  refine .cons (lop M M fun S hA=>(aD M M (lb M) (sv (d:=.osl _ _ _) (agr hA M M)))) ?_
  refine .cons (lop M M fun S hA=>(aD M M (lb M) (svaI hA M M))) ?_
  refine .cons (lop M M fun S hA=>(aX (eInt .i64).toEnc0 M M (lb M) underlying24 ti3 (sv (d:=.osl _ _ _) (agr hA M M)) M (svaI hA M M) hx3)) ?_
  refine .cons (lop M M fun S hA=>(bO (eInt .i64).toEnc0 (d:=.int _ _) M M (lb M) underlying3 ag3 ti3 (by decide) (svaR hA M M) (agi hA M M) hx4 (nle M) M)) ?_
  refine .cons (lop M M fun S hA=>(aX (eInt .i64).toEnc0 M M (lb M) underlying24 ti3 (sv (d:=.osl _ _ _) (agr hA M M)) M (svaI hA M M) hx5)) ?_
  refine .cons (lop M M fun S hA=>(bR (eInt .i64).toEnc0 (a':=x2) M M ti3 (svaR hA M M) (agi hA M M) (svaI hA M M) M M M hx6 (nle M) M hx7)) ?_
  refine .cons (lop M M fun S hA=>(aX (eInt .i64).toEnc0 M M (lb M) underlying24 ti3 (sv (d:=.osl _ _ _) (agr hA M M)) (bV hx7 M) (svaI hA M M) hx8)) ?_
  refine .cons (lop M M fun S hA=>(bR (eInt .i64).toEnc0 (a':=x4) M M ti3 (svaR hA M M) (agi hA M M) (svaI hA M M) M M M hx9 (nle M) M hx10)) ?_
  exact .nil
 obtain ⟨x11,hx11,h⟩:=aK h
 obtain ⟨x12,hx12,h⟩:=aK h
 refine aF (aA M (mvI M M M M)<|aA M (aQ M M (lb M) (svI M) (sv (d:=.int _ 1) M) M hx11)<|aA M (mvI M M M M)<|aA M (aQ M M (lb M) (svI M) (sv (d:=.int _ 1) M) M hx12)<|aA M (asI M M M M)<|aA M (asI M M M M)<|aE ?_)
 refine aU ?_
 refine aV ?_
 refine bS (α:=Nat × (List Int) × Int × Int) (fun z=>⟨[(0,.osl 1000 (eInt .i64).sz z.2.1.length),(1,.int .i64 a0),(9,.int .i64 z.2.2.1),(10,.int .i64 z.2.2.2)],[(1000,.blk 3 (D.flat (z.2.1.map (eInt .i64).d)))]⟩) (fun z=>dF a0 z.1 z.2.1 z.2.2.1 z.2.2.2=some r) (fun z=>z.1) (fuel,x10,x11,x12) (fun i=>i) ⟨(.cons (.same (congrArg (D.osl _ _) (bV hx10 (bV hx7 M)).symm) M) (.sames M M)),(.cons (EntW.lst M) .nil),aY [1000] M (by decide),fun _ _=>M⟩ ?_ ?_
 ·exact h
 ·
  rintro ⟨n0,v83,v84,v85⟩ h
  cases n0 with
  | zero=>exact absurd h (by unfold dF; exact nofun)
  | succ n0 =>
   unfold dF at h
   refine aV ?_
   refine aU ?_
   refine aV ?_
   refine bS (α:=Nat × Int) (fun z=>⟨[(0,.osl 1000 (eInt .i64).sz v83.length),(1,.int .i64 a0),(9,.int .i64 z.2),(10,.int .i64 v85)],[(1000,.blk 3 (D.flat (v83.map (eInt .i64).d)))]⟩) (fun z=>eO a0 v83 v85 (dF a0 n0) z.1 z.2=some r) (fun z=>z.1) (fuel,v84) (fun i=>i) ⟨(.sames M M),(.cons (EntW.lst M) .nil),aY [1000] M (by decide),fun _ _=>M⟩ ?_ ?_
   ·exact h
   ·
    rintro ⟨n1,v165⟩ h
    cases n1 with
    | zero=>exact absurd h (by unfold eO; exact nofun)
    | succ n1 =>
     unfold eO at h
     refine aU ?_
     obtain ⟨x175,hx175,h⟩:=aK h
     obtain ⟨x176,hx176,h⟩:=aL h
     obtain ⟨x177,hx177,h⟩:=aL h
     obtain ⟨x178,hx178,h⟩:=aL h
     obtain ⟨x179,hx179,h⟩:=aL h
     obtain ⟨x180,hx180,h⟩:=aL h
     obtain ⟨x181,hx181,h⟩:=aK h
     refine dN M [⟨[9],[],[(29,.int .i64 v165)],[]⟩,
      ⟨[10],[],[(30,.int .i64 v85)],[]⟩,
      ⟨[29,30],[],[(31,.bool x175)],[]⟩,
      ⟨[31],[],[(32,.bool x175)],[]⟩,
      ⟨[0,32],[],[(33,.cnd (x175 == true) (.osl 1000 (eInt .i64).sz v83.length))],[]⟩,
      ⟨[1,32],[],[(34,.cnd (x175 == true) (.int .i64 a0))],[]⟩,
      ⟨[32,33,34],[],[(35,.cnd (x175 == true) (.ref 1000 (((a0:Int).toNat) * (eInt .i64).sz + 0)))],[]⟩,
      ⟨[32,35],[1000],[(36,.cnd (x175 == true) (.int .i64 x177))],[]⟩,
      ⟨[0,32],[],[(37,.cnd (x175 == true) (.osl 1000 (eInt .i64).sz v83.length))],[]⟩,
      ⟨[9,32],[],[(38,.cnd (x175 == true) (.int .i64 v165))],[]⟩,
      ⟨[32,37,38],[],[(39,.cnd (x175 == true) (.ref 1000 (((v165:Int).toNat) * (eInt .i64).sz + 0)))],[]⟩,
      ⟨[32,39],[1000],[(40,.cnd (x175 == true) (.int .i64 x179))],[]⟩,
      ⟨[32,36,40],[],[(41,.cnd (x175 == true) (.bool x180))],[]⟩,
      ⟨[32,41],[],[(42,.cnd (x175 == true) (.bool (!x180)))],[]⟩,
      ⟨[32,42],[],[(43,.bool x181)],[]⟩] M ?_ (by kernel_rfl) ?_
     ·refine .cons (lop M M fun S hA=>(aD M M (lb M) (svaI hA M M))) ?_
      refine .cons (lop M M fun S hA=>(aD M M (lb M) (svaI hA M M))) ?_
      refine .cons (lop M M fun S hA=>(aO M M (lb M) (svaI hA M M) (svaI hA M M) M hx175)) ?_
      refine .cons (lop M M fun S hA=>(aD M M (lb M) (svaB hA M M))) ?_
      refine .cons (lopg M M M M (by decide) (fun S hA=>grd1 hA M M) (fun S hA hb=>(aD M M (lb M) (sv (d:=.osl _ _ _) (agr hA M M))))) ?_
      refine .cons (lopg M M M M (by decide) (fun S hA=>grd1 hA M M) (fun S hA hb=>(aD M M (lb M) (svaI hA M M)))) ?_
      refine .cons (lopg M M M M (by decide) (fun S hA=>grd1 hA M M) (fun S hA hb=>(aX (eInt .i64).toEnc0 M M (lb M) underlying24 ti3 (svc (d:=.osl _ _ _) (agr hA M M) hb) M (svc (d:=.int _ _) (agr hA M M) hb) (gd_t hx176 hb)))) ?_
      refine .cons (lopg M M M M (by decide) (fun S hA=>grd1 hA M M) (fun S hA hb=>(bO (eInt .i64).toEnc0 (d:=.int _ _) M M (lb M) underlying3 ag3 ti3 (by decide) (svc (d:=.ref _ _) (agr hA M M) hb) (agi hA M M) (gd_t hx177 hb) (nle M) M))) ?_
      refine .cons (lopg M M M M (by decide) (fun S hA=>grd1 hA M M) (fun S hA hb=>(aD M M (lb M) (sv (d:=.osl _ _ _) (agr hA M M))))) ?_
      refine .cons (lopg M M M M (by decide) (fun S hA=>grd1 hA M M) (fun S hA hb=>(aD M M (lb M) (svaI hA M M)))) ?_
      refine .cons (lopg M M M M (by decide) (fun S hA=>grd1 hA M M) (fun S hA hb=>(aX (eInt .i64).toEnc0 M M (lb M) underlying24 ti3 (svc (d:=.osl _ _ _) (agr hA M M) hb) M (svc (d:=.int _ _) (agr hA M M) hb) (gd_t hx178 hb)))) ?_
      refine .cons (lopg M M M M (by decide) (fun S hA=>grd1 hA M M) (fun S hA hb=>(bO (eInt .i64).toEnc0 (d:=.int _ _) M M (lb M) underlying3 ag3 ti3 (by decide) (svc (d:=.ref _ _) (agr hA M M) hb) (agi hA M M) (gd_t hx179 hb) (nle M) M))) ?_
      refine .cons (lopg M M M M (by decide) (fun S hA=>grd1 hA M M) (fun S hA hb=>(bJ (r:=.bool _) M M (lb M) cl73 (.cons (svc (d:=.int _ _) (agr hA M M) hb) (.cons (svc (d:=.int _ _) (agr hA M M) hb) .nil)) M (fR _ _ _ (gd_t hx180 hb))))) ?_
      refine .cons (lopg M M M M (by decide) (fun S hA=>grd1 hA M M) (fun S hA hb=>(eX M M (lb M) (svc (d:=.bool _) (agr hA M M) hb)))) ?_
      refine .cons (lop M M fun S hA=>(bC M M (lb M) (svaB hA M M) (agr hA M M) M hx181)) ?_
      exact .nil
     refine aW (b:=_) M (fun hc182=>?_) (fun hc182=>?_)
     ·
      replace h:=bX h hc182
      refine aT ?_
      refine aJ ?_
      refine aV ?_
      obtain ⟨x183,hx183,h⟩:=aK h
      refine aS (aA M (mvI M M M M)<|aA M (aQ M M (lb M) (svI M) (sv (d:=.int _ 1) M) M hx183)<|aA M (asI M M M M)<|bE ?_)
      refine bI ?_
      refine aJ ⟨(n1,x183),(fun i=>i),⟨(.sames M M),(.cons (EntW.lst M) .nil),aY [1000] M (by decide),fun _ _=>M⟩,?_,?_⟩
      exact h
      exact Nat.lt_succ_self _
     ·
      replace h:=bY h hc182
      refine cA ?_
      refine bD ?_
      refine bD ?_
      refine cC ?_
      refine aJ ?_
      refine aU ?_
      refine aV ?_
      refine bS (α:=Nat × Int) (fun z=>⟨[(0,.osl 1000 (eInt .i64).sz v83.length),(1,.int .i64 a0),(9,.int .i64 v165),(10,.int .i64 z.2)],[(1000,.blk 3 (D.flat (v83.map (eInt .i64).d)))]⟩) (fun z=>eN a0 v83 (dF a0 n0) v165 z.1 z.2=some r) (fun z=>z.1) (fuel,v85) (fun i=>i) ⟨(.sames M M),(.cons (EntW.lst M) .nil),aY [1000] M (by decide),fun _ _=>M⟩ ?_ ?_
      ·exact h
      ·
       rintro ⟨n2,v193⟩ h
       cases n2 with
       | zero=>exact absurd h (by unfold eN; exact nofun)
       | succ n2 =>
        unfold eN at h
        refine aU ?_
        obtain ⟨x203,hx203,h⟩:=aK h
        obtain ⟨x204,hx204,h⟩:=aL h
        obtain ⟨x205,hx205,h⟩:=aL h
        obtain ⟨x206,hx206,h⟩:=aL h
        obtain ⟨x207,hx207,h⟩:=aL h
        obtain ⟨x208,hx208,h⟩:=aL h
        obtain ⟨x209,hx209,h⟩:=aK h
        refine dN M [⟨[9],[],[(46,.int .i64 v165)],[]⟩,
         ⟨[10],[],[(47,.int .i64 v193)],[]⟩,
         ⟨[46,47],[],[(48,.bool x203)],[]⟩,
         ⟨[48],[],[(49,.bool x203)],[]⟩,
         ⟨[0,49],[],[(50,.cnd (x203 == true) (.osl 1000 (eInt .i64).sz v83.length))],[]⟩,
         ⟨[1,49],[],[(51,.cnd (x203 == true) (.int .i64 a0))],[]⟩,
         ⟨[49,50,51],[],[(52,.cnd (x203 == true) (.ref 1000 (((a0:Int).toNat) * (eInt .i64).sz + 0)))],[]⟩,
         ⟨[49,52],[1000],[(53,.cnd (x203 == true) (.int .i64 x205))],[]⟩,
         ⟨[0,49],[],[(54,.cnd (x203 == true) (.osl 1000 (eInt .i64).sz v83.length))],[]⟩,
         ⟨[10,49],[],[(55,.cnd (x203 == true) (.int .i64 v193))],[]⟩,
         ⟨[49,54,55],[],[(56,.cnd (x203 == true) (.ref 1000 (((v193:Int).toNat) * (eInt .i64).sz + 0)))],[]⟩,
         ⟨[49,56],[1000],[(57,.cnd (x203 == true) (.int .i64 x207))],[]⟩,
         ⟨[49,53,57],[],[(58,.cnd (x203 == true) (.bool x208))],[]⟩,
         ⟨[49,58],[],[(59,.bool x209)],[]⟩] M ?_ (by kernel_rfl) ?_
        ·refine .cons (lop M M fun S hA=>(aD M M (lb M) (svaI hA M M))) ?_
         refine .cons (lop M M fun S hA=>(aD M M (lb M) (svaI hA M M))) ?_
         refine .cons (lop M M fun S hA=>(aO M M (lb M) (svaI hA M M) (svaI hA M M) M hx203)) ?_
         refine .cons (lop M M fun S hA=>(aD M M (lb M) (svaB hA M M))) ?_
         refine .cons (lopg M M M M (by decide) (fun S hA=>grd1 hA M M) (fun S hA hb=>(aD M M (lb M) (sv (d:=.osl _ _ _) (agr hA M M))))) ?_
         refine .cons (lopg M M M M (by decide) (fun S hA=>grd1 hA M M) (fun S hA hb=>(aD M M (lb M) (svaI hA M M)))) ?_
         refine .cons (lopg M M M M (by decide) (fun S hA=>grd1 hA M M) (fun S hA hb=>(aX (eInt .i64).toEnc0 M M (lb M) underlying24 ti3 (svc (d:=.osl _ _ _) (agr hA M M) hb) M (svc (d:=.int _ _) (agr hA M M) hb) (gd_t hx204 hb)))) ?_
         refine .cons (lopg M M M M (by decide) (fun S hA=>grd1 hA M M) (fun S hA hb=>(bO (eInt .i64).toEnc0 (d:=.int _ _) M M (lb M) underlying3 ag3 ti3 (by decide) (svc (d:=.ref _ _) (agr hA M M) hb) (agi hA M M) (gd_t hx205 hb) (nle M) M))) ?_
         refine .cons (lopg M M M M (by decide) (fun S hA=>grd1 hA M M) (fun S hA hb=>(aD M M (lb M) (sv (d:=.osl _ _ _) (agr hA M M))))) ?_
         refine .cons (lopg M M M M (by decide) (fun S hA=>grd1 hA M M) (fun S hA hb=>(aD M M (lb M) (svaI hA M M)))) ?_
         refine .cons (lopg M M M M (by decide) (fun S hA=>grd1 hA M M) (fun S hA hb=>(aX (eInt .i64).toEnc0 M M (lb M) underlying24 ti3 (svc (d:=.osl _ _ _) (agr hA M M) hb) M (svc (d:=.int _ _) (agr hA M M) hb) (gd_t hx206 hb)))) ?_
         refine .cons (lopg M M M M (by decide) (fun S hA=>grd1 hA M M) (fun S hA hb=>(bO (eInt .i64).toEnc0 (d:=.int _ _) M M (lb M) underlying3 ag3 ti3 (by decide) (svc (d:=.ref _ _) (agr hA M M) hb) (agi hA M M) (gd_t hx207 hb) (nle M) M))) ?_
         refine .cons (lopg M M M M (by decide) (fun S hA=>grd1 hA M M) (fun S hA hb=>(bJ (r:=.bool _) M M (lb M) cl73 (.cons (svc (d:=.int _ _) (agr hA M M) hb) (.cons (svc (d:=.int _ _) (agr hA M M) hb) .nil)) M (fR _ _ _ (gd_t hx208 hb))))) ?_
         refine .cons (lop M M fun S hA=>(bC M M (lb M) (svaB hA M M) (agr hA M M) M hx209)) ?_
         exact .nil
        refine aW (b:=_) M (fun hc210=>?_) (fun hc210=>?_)
        ·
         replace h:=bX h hc210
         refine aT ?_
         refine aJ ?_
         refine aV ?_
         obtain ⟨x211,hx211,h⟩:=aK h
         refine aS (aA M (mvI M M M M)<|aA M (aQ M M (lb M) (svI M) (sv (d:=.int _ 1) M) M hx211)<|aA M (asI M M M M)<|bE ?_)
         refine bI ?_
         refine aJ ⟨(n2,x211),(fun i=>i),⟨(.sames M M),(.cons (EntW.lst M) .nil),aY [1000] M (by decide),fun _ _=>M⟩,?_,?_⟩
         exact h
         exact Nat.lt_succ_self _
        ·
         replace h:=bY h hc210
         refine cA ?_
         refine bD ?_
         refine bD ?_
         refine cC ?_
         refine aJ ?_
         refine aU ?_
         obtain ⟨x212,hx212,h⟩:=aK h
         refine aF (aA M (mvI M M M M)<|aA M (mvI M M M M)<|aA M (aO M M (lb M) (svI M) (svI M) M hx212)<|aE ?_)
         refine aW (b:=_) M (fun hc213=>?_) (fun hc213=>?_)
         ·
          replace h:=bX h hc213
          refine cA ?_
          refine bD ?_
          refine oV M ?_
          refine bD ?_
          refine cC ?_
          refine aJ ?_
          refine aF (aA M (mvI M M M M)<|aA M (asI M M M M)<|aE ?_)
          refine bB ?_
          obtain rfl:=sj_ h
          refine ⟨.inr M,(fun i=>i),⟨.nil,(.cons (EntW.lst M) .nil),aY [1000] M (by decide),fun _ _=>M⟩,(.cons (sv M) .nil),M⟩
         ·
          replace h:=bY h hc213
          refine aT ?_
          refine aJ ?_
          obtain ⟨x214,hx214,h⟩:=aL h
          obtain ⟨x215,hx215,h⟩:=aL h
          obtain ⟨x216,hx216,h⟩:=aL h
          obtain ⟨x217,hx217,h⟩:=aL h
          obtain ⟨x218,hx218,h⟩:=aL h
          obtain ⟨x219,hx219,h⟩:=aL h
          obtain ⟨x220,hx220,h⟩:=aK h
          obtain ⟨x221,hx221,h⟩:=aL h
          obtain ⟨x222,hx222,h⟩:=aL h
          obtain ⟨x223,hx223,h⟩:=aK h
          refine dN M [⟨[0],[],[(65,.osl 1000 (eInt .i64).sz v83.length)],[]⟩,
           ⟨[9],[],[(66,.int .i64 v165)],[]⟩,
           ⟨[0],[],[(67,.osl 1000 (eInt .i64).sz v83.length)],[]⟩,
           ⟨[10],[],[(68,.int .i64 v193)],[]⟩,
           ⟨[0],[],[(69,.osl 1000 (eInt .i64).sz v83.length)],[]⟩,
           ⟨[10],[],[(70,.int .i64 v193)],[]⟩,
           ⟨[69,70],[],[(71,.ref 1000 (((v193:Int).toNat) * (eInt .i64).sz + 0))],[]⟩,
           ⟨[71],[1000],[(72,.int .i64 x215)],[]⟩,
           ⟨[0],[],[(73,.osl 1000 (eInt .i64).sz v83.length)],[]⟩,
           ⟨[9],[],[(74,.int .i64 v165)],[]⟩,
           ⟨[73,74],[],[(75,.ref 1000 (((v165:Int).toNat) * (eInt .i64).sz + 0))],[]⟩,
           ⟨[75],[1000],[(76,.int .i64 x217)],[]⟩,
           ⟨[65,66],[],[(77,.ref 1000 (((v165:Int).toNat) * (eInt .i64).sz + 0))],[]⟩,
           ⟨[72,77],[1000],[],[(1000,.blk 3 (D.flat (x220.map (eInt .i64).d)))]⟩,
           ⟨[67,68],[],[(78,.ref 1000 (((v193:Int).toNat) * (eInt .i64).sz + 0))],[]⟩,
           ⟨[76,78],[1000],[],[(1000,.blk 3 (D.flat (x223.map (eInt .i64).d)))]⟩] M ?_ (by kernel_rfl) ?_
          ·refine .cons (lop M M fun S hA=>(aD M M (lb M) (sv (d:=.osl _ _ _) (agr hA M M)))) ?_
           refine .cons (lop M M fun S hA=>(aD M M (lb M) (svaI hA M M))) ?_
           refine .cons (lop M M fun S hA=>(aD M M (lb M) (sv (d:=.osl _ _ _) (agr hA M M)))) ?_
           refine .cons (lop M M fun S hA=>(aD M M (lb M) (svaI hA M M))) ?_
           refine .cons (lop M M fun S hA=>(aD M M (lb M) (sv (d:=.osl _ _ _) (agr hA M M)))) ?_
           refine .cons (lop M M fun S hA=>(aD M M (lb M) (svaI hA M M))) ?_
           refine .cons (lop M M fun S hA=>(aX (eInt .i64).toEnc0 M M (lb M) underlying24 ti3 (sv (d:=.osl _ _ _) (agr hA M M)) M (svaI hA M M) hx214)) ?_
           refine .cons (lop M M fun S hA=>(bO (eInt .i64).toEnc0 (d:=.int _ _) M M (lb M) underlying3 ag3 ti3 (by decide) (svaR hA M M) (agi hA M M) hx215 (nle M) M)) ?_
           refine .cons (lop M M fun S hA=>(aD M M (lb M) (sv (d:=.osl _ _ _) (agr hA M M)))) ?_
           refine .cons (lop M M fun S hA=>(aD M M (lb M) (svaI hA M M))) ?_
           refine .cons (lop M M fun S hA=>(aX (eInt .i64).toEnc0 M M (lb M) underlying24 ti3 (sv (d:=.osl _ _ _) (agr hA M M)) M (svaI hA M M) hx216)) ?_
           refine .cons (lop M M fun S hA=>(bO (eInt .i64).toEnc0 (d:=.int _ _) M M (lb M) underlying3 ag3 ti3 (by decide) (svaR hA M M) (agi hA M M) hx217 (nle M) M)) ?_
           refine .cons (lop M M fun S hA=>(aX (eInt .i64).toEnc0 M M (lb M) underlying24 ti3 (sv (d:=.osl _ _ _) (agr hA M M)) M (svaI hA M M) hx218)) ?_
           refine .cons (lop M M fun S hA=>(bR (eInt .i64).toEnc0 (a':=x215) M M ti3 (svaR hA M M) (agi hA M M) (svaI hA M M) M M M hx219 (nle M) M hx220)) ?_
           refine .cons (lop M M fun S hA=>(aX (eInt .i64).toEnc0 M M (lb M) underlying24 ti3 (sv (d:=.osl _ _ _) (agr hA M M)) (bV hx220 M) (svaI hA M M) hx221)) ?_
           refine .cons (lop M M fun S hA=>(bR (eInt .i64).toEnc0 (a':=x217) M M ti3 (svaR hA M M) (agi hA M M) (svaI hA M M) M M M hx222 (nle M) M hx223)) ?_
           exact .nil
          obtain ⟨x224,hx224,h⟩:=aK h
          refine aF (aA M (mvI M M M M)<|aA M (aQ M M (lb M) (svI M) (sv (d:=.int _ 1) M) M hx224)<|aA M (asI M M M M)<|aE ?_)
          obtain ⟨x225,hx225,h⟩:=aK h
          refine aS (aA M (mvI M M M M)<|aA M (aQ M M (lb M) (svI M) (sv (d:=.int _ 1) M) M hx225)<|aA M (asI M M M M)<|bE ?_)
          refine bI ?_
          refine aJ ⟨(n0,x223,x224,x225),(fun i=>i),⟨(.cons (.same (congrArg (D.osl _ _) (bV hx223 (bV hx220 M)).symm) M) (.sames M M)),(.cons (EntW.lst M) .nil),aY [1000] M (by decide),fun _ _=>M⟩,?_,?_⟩
          exact h
          exact Nat.lt_succ_self _

theorem oQ (a0 : Int) (a1:Int) (a2:Int) (a3:(List Int)) (r:(Int × Bool × (List Int))) (h:jG a0 a1 a2 a3=some r):FnH prog 75 (w24 (.osl 1000 (eInt .i64).sz a3.length) a0 a1 a2) [(1000,.blk 3 (D.flat (a3.map (eInt .i64).d)))] (retD [.int .i64 r.1,.bool r.2.1]) [(1000,.blk 3 (D.flat (r.2.2.map (eInt .i64).d)))]:=by
 refine cF (rs:=[.int .i64 r.1,.bool r.2.1]) func75 M ntmps75 (nle M) fun O hO=>?_
 show IWP _ _ _ _ ⟨[(0,.osl 1000 (eInt .i64).sz a3.length),(1,.int .i64 a0),(2,.int .i64 a1),(3,.int .i64 a2)],[(1000,.blk 3 (D.flat (a3.map (eInt .i64).d)))]⟩ _
 unfold jG at h
 refine aF (aA M (aI M M (lb M) (sv (d:=.int _ 0) M))<|aA M (aI M M (lb M) (sv (d:=.bool false) M))<|aE ?_)
 obtain ⟨x1,hx1,h⟩:=aL h
 obtain ⟨x2,hx2,h⟩:=aL h
 obtain ⟨x3,hx3,h⟩:=aL h
 obtain ⟨x4,hx4,h⟩:=aL h
 obtain ⟨x5,hx5,h⟩:=aL h
 obtain ⟨x6,hx6,h⟩:=aL h
 obtain ⟨x7,hx7,h⟩:=aK h
 obtain ⟨x8,hx8,h⟩:=aL h
 obtain ⟨x9,hx9,h⟩:=aL h
 obtain ⟨x10,hx10,h⟩:=aK h
 refine dN M [⟨[0],[],[(12,.osl 1000 (eInt .i64).sz a3.length)],[]⟩,
  ⟨[1],[],[(13,.int .i64 a0)],[]⟩,
  ⟨[0],[],[(14,.osl 1000 (eInt .i64).sz a3.length)],[]⟩,
  ⟨[3],[],[(15,.int .i64 a2)],[]⟩,
  ⟨[0],[],[(16,.osl 1000 (eInt .i64).sz a3.length)],[]⟩,
  ⟨[3],[],[(17,.int .i64 a2)],[]⟩,
  ⟨[16,17],[],[(18,.ref 1000 (((a2:Int).toNat) * (eInt .i64).sz + 0))],[]⟩,
  ⟨[18],[1000],[(19,.int .i64 x2)],[]⟩,
  ⟨[0],[],[(20,.osl 1000 (eInt .i64).sz a3.length)],[]⟩,
  ⟨[1],[],[(21,.int .i64 a0)],[]⟩,
  ⟨[20,21],[],[(22,.ref 1000 (((a0:Int).toNat) * (eInt .i64).sz + 0))],[]⟩,
  ⟨[22],[1000],[(23,.int .i64 x4)],[]⟩,
  ⟨[12,13],[],[(24,.ref 1000 (((a0:Int).toNat) * (eInt .i64).sz + 0))],[]⟩,
  ⟨[19,24],[1000],[],[(1000,.blk 3 (D.flat (x7.map (eInt .i64).d)))]⟩,
  ⟨[14,15],[],[(25,.ref 1000 (((a2:Int).toNat) * (eInt .i64).sz + 0))],[]⟩,
  ⟨[23,25],[1000],[],[(1000,.blk 3 (D.flat (x10.map (eInt .i64).d)))]⟩] M ?_ (by kernel_rfl) ?_
 ·refine .cons (lop M M fun S hA=>(aD M M (lb M) (sv (d:=.osl _ _ _) (agr hA M M)))) ?_
  refine .cons (lop M M fun S hA=>(aD M M (lb M) (svaI hA M M))) ?_
  refine .cons (lop M M fun S hA=>(aD M M (lb M) (sv (d:=.osl _ _ _) (agr hA M M)))) ?_
  refine .cons (lop M M fun S hA=>(aD M M (lb M) (svaI hA M M))) ?_
  refine .cons (lop M M fun S hA=>(aD M M (lb M) (sv (d:=.osl _ _ _) (agr hA M M)))) ?_
  refine .cons (lop M M fun S hA=>(aD M M (lb M) (svaI hA M M))) ?_
  refine .cons (lop M M fun S hA=>(aX (eInt .i64).toEnc0 M M (lb M) underlying24 ti3 (sv (d:=.osl _ _ _) (agr hA M M)) M (svaI hA M M) hx1)) ?_
  refine .cons (lop M M fun S hA=>(bO (eInt .i64).toEnc0 (d:=.int _ _) M M (lb M) underlying3 ag3 ti3 (by decide) (svaR hA M M) (agi hA M M) hx2 (nle M) M)) ?_
  refine .cons (lop M M fun S hA=>(aD M M (lb M) (sv (d:=.osl _ _ _) (agr hA M M)))) ?_
  refine .cons (lop M M fun S hA=>(aD M M (lb M) (svaI hA M M))) ?_
  refine .cons (lop M M fun S hA=>(aX (eInt .i64).toEnc0 M M (lb M) underlying24 ti3 (sv (d:=.osl _ _ _) (agr hA M M)) M (svaI hA M M) hx3)) ?_
  refine .cons (lop M M fun S hA=>(bO (eInt .i64).toEnc0 (d:=.int _ _) M M (lb M) underlying3 ag3 ti3 (by decide) (svaR hA M M) (agi hA M M) hx4 (nle M) M)) ?_
  refine .cons (lop M M fun S hA=>(aX (eInt .i64).toEnc0 M M (lb M) underlying24 ti3 (sv (d:=.osl _ _ _) (agr hA M M)) M (svaI hA M M) hx5)) ?_
  refine .cons (lop M M fun S hA=>(bR (eInt .i64).toEnc0 (a':=x2) M M ti3 (svaR hA M M) (agi hA M M) (svaI hA M M) M M M hx6 (nle M) M hx7)) ?_
  refine .cons (lop M M fun S hA=>(aX (eInt .i64).toEnc0 M M (lb M) underlying24 ti3 (sv (d:=.osl _ _ _) (agr hA M M)) (bV hx7 M) (svaI hA M M) hx8)) ?_
  refine .cons (lop M M fun S hA=>(bR (eInt .i64).toEnc0 (a':=x4) M M ti3 (svaR hA M M) (agi hA M M) (svaI hA M M) M M M hx9 (nle M) M hx10)) ?_
  exact .nil
 obtain ⟨x11,hx11,h⟩:=aK h
 obtain ⟨x12,hx12,h⟩:=aK h
 refine aF (aA M (mvI M M M M)<|aA M (aQ M M (lb M) (svI M) (sv (d:=.int _ 1) M) M hx11)<|aA M (mvI M M M M)<|aA M (aQ M M (lb M) (svI M) (sv (d:=.int _ 1) M) M hx12)<|aA M (asI M M M M)<|aA M (asI M M M M)<|aE ?_)
 refine aU ?_
 refine aV ?_
 refine bS (α:=Nat × Int) (fun z=>⟨[(0,.osl 1000 (eInt .i64).sz x10.length),(1,.int .i64 a0),(10,.int .i64 z.2),(11,.int .i64 x12)],[(1000,.blk 3 (D.flat (x10.map (eInt .i64).d)))]⟩) (fun z=>fK a0 x10 x12 z.1 z.2=some r) (fun z=>z.1) (fuel,x11) (fun i=>i) ⟨(.cons (.same (congrArg (D.osl _ _) (bV hx10 (bV hx7 M)).symm) M) (.sames M M)),(.cons (EntW.lst M) .nil),aY [1000] M (by decide),fun _ _=>M⟩ ?_ ?_
 ·exact h
 ·
  rintro ⟨n0,v22⟩ h
  cases n0 with
  | zero=>exact absurd h (by unfold fK; exact nofun)
  | succ n0 =>
   unfold fK at h
   refine aU ?_
   obtain ⟨x32,hx32,h⟩:=aK h
   obtain ⟨x33,hx33,h⟩:=aL h
   obtain ⟨x34,hx34,h⟩:=aL h
   obtain ⟨x35,hx35,h⟩:=aL h
   obtain ⟨x36,hx36,h⟩:=aL h
   obtain ⟨x37,hx37,h⟩:=aL h
   obtain ⟨x38,hx38,h⟩:=aK h
   refine dN M [⟨[10],[],[(30,.int .i64 v22)],[]⟩,
    ⟨[11],[],[(31,.int .i64 x12)],[]⟩,
    ⟨[30,31],[],[(32,.bool x32)],[]⟩,
    ⟨[32],[],[(33,.bool x32)],[]⟩,
    ⟨[0,33],[],[(34,.cnd (x32 == true) (.osl 1000 (eInt .i64).sz x10.length))],[]⟩,
    ⟨[10,33],[],[(35,.cnd (x32 == true) (.int .i64 v22))],[]⟩,
    ⟨[33,34,35],[],[(36,.cnd (x32 == true) (.ref 1000 (((v22:Int).toNat) * (eInt .i64).sz + 0)))],[]⟩,
    ⟨[33,36],[1000],[(37,.cnd (x32 == true) (.int .i64 x34))],[]⟩,
    ⟨[0,33],[],[(38,.cnd (x32 == true) (.osl 1000 (eInt .i64).sz x10.length))],[]⟩,
    ⟨[1,33],[],[(39,.cnd (x32 == true) (.int .i64 a0))],[]⟩,
    ⟨[33,38,39],[],[(40,.cnd (x32 == true) (.ref 1000 (((a0:Int).toNat) * (eInt .i64).sz + 0)))],[]⟩,
    ⟨[33,40],[1000],[(41,.cnd (x32 == true) (.int .i64 x36))],[]⟩,
    ⟨[33,37,41],[],[(42,.cnd (x32 == true) (.bool x37))],[]⟩,
    ⟨[33,42],[],[(43,.bool x38)],[]⟩] M ?_ (by kernel_rfl) ?_
   ·refine .cons (lop M M fun S hA=>(aD M M (lb M) (svaI hA M M))) ?_
    refine .cons (lop M M fun S hA=>(aD M M (lb M) (svaI hA M M))) ?_
    refine .cons (lop M M fun S hA=>(aO M M (lb M) (svaI hA M M) (svaI hA M M) M hx32)) ?_
    refine .cons (lop M M fun S hA=>(aD M M (lb M) (svaB hA M M))) ?_
    refine .cons (lopg M M M M (by decide) (fun S hA=>grd1 hA M M) (fun S hA hb=>(aD M M (lb M) (sv (d:=.osl _ _ _) (agr hA M M))))) ?_
    refine .cons (lopg M M M M (by decide) (fun S hA=>grd1 hA M M) (fun S hA hb=>(aD M M (lb M) (svaI hA M M)))) ?_
    refine .cons (lopg M M M M (by decide) (fun S hA=>grd1 hA M M) (fun S hA hb=>(aX (eInt .i64).toEnc0 M M (lb M) underlying24 ti3 (svc (d:=.osl _ _ _) (agr hA M M) hb) M (svc (d:=.int _ _) (agr hA M M) hb) (gd_t hx33 hb)))) ?_
    refine .cons (lopg M M M M (by decide) (fun S hA=>grd1 hA M M) (fun S hA hb=>(bO (eInt .i64).toEnc0 (d:=.int _ _) M M (lb M) underlying3 ag3 ti3 (by decide) (svc (d:=.ref _ _) (agr hA M M) hb) (agi hA M M) (gd_t hx34 hb) (nle M) M))) ?_
    refine .cons (lopg M M M M (by decide) (fun S hA=>grd1 hA M M) (fun S hA hb=>(aD M M (lb M) (sv (d:=.osl _ _ _) (agr hA M M))))) ?_
    refine .cons (lopg M M M M (by decide) (fun S hA=>grd1 hA M M) (fun S hA hb=>(aD M M (lb M) (svaI hA M M)))) ?_
    refine .cons (lopg M M M M (by decide) (fun S hA=>grd1 hA M M) (fun S hA hb=>(aX (eInt .i64).toEnc0 M M (lb M) underlying24 ti3 (svc (d:=.osl _ _ _) (agr hA M M) hb) M (svc (d:=.int _ _) (agr hA M M) hb) (gd_t hx35 hb)))) ?_
    refine .cons (lopg M M M M (by decide) (fun S hA=>grd1 hA M M) (fun S hA hb=>(bO (eInt .i64).toEnc0 (d:=.int _ _) M M (lb M) underlying3 ag3 ti3 (by decide) (svc (d:=.ref _ _) (agr hA M M) hb) (agi hA M M) (gd_t hx36 hb) (nle M) M))) ?_
    refine .cons (lopg M M M M (by decide) (fun S hA=>grd1 hA M M) (fun S hA hb=>(bJ (r:=.bool _) M M (lb M) cl73 (.cons (svc (d:=.int _ _) (agr hA M M) hb) (.cons (svc (d:=.int _ _) (agr hA M M) hb) .nil)) M (fR _ _ _ (gd_t hx37 hb))))) ?_
    refine .cons (lop M M fun S hA=>(bC M M (lb M) (svaB hA M M) (agr hA M M) M hx38)) ?_
    exact .nil
   refine aW (b:=_) M (fun hc39=>?_) (fun hc39=>?_)
   ·
    replace h:=bX h hc39
    refine aT ?_
    refine aJ ?_
    refine aV ?_
    obtain ⟨x40,hx40,h⟩:=aK h
    refine aS (aA M (mvI M M M M)<|aA M (aQ M M (lb M) (svI M) (sv (d:=.int _ 1) M) M hx40)<|aA M (asI M M M M)<|bE ?_)
    refine bI ?_
    refine aJ ⟨(n0,x40),(fun i=>i),⟨(.sames M M),(.cons (EntW.lst M) .nil),aY [1000] M (by decide),fun _ _=>M⟩,?_,?_⟩
    exact h
    exact Nat.lt_succ_self _
   ·
    replace h:=bY h hc39
    refine cA ?_
    refine bD ?_
    refine bD ?_
    refine cC ?_
    refine aJ ?_
    refine aU ?_
    refine aV ?_
    refine bS (α:=Nat × Int) (fun z=>⟨[(0,.osl 1000 (eInt .i64).sz x10.length),(1,.int .i64 a0),(10,.int .i64 v22),(11,.int .i64 z.2)],[(1000,.blk 3 (D.flat (x10.map (eInt .i64).d)))]⟩) (fun z=>fJ a0 x10 v22 z.1 z.2=some r) (fun z=>z.1) (fuel,x12) (fun i=>i) ⟨(.sames M M),(.cons (EntW.lst M) .nil),aY [1000] M (by decide),fun _ _=>M⟩ ?_ ?_
    ·exact h
    ·
     rintro ⟨n1,v50⟩ h
     cases n1 with
     | zero=>exact absurd h (by unfold fJ; exact nofun)
     | succ n1 =>
      unfold fJ at h
      refine aU ?_
      obtain ⟨x60,hx60,h⟩:=aK h
      obtain ⟨x61,hx61,h⟩:=aL h
      obtain ⟨x62,hx62,h⟩:=aL h
      obtain ⟨x63,hx63,h⟩:=aL h
      obtain ⟨x64,hx64,h⟩:=aL h
      obtain ⟨x65,hx65,h⟩:=aL h
      obtain ⟨x66,hx66,h⟩:=aK h
      refine dN M [⟨[10],[],[(46,.int .i64 v22)],[]⟩,
       ⟨[11],[],[(47,.int .i64 v50)],[]⟩,
       ⟨[46,47],[],[(48,.bool x60)],[]⟩,
       ⟨[48],[],[(49,.bool x60)],[]⟩,
       ⟨[0,49],[],[(50,.cnd (x60 == true) (.osl 1000 (eInt .i64).sz x10.length))],[]⟩,
       ⟨[11,49],[],[(51,.cnd (x60 == true) (.int .i64 v50))],[]⟩,
       ⟨[49,50,51],[],[(52,.cnd (x60 == true) (.ref 1000 (((v50:Int).toNat) * (eInt .i64).sz + 0)))],[]⟩,
       ⟨[49,52],[1000],[(53,.cnd (x60 == true) (.int .i64 x62))],[]⟩,
       ⟨[0,49],[],[(54,.cnd (x60 == true) (.osl 1000 (eInt .i64).sz x10.length))],[]⟩,
       ⟨[1,49],[],[(55,.cnd (x60 == true) (.int .i64 a0))],[]⟩,
       ⟨[49,54,55],[],[(56,.cnd (x60 == true) (.ref 1000 (((a0:Int).toNat) * (eInt .i64).sz + 0)))],[]⟩,
       ⟨[49,56],[1000],[(57,.cnd (x60 == true) (.int .i64 x64))],[]⟩,
       ⟨[49,53,57],[],[(58,.cnd (x60 == true) (.bool x65))],[]⟩,
       ⟨[49,58],[],[(59,.cnd (x60 == true) (.bool (!x65)))],[]⟩,
       ⟨[49,59],[],[(60,.bool x66)],[]⟩] M ?_ (by kernel_rfl) ?_
      ·refine .cons (lop M M fun S hA=>(aD M M (lb M) (svaI hA M M))) ?_
       refine .cons (lop M M fun S hA=>(aD M M (lb M) (svaI hA M M))) ?_
       refine .cons (lop M M fun S hA=>(aO M M (lb M) (svaI hA M M) (svaI hA M M) M hx60)) ?_
       refine .cons (lop M M fun S hA=>(aD M M (lb M) (svaB hA M M))) ?_
       refine .cons (lopg M M M M (by decide) (fun S hA=>grd1 hA M M) (fun S hA hb=>(aD M M (lb M) (sv (d:=.osl _ _ _) (agr hA M M))))) ?_
       refine .cons (lopg M M M M (by decide) (fun S hA=>grd1 hA M M) (fun S hA hb=>(aD M M (lb M) (svaI hA M M)))) ?_
       refine .cons (lopg M M M M (by decide) (fun S hA=>grd1 hA M M) (fun S hA hb=>(aX (eInt .i64).toEnc0 M M (lb M) underlying24 ti3 (svc (d:=.osl _ _ _) (agr hA M M) hb) M (svc (d:=.int _ _) (agr hA M M) hb) (gd_t hx61 hb)))) ?_
       refine .cons (lopg M M M M (by decide) (fun S hA=>grd1 hA M M) (fun S hA hb=>(bO (eInt .i64).toEnc0 (d:=.int _ _) M M (lb M) underlying3 ag3 ti3 (by decide) (svc (d:=.ref _ _) (agr hA M M) hb) (agi hA M M) (gd_t hx62 hb) (nle M) M))) ?_
       refine .cons (lopg M M M M (by decide) (fun S hA=>grd1 hA M M) (fun S hA hb=>(aD M M (lb M) (sv (d:=.osl _ _ _) (agr hA M M))))) ?_
       refine .cons (lopg M M M M (by decide) (fun S hA=>grd1 hA M M) (fun S hA hb=>(aD M M (lb M) (svaI hA M M)))) ?_
       refine .cons (lopg M M M M (by decide) (fun S hA=>grd1 hA M M) (fun S hA hb=>(aX (eInt .i64).toEnc0 M M (lb M) underlying24 ti3 (svc (d:=.osl _ _ _) (agr hA M M) hb) M (svc (d:=.int _ _) (agr hA M M) hb) (gd_t hx63 hb)))) ?_
       refine .cons (lopg M M M M (by decide) (fun S hA=>grd1 hA M M) (fun S hA hb=>(bO (eInt .i64).toEnc0 (d:=.int _ _) M M (lb M) underlying3 ag3 ti3 (by decide) (svc (d:=.ref _ _) (agr hA M M) hb) (agi hA M M) (gd_t hx64 hb) (nle M) M))) ?_
       refine .cons (lopg M M M M (by decide) (fun S hA=>grd1 hA M M) (fun S hA hb=>(bJ (r:=.bool _) M M (lb M) cl73 (.cons (svc (d:=.int _ _) (agr hA M M) hb) (.cons (svc (d:=.int _ _) (agr hA M M) hb) .nil)) M (fR _ _ _ (gd_t hx65 hb))))) ?_
       refine .cons (lopg M M M M (by decide) (fun S hA=>grd1 hA M M) (fun S hA hb=>(eX M M (lb M) (svc (d:=.bool _) (agr hA M M) hb)))) ?_
       refine .cons (lop M M fun S hA=>(bC M M (lb M) (svaB hA M M) (agr hA M M) M hx66)) ?_
       exact .nil
      refine aW (b:=_) M (fun hc67=>?_) (fun hc67=>?_)
      ·
       replace h:=bX h hc67
       refine aT ?_
       refine aJ ?_
       refine aV ?_
       obtain ⟨x68,hx68,h⟩:=aK h
       refine aS (aA M (mvI M M M M)<|aA M (aQ M M (lb M) (svI M) (sv (d:=.int _ 1) M) M hx68)<|aA M (asI M M M M)<|bE ?_)
       refine bI ?_
       refine aJ ⟨(n1,x68),(fun i=>i),⟨(.sames M M),(.cons (EntW.lst M) .nil),aY [1000] M (by decide),fun _ _=>M⟩,?_,?_⟩
       exact h
       exact Nat.lt_succ_self _
      ·
       replace h:=bY h hc67
       refine cA ?_
       refine bD ?_
       refine bD ?_
       refine cC ?_
       refine aJ ?_
       refine aU ?_
       obtain ⟨x69,hx69,h⟩:=aK h
       refine aF (aA M (mvI M M M M)<|aA M (mvI M M M M)<|aA M (aO M M (lb M) (svI M) (svI M) M hx69)<|aE ?_)
       refine aW (b:=_) M (fun hc70=>?_) (fun hc70=>?_)
       ·
        replace h:=bX h hc70
        obtain ⟨x71,hx71,h⟩:=aL h
        obtain ⟨x72,hx72,h⟩:=aL h
        obtain ⟨x73,hx73,h⟩:=aL h
        obtain ⟨x74,hx74,h⟩:=aL h
        obtain ⟨x75,hx75,h⟩:=aL h
        obtain ⟨x76,hx76,h⟩:=aL h
        obtain ⟨x77,hx77,h⟩:=aK h
        obtain ⟨x78,hx78,h⟩:=aL h
        obtain ⟨x79,hx79,h⟩:=aL h
        obtain ⟨x80,hx80,h⟩:=aK h
        refine dN M [⟨[0],[],[(66,.osl 1000 (eInt .i64).sz x10.length)],[]⟩,
         ⟨[11],[],[(67,.int .i64 v50)],[]⟩,
         ⟨[0],[],[(68,.osl 1000 (eInt .i64).sz x10.length)],[]⟩,
         ⟨[1],[],[(69,.int .i64 a0)],[]⟩,
         ⟨[0],[],[(70,.osl 1000 (eInt .i64).sz x10.length)],[]⟩,
         ⟨[1],[],[(71,.int .i64 a0)],[]⟩,
         ⟨[70,71],[],[(72,.ref 1000 (((a0:Int).toNat) * (eInt .i64).sz + 0))],[]⟩,
         ⟨[72],[1000],[(73,.int .i64 x72)],[]⟩,
         ⟨[0],[],[(74,.osl 1000 (eInt .i64).sz x10.length)],[]⟩,
         ⟨[11],[],[(75,.int .i64 v50)],[]⟩,
         ⟨[74,75],[],[(76,.ref 1000 (((v50:Int).toNat) * (eInt .i64).sz + 0))],[]⟩,
         ⟨[76],[1000],[(77,.int .i64 x74)],[]⟩,
         ⟨[66,67],[],[(78,.ref 1000 (((v50:Int).toNat) * (eInt .i64).sz + 0))],[]⟩,
         ⟨[73,78],[1000],[],[(1000,.blk 3 (D.flat (x77.map (eInt .i64).d)))]⟩,
         ⟨[68,69],[],[(79,.ref 1000 (((a0:Int).toNat) * (eInt .i64).sz + 0))],[]⟩,
         ⟨[77,79],[1000],[],[(1000,.blk 3 (D.flat (x80.map (eInt .i64).d)))]⟩] M ?_ (by kernel_rfl) ?_
        ·refine .cons (lop M M fun S hA=>(aD M M (lb M) (sv (d:=.osl _ _ _) (agr hA M M)))) ?_
         refine .cons (lop M M fun S hA=>(aD M M (lb M) (svaI hA M M))) ?_
         refine .cons (lop M M fun S hA=>(aD M M (lb M) (sv (d:=.osl _ _ _) (agr hA M M)))) ?_
         refine .cons (lop M M fun S hA=>(aD M M (lb M) (svaI hA M M))) ?_
         refine .cons (lop M M fun S hA=>(aD M M (lb M) (sv (d:=.osl _ _ _) (agr hA M M)))) ?_
         refine .cons (lop M M fun S hA=>(aD M M (lb M) (svaI hA M M))) ?_
         refine .cons (lop M M fun S hA=>(aX (eInt .i64).toEnc0 M M (lb M) underlying24 ti3 (sv (d:=.osl _ _ _) (agr hA M M)) M (svaI hA M M) hx71)) ?_
         refine .cons (lop M M fun S hA=>(bO (eInt .i64).toEnc0 (d:=.int _ _) M M (lb M) underlying3 ag3 ti3 (by decide) (svaR hA M M) (agi hA M M) hx72 (nle M) M)) ?_
         refine .cons (lop M M fun S hA=>(aD M M (lb M) (sv (d:=.osl _ _ _) (agr hA M M)))) ?_
         refine .cons (lop M M fun S hA=>(aD M M (lb M) (svaI hA M M))) ?_
         refine .cons (lop M M fun S hA=>(aX (eInt .i64).toEnc0 M M (lb M) underlying24 ti3 (sv (d:=.osl _ _ _) (agr hA M M)) M (svaI hA M M) hx73)) ?_
         refine .cons (lop M M fun S hA=>(bO (eInt .i64).toEnc0 (d:=.int _ _) M M (lb M) underlying3 ag3 ti3 (by decide) (svaR hA M M) (agi hA M M) hx74 (nle M) M)) ?_
         refine .cons (lop M M fun S hA=>(aX (eInt .i64).toEnc0 M M (lb M) underlying24 ti3 (sv (d:=.osl _ _ _) (agr hA M M)) M (svaI hA M M) hx75)) ?_
         refine .cons (lop M M fun S hA=>(bR (eInt .i64).toEnc0 (a':=x72) M M ti3 (svaR hA M M) (agi hA M M) (svaI hA M M) M M M hx76 (nle M) M hx77)) ?_
         refine .cons (lop M M fun S hA=>(aX (eInt .i64).toEnc0 M M (lb M) underlying24 ti3 (sv (d:=.osl _ _ _) (agr hA M M)) (bV hx77 M) (svaI hA M M) hx78)) ?_
         refine .cons (lop M M fun S hA=>(bR (eInt .i64).toEnc0 (a':=x74) M M ti3 (svaR hA M M) (agi hA M M) (svaI hA M M) M M M hx79 (nle M) M hx80)) ?_
         exact .nil
        refine aF (aA M (mvI M M M M)<|aA M (asI M M M M)<|aA M (aI M M (lb M) (sv (d:=.bool true) M))<|aE ?_)
        refine bB ?_
        refine bP ?_
        obtain rfl:=sj_ h
        refine ⟨.inr M,(fun i=>i),⟨.nil,(.cons (EntW.lst M) .nil),aY [1000] M (by decide),fun _ _=>M⟩,(.cons (sv M) (.cons (sv M) .nil)),M⟩
       ·
        replace h:=bY h hc70
        refine aT ?_
        refine aJ ?_
        obtain ⟨x81,hx81,h⟩:=aL h
        obtain ⟨x82,hx82,h⟩:=aL h
        obtain ⟨x83,hx83,h⟩:=aL h
        obtain ⟨x84,hx84,h⟩:=aL h
        obtain ⟨x85,hx85,h⟩:=aL h
        obtain ⟨x86,hx86,h⟩:=aL h
        obtain ⟨x87,hx87,h⟩:=aK h
        obtain ⟨x88,hx88,h⟩:=aL h
        obtain ⟨x89,hx89,h⟩:=aL h
        obtain ⟨x90,hx90,h⟩:=aK h
        refine dN M [⟨[0],[],[(81,.osl 1000 (eInt .i64).sz x10.length)],[]⟩,
         ⟨[10],[],[(82,.int .i64 v22)],[]⟩,
         ⟨[0],[],[(83,.osl 1000 (eInt .i64).sz x10.length)],[]⟩,
         ⟨[11],[],[(84,.int .i64 v50)],[]⟩,
         ⟨[0],[],[(85,.osl 1000 (eInt .i64).sz x10.length)],[]⟩,
         ⟨[11],[],[(86,.int .i64 v50)],[]⟩,
         ⟨[85,86],[],[(87,.ref 1000 (((v50:Int).toNat) * (eInt .i64).sz + 0))],[]⟩,
         ⟨[87],[1000],[(88,.int .i64 x82)],[]⟩,
         ⟨[0],[],[(89,.osl 1000 (eInt .i64).sz x10.length)],[]⟩,
         ⟨[10],[],[(90,.int .i64 v22)],[]⟩,
         ⟨[89,90],[],[(91,.ref 1000 (((v22:Int).toNat) * (eInt .i64).sz + 0))],[]⟩,
         ⟨[91],[1000],[(92,.int .i64 x84)],[]⟩,
         ⟨[81,82],[],[(93,.ref 1000 (((v22:Int).toNat) * (eInt .i64).sz + 0))],[]⟩,
         ⟨[88,93],[1000],[],[(1000,.blk 3 (D.flat (x87.map (eInt .i64).d)))]⟩,
         ⟨[83,84],[],[(94,.ref 1000 (((v50:Int).toNat) * (eInt .i64).sz + 0))],[]⟩,
         ⟨[92,94],[1000],[],[(1000,.blk 3 (D.flat (x90.map (eInt .i64).d)))]⟩] M ?_ (by kernel_rfl) ?_
        ·refine .cons (lop M M fun S hA=>(aD M M (lb M) (sv (d:=.osl _ _ _) (agr hA M M)))) ?_
         refine .cons (lop M M fun S hA=>(aD M M (lb M) (svaI hA M M))) ?_
         refine .cons (lop M M fun S hA=>(aD M M (lb M) (sv (d:=.osl _ _ _) (agr hA M M)))) ?_
         refine .cons (lop M M fun S hA=>(aD M M (lb M) (svaI hA M M))) ?_
         refine .cons (lop M M fun S hA=>(aD M M (lb M) (sv (d:=.osl _ _ _) (agr hA M M)))) ?_
         refine .cons (lop M M fun S hA=>(aD M M (lb M) (svaI hA M M))) ?_
         refine .cons (lop M M fun S hA=>(aX (eInt .i64).toEnc0 M M (lb M) underlying24 ti3 (sv (d:=.osl _ _ _) (agr hA M M)) M (svaI hA M M) hx81)) ?_
         refine .cons (lop M M fun S hA=>(bO (eInt .i64).toEnc0 (d:=.int _ _) M M (lb M) underlying3 ag3 ti3 (by decide) (svaR hA M M) (agi hA M M) hx82 (nle M) M)) ?_
         refine .cons (lop M M fun S hA=>(aD M M (lb M) (sv (d:=.osl _ _ _) (agr hA M M)))) ?_
         refine .cons (lop M M fun S hA=>(aD M M (lb M) (svaI hA M M))) ?_
         refine .cons (lop M M fun S hA=>(aX (eInt .i64).toEnc0 M M (lb M) underlying24 ti3 (sv (d:=.osl _ _ _) (agr hA M M)) M (svaI hA M M) hx83)) ?_
         refine .cons (lop M M fun S hA=>(bO (eInt .i64).toEnc0 (d:=.int _ _) M M (lb M) underlying3 ag3 ti3 (by decide) (svaR hA M M) (agi hA M M) hx84 (nle M) M)) ?_
         refine .cons (lop M M fun S hA=>(aX (eInt .i64).toEnc0 M M (lb M) underlying24 ti3 (sv (d:=.osl _ _ _) (agr hA M M)) M (svaI hA M M) hx85)) ?_
         refine .cons (lop M M fun S hA=>(bR (eInt .i64).toEnc0 (a':=x82) M M ti3 (svaR hA M M) (agi hA M M) (svaI hA M M) M M M hx86 (nle M) M hx87)) ?_
         refine .cons (lop M M fun S hA=>(aX (eInt .i64).toEnc0 M M (lb M) underlying24 ti3 (sv (d:=.osl _ _ _) (agr hA M M)) (bV hx87 M) (svaI hA M M) hx88)) ?_
         refine .cons (lop M M fun S hA=>(bR (eInt .i64).toEnc0 (a':=x84) M M ti3 (svaR hA M M) (agi hA M M) (svaI hA M M) M M M hx89 (nle M) M hx90)) ?_
         exact .nil
        obtain ⟨x91,hx91,h⟩:=aK h
        refine aF (aA M (mvI M M M M)<|aA M (aQ M M (lb M) (svI M) (sv (d:=.int _ 1) M) M hx91)<|aA M (asI M M M M)<|aE ?_)
        obtain ⟨x92,hx92,h⟩:=aK h
        refine aF (aA M (mvI M M M M)<|aA M (aQ M M (lb M) (svI M) (sv (d:=.int _ 1) M) M hx92)<|aA M (asI M M M M)<|aE ?_)
        refine aU ?_
        refine aV ?_
        refine bS (α:=Nat × (List Int) × Int × Int) (fun z=>⟨[(0,.osl 1000 (eInt .i64).sz z.2.1.length),(1,.int .i64 a0),(10,.int .i64 z.2.2.1),(11,.int .i64 z.2.2.2)],[(1000,.blk 3 (D.flat (z.2.1.map (eInt .i64).d)))]⟩) (fun z=>eA a0 z.1 z.2.1 z.2.2.1 z.2.2.2=some r) (fun z=>z.1) (fuel,x90,x91,x92) (fun i=>i) ⟨(.cons (.same (congrArg (D.osl _ _) (bV hx90 (bV hx87 M)).symm) M) (.sames M M)),(.cons (EntW.lst M) .nil),aY [1000] M (by decide),fun _ _=>M⟩ ?_ ?_
        ·exact h
        ·
         rintro ⟨n2,v163,v164,v165⟩ h
         cases n2 with
         | zero=>exact absurd h (by unfold eA; exact nofun)
         | succ n2 =>
          unfold eA at h
          refine aV ?_
          refine aU ?_
          refine aV ?_
          refine bS (α:=Nat × Int) (fun z=>⟨[(0,.osl 1000 (eInt .i64).sz v163.length),(1,.int .i64 a0),(10,.int .i64 z.2),(11,.int .i64 v165)],[(1000,.blk 3 (D.flat (v163.map (eInt .i64).d)))]⟩) (fun z=>fI a0 v163 v165 (eA a0 n2) z.1 z.2=some r) (fun z=>z.1) (fuel,v164) (fun i=>i) ⟨(.sames M M),(.cons (EntW.lst M) .nil),aY [1000] M (by decide),fun _ _=>M⟩ ?_ ?_
          ·exact h
          ·
           rintro ⟨n3,v245⟩ h
           cases n3 with
           | zero=>exact absurd h (by unfold fI; exact nofun)
           | succ n3 =>
            unfold fI at h
            refine aU ?_
            obtain ⟨x255,hx255,h⟩:=aK h
            obtain ⟨x256,hx256,h⟩:=aL h
            obtain ⟨x257,hx257,h⟩:=aL h
            obtain ⟨x258,hx258,h⟩:=aL h
            obtain ⟨x259,hx259,h⟩:=aL h
            obtain ⟨x260,hx260,h⟩:=aL h
            obtain ⟨x261,hx261,h⟩:=aK h
            refine dN M [⟨[10],[],[(99,.int .i64 v245)],[]⟩,
             ⟨[11],[],[(100,.int .i64 v165)],[]⟩,
             ⟨[99,100],[],[(101,.bool x255)],[]⟩,
             ⟨[101],[],[(102,.bool x255)],[]⟩,
             ⟨[0,102],[],[(103,.cnd (x255 == true) (.osl 1000 (eInt .i64).sz v163.length))],[]⟩,
             ⟨[10,102],[],[(104,.cnd (x255 == true) (.int .i64 v245))],[]⟩,
             ⟨[102,103,104],[],[(105,.cnd (x255 == true) (.ref 1000 (((v245:Int).toNat) * (eInt .i64).sz + 0)))],[]⟩,
             ⟨[102,105],[1000],[(106,.cnd (x255 == true) (.int .i64 x257))],[]⟩,
             ⟨[0,102],[],[(107,.cnd (x255 == true) (.osl 1000 (eInt .i64).sz v163.length))],[]⟩,
             ⟨[1,102],[],[(108,.cnd (x255 == true) (.int .i64 a0))],[]⟩,
             ⟨[102,107,108],[],[(109,.cnd (x255 == true) (.ref 1000 (((a0:Int).toNat) * (eInt .i64).sz + 0)))],[]⟩,
             ⟨[102,109],[1000],[(110,.cnd (x255 == true) (.int .i64 x259))],[]⟩,
             ⟨[102,106,110],[],[(111,.cnd (x255 == true) (.bool x260))],[]⟩,
             ⟨[102,111],[],[(112,.bool x261)],[]⟩] M ?_ (by kernel_rfl) ?_
            ·refine .cons (lop M M fun S hA=>(aD M M (lb M) (svaI hA M M))) ?_
             refine .cons (lop M M fun S hA=>(aD M M (lb M) (svaI hA M M))) ?_
             refine .cons (lop M M fun S hA=>(aO M M (lb M) (svaI hA M M) (svaI hA M M) M hx255)) ?_
             refine .cons (lop M M fun S hA=>(aD M M (lb M) (svaB hA M M))) ?_
             refine .cons (lopg M M M M (by decide) (fun S hA=>grd1 hA M M) (fun S hA hb=>(aD M M (lb M) (sv (d:=.osl _ _ _) (agr hA M M))))) ?_
             refine .cons (lopg M M M M (by decide) (fun S hA=>grd1 hA M M) (fun S hA hb=>(aD M M (lb M) (svaI hA M M)))) ?_
             refine .cons (lopg M M M M (by decide) (fun S hA=>grd1 hA M M) (fun S hA hb=>(aX (eInt .i64).toEnc0 M M (lb M) underlying24 ti3 (svc (d:=.osl _ _ _) (agr hA M M) hb) M (svc (d:=.int _ _) (agr hA M M) hb) (gd_t hx256 hb)))) ?_
             refine .cons (lopg M M M M (by decide) (fun S hA=>grd1 hA M M) (fun S hA hb=>(bO (eInt .i64).toEnc0 (d:=.int _ _) M M (lb M) underlying3 ag3 ti3 (by decide) (svc (d:=.ref _ _) (agr hA M M) hb) (agi hA M M) (gd_t hx257 hb) (nle M) M))) ?_
             refine .cons (lopg M M M M (by decide) (fun S hA=>grd1 hA M M) (fun S hA hb=>(aD M M (lb M) (sv (d:=.osl _ _ _) (agr hA M M))))) ?_
             refine .cons (lopg M M M M (by decide) (fun S hA=>grd1 hA M M) (fun S hA hb=>(aD M M (lb M) (svaI hA M M)))) ?_
             refine .cons (lopg M M M M (by decide) (fun S hA=>grd1 hA M M) (fun S hA hb=>(aX (eInt .i64).toEnc0 M M (lb M) underlying24 ti3 (svc (d:=.osl _ _ _) (agr hA M M) hb) M (svc (d:=.int _ _) (agr hA M M) hb) (gd_t hx258 hb)))) ?_
             refine .cons (lopg M M M M (by decide) (fun S hA=>grd1 hA M M) (fun S hA hb=>(bO (eInt .i64).toEnc0 (d:=.int _ _) M M (lb M) underlying3 ag3 ti3 (by decide) (svc (d:=.ref _ _) (agr hA M M) hb) (agi hA M M) (gd_t hx259 hb) (nle M) M))) ?_
             refine .cons (lopg M M M M (by decide) (fun S hA=>grd1 hA M M) (fun S hA hb=>(bJ (r:=.bool _) M M (lb M) cl73 (.cons (svc (d:=.int _ _) (agr hA M M) hb) (.cons (svc (d:=.int _ _) (agr hA M M) hb) .nil)) M (fR _ _ _ (gd_t hx260 hb))))) ?_
             refine .cons (lop M M fun S hA=>(bC M M (lb M) (svaB hA M M) (agr hA M M) M hx261)) ?_
             exact .nil
            refine aW (b:=_) M (fun hc262=>?_) (fun hc262=>?_)
            ·
             replace h:=bX h hc262
             refine aT ?_
             refine aJ ?_
             refine aV ?_
             obtain ⟨x263,hx263,h⟩:=aK h
             refine aS (aA M (mvI M M M M)<|aA M (aQ M M (lb M) (svI M) (sv (d:=.int _ 1) M) M hx263)<|aA M (asI M M M M)<|bE ?_)
             refine bI ?_
             refine aJ ⟨(n3,x263),(fun i=>i),⟨(.sames M M),(.cons (EntW.lst M) .nil),aY [1000] M (by decide),fun _ _=>M⟩,?_,?_⟩
             exact h
             exact Nat.lt_succ_self _
            ·
             replace h:=bY h hc262
             refine cA ?_
             refine bD ?_
             refine bD ?_
             refine cC ?_
             refine aJ ?_
             refine aU ?_
             refine aV ?_
             refine bS (α:=Nat × Int) (fun z=>⟨[(0,.osl 1000 (eInt .i64).sz v163.length),(1,.int .i64 a0),(10,.int .i64 v245),(11,.int .i64 z.2)],[(1000,.blk 3 (D.flat (v163.map (eInt .i64).d)))]⟩) (fun z=>fH a0 v163 (eA a0 n2) v245 z.1 z.2=some r) (fun z=>z.1) (fuel,v165) (fun i=>i) ⟨(.sames M M),(.cons (EntW.lst M) .nil),aY [1000] M (by decide),fun _ _=>M⟩ ?_ ?_
             ·exact h
             ·
              rintro ⟨n4,v273⟩ h
              cases n4 with
              | zero=>exact absurd h (by unfold fH; exact nofun)
              | succ n4 =>
               unfold fH at h
               refine aU ?_
               obtain ⟨x283,hx283,h⟩:=aK h
               obtain ⟨x284,hx284,h⟩:=aL h
               obtain ⟨x285,hx285,h⟩:=aL h
               obtain ⟨x286,hx286,h⟩:=aL h
               obtain ⟨x287,hx287,h⟩:=aL h
               obtain ⟨x288,hx288,h⟩:=aL h
               obtain ⟨x289,hx289,h⟩:=aK h
               refine dN M [⟨[10],[],[(115,.int .i64 v245)],[]⟩,
                ⟨[11],[],[(116,.int .i64 v273)],[]⟩,
                ⟨[115,116],[],[(117,.bool x283)],[]⟩,
                ⟨[117],[],[(118,.bool x283)],[]⟩,
                ⟨[0,118],[],[(119,.cnd (x283 == true) (.osl 1000 (eInt .i64).sz v163.length))],[]⟩,
                ⟨[11,118],[],[(120,.cnd (x283 == true) (.int .i64 v273))],[]⟩,
                ⟨[118,119,120],[],[(121,.cnd (x283 == true) (.ref 1000 (((v273:Int).toNat) * (eInt .i64).sz + 0)))],[]⟩,
                ⟨[118,121],[1000],[(122,.cnd (x283 == true) (.int .i64 x285))],[]⟩,
                ⟨[0,118],[],[(123,.cnd (x283 == true) (.osl 1000 (eInt .i64).sz v163.length))],[]⟩,
                ⟨[1,118],[],[(124,.cnd (x283 == true) (.int .i64 a0))],[]⟩,
                ⟨[118,123,124],[],[(125,.cnd (x283 == true) (.ref 1000 (((a0:Int).toNat) * (eInt .i64).sz + 0)))],[]⟩,
                ⟨[118,125],[1000],[(126,.cnd (x283 == true) (.int .i64 x287))],[]⟩,
                ⟨[118,122,126],[],[(127,.cnd (x283 == true) (.bool x288))],[]⟩,
                ⟨[118,127],[],[(128,.cnd (x283 == true) (.bool (!x288)))],[]⟩,
                ⟨[118,128],[],[(129,.bool x289)],[]⟩] M ?_ (by kernel_rfl) ?_
               ·refine .cons (lop M M fun S hA=>(aD M M (lb M) (svaI hA M M))) ?_
                refine .cons (lop M M fun S hA=>(aD M M (lb M) (svaI hA M M))) ?_
                refine .cons (lop M M fun S hA=>(aO M M (lb M) (svaI hA M M) (svaI hA M M) M hx283)) ?_
                refine .cons (lop M M fun S hA=>(aD M M (lb M) (svaB hA M M))) ?_
                refine .cons (lopg M M M M (by decide) (fun S hA=>grd1 hA M M) (fun S hA hb=>(aD M M (lb M) (sv (d:=.osl _ _ _) (agr hA M M))))) ?_
                refine .cons (lopg M M M M (by decide) (fun S hA=>grd1 hA M M) (fun S hA hb=>(aD M M (lb M) (svaI hA M M)))) ?_
                refine .cons (lopg M M M M (by decide) (fun S hA=>grd1 hA M M) (fun S hA hb=>(aX (eInt .i64).toEnc0 M M (lb M) underlying24 ti3 (svc (d:=.osl _ _ _) (agr hA M M) hb) M (svc (d:=.int _ _) (agr hA M M) hb) (gd_t hx284 hb)))) ?_
                refine .cons (lopg M M M M (by decide) (fun S hA=>grd1 hA M M) (fun S hA hb=>(bO (eInt .i64).toEnc0 (d:=.int _ _) M M (lb M) underlying3 ag3 ti3 (by decide) (svc (d:=.ref _ _) (agr hA M M) hb) (agi hA M M) (gd_t hx285 hb) (nle M) M))) ?_
                refine .cons (lopg M M M M (by decide) (fun S hA=>grd1 hA M M) (fun S hA hb=>(aD M M (lb M) (sv (d:=.osl _ _ _) (agr hA M M))))) ?_
                refine .cons (lopg M M M M (by decide) (fun S hA=>grd1 hA M M) (fun S hA hb=>(aD M M (lb M) (svaI hA M M)))) ?_
                refine .cons (lopg M M M M (by decide) (fun S hA=>grd1 hA M M) (fun S hA hb=>(aX (eInt .i64).toEnc0 M M (lb M) underlying24 ti3 (svc (d:=.osl _ _ _) (agr hA M M) hb) M (svc (d:=.int _ _) (agr hA M M) hb) (gd_t hx286 hb)))) ?_
                refine .cons (lopg M M M M (by decide) (fun S hA=>grd1 hA M M) (fun S hA hb=>(bO (eInt .i64).toEnc0 (d:=.int _ _) M M (lb M) underlying3 ag3 ti3 (by decide) (svc (d:=.ref _ _) (agr hA M M) hb) (agi hA M M) (gd_t hx287 hb) (nle M) M))) ?_
                refine .cons (lopg M M M M (by decide) (fun S hA=>grd1 hA M M) (fun S hA hb=>(bJ (r:=.bool _) M M (lb M) cl73 (.cons (svc (d:=.int _ _) (agr hA M M) hb) (.cons (svc (d:=.int _ _) (agr hA M M) hb) .nil)) M (fR _ _ _ (gd_t hx288 hb))))) ?_
                refine .cons (lopg M M M M (by decide) (fun S hA=>grd1 hA M M) (fun S hA hb=>(eX M M (lb M) (svc (d:=.bool _) (agr hA M M) hb)))) ?_
                refine .cons (lop M M fun S hA=>(bC M M (lb M) (svaB hA M M) (agr hA M M) M hx289)) ?_
                exact .nil
               refine aW (b:=_) M (fun hc290=>?_) (fun hc290=>?_)
               ·
                replace h:=bX h hc290
                refine aT ?_
                refine aJ ?_
                refine aV ?_
                obtain ⟨x291,hx291,h⟩:=aK h
                refine aS (aA M (mvI M M M M)<|aA M (aQ M M (lb M) (svI M) (sv (d:=.int _ 1) M) M hx291)<|aA M (asI M M M M)<|bE ?_)
                refine bI ?_
                refine aJ ⟨(n4,x291),(fun i=>i),⟨(.sames M M),(.cons (EntW.lst M) .nil),aY [1000] M (by decide),fun _ _=>M⟩,?_,?_⟩
                exact h
                exact Nat.lt_succ_self _
               ·
                replace h:=bY h hc290
                refine cA ?_
                refine bD ?_
                refine bD ?_
                refine cC ?_
                refine aJ ?_
                refine aU ?_
                obtain ⟨x292,hx292,h⟩:=aK h
                refine aF (aA M (mvI M M M M)<|aA M (mvI M M M M)<|aA M (aO M M (lb M) (svI M) (svI M) M hx292)<|aE ?_)
                refine aW (b:=_) M (fun hc293=>?_) (fun hc293=>?_)
                ·
                 replace h:=bX h hc293
                 refine cA ?_
                 refine bD ?_
                 refine oV M ?_
                 refine bD ?_
                 refine cC ?_
                 refine aJ ?_
                 obtain ⟨x294,hx294,h⟩:=aL h
                 obtain ⟨x295,hx295,h⟩:=aL h
                 obtain ⟨x296,hx296,h⟩:=aL h
                 obtain ⟨x297,hx297,h⟩:=aL h
                 obtain ⟨x298,hx298,h⟩:=aL h
                 obtain ⟨x299,hx299,h⟩:=aL h
                 obtain ⟨x300,hx300,h⟩:=aK h
                 obtain ⟨x301,hx301,h⟩:=aL h
                 obtain ⟨x302,hx302,h⟩:=aL h
                 obtain ⟨x303,hx303,h⟩:=aK h
                 refine dN M [⟨[0],[],[(153,.osl 1000 (eInt .i64).sz v163.length)],[]⟩,
                  ⟨[11],[],[(154,.int .i64 v273)],[]⟩,
                  ⟨[0],[],[(155,.osl 1000 (eInt .i64).sz v163.length)],[]⟩,
                  ⟨[1],[],[(156,.int .i64 a0)],[]⟩,
                  ⟨[0],[],[(157,.osl 1000 (eInt .i64).sz v163.length)],[]⟩,
                  ⟨[1],[],[(158,.int .i64 a0)],[]⟩,
                  ⟨[157,158],[],[(159,.ref 1000 (((a0:Int).toNat) * (eInt .i64).sz + 0))],[]⟩,
                  ⟨[159],[1000],[(160,.int .i64 x295)],[]⟩,
                  ⟨[0],[],[(161,.osl 1000 (eInt .i64).sz v163.length)],[]⟩,
                  ⟨[11],[],[(162,.int .i64 v273)],[]⟩,
                  ⟨[161,162],[],[(163,.ref 1000 (((v273:Int).toNat) * (eInt .i64).sz + 0))],[]⟩,
                  ⟨[163],[1000],[(164,.int .i64 x297)],[]⟩,
                  ⟨[153,154],[],[(165,.ref 1000 (((v273:Int).toNat) * (eInt .i64).sz + 0))],[]⟩,
                  ⟨[160,165],[1000],[],[(1000,.blk 3 (D.flat (x300.map (eInt .i64).d)))]⟩,
                  ⟨[155,156],[],[(166,.ref 1000 (((a0:Int).toNat) * (eInt .i64).sz + 0))],[]⟩,
                  ⟨[164,166],[1000],[],[(1000,.blk 3 (D.flat (x303.map (eInt .i64).d)))]⟩] M ?_ (by kernel_rfl) ?_
                 ·refine .cons (lop M M fun S hA=>(aD M M (lb M) (sv (d:=.osl _ _ _) (agr hA M M)))) ?_
                  refine .cons (lop M M fun S hA=>(aD M M (lb M) (svaI hA M M))) ?_
                  refine .cons (lop M M fun S hA=>(aD M M (lb M) (sv (d:=.osl _ _ _) (agr hA M M)))) ?_
                  refine .cons (lop M M fun S hA=>(aD M M (lb M) (svaI hA M M))) ?_
                  refine .cons (lop M M fun S hA=>(aD M M (lb M) (sv (d:=.osl _ _ _) (agr hA M M)))) ?_
                  refine .cons (lop M M fun S hA=>(aD M M (lb M) (svaI hA M M))) ?_
                  refine .cons (lop M M fun S hA=>(aX (eInt .i64).toEnc0 M M (lb M) underlying24 ti3 (sv (d:=.osl _ _ _) (agr hA M M)) M (svaI hA M M) hx294)) ?_
                  refine .cons (lop M M fun S hA=>(bO (eInt .i64).toEnc0 (d:=.int _ _) M M (lb M) underlying3 ag3 ti3 (by decide) (svaR hA M M) (agi hA M M) hx295 (nle M) M)) ?_
                  refine .cons (lop M M fun S hA=>(aD M M (lb M) (sv (d:=.osl _ _ _) (agr hA M M)))) ?_
                  refine .cons (lop M M fun S hA=>(aD M M (lb M) (svaI hA M M))) ?_
                  refine .cons (lop M M fun S hA=>(aX (eInt .i64).toEnc0 M M (lb M) underlying24 ti3 (sv (d:=.osl _ _ _) (agr hA M M)) M (svaI hA M M) hx296)) ?_
                  refine .cons (lop M M fun S hA=>(bO (eInt .i64).toEnc0 (d:=.int _ _) M M (lb M) underlying3 ag3 ti3 (by decide) (svaR hA M M) (agi hA M M) hx297 (nle M) M)) ?_
                  refine .cons (lop M M fun S hA=>(aX (eInt .i64).toEnc0 M M (lb M) underlying24 ti3 (sv (d:=.osl _ _ _) (agr hA M M)) M (svaI hA M M) hx298)) ?_
                  refine .cons (lop M M fun S hA=>(bR (eInt .i64).toEnc0 (a':=x295) M M ti3 (svaR hA M M) (agi hA M M) (svaI hA M M) M M M hx299 (nle M) M hx300)) ?_
                  refine .cons (lop M M fun S hA=>(aX (eInt .i64).toEnc0 M M (lb M) underlying24 ti3 (sv (d:=.osl _ _ _) (agr hA M M)) (bV hx300 M) (svaI hA M M) hx301)) ?_
                  refine .cons (lop M M fun S hA=>(bR (eInt .i64).toEnc0 (a':=x297) M M ti3 (svaR hA M M) (agi hA M M) (svaI hA M M) M M M hx302 (nle M) M hx303)) ?_
                  exact .nil
                 refine aF (aA M (mvI M M M M)<|aA M (asI M M M M)<|aA M (aI M M (lb M) (sv (d:=.bool false) M))<|aE ?_)
                 refine bB ?_
                 obtain rfl:=sj_ h
                 refine ⟨.inr M,(fun i=>i),⟨.nil,(.cons (EntW.lst M) .nil),aY [1000] M (by decide),fun _ _=>M⟩,(.cons (sv M) (.cons (sv M) .nil)),M⟩
                ·
                 replace h:=bY h hc293
                 refine aT ?_
                 refine aJ ?_
                 obtain ⟨x304,hx304,h⟩:=aL h
                 obtain ⟨x305,hx305,h⟩:=aL h
                 obtain ⟨x306,hx306,h⟩:=aL h
                 obtain ⟨x307,hx307,h⟩:=aL h
                 obtain ⟨x308,hx308,h⟩:=aL h
                 obtain ⟨x309,hx309,h⟩:=aL h
                 obtain ⟨x310,hx310,h⟩:=aK h
                 obtain ⟨x311,hx311,h⟩:=aL h
                 obtain ⟨x312,hx312,h⟩:=aL h
                 obtain ⟨x313,hx313,h⟩:=aK h
                 refine dN M [⟨[0],[],[(135,.osl 1000 (eInt .i64).sz v163.length)],[]⟩,
                  ⟨[10],[],[(136,.int .i64 v245)],[]⟩,
                  ⟨[0],[],[(137,.osl 1000 (eInt .i64).sz v163.length)],[]⟩,
                  ⟨[11],[],[(138,.int .i64 v273)],[]⟩,
                  ⟨[0],[],[(139,.osl 1000 (eInt .i64).sz v163.length)],[]⟩,
                  ⟨[11],[],[(140,.int .i64 v273)],[]⟩,
                  ⟨[139,140],[],[(141,.ref 1000 (((v273:Int).toNat) * (eInt .i64).sz + 0))],[]⟩,
                  ⟨[141],[1000],[(142,.int .i64 x305)],[]⟩,
                  ⟨[0],[],[(143,.osl 1000 (eInt .i64).sz v163.length)],[]⟩,
                  ⟨[10],[],[(144,.int .i64 v245)],[]⟩,
                  ⟨[143,144],[],[(145,.ref 1000 (((v245:Int).toNat) * (eInt .i64).sz + 0))],[]⟩,
                  ⟨[145],[1000],[(146,.int .i64 x307)],[]⟩,
                  ⟨[135,136],[],[(147,.ref 1000 (((v245:Int).toNat) * (eInt .i64).sz + 0))],[]⟩,
                  ⟨[142,147],[1000],[],[(1000,.blk 3 (D.flat (x310.map (eInt .i64).d)))]⟩,
                  ⟨[137,138],[],[(148,.ref 1000 (((v273:Int).toNat) * (eInt .i64).sz + 0))],[]⟩,
                  ⟨[146,148],[1000],[],[(1000,.blk 3 (D.flat (x313.map (eInt .i64).d)))]⟩] M ?_ (by kernel_rfl) ?_
                 ·refine .cons (lop M M fun S hA=>(aD M M (lb M) (sv (d:=.osl _ _ _) (agr hA M M)))) ?_
                  refine .cons (lop M M fun S hA=>(aD M M (lb M) (svaI hA M M))) ?_
                  refine .cons (lop M M fun S hA=>(aD M M (lb M) (sv (d:=.osl _ _ _) (agr hA M M)))) ?_
                  refine .cons (lop M M fun S hA=>(aD M M (lb M) (svaI hA M M))) ?_
                  refine .cons (lop M M fun S hA=>(aD M M (lb M) (sv (d:=.osl _ _ _) (agr hA M M)))) ?_
                  refine .cons (lop M M fun S hA=>(aD M M (lb M) (svaI hA M M))) ?_
                  refine .cons (lop M M fun S hA=>(aX (eInt .i64).toEnc0 M M (lb M) underlying24 ti3 (sv (d:=.osl _ _ _) (agr hA M M)) M (svaI hA M M) hx304)) ?_
                  refine .cons (lop M M fun S hA=>(bO (eInt .i64).toEnc0 (d:=.int _ _) M M (lb M) underlying3 ag3 ti3 (by decide) (svaR hA M M) (agi hA M M) hx305 (nle M) M)) ?_
                  refine .cons (lop M M fun S hA=>(aD M M (lb M) (sv (d:=.osl _ _ _) (agr hA M M)))) ?_
                  refine .cons (lop M M fun S hA=>(aD M M (lb M) (svaI hA M M))) ?_
                  refine .cons (lop M M fun S hA=>(aX (eInt .i64).toEnc0 M M (lb M) underlying24 ti3 (sv (d:=.osl _ _ _) (agr hA M M)) M (svaI hA M M) hx306)) ?_
                  refine .cons (lop M M fun S hA=>(bO (eInt .i64).toEnc0 (d:=.int _ _) M M (lb M) underlying3 ag3 ti3 (by decide) (svaR hA M M) (agi hA M M) hx307 (nle M) M)) ?_
                  refine .cons (lop M M fun S hA=>(aX (eInt .i64).toEnc0 M M (lb M) underlying24 ti3 (sv (d:=.osl _ _ _) (agr hA M M)) M (svaI hA M M) hx308)) ?_
                  refine .cons (lop M M fun S hA=>(bR (eInt .i64).toEnc0 (a':=x305) M M ti3 (svaR hA M M) (agi hA M M) (svaI hA M M) M M M hx309 (nle M) M hx310)) ?_
                  refine .cons (lop M M fun S hA=>(aX (eInt .i64).toEnc0 M M (lb M) underlying24 ti3 (sv (d:=.osl _ _ _) (agr hA M M)) (bV hx310 M) (svaI hA M M) hx311)) ?_
                  refine .cons (lop M M fun S hA=>(bR (eInt .i64).toEnc0 (a':=x307) M M ti3 (svaR hA M M) (agi hA M M) (svaI hA M M) M M M hx312 (nle M) M hx313)) ?_
                  exact .nil
                 obtain ⟨x314,hx314,h⟩:=aK h
                 refine aF (aA M (mvI M M M M)<|aA M (aQ M M (lb M) (svI M) (sv (d:=.int _ 1) M) M hx314)<|aA M (asI M M M M)<|aE ?_)
                 obtain ⟨x315,hx315,h⟩:=aK h
                 refine aS (aA M (mvI M M M M)<|aA M (aQ M M (lb M) (svI M) (sv (d:=.int _ 1) M) M hx315)<|aA M (asI M M M M)<|bE ?_)
                 refine bI ?_
                 refine aJ ⟨(n2,x313,x314,x315),(fun i=>i),⟨(.cons (.same (congrArg (D.osl _ _) (bV hx313 (bV hx310 M)).symm) M) (.sames M M)),(.cons (EntW.lst M) .nil),aY [1000] M (by decide),fun _ _=>M⟩,?_,?_⟩
                 exact h
                 exact Nat.lt_succ_self _

theorem nK (a0:Int) (a1:Int) (a2:(List Int)) (r:(List Int)) (h:iA a0 a1 a2=some r):FnH prog 69 [.osl 1000 (eInt .i64).sz a2.length,.int .i64 a0,.int .i64 a1] [(1000,.blk 3 (D.flat (a2.map (eInt .i64).d)))] (retD []) [(1000,.blk 3 (D.flat (r.map (eInt .i64).d)))]:=by
 refine cF (rs:=[]) func69 M ntmps69 (nle M) fun O hO=>?_
 show IWP _ _ _ _ ⟨[(0,.osl 1000 (eInt .i64).sz a2.length),(1,.int .i64 a0),(2,.int .i64 a1)],[(1000,.blk 3 (D.flat (a2.map (eInt .i64).d)))]⟩ _
 unfold iA at h
 obtain ⟨x1,hx1,h⟩:=aK h
 refine aF (aA M (mvI M M M M)<|aA M (mvI M M M M)<|aA M (aQ M M (lb M) (svI M) (svI M) M hx1)<|aA M (asI M M M M)<|aE ?_)
 obtain ⟨x2,hx2,h⟩:=aK h
 refine aF (aA M (mvI M M M M)<|aA M (aO M M (lb M) (svI M) (sv (d:=.int _ 8) M) M hx2)<|aE ?_)
 refine aW (b:=_) M (fun hc3=>?_) (fun hc3=>?_)
 ·
  replace h:=bX h hc3
  obtain ⟨x4,hx4,h⟩:=aK h
  refine aF (aA M (mvI M M M M)<|aA M (kX M M (lb M) ⟨_,underlying3⟩ underlying118 (svI M) hx4)<|aA M (gN (cs:=[.int _ _]) (cs':=[.int .u64 0]) 0 M M (lb M) M rP M M (.all _))<|aA M (fD (ds':=[.int _ _]) M M rP (svR M) M (svI M) M M M (nle M) M)<|aE ?_)
  obtain ⟨x5,hx5,h⟩:=aL h
  refine aF (aA M (mvI M M M M)<|aA M (bJ (r:=.int _ _) M M (lb M) cl83 (.cons (svI M) .nil) M (nZ _ _ hx5))<|aA M (asI M M M M)<|aE ?_)
  obtain ⟨x6,hx6,h⟩:=aL h
  obtain ⟨x7,hx7,h⟩:=aK h
  obtain ⟨x8,hx8,h⟩:=aK h
  obtain ⟨x9,hx9,h⟩:=aK h
  refine aF (aA M (mvI M M M M)<|aA M (mvI M M M M)<|aA M (lK M M (lb M) (svI M) (sv (d:=.int _ 4) M) hx6)<|aA M (aQ M M (lb M) (svI M) (sv (d:=.int _ 2) M) M hx7)<|aA M (aQ M M (lb M) (svI M) (svI M) M hx8)<|aA M (aQ M M (lb M) (svI M) (sv (d:=.int _ 1) M) M hx9)<|aA M (asI M M M M)<|aE ?_)
  refine aV ?_
  refine bS (α:=Nat × (List Int) × Int × Int) (fun z=>⟨[(0,.osl 1000 (eInt .i64).sz z.2.1.length),(1,.int .i64 a0),(6,.int .i64 x1),(7,.ref 0 0),(8,.int .u64 x5),(9,.int .i64 z.2.2.1)],[(1000,.blk 3 (D.flat (z.2.1.map (eInt .i64).d))),(0,.blk 118 [.int .u64 z.2.2.2])]⟩) (fun z=>dM a0 x1 x5 z.1 z.2.1 z.2.2.1 z.2.2.2=some r) (fun z=>z.1) (fuel,a2,x9,x4) (fun i=>i) ⟨(.sames M M),(.cons (EntW.lst M) (.cons (.blk M M M) .nil)),aY [1000,0] M (by decide),fun _ _=>M⟩ ?_ ?_
  ·exact h
  ·
   rintro ⟨n0,v40,v41,v42⟩ h
   cases n0 with
   | zero=>exact absurd h (by unfold dM; exact nofun)
   | succ n0 =>
    unfold dM at h
    refine aU ?_
    obtain ⟨x73,hx73,h⟩:=aL h
    obtain ⟨x74,hx74,h⟩:=aK h
    obtain ⟨x75,hx75,h⟩:=aK h
    obtain ⟨x76,hx76,h⟩:=aK h
    obtain ⟨x77,hx77,h⟩:=aK h
    refine aF (aA M (mvI M M M M)<|aA M (mvI M M M M)<|aA M (mvI M M M M)<|aA M (lK M M (lb M) (svI M) (sv (d:=.int _ 4) M) hx73)<|aA M (aQ M M (lb M) (svI M) (sv (d:=.int _ 2) M) M hx74)<|aA M (aQ M M (lb M) (svI M) (svI M) M hx75)<|aA M (aQ M M (lb M) (svI M) (sv (d:=.int _ 1) M) M hx76)<|aA M (aO M M (lb M) (svI M) (svI M) M hx77)<|aE ?_)
    refine aW (b:=_) M (fun hc78=>?_) (fun hc78=>?_)
    ·
     replace h:=bX h hc78
     refine aT ?_
     refine aJ ?_
     refine aU ?_
     refine aV ?_
     obtain ⟨x79,hx79,h⟩:=aL h
     obtain ⟨x80,hx80,h⟩:=aK h
     obtain ⟨x81,hx81,h⟩:=aK h
     obtain ⟨x82,hx82,h⟩:=aK h
     refine aF (aA M (bG (r':=.int .u64 x79.1) (H1':=[(0,.blk 118 [.int .u64 x79.2])]) 1 [0] M M (lb M) cl84 (.cons (svR M) .nil) M M ⟨M,M,by decide,M,List.forall_mem_cons.2 ⟨⟨M,M,M,M⟩,List.forall_mem_nil _⟩⟩ (nO _ _ hx79) M M (List.forall_mem_cons.2 ⟨⟨M,M⟩,List.forall_mem_nil _⟩) M)<|aA M (mvI M M M M)<|aA M (aQ M M (lb M) (svI M) (sv (d:=.int _ 1) M) M hx80)<|aA M (aQ M M (lb M) (svI M) (svI M) M hx81)<|aA M (kX M M (lb M) ⟨_,underlying81⟩ underlying3 (svI M) hx82)<|aA M (asI M M M M)<|aE ?_)
     refine fL (α:=Int) (fun z=>⟨[(0,.osl 1000 (eInt .i64).sz v40.length),(1,.int .i64 a0),(6,.int .i64 x1),(7,.ref 0 0),(8,.int .u64 x5),(9,.int .i64 v41),(10,.int .i64 z)],[(1000,.blk 3 (D.flat (v40.map (eInt .i64).d))),(0,.blk 118 [.int .u64 x79.2])]⟩) (fun z=>fQ a0 v40 v41 (dM a0 x1 x5 n0) x79 z=some r) ?_ ?_
     ·
      obtain ⟨x100,hx100,h⟩:=aK h
      refine aF (aA M (mvI M M M M)<|aA M (mvI M M M M)<|aA M (aO M M (lb M) (svI M) (svI M) M hx100)<|aE ?_)
      refine aW (b:=_) M (fun hc101=>?_) (fun hc101=>?_)
      ·
       replace h:=bX h hc101
       obtain ⟨x102,hx102,h⟩:=aK h
       refine aS (aA M (mvI M M M M)<|aA M (mvI M M M M)<|aA M (aQ M M (lb M) (svI M) (svI M) M hx102)<|aA M (asI M M M M)<|bE ?_)
       refine aJ ⟨x102,(fun i=>i),⟨(.sames M M),(.cons (EntW.lst M) (.cons (.blk M M M) .nil)),aY [1000,0] M (by decide),fun _ _=>M⟩,?_⟩
       exact h
      ·
       replace h:=bY h hc101
       refine aT ?_
       refine aJ ⟨x82,(fun i=>i),⟨(.sames M M),(.cons (EntW.lst M) (.cons (.blk M M M) .nil)),aY [1000,0] M (by decide),fun _ _=>M⟩,?_⟩
       exact h
     ·
      rintro v86 h
      unfold fQ at h
      obtain ⟨x87,hx87,h⟩:=aK h
      obtain ⟨x88,hx88,h⟩:=aK h
      obtain ⟨x89,hx89,h⟩:=aL h
      obtain ⟨x90,hx90,h⟩:=aL h
      obtain ⟨x91,hx91,h⟩:=aL h
      obtain ⟨x92,hx92,h⟩:=aL h
      obtain ⟨x93,hx93,h⟩:=aL h
      obtain ⟨x94,hx94,h⟩:=aL h
      obtain ⟨x95,hx95,h⟩:=aK h
      obtain ⟨x96,hx96,h⟩:=aL h
      obtain ⟨x97,hx97,h⟩:=aL h
      obtain ⟨x98,hx98,h⟩:=aK h
      refine iM M [⟨[0],[],[(47,.osl 1000 (eInt .i64).sz v40.length)],[]⟩,
       ⟨[9],[],[(48,.int .i64 v41)],[]⟩,
       ⟨[0],[],[(49,.osl 1000 (eInt .i64).sz v40.length)],[]⟩,
       ⟨[1],[],[(50,.int .i64 a0)],[]⟩,
       ⟨[10],[],[(51,.int .i64 v86)],[]⟩,
       ⟨[50,51],[],[(52,.int .i64 x87)],[]⟩,
       ⟨[0],[],[(53,.osl 1000 (eInt .i64).sz v40.length)],[]⟩,
       ⟨[1],[],[(54,.int .i64 a0)],[]⟩,
       ⟨[10],[],[(55,.int .i64 v86)],[]⟩,
       ⟨[54,55],[],[(56,.int .i64 x88)],[]⟩,
       ⟨[53,56],[],[(57,.ref 1000 (((x88:Int).toNat) * (eInt .i64).sz + 0))],[]⟩,
       ⟨[57],[1000],[(58,.int .i64 x90)],[]⟩,
       ⟨[0],[],[(59,.osl 1000 (eInt .i64).sz v40.length)],[]⟩,
       ⟨[9],[],[(60,.int .i64 v41)],[]⟩,
       ⟨[59,60],[],[(61,.ref 1000 (((v41:Int).toNat) * (eInt .i64).sz + 0))],[]⟩,
       ⟨[61],[1000],[(62,.int .i64 x92)],[]⟩,
       ⟨[47,48],[],[(63,.ref 1000 (((v41:Int).toNat) * (eInt .i64).sz + 0))],[]⟩,
       ⟨[58,63],[1000],[],[(1000,.blk 3 (D.flat (x95.map (eInt .i64).d)))]⟩,
       ⟨[49,52],[],[(64,.ref 1000 (((x87:Int).toNat) * (eInt .i64).sz + 0))],[]⟩,
       ⟨[62,64],[1000],[],[(1000,.blk 3 (D.flat (x98.map (eInt .i64).d)))]⟩] M ?_ (by kernel_rfl) ?_
      ·refine .cons (lop M M fun S hA=>(aD M M (lb M) (sv (d:=.osl _ _ _) (agr hA M M)))) ?_
       refine .cons (lop M M fun S hA=>(aD M M (lb M) (svaI hA M M))) ?_
       refine .cons (lop M M fun S hA=>(aD M M (lb M) (sv (d:=.osl _ _ _) (agr hA M M)))) ?_
       refine .cons (lop M M fun S hA=>(aD M M (lb M) (svaI hA M M))) ?_
       refine .cons (lop M M fun S hA=>(aD M M (lb M) (svaI hA M M))) ?_
       refine .cons (lop M M fun S hA=>(aQ M M (lb M) (svaI hA M M) (svaI hA M M) M hx87)) ?_
       refine .cons (lop M M fun S hA=>(aD M M (lb M) (sv (d:=.osl _ _ _) (agr hA M M)))) ?_
       refine .cons (lop M M fun S hA=>(aD M M (lb M) (svaI hA M M))) ?_
       refine .cons (lop M M fun S hA=>(aD M M (lb M) (svaI hA M M))) ?_
       refine .cons (lop M M fun S hA=>(aQ M M (lb M) (svaI hA M M) (svaI hA M M) M hx88)) ?_
       refine .cons (lop M M fun S hA=>(aX (eInt .i64).toEnc0 M M (lb M) underlying24 ti3 (sv (d:=.osl _ _ _) (agr hA M M)) M (svaI hA M M) hx89)) ?_
       refine .cons (lop M M fun S hA=>(bO (eInt .i64).toEnc0 (d:=.int _ _) M M (lb M) underlying3 ag3 ti3 (by decide) (svaR hA M M) (agi hA M M) hx90 (nle M) M)) ?_
       refine .cons (lop M M fun S hA=>(aD M M (lb M) (sv (d:=.osl _ _ _) (agr hA M M)))) ?_
       refine .cons (lop M M fun S hA=>(aD M M (lb M) (svaI hA M M))) ?_
       refine .cons (lop M M fun S hA=>(aX (eInt .i64).toEnc0 M M (lb M) underlying24 ti3 (sv (d:=.osl _ _ _) (agr hA M M)) M (svaI hA M M) hx91)) ?_
       refine .cons (lop M M fun S hA=>(bO (eInt .i64).toEnc0 (d:=.int _ _) M M (lb M) underlying3 ag3 ti3 (by decide) (svaR hA M M) (agi hA M M) hx92 (nle M) M)) ?_
       refine .cons (lop M M fun S hA=>(aX (eInt .i64).toEnc0 M M (lb M) underlying24 ti3 (sv (d:=.osl _ _ _) (agr hA M M)) M (svaI hA M M) hx93)) ?_
       refine .cons (lop M M fun S hA=>(bR (eInt .i64).toEnc0 (a':=x90) M M ti3 (svaR hA M M) (agi hA M M) (svaI hA M M) M M M hx94 (nle M) M hx95)) ?_
       refine .cons (lop M M fun S hA=>(aX (eInt .i64).toEnc0 M M (lb M) underlying24 ti3 (sv (d:=.osl _ _ _) (agr hA M M)) (bV hx95 M) (svaI hA M M) hx96)) ?_
       refine .cons (lop M M fun S hA=>(bR (eInt .i64).toEnc0 (a':=x92) M M ti3 (svaR hA M M) (agi hA M M) (svaI hA M M) M M M hx97 (nle M) M hx98)) ?_
       exact .nil
      refine bI ?_
      refine aJ ?_
      obtain ⟨x99,hx99,h⟩:=aK h
      refine aS (aA M (mvI M M M M)<|aA M (aQ M M (lb M) (svI M) (sv (d:=.int _ 1) M) M hx99)<|aA M (asI M M M M)<|bE ?_)
      refine aJ ⟨(n0,x98,x99,x79.2),(fun i=>i),⟨(.cons (.same (congrArg (D.osl _ _) (bV hx98 (bV hx95 M)).symm) M) (.sames M M)),(.cons (EntW.lst M) (.cons (.blk M M M) .nil)),aY [1000,0] M (by decide),fun _ _=>M⟩,?_,?_⟩
      exact h
      exact Nat.lt_succ_self _
    ·
     replace h:=bY h hc78
     refine cA ?_
     refine bD ?_
     refine bD ?_
     refine cC ?_
     obtain rfl:=sj_ h
     refine ⟨.inl M,(fun i=>i),⟨.nil,(.cons (EntW.lst M) .nil),aY [1000] M (by decide),fun _ _=>M⟩,.nil,M⟩
 ·
  replace h:=bY h hc3
  refine aT ?_
  obtain rfl:=sj_ h
  refine ⟨.inl M,(fun i=>i),⟨.nil,(.cons (EntW.lst M) .nil),aY [1000] M (by decide),fun _ _=>M⟩,.nil,M⟩
end Go.Proofs.Ytdnjagkihgjpcaa
