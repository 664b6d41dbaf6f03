/-
  A part of the proof: rules and plain facts. No condition.
-/
import Derived.Test.YtdnjagkihgjpcaaProg
import Derived.KernelRfl
import Derived.Test.YtdnjagkihgjpcaaIlMb
import Derived.Test.YtdnjagkihgjpcaaIlA19C4
set_option linter.all false
set_option maxRecDepth 8000
set_option maxHeartbeats 2000000
open Go Go.IL Go.Fn Go.Proofs
open Go.Proofs.Try
namespace Go.Proofs.Ytdnjagkihgjpcaa
theorem ti5:TI prog 5 (some (.int .u8 0)) 1 1:=by unfold TI; kernel_rfl
theorem ti60:TI prog 60 (some (.agg #[.int .i64 0,.int .i64 0,.slice none 0 0,.int .i64 0,.int .i64 0,.int .i64 0,.int .i64 0,.int .i64 0,.int .i64 0,.int .i64 0,.bool false,.int .i64 0,.int .i64 0,.int .i64 0,.int .i64 0,.int .i64 0,.bool false,.int .i64 0,.int .i64 0,.int .i64 0,.int .i64 0,.int .i64 0,.bool false,.int .i64 0,.int .i64 0,.int .i64 0,.int .i64 0,.int .i64 0,.bool false,.int .i64 0,.int .i64 0,.int .i64 0,.int .i64 0,.int .i64 0,.bool false,.int .i64 0,.int .i64 0,.int .i64 0,.int .i64 0,.int .i64 0,.bool false,.int .i64 0,.int .i64 0,.int .i64 0,.int .i64 0,.int .i64 0,.bool false,.int .i64 0,.int .i64 0,.int .i64 0,.int .i64 0,.int .i64 0,.bool false,.int .i64 0,.int .i64 0,.int .i64 0,.int .i64 0,.int .i64 0,.bool false,.int .i64 0,.int .i64 0,.int .i64 0,.int .i64 0,.int .i64 0,.bool false,.int .i64 0,.int .i64 0,.int .i64 0,.int .i64 0,.int .i64 0,.bool false,.int .i64 0,.int .i64 0,.int .i64 0,.int .i64 0,.int .i64 0,.bool false,.int .i64 0,.int .i64 0,.int .i64 0,.int .i64 0,.int .i64 0,.bool false,.int .i64 0,.int .i64 0,.int .i64 0,.int .i64 0,.int .i64 0,.bool false,.int .i64 0,.int .i64 0,.int .i64 0,.int .i64 0,.int .i64 0,.bool false,.int .i64 0,.int .i64 0,.int .i64 0,.int .i64 0,.int .i64 0,.bool false,.int .i64 0,.int .i64 0,.int .i64 0,.int .i64 0,.int .i64 0,.bool false,.int .i64 0,.int .i64 0,.int .i64 0,.int .i64 0,.int .i64 0,.bool false,.int .i64 0,.int .i64 0,.int .i64 0,.int .i64 0,.int .i64 0,.bool false,.int .i64 0,.int .i64 0,.int .i64 0,.int .i64 0,.int .i64 0,.bool false,.int .i64 0,.int .i64 0,.int .i64 0,.int .i64 0,.int .i64 0,.bool false,.int .i64 0,.int .i64 0,.int .i64 0,.int .i64 0,.int .i64 0,.bool false,.int .i64 0,.int .i64 0,.int .i64 0,.int .i64 0,.int .i64 0,.bool false,.int .i64 0,.int .i64 0,.int .i64 0,.int .i64 0,.int .i64 0,.bool false,.int .i64 0,.int .i64 0,.int .i64 0,.int .i64 0,.int .i64 0,.bool false,.int .i64 0,.int .i64 0,.int .i64 0,.int .i64 0,.int .i64 0,.bool false,.int .i64 0,.int .i64 0,.int .i64 0,.int .i64 0,.int .i64 0,.bool false,.int .i64 0,.int .i64 0,.int .i64 0,.int .i64 0,.int .i64 0,.bool false,.int .i64 0,.int .i64 0,.int .i64 0,.int .i64 0,.int .i64 0,.bool false,.int .i64 0,.int .i64 0,.int .i64 0,.int .i64 0,.int .i64 0,.bool false,.int .i64 0,.int .i64 0,.int .i64 0,.int .i64 0,.int .i64 0,.bool false,.int .i64 0,.int .i64 0,.int .i64 0,.int .i64 0,.int .i64 0,.bool false,.int .i64 0,.int .i64 0,.int .i64 0,.int .i64 0,.int .i64 0,.bool false,.int .i64 0,.int .i64 0,.int .i64 0,.int .i64 0,.int .i64 0,.bool false,.int .i64 0,.int .i64 0,.int .i64 0,.int .i64 0,.int .i64 0,.bool false,.int .i64 0,.int .i64 0,.int .i64 0,.int .i64 0,.int .i64 0,.bool false,.int .i64 0,.int .i64 0,.int .i64 0,.int .i64 0,.int .i64 0,.bool false,.int .i64 0,.int .i64 0,.int .i64 0,.int .i64 0,.int .i64 0,.bool false,.int .i64 0,.int .i64 0,.int .i64 0,.int .i64 0,.int .i64 0,.bool false,.int .i64 0,.int .i64 0,.int .i64 0,.int .i64 0,.int .i64 0,.bool false,.int .i64 0,.int .i64 0,.int .i64 0,.int .i64 0,.int .i64 0,.bool false,.int .i64 0,.int .i64 0,.int .i64 0,.int .i64 0,.int .i64 0,.bool false,.int .i64 0,.int .i64 0,.int .i64 0,.int .i64 0,.int .i64 0,.bool false,.int .i64 0,.int .i64 0,.int .i64 0,.int .i64 0,.int .i64 0,.bool false,.int .i64 0,.int .i64 0,.int .i64 0,.int .i64 0,.int .i64 0,.bool false,.int .i64 0,.int .i64 0,.int .i64 0,.int .i64 0,.int .i64 0,.bool false,.int .i64 0,.int .i64 0,.int .i64 0,.int .i64 0,.int .i64 0,.bool false,.int .i64 0,.int .i64 0,.int .i64 0,.int .i64 0,.int .i64 0,.bool false,.int .i64 0,.int .i64 0,.int .i64 0,.int .i64 0,.int .i64 0,.bool false,.int .i64 0,.int .i64 0,.int .i64 0,.int .i64 0,.int .i64 0,.bool false,.int .i64 0,.int .i64 0,.int .i64 0,.int .i64 0,.int .i64 0,.bool false,.int .i64 0,.int .i64 0,.int .i64 0,.int .i64 0,.int .i64 0,.bool false,.int .i64 0,.int .i64 0,.int .i64 0,.int .i64 0,.int .i64 0,.bool false,.int .i64 0,.int .i64 0,.int .i64 0,.int .i64 0,.int .i64 0,.bool false,.int .i64 0,.int .i64 0,.int .i64 0,.int .i64 0,.int .i64 0,.bool false,.int .i64 0,.int .i64 0,.int .i64 0,.int .i64 0,.int .i64 0,.bool false,.int .i64 0,.int .i64 0,.int .i64 0,.int .i64 0,.int .i64 0,.bool false,.int .i64 0,.int .i64 0,.int .i64 0,.int .i64 0,.int .i64 0,.bool false,.int .i64 0,.int .i64 0,.int .i64 0,.int .i64 0,.int .i64 0,.bool false,.int .i64 0,.int .i64 0,.int .i64 0,.int .i64 0,.int .i64 0,.bool false,.int .i64 0,.int .i64 0,.int .i64 0,.int .i64 0,.int .i64 0,.bool false,.int .i64 0,.int .i64 0,.int .i64 0,.int .i64 0,.int .i64 0,.bool false,.int .i64 0,.int .i64 0,.int .i64 0,.int .i64 0,.int .i64 0,.bool false,.int .i64 0,.int .i64 0,.int .i64 0,.int .i64 0,.int .i64 0,.bool false,.int .i64 0,.slice none 0 0])) 391 3160:=by unfold TI; kernel_rfl
theorem ti68:TI prog 68 (some (.agg #[.bool false,.bool false,.bool false,.bool false,.bool false,.bool false,.bool false,.bool false,.bool false,.bool false,.bool false,.bool false,.bool false,.bool false,.bool false,.bool false,.bool false,.bool false,.bool false,.bool false,.bool false,.bool false,.bool false,.bool false,.bool false,.bool false,.bool false,.bool false,.bool false,.bool false,.bool false,.bool false,.bool false,.bool false,.bool false,.bool false,.bool false,.bool false,.bool false,.bool false,.bool false,.bool false,.bool false,.bool false,.bool false,.bool false,.bool false,.bool false,.bool false,.bool false,.bool false,.bool false,.bool false,.bool false,.bool false,.bool false,.bool false,.bool false,.bool false,.bool false,.bool false,.bool false,.bool false,.bool false])) 64 64:=by unfold TI; kernel_rfl
theorem ag5:kJ prog 5=false:=by kernel_rfl
theorem ag68:kJ prog 68=true:=by kernel_rfl
theorem pl50:∀ w,(Array.mapM (m:=Sem) (fun (f:Field)=>Functor.map (Prod.mk f.offset) (sizeOf f.type)) (fieldsOf prog 50)).run prog w = .ok #[(0,1),(1,1),(2,1),(3,1)] w:=fun w=>by kernel_rfl
theorem pl60:∀ w,(Array.mapM (m:=Sem) (fun (f:Field)=>Functor.map (Prod.mk f.offset) (sizeOf f.type)) (fieldsOf prog 60)).run prog w = .ok #[(0,1),(1,1),(2,3),(5,384),(389,1),(390,1)] w:=fun w=>by kernel_rfl
theorem cl9:bM prog 9:=⟨f9,func9,rfl,rfl⟩
theorem cl10:bM prog 10:=⟨f10,func10,rfl,rfl⟩
theorem cl11:bM prog 11:=⟨f11,func11,rfl,rfl⟩
theorem cl12:bM prog 12:=⟨f12,func12,rfl,rfl⟩
theorem cl13:bM prog 13:=⟨f13,func13,rfl,rfl⟩
theorem cl15:bM prog 15:=⟨f15,func15,rfl,rfl⟩
theorem cl17:bM prog 17:=⟨f17,func17,rfl,rfl⟩
theorem cl18:bM prog 18:=⟨f18,func18,rfl,rfl⟩
theorem cl19:bM prog 19:=⟨f19,func19,rfl,rfl⟩
theorem cl20:bM prog 20:=⟨f20,func20,rfl,rfl⟩
theorem cl21:bM prog 21:=⟨f21,func21,rfl,rfl⟩
theorem cl22:bM prog 22:=⟨f22,func22,rfl,rfl⟩
theorem cl23:bM prog 23:=⟨f23,func23,rfl,rfl⟩
theorem cl30:bM prog 30:=⟨f30,func30,rfl,rfl⟩
theorem cl32:bM prog 32:=⟨f32,func32,rfl,rfl⟩
theorem cl42:bM prog 42:=⟨f42,func42,rfl,rfl⟩
theorem cl67:bM prog 67:=⟨f67,func67,rfl,rfl⟩
theorem cl68:bM prog 68:=⟨f68,func68,rfl,rfl⟩
theorem cl69:bM prog 69:=⟨f69,func69,rfl,rfl⟩
theorem cl70:bM prog 70:=⟨f70,func70,rfl,rfl⟩
theorem cl71:bM prog 71:=⟨f71,func71,rfl,rfl⟩
theorem cl72:bM prog 72:=⟨f72,func72,rfl,rfl⟩
theorem cl74:bM prog 74:=⟨f74,func74,rfl,rfl⟩
theorem cl75:bM prog 75:=⟨f75,func75,rfl,rfl⟩



theorem pE (nr:Nat):∀ (a0:Int) (a1:Int) (a2:Int) (a3:(List Int)) (r:(List Int)) (h:cZ nr a0 a1 a2 a3=some r),FnH prog 42 (w24 (.osl 1000 (eInt .i64).sz a3.length) a0 a1 a2) [(1000,.blk 3 (D.flat (a3.map (eInt .i64).d)))] (retD []) [(1000,.blk 3 (D.flat (r.map (eInt .i64).d)))]:=by
 induction nr with
 | zero=>intro a0 a1 a2 a3 r h; cases h
 | succ nr ih =>
 intro a0 a1 a2 a3 r h
 replace h:jF (cZ nr) a0 a1 a2 a3=some r:=h
 refine cF (rs:=[]) func42 M ntmps42 (nle M) fun O hO=>?_
 show IWP _ _ _ _ ⟨[(0,.osl 1000 (eInt .i64).sz a3.length),(1,.int .i64 a0),(2,.int .i64 a1),(3,.int .i64 a2)],[(1000,.blk 3 (D.flat (a3.map (eInt .i64).d)))]⟩ _
 unfold jF at h
 refine aF (aA M (aI M M (lb M) (sv (d:=.bool true) M))<|aE ?_)
 refine aF (aA M (aI M M (lb M) (sv (d:=.bool true) M))<|aE ?_)
 refine aV ?_
 refine bS (α:=Nat × (List Int) × Int × Int × Bool × Bool × Int) (fun z=>⟨[(0,.osl 1000 (eInt .i64).sz z.2.1.length),(1,.int .i64 z.2.2.1),(2,.int .i64 z.2.2.2.1),(3,.int .i64 z.2.2.2.2.2.2),(8,.bool z.2.2.2.2.1),(9,.bool z.2.2.2.2.2.1)],[(1000,.blk 3 (D.flat (z.2.1.map (eInt .i64).d)))]⟩) (fun z=>dG (cZ nr) z.1 z.2.1 z.2.2.1 z.2.2.2.1 z.2.2.2.2.1 z.2.2.2.2.2.1 z.2.2.2.2.2.2=some r) (fun z=>z.1) (fuel,a3,a0,a1,true,true,a2) (fun i=>i) ⟨(.sames M M),(.cons (EntW.lst M) .nil),aY [1000] M (by decide),fun _ _=>M⟩ ?_ ?_
 ·exact h
 ·
  rintro ⟨n0,v69,v70,v71,v72,v73,v152⟩ h
  cases n0 with
  | zero=>exact absurd h (by unfold dG; exact nofun)
  | succ n0 =>
   unfold dG at h
   refine aV ?_
   obtain ⟨x231,hx231,h⟩:=aK h
   refine aF (aA M (mvI M M M M)<|aA M (mvI M M M M)<|aA M (aQ M M (lb M) (svI M) (svI M) M hx231)<|aA M (asI M M M M)<|aE ?_)
   refine aU ?_
   obtain ⟨x232,hx232,h⟩:=aK h
   refine aF (aA M (mvI M M M M)<|aA M (aO M M (lb M) (svI M) (sv (d:=.int _ 12) M) M hx232)<|aE ?_)
   refine aW (b:=_) M (fun hc233=>?_) (fun hc233=>?_)
   ·
    replace h:=bX h hc233
    obtain ⟨x234,hx234,h⟩:=aL h
    obtain ⟨hk235,h⟩:=iG h
    refine aF (aA M (aD M M (lb M) (sv (d:=.osl _ _ _) M))<|aA M (mvI M M M M)<|aA M (mvI M M M M)<|aA M (bG (r':=.tuple []) (H1':=[(1000,.blk 3 (D.flat (x234.map (eInt .i64).d)))]) 0 [1000] M M (lb M) cl67 (.cons (sv (d:=.osl _ _ _) M) (.cons (svI M) (.cons (svI M) .nil))) M M ⟨M,M,by decide,M,List.forall_mem_cons.2 ⟨⟨M,M,(fW (eInt .i64) M),(bK (eInt .i64))⟩,List.forall_mem_nil _⟩⟩ (nJ _ _ _ _ hx234) M M (List.forall_mem_cons.2 ⟨⟨M,(bK (eInt .i64))⟩,List.forall_mem_nil _⟩) (by simp only [List.map_cons,List.map_nil,Ent.ren,bL,bT]; rfl))<|aE ?_)
    refine bB ?_
    refine bP ?_
    refine dB ?_
    refine bP ?_
    refine dB ?_
    obtain rfl:=sj_ h
    refine ⟨.inr M,(fun i=>i),⟨.nil,(.cons (EntW.lst M) .nil),aY [1000] M (by decide),fun _ _=>M⟩,.nil,M⟩
   ·
    replace h:=bY h hc233
    refine aT ?_
    refine aJ ?_
    refine aU ?_
    obtain ⟨x236,hx236,h⟩:=aK h
    refine aF (aA M (mvI M M M M)<|aA M (aO M M (lb M) (svI M) (sv (d:=.int _ 0) M) M hx236)<|aE ?_)
    refine aW (b:=_) M (fun hc237=>?_) (fun hc237=>?_)
    ·
     replace h:=bX h hc237
     obtain ⟨x238,hx238,h⟩:=aL h
     obtain ⟨hk239,h⟩:=iG h
     refine aF (aA M (aD M M (lb M) (sv (d:=.osl _ _ _) M))<|aA M (mvI M M M M)<|aA M (mvI M M M M)<|aA M (bG (r':=.tuple []) (H1':=[(1000,.blk 3 (D.flat (x238.map (eInt .i64).d)))]) 0 [1000] M M (lb M) cl68 (.cons (sv (d:=.osl _ _ _) M) (.cons (svI M) (.cons (svI M) .nil))) M M ⟨M,M,by decide,M,List.forall_mem_cons.2 ⟨⟨M,M,(fW (eInt .i64) M),(bK (eInt .i64))⟩,List.forall_mem_nil _⟩⟩ (oZ _ _ _ _ hx238) M M (List.forall_mem_cons.2 ⟨⟨M,(bK (eInt .i64))⟩,List.forall_mem_nil _⟩) (by simp only [List.map_cons,List.map_nil,Ent.ren,bL,bT]; rfl))<|aE ?_)
     refine bB ?_
     refine bP ?_
     refine dB ?_
     refine bP ?_
     refine dB ?_
     obtain rfl:=sj_ h
     refine ⟨.inr M,(fun i=>i),⟨.nil,(.cons (EntW.lst M) .nil),aY [1000] M (by decide),fun _ _=>M⟩,.nil,M⟩
    ·
     replace h:=bY h hc237
     refine aT ?_
     refine aJ ?_
     refine fL (α:=(List Int) × Int) (fun z=>⟨[(0,.osl 1000 (eInt .i64).sz z.1.length),(1,.int .i64 v70),(2,.int .i64 v71),(3,.int .i64 z.2),(8,.bool v72),(9,.bool v73),(10,.int .i64 x231)],[(1000,.blk 3 (D.flat (z.1.map (eInt .i64).d)))]⟩) (fun z=>gR (cZ nr) v70 v71 v72 v73 (dG (cZ nr) n0) x231 z.1 z.2=some r) ?_ ?_
     ·
      refine aF (aA M (mvB M M M M)<|aA M (eX M M (lb M) (svB M))<|aE ?_)
      refine aW (b:=_) M (fun hc305=>?_) (fun hc305=>?_)
      ·
       replace h:=bX h hc305
       obtain ⟨x306,hx306,h⟩:=aL h
       obtain ⟨hk307,h⟩:=iG h
       refine aF (aA M (aD M M (lb M) (sv (d:=.osl _ _ _) M))<|aA M (mvI M M M M)<|aA M (mvI M M M M)<|aA M (bG (r':=.tuple []) (H1':=[(1000,.blk 3 (D.flat (x306.map (eInt .i64).d)))]) 0 [1000] M M (lb M) cl69 (.cons (sv (d:=.osl _ _ _) M) (.cons (svI M) (.cons (svI M) .nil))) M M ⟨M,M,by decide,M,List.forall_mem_cons.2 ⟨⟨M,M,(fW (eInt .i64) M),(bK (eInt .i64))⟩,List.forall_mem_nil _⟩⟩ (nK _ _ _ _ hx306) M M (List.forall_mem_cons.2 ⟨⟨M,(bK (eInt .i64))⟩,List.forall_mem_nil _⟩) (by simp only [List.map_cons,List.map_nil,Ent.ren,bL,bT]; rfl))<|aE ?_)
       obtain ⟨x308,hx308,h⟩:=aK h
       refine aS (aA M (mvI M M M M)<|aA M (aQ M M (lb M) (svI M) (sv (d:=.int _ 1) M) M hx308)<|aA M (asI M M M M)<|bE ?_)
       refine aJ ⟨(x306,x308),(fun i=>i),⟨(.cons (.same (congrArg (D.osl _ _) hk307.symm) M) (.sames M M)),(.cons (EntW.lst M) .nil),aY [1000] M (by decide),fun _ _=>M⟩,?_⟩
       exact h
      ·
       replace h:=bY h hc305
       refine aT ?_
       refine aJ ⟨(v69,v152),(fun i=>i),⟨(.sames M M),(.cons (EntW.lst M) .nil),aY [1000] M (by decide),fun _ _=>M⟩,?_⟩
       exact h
     ·
      rintro ⟨v244,v245⟩ h
      unfold gR at h
      obtain ⟨x246,hx246,h⟩:=aL h
      refine aF (aA M (aD M M (lb M) (sv (d:=.osl _ _ _) M))<|aA M (mvI M M M M)<|aA M (mvI M M M M)<|aA M (mG (r:=.tuple [.int .i64 x246.1,.int .i64 x246.2]) M M (lb M) cl70 (.cons (sv (d:=.osl _ _ _) M) (.cons (svI M) (.cons (svI M) .nil))) (.cons (FDT (eInt .i64) M M) (.all _)) M M (oR _ _ _ _ hx246))<|aA M (aD M M (lb M) (sv (d:=.tuple q17) M))<|aA M (cM (d:=.int _ _) M M (lb M) (sv (d:=.tuple q17) M) M)<|aA M (cM (d:=.int _ _) M M (lb M) (sv (d:=.tuple q17) M) M)<|aA M (asI M M M M)<|aA M (asI M M M M)<|aE ?_)
      refine fL (α:=(List Int) × Int × Int) (fun z=>⟨[(0,.osl 1000 (eInt .i64).sz z.1.length),(1,.int .i64 v70),(2,.int .i64 v71),(3,.int .i64 v245),(8,.bool v72),(9,.bool v73),(10,.int .i64 x231),(11,.int .i64 z.2.1),(12,.int .i64 z.2.2)],[(1000,.blk 3 (D.flat (z.1.map (eInt .i64).d)))]⟩) (fun z=>gQ (cZ nr) v70 v71 v72 v73 (dG (cZ nr) n0) x231 v245 z.1 z.2.1 z.2.2=some r) ?_ ?_
      ·
       obtain ⟨x298,hx298,h⟩:=aK h
       refine aF (aA M (mvI M M M M)<|aA M (aO M M (lb M) (svI M) (sv (d:=.int _ 2) M) M hx298)<|aE ?_)
       refine aW (b:=_) M (fun hc299=>?_) (fun hc299=>?_)
       ·
        replace h:=bX h hc299
        obtain ⟨x300,hx300,h⟩:=aL h
        obtain ⟨hk301,h⟩:=iG h
        refine aF (aA M (aD M M (lb M) (sv (d:=.osl _ _ _) M))<|aA M (mvI M M M M)<|aA M (mvI M M M M)<|aA M (bG (r':=.tuple []) (H1':=[(1000,.blk 3 (D.flat (x300.map (eInt .i64).d)))]) 0 [1000] M M (lb M) cl71 (.cons (sv (d:=.osl _ _ _) M) (.cons (svI M) (.cons (svI M) .nil))) M M ⟨M,M,by decide,M,List.forall_mem_cons.2 ⟨⟨M,M,(fW (eInt .i64) M),(bK (eInt .i64))⟩,List.forall_mem_nil _⟩⟩ (nS _ _ _ _ hx300) M M (List.forall_mem_cons.2 ⟨⟨M,(bK (eInt .i64))⟩,List.forall_mem_nil _⟩) (by simp only [List.map_cons,List.map_nil,Ent.ren,bL,bT]; rfl))<|aE ?_)
        obtain ⟨x302,hx302,h⟩:=aK h
        obtain ⟨x303,hx303,h⟩:=aK h
        obtain ⟨x304,hx304,h⟩:=aK h
        refine aF (aA M (mvI M M M M)<|aA M (aQ M M (lb M) (svI M) (sv (d:=.int _ 1) M) M hx302)<|aA M (mvI M M M M)<|aA M (mvI M M M M)<|aA M (aQ M M (lb M) (svI M) (svI M) M hx303)<|aA M (aQ M M (lb M) (svI M) (svI M) M hx304)<|aA M (asI M M M M)<|aE ?_)
        refine aS (aA M (aI M M (lb M) (sv (d:=.int _ 1) M))<|bE ?_)
        refine aJ ⟨(x300,x304,1),(fun i=>i),⟨(.cons (.same (congrArg (D.osl _ _) hk301.symm) M) (.sames M M)),(.cons (EntW.lst M) .nil),aY [1000] M (by decide),fun _ _=>M⟩,?_⟩
        exact h
       ·
        replace h:=bY h hc299
        refine aT ?_
        refine aJ ⟨(v244,x246.1,x246.2),(fun i=>i),⟨(.sames M M),(.cons (EntW.lst M) .nil),aY [1000] M (by decide),fun _ _=>M⟩,?_⟩
        exact h
      ·
       rintro ⟨v254,v255,v256⟩ h
       unfold gQ at h
       refine fL (α:=(List Int)) (fun z=>⟨[(0,.osl 1000 (eInt .i64).sz z.length),(1,.int .i64 v70),(2,.int .i64 v71),(3,.int .i64 v245),(8,.bool v72),(9,.bool v73),(10,.int .i64 x231),(11,.int .i64 v255)],[(1000,.blk 3 (D.flat (z.map (eInt .i64).d)))]⟩) (fun z=>gP (cZ nr) v70 v71 v72 v73 (dG (cZ nr) n0) x231 v245 v255 z=some r) ?_ ?_
       ·
        obtain ⟨x291,hx291,h⟩:=aK h
        obtain ⟨x292,hx292,h⟩:=aK h
        obtain ⟨x293,hx293,h⟩:=aK h
        refine aF (aA M (mvB M M M M)<|aA M (mvB M M M M)<|aH M M (.one M) M (by decide) (fun hb=>(mvB M M M M))<|aA M (bC M M (lb M) (svB M) M M hx291)<|aA M (mvB M M M M)<|aH M M (.one M) M (by decide) (fun hb=>(mvI M M M M))<|aH M M (.one M) M (by decide) (fun hb=>(aO M M (lb M) (svcI M hb) (sv (d:=.int _ 1) M) M hx292))<|aA M (bC M M (lb M) (svB M) M M hx293)<|aE ?_)
        refine aW (b:=_) M (fun hc294=>?_) (fun hc294=>?_)
        ·
         replace h:=bX h hc294
         obtain ⟨x295,hx295,h⟩:=aL h
         obtain ⟨hk296,h⟩:=iG h
         refine aF (aA M (aD M M (lb M) (sv (d:=.osl _ _ _) M))<|aA M (mvI M M M M)<|aA M (mvI M M M M)<|aA M (bG (r':=.bool x295.1) (H1':=[(1000,.blk 3 (D.flat (x295.2.map (eInt .i64).d)))]) 0 [1000] M M (lb M) cl72 (.cons (sv (d:=.osl _ _ _) M) (.cons (svI M) (.cons (svI M) .nil))) M M ⟨M,M,by decide,M,List.forall_mem_cons.2 ⟨⟨M,M,(fW (eInt .i64) M),(bK (eInt .i64))⟩,List.forall_mem_nil _⟩⟩ (mF _ _ _ _ hx295) M M (List.forall_mem_cons.2 ⟨⟨M,(bK (eInt .i64))⟩,List.forall_mem_nil _⟩) (by simp only [List.map_cons,List.map_nil,Ent.ren,bL,bT]; rfl))<|aE ?_)
         refine aW (b:=_) M (fun hc297=>?_) (fun hc297=>?_)
         ·
          replace h:=bX h hc297
          refine bB ?_
          refine bP ?_
          refine dB ?_
          refine bP ?_
          refine dB ?_
          obtain rfl:=sj_ h
          refine ⟨.inr M,(fun i=>i),⟨.nil,(.cons (EntW.lst M) .nil),aY [1000] M (by decide),fun _ _=>M⟩,.nil,M⟩
         ·
          replace h:=bY h hc297
          refine aT ?_
          refine aJ ⟨x295.2,(fun i=>i),⟨(.cons (.same (congrArg (D.osl _ _) hk296.symm) M) (.sames M M)),(.cons (EntW.lst M) .nil),aY [1000] M (by decide),fun _ _=>M⟩,?_⟩
          exact h
        ·
         replace h:=bY h hc294
         refine aT ?_
         refine aJ ⟨v254,(fun i=>i),⟨(.sames M M),(.cons (EntW.lst M) .nil),aY [1000] M (by decide),fun _ _=>M⟩,?_⟩
         exact h
       ·
        rintro v264 h
        unfold gP at h
        refine aU ?_
        obtain ⟨x265,hx265,h⟩:=aK h
        obtain ⟨x266,hx266,h⟩:=aK h
        obtain ⟨x267,hx267,h⟩:=aL h
        obtain ⟨x268,hx268,h⟩:=aL h
        obtain ⟨x269,hx269,h⟩:=aL h
        obtain ⟨x270,hx270,h⟩:=aL h
        obtain ⟨x271,hx271,h⟩:=aL h
        obtain ⟨x272,hx272,h⟩:=aK h
        refine dN M [⟨[1],[],[(73,.int .i64 v70)],[]⟩,
         ⟨[73],[],[(74,.bool x265)],[]⟩,
         ⟨[74],[],[(75,.bool x265)],[]⟩,
         ⟨[0,75],[],[(76,.cnd (x265 == true) (.osl 1000 (eInt .i64).sz v264.length))],[]⟩,
         ⟨[1,75],[],[(77,.cnd (x265 == true) (.int .i64 v70))],[]⟩,
         ⟨[75,77],[],[(78,.cnd (x265 == true) (.int .i64 x266))],[]⟩,
         ⟨[75,76,78],[],[(79,.cnd (x265 == true) (.ref 1000 (((x266:Int).toNat) * (eInt .i64).sz + 0)))],[]⟩,
         ⟨[75,79],[1000],[(80,.cnd (x265 == true) (.int .i64 x268))],[]⟩,
         ⟨[0,75],[],[(81,.cnd (x265 == true) (.osl 1000 (eInt .i64).sz v264.length))],[]⟩,
         ⟨[11,75],[],[(82,.cnd (x265 == true) (.int .i64 v255))],[]⟩,
         ⟨[75,81,82],[],[(83,.cnd (x265 == true) (.ref 1000 (((v255:Int).toNat) * (eInt .i64).sz + 0)))],[]⟩,
         ⟨[75,83],[1000],[(84,.cnd (x265 == true) (.int .i64 x270))],[]⟩,
         ⟨[75,80,84],[],[(85,.cnd (x265 == true) (.bool x271))],[]⟩,
         ⟨[75,85],[],[(86,.cnd (x265 == true) (.bool (!x271)))],[]⟩,
         ⟨[75,86],[],[(87,.bool x272)],[]⟩] M ?_ (by kernel_rfl) ?_
        ·refine .cons (lop M M fun S hA=>(aD M M (lb M) (svaI hA M M))) ?_
         refine .cons (lop M M fun S hA=>(aO M M (lb M) (svaI hA M M) (sv (d:=.int _ 0) M) M hx265)) ?_
         refine .cons (lop M M fun S hA=>(aD M M (lb M) (svaB hA M M))) ?_
         refine .cons (lopg M M M M (by decide) (fun S hA=>grd1 hA M M) (fun S hA hb=>(aD M M (lb M) (sv (d:=.osl _ _ _) (agr hA M M))))) ?_
         refine .cons (lopg M M M M (by decide) (fun S hA=>grd1 hA M M) (fun S hA hb=>(aD M M (lb M) (svaI hA M M)))) ?_
         refine .cons (lopg M M M M (by decide) (fun S hA=>grd1 hA M M) (fun S hA hb=>(aQ M M (lb M) (svc (d:=.int _ _) (agr hA M M) hb) (sv (d:=.int _ 1) M) M hx266))) ?_
         refine .cons (lopg M M M M (by decide) (fun S hA=>grd1 hA M M) (fun S hA hb=>(aX (eInt .i64).toEnc0 M M (lb M) underlying24 ti3 (svc (d:=.osl _ _ _) (agr hA M M) hb) M (svc (d:=.int _ _) (agr hA M M) hb) (gd_t hx267 hb)))) ?_
         refine .cons (lopg M M M M (by decide) (fun S hA=>grd1 hA M M) (fun S hA hb=>(bO (eInt .i64).toEnc0 (d:=.int _ _) M M (lb M) underlying3 ag3 ti3 (by decide) (svc (d:=.ref _ _) (agr hA M M) hb) (agi hA M M) (gd_t hx268 hb) (nle M) M))) ?_
         refine .cons (lopg M M M M (by decide) (fun S hA=>grd1 hA M M) (fun S hA hb=>(aD M M (lb M) (sv (d:=.osl _ _ _) (agr hA M M))))) ?_
         refine .cons (lopg M M M M (by decide) (fun S hA=>grd1 hA M M) (fun S hA hb=>(aD M M (lb M) (svaI hA M M)))) ?_
         refine .cons (lopg M M M M (by decide) (fun S hA=>grd1 hA M M) (fun S hA hb=>(aX (eInt .i64).toEnc0 M M (lb M) underlying24 ti3 (svc (d:=.osl _ _ _) (agr hA M M) hb) M (svc (d:=.int _ _) (agr hA M M) hb) (gd_t hx269 hb)))) ?_
         refine .cons (lopg M M M M (by decide) (fun S hA=>grd1 hA M M) (fun S hA hb=>(bO (eInt .i64).toEnc0 (d:=.int _ _) M M (lb M) underlying3 ag3 ti3 (by decide) (svc (d:=.ref _ _) (agr hA M M) hb) (agi hA M M) (gd_t hx270 hb) (nle M) M))) ?_
         refine .cons (lopg M M M M (by decide) (fun S hA=>grd1 hA M M) (fun S hA hb=>(bJ (r:=.bool _) M M (lb M) cl73 (.cons (svc (d:=.int _ _) (agr hA M M) hb) (.cons (svc (d:=.int _ _) (agr hA M M) hb) .nil)) M (fR _ _ _ (gd_t hx271 hb))))) ?_
         refine .cons (lopg M M M M (by decide) (fun S hA=>grd1 hA M M) (fun S hA hb=>(eX M M (lb M) (svc (d:=.bool _) (agr hA M M) hb)))) ?_
         refine .cons (lop M M fun S hA=>(bC M M (lb M) (svaB hA M M) (agr hA M M) M hx272)) ?_
         exact .nil
        refine aW (b:=_) M (fun hc273=>?_) (fun hc273=>?_)
        ·
         replace h:=bX h hc273
         obtain ⟨x274,hx274,h⟩:=aL h
         obtain ⟨hk275,h⟩:=iG h
         refine aF (aA M (aD M M (lb M) (sv (d:=.osl _ _ _) M))<|aA M (mvI M M M M)<|aA M (mvI M M M M)<|aA M (mvI M M M M)<|aA M (bG (r':=.int .i64 x274.1) (H1':=[(1000,.blk 3 (D.flat (x274.2.map (eInt .i64).d)))]) 0 [1000] M M (lb M) cl74 (.cons (sv (d:=.osl _ _ _) M) (.cons (svI M) (.cons (svI M) (.cons (svI M) .nil)))) M M ⟨M,M,by decide,M,List.forall_mem_cons.2 ⟨⟨M,M,(fW (eInt .i64) M),(bK (eInt .i64))⟩,List.forall_mem_nil _⟩⟩ (nD _ _ _ _ _ hx274) M M (List.forall_mem_cons.2 ⟨⟨M,(bK (eInt .i64))⟩,List.forall_mem_nil _⟩) (by simp only [List.map_cons,List.map_nil,Ent.ren,bL,bT]; rfl))<|aA M (asI M M M M)<|aE ?_)
         refine aF (aA M (mvI M M M M)<|aA M (asI M M M M)<|aE ?_)
         refine cA ?_
         refine bD ?_
         refine cC ?_
         refine aJ ⟨(n0,x274.2,x274.1,v71,v72,v73,v245),(fun i=>i),⟨(.cons (.same (congrArg (D.osl _ _) hk275.symm) M) (.sames M M)),(.cons (EntW.lst M) .nil),aY [1000] M (by decide),fun _ _=>M⟩,?_,?_⟩
         exact h
         exact Nat.lt_succ_self _
        ·
         replace h:=bY h hc273
         refine aT ?_
         refine aJ ?_
         obtain ⟨x276,hx276,h⟩:=aL h
         obtain ⟨hk277,h⟩:=iG h
         refine aF (aA M (aD M M (lb M) (sv (d:=.osl _ _ _) M))<|aA M (mvI M M M M)<|aA M (mvI M M M M)<|aA M (mvI M M M M)<|aA M (bG (r':=.tuple [.int .i64 x276.1,.bool x276.2.1]) (H1':=[(1000,.blk 3 (D.flat (x276.2.2.map (eInt .i64).d)))]) 0 [1000] M M (lb M) cl75 (.cons (sv (d:=.osl _ _ _) M) (.cons (svI M) (.cons (svI M) (.cons (svI M) .nil)))) M M ⟨M,M,by decide,M,List.forall_mem_cons.2 ⟨⟨M,M,(fW (eInt .i64) M),(bK (eInt .i64))⟩,List.forall_mem_nil _⟩⟩ (oQ _ _ _ _ _ hx276) M M (List.forall_mem_cons.2 ⟨⟨M,(bK (eInt .i64))⟩,List.forall_mem_nil _⟩) (by simp only [List.map_cons,List.map_nil,Ent.ren,bL,bT]; rfl))<|aA M (aD M M (lb M) (sv (d:=.tuple q19) M))<|aA M (cM (d:=.int _ _) M M (lb M) (sv (d:=.tuple q19) M) M)<|aA M (cM (d:=.bool _) M M (lb M) (sv (d:=.tuple q19) M) M)<|aA M (asI M M M M)<|aA M (asB M M M M)<|aE ?_)
         refine aF (aA M (mvB M M M M)<|aA M (asB M M M M)<|aE ?_)
         obtain ⟨x278,hx278,h⟩:=aK h
         obtain ⟨x279,hx279,h⟩:=aK h
         refine aF (aA M (mvI M M M M)<|aA M (mvI M M M M)<|aA M (aQ M M (lb M) (svI M) (svI M) M hx278)<|aA M (mvI M M M M)<|aA M (mvI M M M M)<|aA M (aQ M M (lb M) (svI M) (svI M) M hx279)<|aA M (asI M M M M)<|aA M (asI M M M M)<|aE ?_)
         obtain ⟨x280,hx280,h⟩:=aL h
         refine aF (aA M (mvI M M M M)<|aA M (lK M M (lb M) (svI M) (sv (d:=.int _ 8) M) hx280)<|aA M (asI M M M M)<|aE ?_)
         obtain ⟨x281,hx281,h⟩:=aK h
         refine aF (aA M (mvI M M M M)<|aA M (mvI M M M M)<|aA M (aO M M (lb M) (svI M) (svI M) M hx281)<|aE ?_)
         refine aW (b:=_) M (fun hc282=>?_) (fun hc282=>?_)
         ·
          replace h:=bX h hc282
          obtain ⟨x283,hx283,h⟩:=aK h
          refine aF (aA M (mvI M M M M)<|aA M (mvI M M M M)<|aA M (aO M M (lb M) (svI M) (svI M) M hx283)<|aA M (asB M M M M)<|aE ?_)
          obtain ⟨x284,hx284,h⟩:=aL h
          obtain ⟨hk285,h⟩:=iG h
          refine aF (aA M (aD M M (lb M) (sv (d:=.osl _ _ _) M))<|aA M (mvI M M M M)<|aA M (mvI M M M M)<|aA M (mvI M M M M)<|aA M (bG (r':=.tuple []) (H1':=[(1000,.blk 3 (D.flat (x284.map (eInt .i64).d)))]) 0 [1000] M M (lb M) cl42 (.cons (sv (congrArg (D.osl _ _) hk277.symm)) (.cons (svI M) (.cons (svI M) (.cons (svI M) .nil)))) M M ⟨M,M,by decide,M,List.forall_mem_cons.2 ⟨⟨M,M,(fW (eInt .i64) M),(bK (eInt .i64))⟩,List.forall_mem_nil _⟩⟩ (ih _ _ _ _ _ hx284) M M (List.forall_mem_cons.2 ⟨⟨M,(bK (eInt .i64))⟩,List.forall_mem_nil _⟩) (by simp only [List.map_cons,List.map_nil,Ent.ren,bL,bT]; rfl))<|aE ?_)
          obtain ⟨x286,hx286,h⟩:=aK h
          refine aS (aA M (mvI M M M M)<|aA M (aQ M M (lb M) (svI M) (sv (d:=.int _ 1) M) M hx286)<|aA M (asI M M M M)<|bE ?_)
          refine bI ?_
          refine aJ ⟨(n0,x284,x286,v71,x283,x276.2.1,v245),(fun i=>i),⟨(.cons (.same (congrArg (D.osl _ _) hk285.symm) M) (.sames M M)),(.cons (EntW.lst M) .nil),aY [1000] M (by decide),fun _ _=>M⟩,?_,?_⟩
          exact h
          exact Nat.lt_succ_self _
         ·
          replace h:=bY h hc282
          obtain ⟨x287,hx287,h⟩:=aK h
          refine aF (aA M (mvI M M M M)<|aA M (mvI M M M M)<|aA M (aO M M (lb M) (svI M) (svI M) M hx287)<|aA M (asB M M M M)<|aE ?_)
          obtain ⟨x288,hx288,h⟩:=aK h
          obtain ⟨x289,hx289,h⟩:=aL h
          obtain ⟨hk290,h⟩:=iG h
          refine aF (aA M (aD M M (lb M) (sv (d:=.osl _ _ _) M))<|aA M (mvI M M M M)<|aA M (aQ M M (lb M) (svI M) (sv (d:=.int _ 1) M) M hx288)<|aA M (mvI M M M M)<|aA M (mvI M M M M)<|aA M (bG (r':=.tuple []) (H1':=[(1000,.blk 3 (D.flat (x289.map (eInt .i64).d)))]) 0 [1000] M M (lb M) cl42 (.cons (sv (congrArg (D.osl _ _) hk277.symm)) (.cons (svI M) (.cons (svI M) (.cons (svI M) .nil)))) M M ⟨M,M,by decide,M,List.forall_mem_cons.2 ⟨⟨M,M,(fW (eInt .i64) M),(bK (eInt .i64))⟩,List.forall_mem_nil _⟩⟩ (ih _ _ _ _ _ hx289) M M (List.forall_mem_cons.2 ⟨⟨M,(bK (eInt .i64))⟩,List.forall_mem_nil _⟩) (by simp only [List.map_cons,List.map_nil,Ent.ren,bL,bT]; rfl))<|aE ?_)
          refine aS (aA M (mvI M M M M)<|aA M (asI M M M M)<|bE ?_)
          refine bI ?_
          refine aJ ⟨(n0,x289,v70,x276.1,x287,x276.2.1,v245),(fun i=>i),⟨(.cons (.same (congrArg (D.osl _ _) hk290.symm) M) (.sames M M)),(.cons (EntW.lst M) .nil),aY [1000] M (by decide),fun _ _=>M⟩,?_,?_⟩
          exact h
          exact Nat.lt_succ_self _

theorem oA (a0:(List Int)) (r:(List Int)) (h:kS a0=some r):FnH prog 30 [.osl 1000 (eInt .i64).sz a0.length] [(1000,.blk 3 (D.flat (a0.map (eInt .i64).d)))] (retD []) [(1000,.blk 3 (D.flat (r.map (eInt .i64).d)))]:=by
 refine cF (rs:=[]) func30 M ntmps30 (nle M) fun O hO=>?_
 show IWP _ _ _ _ ⟨[(0,.osl 1000 (eInt .i64).sz a0.length)],[(1000,.blk 3 (D.flat (a0.map (eInt .i64).d)))]⟩ _
 unfold kS at h
 refine aF (aA M (aD M M (lb M) (sv (d:=.osl _ _ _) M))<|aA M (mW M M (lb M) underlying24 (sv (d:=.osl _ _ _) M))<|aA M (asI M M M M)<|aE ?_)
 obtain ⟨x1,hx1,h⟩:=aK h
 obtain ⟨x2,hx2,h⟩:=aL h
 obtain ⟨x3,hx3,h⟩:=aL h
 obtain ⟨hk4,h⟩:=iG h
 refine aS (aA M (aD M M (lb M) (sv (d:=.osl _ _ _) M))<|aA M (mvI M M M M)<|aA M (mvI M M M M)<|aA M (kX M M (lb M) ⟨_,underlying3⟩ underlying81 (svI M) hx1)<|aA M (bJ (r:=.int _ _) M M (lb M) cl39 (.cons (svI M) .nil) M (pN _ _ hx2))<|aA M (bG (r':=.tuple []) (H1':=[(1000,.blk 3 (D.flat (x3.map (eInt .i64).d)))]) 0 [1000] M M (lb M) cl42 (.cons (sv (d:=.osl _ _ _) M) (.cons (sv (d:=.int _ 0) M) (.cons (svI M) (.cons (svI M) .nil)))) M M ⟨M,M,by decide,M,List.forall_mem_cons.2 ⟨⟨M,M,(fW (eInt .i64) M),(bK (eInt .i64))⟩,List.forall_mem_nil _⟩⟩ (pE _ _ _ _ _ _ hx3) M M (List.forall_mem_cons.2 ⟨⟨M,(bK (eInt .i64))⟩,List.forall_mem_nil _⟩) (by simp only [List.map_cons,List.map_nil,Ent.ren,bL,bT]; rfl))<|bE ?_)
 obtain rfl:=sj_ h
 refine ⟨.inl M,(fun i=>i),⟨.nil,(.cons (EntW.lst M) .nil),aY [1000] M (by decide),fun _ _=>M⟩,.nil,M⟩

theorem pH (a0:(List Int)) (a1:Int) (a2:Int) (a3:(List aP)) (a4:Int) (a5:Int) (a6:(List aM)) (a7:Int) (a8:(List Int)) (r:(List Int)) (h:mL a0 a1 a2 a3 a4 a5 a6 a7 a8=some r):FnH prog 13 [.ref 1000 0,.slice false (a0.map (eInt .i64).d)] [(1000,.blk 60 (mixD aB.toEnc0 (w22 a1 a2 a3 a4 a5) a6 [.int .i64 a7,.osl 1001 (eInt .i64).sz a8.length])),(1001,.blk 3 (D.flat (a8.map (eInt .i64).d)))] (.osl 0 (eInt .i64).sz r.length) [(1000,.blk 60 (mixD aB.toEnc0 (w22 a1 a2 a3 a4 a5) a6 [.int .i64 a7,.osl 1001 (eInt .i64).sz a8.length])),(1001,.blk 3 (D.flat (a8.map (eInt .i64).d))),(0,.blk 3 (D.flat (r.map (eInt .i64).d)))]:=by
 refine cF (rs:=[.osl 0 (eInt .i64).sz r.length]) func13 M ntmps13 (nle M) fun O hO=>?_
 show IWP _ _ _ _ ⟨[(0,.ref 1000 0),(1,.slice false (a0.map (eInt .i64).d))],[(1000,.blk 60 (mixD aB.toEnc0 (w22 a1 a2 a3 a4 a5) a6 [.int .i64 a7,.osl 1001 (eInt .i64).sz a8.length])),(1001,.blk 3 (D.flat (a8.map (eInt .i64).d)))]⟩ _
 unfold mL at h
 refine aF (aA M (aI M M (lb M) (sv (d:=.nils) M))<|aE ?_)
 refine aU ?_
 refine aF (aA M (mvR M M M M)<|aA M (pT M M (lb M) underlying26 (svR M) (sv (d:=.nilp) M))<|aE ?_)
 refine gM M M ?_
 refine aT ?_
 refine aJ ?_
 obtain ⟨x1,hx1,h⟩:=aK h
 refine aF (aA M (iop_eqE hx1 (vZ qP.toEnc0 (n:=64) (a:=false) 0 M M (lb M) M ti68 M M))<|aE ?_)
 refine aU ?_
 refine aF (aA M (mvL M M M M)<|aA M (dU (eInt .i64) (l:=a0) M M (lb M) underlying24 (svL M))<|aA M (aD M M (lb M) (sv (d:=.int _ 0) M))<|aE ?_)
 refine aV ?_
 refine bS (α:=Nat × Int × (List Bool)) (fun z=>⟨[(0,.ref 1000 0),(5,.ref 0 0),(15,.slice false (a0.map (eInt .i64).d)),(16,.int .i64 (a0.length:Int)),(17,.int .i64 z.2.1)],[(1000,.blk 60 (mixD aB.toEnc0 (w22 a1 a2 a3 a4 a5) a6 [.int .i64 a7,.osl 1001 (eInt .i64).sz a8.length])),(0,.blk 68 (D.flat (z.2.2.map qP.d))),(1001,.blk 3 (D.flat (a8.map (eInt .i64).d)))]⟩) (fun z=>hG a0 a1 a2 a3 a4 a5 a6 a7 a8 z.1 z.2.1 z.2.2=some r) (fun z=>z.1) (fuel,0,x1) (fun i=>i) ⟨(.sames M M),(.cons (EntW.mix aB M (SubC.of_eq M) (SubC.of_eq M) M M) (.cons (EntW.lst M) (.cons (EntW.lst M) .nil))),aY [1000,0,1001] M (by decide),fun _ _=>M⟩ ?_ ?_
 ·exact h
 ·
  rintro ⟨n0,v17,v18⟩ h
  cases n0 with
  | zero=>exact absurd h (by unfold hG; exact nofun)
  | succ n0 =>
   unfold hG at h
   obtain ⟨x35,hx35,h⟩:=aK h
   refine aF (aA M (aO M M (lb M) (svI M) (svI M) M hx35)<|aE ?_)
   refine aU ?_
   refine aW (b:=_) M (fun hc36=>?_) (fun hc36=>?_)
   ·
    replace h:=bX h hc36
    refine aT ?_
    refine aJ ?_
    refine aU ?_
    refine aV ?_
    obtain ⟨x37,hx37,h⟩:=aL h
    refine aF (aA M (iV (eInt .i64) (cs:=[.int _ _]) M M (lb M) underlying24 ti3 (svL M) (svI M) hx37 M M)<|aA M (iU M M (lb M) underlying3 ag3 ti3 (by decide) (sv (d:=.fptr [.int _ _]) M) (nle M))<|aA M (asI M M M M)<|aE ?_)
    obtain ⟨x38,hx38,h⟩:=aL h
    refine aF (aA M (mvR M M M M)<|aA M (mvI M M M M)<|aA M (iF (r':=.int .i64 x38) (V:=[(1000,.blk 60 (mixD aB.toEnc0 (w22 a1 a2 a3 a4 a5) a6 [.int .i64 a7,.osl 1001 (eInt .i64).sz a8.length])),(1001,.blk 3 (D.flat (a8.map (eInt .i64).d)))]) 1 [1000,1001] M M (lb M) cl28 (.cons (svR M) (.cons (svI M) .nil)) M M M ⟨by decide,M,List.forall_mem_cons.2 ⟨⟨M,M,(jI aB M M M),(cW aB M M)⟩,List.forall_mem_cons.2 ⟨⟨M,M,(fW (eInt .i64) M),(bK (eInt .i64))⟩,List.forall_mem_nil _⟩⟩⟩ (gJ _ _ _ _ _ _ _ _ _ _ hx38) M M (List.forall_mem_cons.2 ⟨⟨M,(cW aB M M)⟩,List.forall_mem_cons.2 ⟨⟨M,(bK (eInt .i64))⟩,List.forall_mem_nil _⟩⟩) (by simp only [List.map_cons,List.map_nil,Ent.ren,bL,bT,dE]; rfl) (List.forall_mem_cons.2 ⟨M,List.forall_mem_cons.2 ⟨M,List.forall_mem_nil _⟩⟩) M)<|aA M (asI M M M M)<|aE ?_)
    obtain ⟨x39,hx39,h⟩:=aK h
    obtain ⟨x40,hx40,h⟩:=aL h
    obtain ⟨hk41,h⟩:=iG h
    obtain ⟨x42,hx42,h⟩:=aL h
    obtain ⟨x43,hx43,h⟩:=aK h
    refine aF (aA M (mvI M M M M)<|aA M (aO M M (lb M) (svI M) (sv (d:=.int _ (-1)) M) M hx39)<|aA M (mvB M M M M)<|aH M M (.one M) M (by decide) (fun hb=>(mvR M M M M))<|aH M M (.one M) M (by decide) (fun hb=>(mvI M M M M))<|aH M M (.one M) M (by decide) (fun hb=>(aN M M (lb M) (svcR M hb)))<|aH M M (.one M) M (by decide) (fun hb=>(bF M M (lb M) underlying60 M ti58 (by decide) (svcR M hb) (off':=5) M))<|aH M M (.one M) M (by decide) (fun hb=>(dO aB.toEnc0 M M (lb M) underlying58 ti57 (svcR M hb) (hk41 hb) (svcI M hb) (gd_t hx40 hb)))<|aH M M (.one M) M (by decide) (fun hb=>(cB M M (lb M) underlying57 M ti4 (by decide) (svcR M hb) (k':=5) M))<|aH M M (.one M) M (by decide) (fun hb=>(cI aB.toEnc0 (b:=5) (k:=5) (d:=.bool _) M M (lb M) underlying4 ag4 ti4 (by decide) (svcR M hb) M M (gd_t hx42 hb) (nle M) M))<|aH M M (.one M) M (by decide) (fun hb=>(eX M M (lb M) (svcB M hb)))<|aA M (bC M M (lb M) (svB M) M M hx43)<|aE ?_)
    refine aW (b:=_) M (fun hc44=>?_) (fun hc44=>?_)
    ·
     replace h:=bX h hc44
     obtain ⟨x45,hx45,h⟩:=aL h
     obtain ⟨hk46,h⟩:=iG h
     obtain ⟨x47,hx47,h⟩:=aL h
     obtain ⟨x48,hx48,h⟩:=aK h
     refine aS (aA M (mvI M M M M)<|aA M (wI qP.toEnc0 M M (lb M) underlying68 ti4 (svR M) hk46 (svI M) hx45)<|aA M (bR qP.toEnc0 (a':=true) M M ti4 (svR M) M (sv (d:=.bool true) M) M M M hx47 (nle M) M hx48)<|bE ?_)
     refine bI ?_
     refine aJ ?_
     obtain ⟨x49,hx49,h⟩:=aK h
     refine aS (aA M (aQ M M (lb M) (svI M) (sv (d:=.int _ 1) M) M hx49)<|aA M (mvI M M M M)<|bE ?_)
     refine aJ ⟨(n0,x49,x48),(fun i=>i),⟨(.sames M M),(.cons (EntW.mix aB M (SubC.of_eq M) (SubC.of_eq M) M M) (.cons (EntW.lst M) (.cons (EntW.lst M) .nil))),aY [1000,0,1001] M (by decide),fun _ _=>M⟩,?_,?_⟩
     exact h
     exact Nat.lt_succ_self _
    ·
     replace h:=bY h hc44
     refine aT ?_
     refine bI ?_
     refine aJ ?_
     obtain ⟨x50,hx50,h⟩:=aK h
     refine aS (aA M (aQ M M (lb M) (svI M) (sv (d:=.int _ 1) M) M hx50)<|aA M (mvI M M M M)<|bE ?_)
     refine aJ ⟨(n0,x50,v18),(fun i=>i),⟨(.sames M M),(.cons (EntW.mix aB M (SubC.of_eq M) (SubC.of_eq M) M M) (.cons (EntW.lst M) (.cons (EntW.lst M) .nil))),aY [1000,0,1001] M (by decide),fun _ _=>M⟩,?_,?_⟩
     exact h
     exact Nat.lt_succ_self _
   ·
    replace h:=bY h hc36
    refine cA ?_
    refine bD ?_
    refine bD ?_
    refine cC ?_
    refine aJ ?_
    refine aF (aA M (aI M M (lb M) (sv (d:=.nils) M))<|aE ?_)
    refine aU ?_
    obtain ⟨hk51,h⟩:=iG h
    refine aF (aA M (xU qP.toEnc0 (n:=64) M M (lb M) underlying68 ag68 ti68 (by decide) (svR M) M hk51 M)<|aA M (aD M M (lb M) (sv (d:=.int _ 0) M))<|aE ?_)
    refine aV ?_
    refine bS (α:=Nat × (List Int) × Int) (fun z=>⟨[(0,.ref 1000 0),(5,.ref 0 0),(9,.osl 22 (eInt .i64).sz z.2.1.length),(39,.agg (mixD qP.toEnc0 [] v18 [])),(40,.int .i64 z.2.2)],[(1000,.blk 60 (mixD aB.toEnc0 (w22 a1 a2 a3 a4 a5) a6 [.int .i64 a7,.osl 1001 (eInt .i64).sz a8.length])),(0,.blk 68 (D.flat (v18.map qP.d))),(22,.blk 3 (D.flat (z.2.1.map (eInt .i64).d))),(1001,.blk 3 (D.flat (a8.map (eInt .i64).d)))]⟩) (fun z=>hD a1 a2 a3 a4 a5 a6 a7 a8 v18 z.1 z.2.1 z.2.2=some r) (fun z=>z.1) (fuel,([]:(List Int)),0) (fun i=>if i=22 then 73 else i) ⟨(.s M M (.s M M (.cons (.nilo M) (.cons (SlW.mix qP M) (.sames M M))))),(.cons (EntW.mix aB M (SubC.of_eq M) (SubC.of_eq M) M M) (.cons (EntW.lst M) (.cons (.nilb M) (.cons (EntW.lst M) .nil)))),aY [1000,0,73,1001] M (by decide),(fun i hi=>by first | rfl | (show (if _ then _ else _)=_; (repeat' split) <;> omega))⟩ ?_ ?_
    ·exact h
    ·
     rintro ⟨n1,v98,v99⟩ h
     cases n1 with
     | zero=>exact absurd h (by unfold hD; exact nofun)
     | succ n1 =>
      unfold hD at h
      obtain ⟨x146,hx146,h⟩:=aK h
      refine aF (aA M (aO M M (lb M) (svI M) (sv (d:=.int _ 64) M) M hx146)<|aE ?_)
      refine aU ?_
      refine aW (b:=_) M (fun hc147=>?_) (fun hc147=>?_)
      ·
       replace h:=bX h hc147
       refine aT ?_
       refine aJ ?_
       refine aU ?_
       refine aV ?_
       obtain ⟨x148,hx148,h⟩:=aL h
       refine aF (aA M (mvI M M M M)<|aA M (wX qP (d:=.bool _) M M (lb M) underlying68 underlying4 ag4 ti4 (sv (d:=.agg (mixD qP.toEnc0 [] v18 [])) M) (svI M) hk51 hx148 M)<|aA M (asI M M M M)<|aA M (asB M M M M)<|aE ?_)
       refine aU ?_
       refine aF (aA M (mvI M M M M)<|aA M (asI M M M M)<|aE ?_)
       refine aV ?_
       refine bS (α:=Nat × Bool × Int) (fun z=>⟨[(0,.ref 1000 0),(5,.ref 0 0),(9,.osl 22 (eInt .i64).sz v98.length),(39,.agg (mixD qP.toEnc0 [] v18 [])),(40,.int .i64 v99),(10,.int .i64 v99),(11,.bool z.2.1),(12,.int .i64 z.2.2)],[(1000,.blk 60 (mixD aB.toEnc0 (w22 a1 a2 a3 a4 a5) a6 [.int .i64 a7,.osl 1001 (eInt .i64).sz a8.length])),(0,.blk 68 (D.flat (v18.map qP.d))),(22,.blk 3 (D.flat (v98.map (eInt .i64).d))),(1001,.blk 3 (D.flat (a8.map (eInt .i64).d)))]⟩) (fun z=>jC a1 a2 a3 a4 a5 a6 a7 a8 v18 v98 v99 (hD a1 a2 a3 a4 a5 a6 a7 a8 v18 n1) z.1 z.2.1 z.2.2=some r) (fun z=>z.1) (fuel,x148,v99) (fun i=>i) ⟨(.s M M (.s M M (.s M M (.cons (SlW.mix qP M) (.sames M M))))),(.cons (EntW.mix aB M (SubC.of_eq M) (SubC.of_eq M) M M) (.cons (EntW.lst M) (.cons (EntW.lst M) (.cons (EntW.lst M) .nil)))),aY [1000,0,22,1001] M (by decide),fun _ _=>M⟩ ?_ ?_
       ·exact h
       ·
        rintro ⟨n2,v161,v162⟩ h
        cases n2 with
        | zero=>exact absurd h (by unfold jC; exact nofun)
        | succ n2 =>
         unfold jC at h
         refine aU ?_
         obtain ⟨x175,hx175,h⟩:=aL h
         obtain ⟨hk176,h⟩:=iG h
         obtain ⟨x177,hx177,h⟩:=aL h
         obtain ⟨x178,hx178,h⟩:=aK h
         obtain ⟨x179,hx179,h⟩:=aK h
         refine aF (aA M (mvB M M M M)<|aA M (mvB M M M M)<|aH M M (.one M) M (by decide) (fun hb=>(mvR M M M M))<|aH M M (.one M) M (by decide) (fun hb=>(mvI M M M M))<|aH M M (.one M) M (by decide) (fun hb=>(aN M M (lb M) (svcR M hb)))<|aH M M (.one M) M (by decide) (fun hb=>(bF M M (lb M) underlying60 M ti58 (by decide) (svcR M hb) (off':=5) M))<|aH M M (.one M) M (by decide) (fun hb=>(dO aB.toEnc0 M M (lb M) underlying58 ti57 (svcR M hb) (hk176 hb) (svcI M hb) (gd_t hx175 hb)))<|aH M M (.one M) M (by decide) (fun hb=>(cB M M (lb M) underlying57 M ti3 (by decide) (svcR M hb) (k':=1) M))<|aH M M (.one M) M (by decide) (fun hb=>(cI aB.toEnc0 (b:=5) (k:=1) (d:=.int _ _) M M (lb M) underlying3 ag3 ti3 (by decide) (svcR M hb) M M (gd_t hx177 hb) (nle M) M))<|aH M M (.one M) M (by decide) (fun hb=>(aO M M (lb M) (svcI M hb) (sv (d:=.int _ (-1)) M) M hx178))<|aA M (bC M M (lb M) (svB M) M M hx179)<|aE ?_)
         refine aW (b:=_) M (fun hc180=>?_) (fun hc180=>?_)
         ·
          replace h:=bX h hc180
          refine aT ?_
          refine aJ ?_
          refine aV ?_
          obtain ⟨x181,hx181,h⟩:=aL h
          obtain ⟨hk182,h⟩:=iG h
          obtain ⟨x183,hx183,h⟩:=aL h
          refine aF (aA M (mvR M M M M)<|aA M (mvI M M M M)<|aA M (aN M M (lb M) (svR M))<|aA M (faR 5 M M M underlying60 M ti58 (lb M) M M)<|aA M (dO aB.toEnc0 M M (lb M) underlying58 ti57 (svR M) hk182 (svI M) hx181)<|aA M (cB M M (lb M) underlying57 M ti3 (by decide) (svR M) (k':=1) M)<|aA M (cI aB.toEnc0 (b:=5) (k:=1) (d:=.int _ _) M M (lb M) underlying3 ag3 ti3 (by decide) (svR M) M M hx183 (nle M) M)<|aA M (asI M M M M)<|aE ?_)
          obtain ⟨x184,hx184,h⟩:=aL h
          obtain ⟨hk185,h⟩:=iG h
          obtain ⟨x186,hx186,h⟩:=aL h
          refine aS (aA M (mvI M M M M)<|aA M (wI qP.toEnc0 M M (lb M) underlying68 ti4 (svR M) hk185 (svI M) hx184)<|aA M (bO qP.toEnc0 (d:=.bool _) M M (lb M) underlying4 ag4 ti4 (by decide) (svR M) M hx186 (nle M) M)<|aA M (eX M M (lb M) (svB M))<|aA M (asB M M M M)<|bE ?_)
          refine bI ?_
          refine aJ ⟨(n2,(!x186),x183.up),(fun i=>i),⟨(.s M M (.s M M (.s M M (.cons (SlW.mix qP M) (.sames M M))))),(.cons (EntW.mix aB M (SubC.of_eq M) (SubC.of_eq M) M M) (.cons (EntW.lst M) (.cons (EntW.lst M) (.cons (EntW.lst M) .nil)))),aY [1000,0,22,1001] M (by decide),fun _ _=>M⟩,?_,?_⟩
          exact h
          exact Nat.lt_succ_self _
         ·
          replace h:=bY h hc180
          refine cA ?_
          refine bD ?_
          refine bD ?_
          refine cC ?_
          refine aJ ?_
          refine aF (aA M (mvB M M M M)<|aE ?_)
          refine aW (b:=_) M (fun hc187=>?_) (fun hc187=>?_)
          ·
           replace h:=bX h hc187
           obtain ⟨x188,hx188,h⟩:=aL h
           obtain ⟨x189,hx189,h⟩:=aL h
           refine aS (aA M (aD M M (lb M) (sv (d:=.osl _ _ _) M))<|aA M (mvR M M M M)<|aA M (mvI M M M M)<|aA M (iF (r':=.int .i64 x188) (V:=[(1000,.blk 60 (mixD aB.toEnc0 (w22 a1 a2 a3 a4 a5) a6 [.int .i64 a7,.osl 1001 (eInt .i64).sz a8.length])),(1001,.blk 3 (D.flat (a8.map (eInt .i64).d)))]) 23 [1000,1001] M M (lb M) cl25 (.cons (svR M) (.cons (svI M) .nil)) M M M ⟨by decide,M,List.forall_mem_cons.2 ⟨⟨M,M,(jI aB M M M),(cW aB M M)⟩,List.forall_mem_cons.2 ⟨⟨M,M,(fW (eInt .i64) M),(bK (eInt .i64))⟩,List.forall_mem_nil _⟩⟩⟩ (jV _ _ _ _ _ _ _ _ _ _ hx188) M M (List.forall_mem_cons.2 ⟨⟨M,(cW aB M M)⟩,List.forall_mem_cons.2 ⟨⟨M,(bK (eInt .i64))⟩,List.forall_mem_nil _⟩⟩) (by simp only [List.map_cons,List.map_nil,Ent.ren,bL,bT,dE]; rfl) (List.forall_mem_cons.2 ⟨M,List.forall_mem_cons.2 ⟨M,List.forall_mem_nil _⟩⟩) M)<|aA M (nM (eInt .i64).toEnc0 ([x188]:(List Int)) 23 M M (lb M) underlying24 ti3 M (.cons (svI M) .nil) M M (by decide))<|aA M (lZ (eInt .i64).toEnc0 24 M M (lb M) underlying24 ti3 M M M M M (rQ (eInt .i64).toEnc0 M M M) hx189)<|aA M (aI M M (lb M) (sv (d:=.osl _ _ _) M))<|bE ?_)
           refine bI ?_
           refine aJ ?_
           obtain ⟨x190,hx190,h⟩:=aK h
           refine aS (aA M (aQ M M (lb M) (svI M) (sv (d:=.int _ 1) M) M hx190)<|aA M (mvI M M M M)<|bE ?_)
           refine aJ ⟨(n1,x189,x190),(fun i=>if i=22 then 24 else i),⟨(.s M M (.s M M (.s M M (.cons (SlW.mix qP M) (.sames M M))))),(.cons (EntW.mix aB M (SubC.of_eq M) (SubC.of_eq M) M M) (.cons (EntW.lst M) (.cons (EntW.lst M) (.cons (EntW.lst M) .nil)))),aY [1000,0,24,1001] M (by decide),(fun i hi=>by first | rfl | (show (if _ then _ else _)=_; (repeat' split) <;> omega))⟩,?_,?_⟩
           exact h
           exact Nat.lt_succ_self _
          ·
           replace h:=bY h hc187
           refine aT ?_
           refine bI ?_
           refine aJ ?_
           obtain ⟨x191,hx191,h⟩:=aK h
           refine aS (aA M (aQ M M (lb M) (svI M) (sv (d:=.int _ 1) M) M hx191)<|aA M (mvI M M M M)<|bE ?_)
           refine aJ ⟨(n1,v98,x191),(fun i=>i),⟨(.s M M (.s M M (.s M M (.cons (SlW.mix qP M) (.sames M M))))),(.cons (EntW.mix aB M (SubC.of_eq M) (SubC.of_eq M) M M) (.cons (EntW.lst M) (.cons (EntW.lst M) (.cons (EntW.lst M) .nil)))),aY [1000,0,22,1001] M (by decide),fun _ _=>M⟩,?_,?_⟩
           exact h
           exact Nat.lt_succ_self _
      ·
       replace h:=bY h hc147
       refine cA ?_
       refine bD ?_
       refine bD ?_
       refine cC ?_
       refine aJ ?_
       obtain ⟨x192,hx192,h⟩:=aL h
       obtain ⟨hk193,h⟩:=iG h
       refine aF (aA M (aD M M (lb M) (sv (d:=.osl _ _ _) M))<|aA M (bG (r':=.tuple []) (H1':=[(22,.blk 3 (D.flat (x192.map (eInt .i64).d)))]) 23 [22] M M (lb M) cl30 (.cons (sv (d:=.osl _ _ _) M) .nil) M M ⟨M,M,by decide,M,List.forall_mem_cons.2 ⟨⟨M,M,(fW (eInt .i64) M),(bK (eInt .i64))⟩,List.forall_mem_nil _⟩⟩ (oA _ _ hx192) M M (List.forall_mem_cons.2 ⟨⟨M,(bK (eInt .i64))⟩,List.forall_mem_nil _⟩) (by simp only [List.map_cons,List.map_nil,Ent.ren,bL,bT]; rfl))<|aE ?_)
       refine aF (aA M (aD M M (lb M) (sv (d:=.osl _ _ _) M))<|aA M (aI M M (lb M) (sv (d:=.osl _ _ _) M))<|aE ?_)
       refine bB ?_
       obtain rfl:=sj_ h
       refine ⟨.inr M,(fun i=>if i=0 then 22 else i),⟨.nil,(.cons (EntW.mix aB M (SubC.of_eq M) (SubC.of_eq M) M M) (.cons (EntW.lst M) (.cons (EntW.lst M) .nil))),aY [1000,1001,22] M (by decide),(fun i hi=>by first | rfl | (show (if _ then _ else _)=_; (repeat' split) <;> omega))⟩,(.cons (sv (congrArg (D.osl _ _) hk193.symm)) .nil),M⟩

theorem pI (a0:Int) (a1:Int) (a2:Int) (a3:(List aP)) (a4:Int) (a5:Int) (a6:(List aM)) (a7:Int) (a8:(List Int)) (r:(Int × Int × Int × (List aP) × Int × Int × (List aM) × Int × (List Int))) (h:mM a0 a1 a2 a3 a4 a5 a6 a7 a8=some r):FnH prog 20 [.ref 1000 0,.int .i64 a0] [(1000,.blk 60 (mixD aB.toEnc0 (w22 a1 a2 a3 a4 a5) a6 [.int .i64 a7,.osl 1001 (eInt .i64).sz a8.length])),(1001,.blk 3 (D.flat (a8.map (eInt .i64).d)))] (.int .i64 r.1) [(1000,.blk 60 (mixD aB.toEnc0 (w22 r.2.1 r.2.2.1 r.2.2.2.1 r.2.2.2.2.1 r.2.2.2.2.2.1) r.2.2.2.2.2.2.1 [.int .i64 r.2.2.2.2.2.2.2.1,.osl 0 (eInt .i64).sz r.2.2.2.2.2.2.2.2.length])),(0,.blk 3 (D.flat (r.2.2.2.2.2.2.2.2.map (eInt .i64).d)))]:=by
 refine cF (rs:=[.int .i64 r.1]) func20 M ntmps20 (nle M) fun O hO=>?_
 show IWP _ _ _ _ ⟨[(0,.ref 1000 0),(1,.int .i64 a0)],[(1000,.blk 60 (mixD aB.toEnc0 (w22 a1 a2 a3 a4 a5) a6 [.int .i64 a7,.osl 1001 (eInt .i64).sz a8.length])),(1001,.blk 3 (D.flat (a8.map (eInt .i64).d)))]⟩ _
 unfold mM at h
 refine aF (aA M (aI M M (lb M) (sv (d:=.int _ 0) M))<|aE ?_)
 refine aU ?_
 refine aF (aA M (mvR M M M M)<|aA M (pT M M (lb M) underlying26 (svR M) (sv (d:=.nilp) M))<|aE ?_)
 refine gM M M ?_
 refine aT ?_
 refine aJ ?_
 obtain ⟨x1,hx1,h⟩:=aL h
 refine aF (aA M (mvR M M M M)<|aA M (mvI M M M M)<|aA M (iF (r':=.int .i64 x1) (V:=[(1000,.blk 60 (mixD aB.toEnc0 (w22 a1 a2 a3 a4 a5) a6 [.int .i64 a7,.osl 1001 (eInt .i64).sz a8.length])),(1001,.blk 3 (D.flat (a8.map (eInt .i64).d)))]) 0 [1000,1001] M M (lb M) cl28 (.cons (svR M) (.cons (svI M) .nil)) M M M ⟨by decide,M,List.forall_mem_cons.2 ⟨⟨M,M,(jI aB M M M),(cW aB M M)⟩,List.forall_mem_cons.2 ⟨⟨M,M,(fW (eInt .i64) M),(bK (eInt .i64))⟩,List.forall_mem_nil _⟩⟩⟩ (gJ _ _ _ _ _ _ _ _ _ _ hx1) M M (List.forall_mem_cons.2 ⟨⟨M,(cW aB M M)⟩,List.forall_mem_cons.2 ⟨⟨M,(bK (eInt .i64))⟩,List.forall_mem_nil _⟩⟩) (by simp only [List.map_cons,List.map_nil,Ent.ren,bL,bT,dE]; rfl) (List.forall_mem_cons.2 ⟨M,List.forall_mem_cons.2 ⟨M,List.forall_mem_nil _⟩⟩) M)<|aA M (asI M M M M)<|aE ?_)
 refine aU ?_
 refine aV ?_
 obtain ⟨x2,hx2,h⟩:=aK h
 refine aF (aA M (mvI M M M M)<|aA M (aO M M (lb M) (svI M) (sv (d:=.int _ (-1)) M) M hx2)<|aA M (asB M M M M)<|aE ?_)
 refine aW (b:=_) M (fun hc3=>?_) (fun hc3=>?_)
 ·
  replace h:=bX h hc3
  refine aF (aA M (aI M M (lb M) (sv (d:=.int _ 6) M))<|aE ?_)
  refine bB ?_
  refine dB ?_
  refine bP ?_
  obtain rfl:=sj_ h
  refine ⟨.inr M,(fun i=>if i=0 then 1001 else i),⟨.nil,(.cons (EntW.mix aB M (SubC.of_eq M) (SubC.of_eq M) M M) (.cons (EntW.lst M) .nil)),aY [1000,1001] M (by decide),(fun i hi=>by first | rfl | (show (if _ then _ else _)=_; (repeat' split) <;> omega))⟩,(.cons (sv M) .nil),M⟩
 ·
  replace h:=bY h hc3
  obtain ⟨x4,hx4,h⟩:=aL h
  obtain ⟨hk5,h⟩:=iG h
  obtain ⟨x6,hx6,h⟩:=aL h
  refine aF (aA M (mvR M M M M)<|aA M (mvI M M M M)<|aA M (aN M M (lb M) (svR M))<|aA M (faR 5 M M M underlying60 M ti58 (lb M) M M)<|aA M (dO aB.toEnc0 M M (lb M) underlying58 ti57 (svR M) hk5 (svI M) hx4)<|aA M (cB M M (lb M) underlying57 M ti4 (by decide) (svR M) (k':=5) M)<|aA M (cI aB.toEnc0 (b:=5) (k:=5) (d:=.bool _) M M (lb M) underlying4 ag4 ti4 (by decide) (svR M) M M hx6 (nle M) M)<|aA M (asB M M M M)<|aE ?_)
  refine aW (b:=_) M (fun hc7=>?_) (fun hc7=>?_)
  ·
   replace h:=bX h hc7
   refine aF (aA M (aI M M (lb M) (sv (d:=.int _ 9) M))<|aE ?_)
   refine bB ?_
   refine dB ?_
   refine bP ?_
   obtain rfl:=sj_ h
   refine ⟨.inr M,(fun i=>if i=0 then 1001 else i),⟨.nil,(.cons (EntW.mix aB M (SubC.of_eq M) (SubC.of_eq M) M M) (.cons (EntW.lst M) .nil)),aY [1000,1001] M (by decide),(fun i hi=>by first | rfl | (show (if _ then _ else _)=_; (repeat' split) <;> omega))⟩,(.cons (sv M) .nil),M⟩
  ·
   replace h:=bY h hc7
   refine aT ?_
   refine bI ?_
   refine aJ ?_
   obtain ⟨x8,hx8,h⟩:=aL h
   obtain ⟨x9,hx9,h⟩:=aL h
   obtain ⟨x10,hx10,h⟩:=aK h
   refine aF (aA M (mvR M M M M)<|aA M (mvI M M M M)<|aA M (aN M M (lb M) (svR M))<|aA M (faR 5 M M M underlying60 M ti58 (lb M) M M)<|aA M (dO aB.toEnc0 M M (lb M) underlying58 ti57 (svR M) hk5 (svI M) hx8)<|aA M (cB M M (lb M) underlying57 M ti4 (by decide) (svR M) (k':=5) M)<|aA M (jW aB.toEnc0 (b:=5) (k:=5) (a':=(⟨x9.id,x9.up,x9.first,x9.next,x9.weight,true⟩:aM)) M M ti4 (svR M) M (sv (d:=.bool true) M) M M M M hx9 (nle M) M hx10)<|aE ?_)
   obtain ⟨x11,hx11,h⟩:=aL h
   refine aF (aA M (mvR M M M M)<|aA M (mvR M M M M)<|aA M (aN M M (lb M) (svR M))<|aA M (faR 390 M M M underlying60 M ti24 (lb M) M M)<|aA M (gW aB.toEnc0 (d:=.osl _ _ _) (n:=64) (k:=1) M M (lb M) underlying24 ag24 ti24 (by decide) (svR M) M (bV hx10 hk5) (by rfl) (nle M) (by rfl))<|aA M (mvI M M M M)<|aA M (nM (eInt .i64).toEnc0 ([x1]:(List Int)) 0 M M (lb M) underlying24 ti3 M (.cons (svI M) .nil) M M (by decide))<|aA M (lZ (eInt .i64).toEnc0 1 M M (lb M) underlying24 ti3 M M M M M (rQ (eInt .i64).toEnc0 M M M) hx11)<|aA M (aN M M (lb M) (svR M))<|aA M (faR 390 M M M underlying60 M ti24 (lb M) M M)<|aA M (qK aB.toEnc0 (post:=q15) (post':=q15) (n:=64) (k:=1) M M ti24 (svR M) M (sv (d:=.osl _ _ _) M) M M M (bV hx10 hk5) (by rfl) (nle M) (by rfl))<|aE ?_)
   refine aU ?_
   obtain ⟨x12,hx12,h⟩:=aK h
   refine dN M [⟨[0],[],[(38,.ref 1000 0)],[]⟩,
    ⟨[38],[],[(39,.ref 1000 0)],[]⟩,
    ⟨[39],[],[(40,.ref 1000 390)],[]⟩,
    ⟨[40],[1000],[(41,.osl 1 (eInt .i64).sz x11.length)],[]⟩,
    ⟨[41],[],[(42,.int .i64 (x11.length:Int))],[]⟩,
    ⟨[0],[],[(43,.ref 1000 0)],[]⟩,
    ⟨[43],[],[(44,.ref 1000 0)],[]⟩,
    ⟨[44],[],[(45,.ref 1000 1)],[]⟩,
    ⟨[45],[1000],[(46,.int .i64 a2)],[]⟩,
    ⟨[42,46],[],[(47,.bool x12)],[]⟩] M ?_ (by kernel_rfl) ?_
   ·refine .cons (lop M M fun S hA=>(aD M M (lb M) (svaR hA M M))) ?_
    refine .cons (lop M M fun S hA=>(aN M M (lb M) (svaR hA M M))) ?_
    refine .cons (lop M M fun S hA=>(bF M M (lb M) underlying60 M ti24 (by decide) (svaR hA M M) (off':=390) M)) ?_
    refine .cons (lop M M fun S hA=>(gW aB.toEnc0 (d:=.osl _ _ _) (n:=64) (k:=1) M M (lb M) underlying24 ag24 ti24 (by decide) (svaR hA M M) (agi hA M M) (bV hx10 hk5) (by rfl) (nle M) (by rfl))) ?_
    refine .cons (lop M M fun S hA=>(mW M M (lb M) underlying24 (sv (d:=.osl _ _ _) (agr hA M M)))) ?_
    refine .cons (lop M M fun S hA=>(aD M M (lb M) (svaR hA M M))) ?_
    refine .cons (lop M M fun S hA=>(aN M M (lb M) (svaR hA M M))) ?_
    refine .cons (lop M M fun S hA=>(bF M M (lb M) underlying60 M ti3 (by decide) (svaR hA M M) (off':=1) M)) ?_
    refine .cons (lop M M fun S hA=>(rN aB.toEnc0 (d:=.int _ _) M M (lb M) underlying3 ag3 ti3 (by decide) (svaR hA M M) (agi hA M M) (nle M) (by rfl))) ?_
    refine .cons (lop M M fun S hA=>(aO M M (lb M) (svaI hA M M) (svaI hA M M) M hx12)) ?_
    exact .nil
   refine aW (b:=_) M (fun hc13=>?_) (fun hc13=>?_)
   ·
    replace h:=bX h hc13
    obtain ⟨x14,hx14,h⟩:=aL h
    obtain ⟨x15,hx15,h⟩:=aL h
    obtain ⟨x16,hx16,h⟩:=aL h
    refine aS (aA M (mvR M M M M)<|aA M (mvR M M M M)<|aA M (aN M M (lb M) (svR M))<|aA M (faR 390 M M M underlying60 M ti24 (lb M) M M)<|aA M (gW aB.toEnc0 (d:=.osl _ _ _) (n:=64) (k:=1) M M (lb M) underlying24 ag24 ti24 (by decide) (svR M) M (bV hx10 hk5) (by rfl) (nle M) (by rfl))<|aA M (aX (eInt .i64).toEnc0 M M (lb M) underlying24 ti3 (sv (d:=.osl _ _ _) M) M (sv (d:=.int _ 0) M) hx14)<|aA M (bO (eInt .i64).toEnc0 (d:=.int _ _) M M (lb M) underlying3 ag3 ti3 (by decide) (svR M) M hx15 (nle M) M)<|aA M (bG (r':=.tuple []) (H1':=[(1000,.blk 60 (mixD aB.toEnc0 (w22 x16.1 x16.2.1 x16.2.2.1 x16.2.2.2.1 x16.2.2.2.2.1) x16.2.2.2.2.2.1 [.int .i64 x16.2.2.2.2.2.2.1,.osl 2 (eInt .i64).sz x16.2.2.2.2.2.2.2.length])),(2,.blk 3 (D.flat (x16.2.2.2.2.2.2.2.map (eInt .i64).d)))]) 2 [1000,1] M M (lb M) cl36 (.cons (svR M) (.cons (svI M) .nil)) M M ⟨M,M,by decide,M,List.forall_mem_cons.2 ⟨⟨M,M,(jI aB M M M),(cW aB M M)⟩,List.forall_mem_cons.2 ⟨⟨M,M,(fW (eInt .i64) M),(bK (eInt .i64))⟩,List.forall_mem_nil _⟩⟩⟩ (oB _ _ _ _ _ _ _ _ _ _ hx16) M M (List.forall_mem_cons.2 ⟨⟨M,(cW aB M M)⟩,List.forall_mem_cons.2 ⟨⟨M,(bK (eInt .i64))⟩,List.forall_mem_nil _⟩⟩) (by simp only [List.map_cons,List.map_nil,Ent.ren,bL,bT,dE]; rfl))<|bE ?_)
    refine aJ ?_
    refine aF (aA M (aI M M (lb M) (sv (d:=.int _ 0) M))<|aE ?_)
    refine bB ?_
    obtain rfl:=sj_ h
    refine ⟨.inr M,(fun i=>if i=0 then 2 else i),⟨.nil,(.cons (EntW.mix aB M (SubC.of_eq M) (SubC.of_eq M) M M) (.cons (EntW.lst M) .nil)),aY [1000,2] M (by decide),(fun i hi=>by first | rfl | (show (if _ then _ else _)=_; (repeat' split) <;> omega))⟩,(.cons (sv M) .nil),M⟩
   ·
    replace h:=bY h hc13
    refine aT ?_
    refine aJ ?_
    refine aF (aA M (aI M M (lb M) (sv (d:=.int _ 0) M))<|aE ?_)
    refine bB ?_
    obtain rfl:=sj_ h
    refine ⟨.inr M,(fun i=>if i=0 then 1 else i),⟨.nil,(.cons (EntW.mix aB M (SubC.of_eq M) (SubC.of_eq M) M M) (.cons (EntW.lst M) .nil)),aY [1000,1] M (by decide),(fun i hi=>by first | rfl | (show (if _ then _ else _)=_; (repeat' split) <;> omega))⟩,(.cons (sv M) .nil),M⟩

theorem qS (a0:Int) (a1:Int) (a2:Int) (a3:(List aP)) (a4:Int) (a5:Int) (a6:(List aM)) (a7:Int) (a8:(List Int)) (r:(Int × Int × Int × (List aP) × Int × Int × (List aM) × Int × (List Int))) (h:nI a0 a1 a2 a3 a4 a5 a6 a7 a8=some r):FnH prog 21 [.ref 1000 0,.int .i64 a0] [(1000,.blk 60 (mixD aB.toEnc0 (w22 a1 a2 a3 a4 a5) a6 [.int .i64 a7,.osl 1001 (eInt .i64).sz a8.length])),(1001,.blk 3 (D.flat (a8.map (eInt .i64).d)))] (.int .i64 r.1) [(1000,.blk 60 (mixD aB.toEnc0 (w22 r.2.1 r.2.2.1 r.2.2.2.1 r.2.2.2.2.1 r.2.2.2.2.2.1) r.2.2.2.2.2.2.1 [.int .i64 r.2.2.2.2.2.2.2.1,.osl 0 (eInt .i64).sz r.2.2.2.2.2.2.2.2.length])),(0,.blk 3 (D.flat (r.2.2.2.2.2.2.2.2.map (eInt .i64).d)))]:=by
 refine cF (rs:=[.int .i64 r.1]) func21 M ntmps21 (nle M) fun O hO=>?_
 show IWP _ _ _ _ ⟨[(0,.ref 1000 0),(1,.int .i64 a0)],[(1000,.blk 60 (mixD aB.toEnc0 (w22 a1 a2 a3 a4 a5) a6 [.int .i64 a7,.osl 1001 (eInt .i64).sz a8.length])),(1001,.blk 3 (D.flat (a8.map (eInt .i64).d)))]⟩ _
 unfold nI at h
 refine aF (aA M (aI M M (lb M) (sv (d:=.int _ 0) M))<|aE ?_)
 refine aU ?_
 refine aF (aA M (mvR M M M M)<|aA M (pT M M (lb M) underlying26 (svR M) (sv (d:=.nilp) M))<|aE ?_)
 refine gM M M ?_
 refine aT ?_
 refine aJ ?_
 obtain ⟨x1,hx1,h⟩:=aL h
 refine aF (aA M (mvR M M M M)<|aA M (mvI M M M M)<|aA M (iF (r':=.int .i64 x1) (V:=[(1000,.blk 60 (mixD aB.toEnc0 (w22 a1 a2 a3 a4 a5) a6 [.int .i64 a7,.osl 1001 (eInt .i64).sz a8.length])),(1001,.blk 3 (D.flat (a8.map (eInt .i64).d)))]) 0 [1000,1001] M M (lb M) cl28 (.cons (svR M) (.cons (svI M) .nil)) M M M ⟨by decide,M,List.forall_mem_cons.2 ⟨⟨M,M,(jI aB M M M),(cW aB M M)⟩,List.forall_mem_cons.2 ⟨⟨M,M,(fW (eInt .i64) M),(bK (eInt .i64))⟩,List.forall_mem_nil _⟩⟩⟩ (gJ _ _ _ _ _ _ _ _ _ _ hx1) M M (List.forall_mem_cons.2 ⟨⟨M,(cW aB M M)⟩,List.forall_mem_cons.2 ⟨⟨M,(bK (eInt .i64))⟩,List.forall_mem_nil _⟩⟩) (by simp only [List.map_cons,List.map_nil,Ent.ren,bL,bT,dE]; rfl) (List.forall_mem_cons.2 ⟨M,List.forall_mem_cons.2 ⟨M,List.forall_mem_nil _⟩⟩) M)<|aA M (asI M M M M)<|aE ?_)
 refine aU ?_
 obtain ⟨x2,hx2,h⟩:=aK h
 refine aF (aA M (mvI M M M M)<|aA M (aO M M (lb M) (svI M) (sv (d:=.int _ (-1)) M) M hx2)<|aE ?_)
 refine aW (b:=_) M (fun hc3=>?_) (fun hc3=>?_)
 ·
  replace h:=bX h hc3
  refine aF (aA M (aI M M (lb M) (sv (d:=.int _ 6) M))<|aE ?_)
  refine bB ?_
  refine bP ?_
  obtain rfl:=sj_ h
  refine ⟨.inr M,(fun i=>if i=0 then 1001 else i),⟨.nil,(.cons (EntW.mix aB M (SubC.of_eq M) (SubC.of_eq M) M M) (.cons (EntW.lst M) .nil)),aY [1000,1001] M (by decide),(fun i hi=>by first | rfl | (show (if _ then _ else _)=_; (repeat' split) <;> omega))⟩,(.cons (sv M) .nil),M⟩
 ·
  replace h:=bY h hc3
  refine aT ?_
  refine aJ ?_
  obtain ⟨x4,hx4,h⟩:=aL h
  refine aF (aA M (mvR M M M M)<|aA M (mvI M M M M)<|aA M (bG (r':=.tuple []) (H1':=[(1000,.blk 60 (mixD aB.toEnc0 (w22 x4.1 x4.2.1 x4.2.2.1 x4.2.2.2.1 x4.2.2.2.2.1) x4.2.2.2.2.2.1 [.int .i64 x4.2.2.2.2.2.2.1,.osl 0 (eInt .i64).sz x4.2.2.2.2.2.2.2.length])),(0,.blk 3 (D.flat (x4.2.2.2.2.2.2.2.map (eInt .i64).d)))]) 0 [1000,1001] M M (lb M) cl36 (.cons (svR M) (.cons (svI M) .nil)) M M ⟨M,M,by decide,M,List.forall_mem_cons.2 ⟨⟨M,M,(jI aB M M M),(cW aB M M)⟩,List.forall_mem_cons.2 ⟨⟨M,M,(fW (eInt .i64) M),(bK (eInt .i64))⟩,List.forall_mem_nil _⟩⟩⟩ (oB _ _ _ _ _ _ _ _ _ _ hx4) M M (List.forall_mem_cons.2 ⟨⟨M,(cW aB M M)⟩,List.forall_mem_cons.2 ⟨⟨M,(bK (eInt .i64))⟩,List.forall_mem_nil _⟩⟩) (by simp only [List.map_cons,List.map_nil,Ent.ren,bL,bT,dE]; rfl))<|aE ?_)
  refine aF (aA M (aI M M (lb M) (sv (d:=.int _ 0) M))<|aE ?_)
  refine bB ?_
  obtain rfl:=sj_ h
  refine ⟨.inr M,(fun i=>i),⟨.nil,(.cons (EntW.mix aB M (SubC.of_eq M) (SubC.of_eq M) M M) (.cons (EntW.lst M) .nil)),aY [1000,0] M (by decide),fun _ _=>M⟩,(.cons (sv M) .nil),M⟩

theorem rK (a0:Int) (a1:Int) (a2:Int) (a3:(List aP)) (a4:Int) (a5:Int) (a6:(List aM)) (a7:Int) (a8:(List Int)) (r:(List Int)) (h:oP a0 a1 a2 a3 a4 a5 a6 a7 a8=some r):FnH prog 12 [.ref 1000 0,.int .i64 a0] [(1000,.blk 60 (mixD aB.toEnc0 (w22 a1 a2 a3 a4 a5) a6 [.int .i64 a7,.osl 1001 (eInt .i64).sz a8.length])),(1001,.blk 3 (D.flat (a8.map (eInt .i64).d)))] (.osl 0 (eInt .i64).sz r.length) [(1000,.blk 60 (mixD aB.toEnc0 (w22 a1 a2 a3 a4 a5) a6 [.int .i64 a7,.osl 1001 (eInt .i64).sz a8.length])),(1001,.blk 3 (D.flat (a8.map (eInt .i64).d))),(0,.blk 3 (D.flat (r.map (eInt .i64).d)))]:=by
 refine cF (rs:=[.osl 0 (eInt .i64).sz r.length]) func12 M ntmps12 (nle M) fun O hO=>?_
 show IWP _ _ _ _ ⟨[(0,.ref 1000 0),(1,.int .i64 a0)],[(1000,.blk 60 (mixD aB.toEnc0 (w22 a1 a2 a3 a4 a5) a6 [.int .i64 a7,.osl 1001 (eInt .i64).sz a8.length])),(1001,.blk 3 (D.flat (a8.map (eInt .i64).d)))]⟩ _
 unfold oP at h
 refine aF (aA M (fE (cs:=[.ref _ _]) 0 M M (lb M) M (svR M) M M)<|aA M (aI M M (lb M) (sv (d:=.nils) M))<|aE ?_)
 refine aU ?_
 refine aF (aA M (aR (d:=.ref _ _) M M (lb M) underlying26 ag26 ti26 (by decide) (svR M) M (nle M) M)<|aA M (pT M M (lb M) underlying26 (svR M) (sv (d:=.nilp) M))<|aE ?_)
 refine gM M M ?_
 refine aT ?_
 refine aJ ?_
 obtain ⟨x1,hx1,h⟩:=aL h
 refine aF (aA M (aR (d:=.ref _ _) M M (lb M) underlying26 ag26 ti26 (by decide) (svR M) M (nle M) M)<|aA M (mvI M M M M)<|aA M (iF (r':=.int .i64 x1) (V:=[(1000,.blk 60 (mixD aB.toEnc0 (w22 a1 a2 a3 a4 a5) a6 [.int .i64 a7,.osl 1001 (eInt .i64).sz a8.length])),(1001,.blk 3 (D.flat (a8.map (eInt .i64).d)))]) 1 [1000,1001] M M (lb M) cl28 (.cons (svR M) (.cons (svI M) .nil)) M M M ⟨by decide,M,List.forall_mem_cons.2 ⟨⟨M,M,(jI aB M M M),(cW aB M M)⟩,List.forall_mem_cons.2 ⟨⟨M,M,(fW (eInt .i64) M),(bK (eInt .i64))⟩,List.forall_mem_nil _⟩⟩⟩ (gJ _ _ _ _ _ _ _ _ _ _ hx1) M M (List.forall_mem_cons.2 ⟨⟨M,(cW aB M M)⟩,List.forall_mem_cons.2 ⟨⟨M,(bK (eInt .i64))⟩,List.forall_mem_nil _⟩⟩) (by simp only [List.map_cons,List.map_nil,Ent.ren,bL,bT,dE]; rfl) (List.forall_mem_cons.2 ⟨M,List.forall_mem_cons.2 ⟨M,List.forall_mem_nil _⟩⟩) M)<|aA M (asI M M M M)<|aE ?_)
 refine aU ?_
 obtain ⟨x2,hx2,h⟩:=aK h
 obtain ⟨x3,hx3,h⟩:=aK h
 obtain ⟨x4,hx4,h⟩:=aK h
 refine aF (aA M (mvI M M M M)<|aA M (aO M M (lb M) (svI M) (sv (d:=.int _ (-1)) M) M hx2)<|aA M (mvB M M M M)<|aH M M (.one M) M (by decide) (fun hb=>(mvI M M M M))<|aH M M (.one M) M (by decide) (fun hb=>(aO M M (lb M) (svcI M hb) (sv (d:=.int _ 0) M) M hx3))<|aA M (bC M M (lb M) (svB M) M M hx4)<|aE ?_)
 refine aW (b:=_) M (fun hc5=>?_) (fun hc5=>?_)
 ·
  replace h:=bX h hc5
  refine aF (aA M (aI M M (lb M) (sv (d:=.nils) M))<|aE ?_)
  refine bB ?_
  refine bP ?_
  obtain rfl:=sj_ h
  refine ⟨.inr M,(fun i=>if i=0 then 51 else i),⟨.nil,(.cons (EntW.mix aB M (SubC.of_eq M) (SubC.of_eq M) M M) (.cons (EntW.lst M) (.cons (.nilb M) .nil))),aY [1000,1001,51] M (by decide),(fun i hi=>by first | rfl | (show (if _ then _ else _)=_; (repeat' split) <;> omega))⟩,(.cons (svno M) .nil),M⟩
 ·
  replace h:=bY h hc5
  refine aT ?_
  refine aJ ?_
  refine aF (aA M (gN (cs:=[.nils]) (cs':=[.nils]) 1 M M (lb M) M ti24 M M (.all _))<|aE ?_)
  refine fL (α:=(List Int)) (fun z=>⟨[(6,.ref 1 0)],[(1,.blk 24 [.osl 28 (eInt .i64).sz z.length]),(1000,.blk 60 (mixD aB.toEnc0 (w22 a1 a2 a3 a4 a5) a6 [.int .i64 a7,.osl 1001 (eInt .i64).sz a8.length])),(1001,.blk 3 (D.flat (a8.map (eInt .i64).d))),(28,.blk 3 (D.flat (z.map (eInt .i64).d)))]⟩) (fun z=>lJ z=some r) ?_ ?_
  ·
   refine aF (aA M (aR (d:=.ref _ _) M M (lb M) underlying26 ag26 ti26 (by decide) (svR M) M (nle M) M)<|aA M (mvI M M M M) <|?_)
   refine gI (S':=⟨[(2,.ref 0 0),(6,.ref 1 0),(19,.ref 1000 0),(20,.int .i64 x1)],[(0,.blk 26 [.ref 1000 0]),(1,.blk 24 [.nils]),(1000,.blk 60 (mixD aB.toEnc0 (w22 a1 a2 a3 a4 a5) a6 [.int .i64 a7,.osl 1001 (eInt .i64).sz a8.length])),(1001,.blk 3 (D.flat (a8.map (eInt .i64).d)))]⟩) (fun i=>i) ⟨(.sames M M),(.cons (.blk M M M) (.cons (.blk M M M) (.cons (EntW.mix aB M (SubC.of_eq M) (SubC.of_eq M) M M) (.cons (EntW.lst M) .nil)))),aY [0,1,1000,1001] M (by decide),fun _ _=>M⟩ ?_
   refine kZ 1 2 M M M (by decide) cl29 func29 M (.cons (svR M) (.cons (svI M) .nil)) ntmps29 (nle M) M hO.semiL fun O1 hO1=>?_
   show IWP _ _ _ _ ⟨[(0,.ref 1000 0),(1,.int .i64 x1)],[(2,.kept 1 [.dead,.dead,.ref 0 0,.dead,.dead,.dead,.ref 1 0,.dead,.dead,.dead,.dead,.dead,.dead,.dead,.dead,.dead,.dead,.dead,.dead,.ref 1000 0,.int .i64 x1,.dead,.dead,.dead,.dead,.dead,.dead,.dead,.dead,.dead,.dead,.dead]),(0,.blk 26 [.ref 1000 0]),(1,.blk 24 [.nils]),(1000,.blk 60 (mixD aB.toEnc0 (w22 a1 a2 a3 a4 a5) a6 [.int .i64 a7,.osl 1001 (eInt .i64).sz a8.length])),(1001,.blk 3 (D.flat (a8.map (eInt .i64).d)))]⟩ _
   refine aF (aA M (fE (cs:=[.ref _ _]) 3 M M (lb M) M (svR M) M M)<|aA M (fE (cs:=[.int _ _]) 4 M M (lb M) M (svI M) M M)<|aA M (aI M M (lb M) (sv (d:=.nilf) M))<|aE ?_)
   refine aF (aA M (nP M M (lb M) (.cons (svR M) (.cons (svR M) .nil)))<|aA M (aI M M (lb M) (sv (d:=.fn 40 q16) M))<|aE ?_)
   refine bB ?_
   refine ⟨.inr M,2,_,[.fn 40 [.ref 3 0,.ref 4 0]],(.cons (sv M) .nil),M,M,⟨[(2,.ref 0 0),(6,.ref 1 0),(21,.fn 40 [.ref 3 0,.ref 4 0])],[(0,.blk 26 [.ref 1000 0]),(1,.blk 24 [.nils]),(3,.blk 26 [.ref 1000 0]),(4,.blk 3 [.int .i64 x1]),(1000,.blk 60 (mixD aB.toEnc0 (w22 a1 a2 a3 a4 a5) a6 [.int .i64 a7,.osl 1001 (eInt .i64).sz a8.length])),(1001,.blk 3 (D.flat (a8.map (eInt .i64).d)))]⟩,(fun i=>i),⟨(.sames M M),(.cons (.blk M M M) (.cons (.blk M M M) (.cons (.blk M M M) (.cons (.blk M M M) (.cons (EntW.mix aB M (SubC.of_eq M) (SubC.of_eq M) M M) (.cons (EntW.lst M) .nil)))))),aY [0,1,3,4,1000,1001] M (by decide),fun _ _=>M⟩,?_⟩
   refine aE ?_
   refine aV ?_
   refine qM (S':=⟨[(2,.ref 0 0),(6,.ref 1 0),(21,.fn 40 [.ref 3 0,.ref 4 0])],[(0,.blk 26 [.ref 1000 0]),(1,.blk 24 [.nils]),(3,.blk 26 [.ref 1000 0]),(4,.blk 3 [.int .i64 x1]),(1000,.blk 60 (mixD aB.toEnc0 (w22 a1 a2 a3 a4 a5) a6 [.int .i64 a7,.osl 1001 (eInt .i64).sz a8.length])),(1001,.blk 3 (D.flat (a8.map (eInt .i64).d)))]⟩) (fun i=>i) ⟨(.sames M M),(.cons (.blk M M M) (.cons (.blk M M M) (.cons (.blk M M M) (.cons (.blk M M M) (.cons (EntW.mix aB M (SubC.of_eq M) (SubC.of_eq M) M M) (.cons (EntW.lst M) .nil)))))),aY [0,1,3,4,1000,1001] M (by decide),fun _ _=>M⟩ ?_
   refine qY 1 5 6 (sv (d:=.fn 40 q16) M) cl40 func40 M M ntmps40 (nle M) M M hO.semiL (List.forall_mem_nil _) fun O1 hO1 hlc1=>?_
   show IWP _ _ _ _ ⟨[(0,.yld 5),(1,.ref 3 0),(2,.ref 4 0)],[(6,.kept 1 [.dead,.dead,.ref 0 0,.dead,.dead,.dead,.ref 1 0,.dead,.dead,.dead,.dead,.dead,.dead,.dead,.dead,.dead,.dead,.dead,.dead,.dead,.dead,.fn 40 [.ref 3 0,.ref 4 0],.dead,.dead,.dead,.dead,.dead,.dead,.dead,.dead,.dead,.dead]),(5,.loop 1 [.dead,.dead,.ref 0 0,.dead,.dead,.dead,.ref 1 0,.dead,.dead,.dead,.dead,.dead,.dead,.dead,.dead,.dead,.dead,.dead,.dead,.dead,.dead,.fn 40 [.ref 3 0,.ref 4 0],.dead,.dead,.dead,.dead,.dead,.dead,.dead,.dead,.dead,.dead] .ready none),(0,.blk 26 [.ref 1000 0]),(1,.blk 24 [.nils]),(3,.blk 26 [.ref 1000 0]),(4,.blk 3 [.int .i64 x1]),(1000,.blk 60 (mixD aB.toEnc0 (w22 a1 a2 a3 a4 a5) a6 [.int .i64 a7,.osl 1001 (eInt .i64).sz a8.length])),(1001,.blk 3 (D.flat (a8.map (eInt .i64).d)))]⟩ _
   refine aF (aA M (aR (d:=.ref _ _) M M (lb M) underlying26 ag26 ti26 (by decide) (svR M) M (nle M) M)<|aA M (aR (d:=.int _ _) M M (lb M) underlying3 ag3 ti3 (by decide) (svR M) M (nle M) M) <|?_)
   refine gI (S':=⟨[(0,.yld 5),(1,.ref 3 0),(6,.ref 1000 0),(7,.int .i64 x1)],[(0,.blk 26 [.ref 1000 0]),(1,.blk 24 [.nils]),(3,.blk 26 [.ref 1000 0]),(4,.blk 3 [.int .i64 x1]),(5,.loop 1 [.dead,.dead,.ref 0 0,.dead,.dead,.dead,.ref 1 0,.dead,.dead,.dead,.dead,.dead,.dead,.dead,.dead,.dead,.dead,.dead,.dead,.dead,.dead,.fn 40 [.ref 3 0,.ref 4 0],.dead,.dead,.dead,.dead,.dead,.dead,.dead,.dead,.dead,.dead] .ready none),(6,.kept 1 [.dead,.dead,.ref 0 0,.dead,.dead,.dead,.ref 1 0,.dead,.dead,.dead,.dead,.dead,.dead,.dead,.dead,.dead,.dead,.dead,.dead,.dead,.dead,.fn 40 [.ref 3 0,.ref 4 0],.dead,.dead,.dead,.dead,.dead,.dead,.dead,.dead,.dead,.dead]),(1000,.blk 60 (mixD aB.toEnc0 (w22 a1 a2 a3 a4 a5) a6 [.int .i64 a7,.osl 1001 (eInt .i64).sz a8.length])),(1001,.blk 3 (D.flat (a8.map (eInt .i64).d)))]⟩) (fun i=>i) ⟨(.sames M M),(.cons (.blk M M M) (.cons (.blk M M M) (.cons (.blk M M M) (.cons (.blk M M M) (.cons (.loop M M M) (.cons (.kept M M M) (.cons (EntW.mix aB M (SubC.of_eq M) (SubC.of_eq M) M M) (.cons (EntW.lst M) .nil)))))))),aY [0,1,3,4,5,6,1000,1001] M (by decide),fun _ _=>M⟩ ?_
   refine kZ 2 7 M M M (by decide) cl41 func41 M (.cons (svR M) (.cons (svI M) .nil)) ntmps41 (nle M) M hO1 fun O2 hO2=>?_
   show IWP _ _ _ _ ⟨[(0,.ref 1000 0),(1,.int .i64 x1)],[(7,.kept 2 [.yld 5,.ref 3 0,.dead,.dead,.dead,.dead,.ref 1000 0,.int .i64 x1,.dead,.dead,.dead,.dead,.dead,.dead,.dead,.dead,.dead,.dead,.dead,.dead,.dead,.dead,.dead,.dead,.dead]),(0,.blk 26 [.ref 1000 0]),(1,.blk 24 [.nils]),(3,.blk 26 [.ref 1000 0]),(4,.blk 3 [.int .i64 x1]),(5,.loop 1 [.dead,.dead,.ref 0 0,.dead,.dead,.dead,.ref 1 0,.dead,.dead,.dead,.dead,.dead,.dead,.dead,.dead,.dead,.dead,.dead,.dead,.dead,.dead,.fn 40 [.ref 3 0,.ref 4 0],.dead,.dead,.dead,.dead,.dead,.dead,.dead,.dead,.dead,.dead] .ready none),(6,.kept 1 [.dead,.dead,.ref 0 0,.dead,.dead,.dead,.ref 1 0,.dead,.dead,.dead,.dead,.dead,.dead,.dead,.dead,.dead,.dead,.dead,.dead,.dead,.dead,.fn 40 [.ref 3 0,.ref 4 0],.dead,.dead,.dead,.dead,.dead,.dead,.dead,.dead,.dead,.dead]),(1000,.blk 60 (mixD aB.toEnc0 (w22 a1 a2 a3 a4 a5) a6 [.int .i64 a7,.osl 1001 (eInt .i64).sz a8.length])),(1001,.blk 3 (D.flat (a8.map (eInt .i64).d)))]⟩ _
   refine aF (aA M (aI M M (lb M) (sv (d:=.nilp) M))<|aE ?_)
   refine aU ?_
   obtain ⟨x55,hx55,h⟩:=aK h
   refine aF (aA M (mvI M M M M)<|aA M (aO M M (lb M) (svI M) (sv (d:=.int _ (-1)) M) M hx55)<|aE ?_)
   refine aW (b:=_) M (fun hc56=>?_) (fun hc56=>?_)
   ·
    replace h:=bX h hc56
    refine aF (aA M (mvR M M M M)<|aA M (aN M M (lb M) (svR M))<|aA M (faR 389 M M M underlying60 M ti3 (lb M) M M)<|aA M (aI M M (lb M) (svR M))<|aE ?_)
    refine bB ?_
    refine bP ?_
    refine ⟨.inr M,7,_,[.ref 1000 389],(.cons (sv M) .nil),M,M,⟨[(0,.yld 5),(1,.ref 3 0),(8,.ref 1000 389)],[(0,.blk 26 [.ref 1000 0]),(1,.blk 24 [.nils]),(3,.blk 26 [.ref 1000 0]),(4,.blk 3 [.int .i64 x1]),(5,.loop 1 [.dead,.dead,.ref 0 0,.dead,.dead,.dead,.ref 1 0,.dead,.dead,.dead,.dead,.dead,.dead,.dead,.dead,.dead,.dead,.dead,.dead,.dead,.dead,.fn 40 [.ref 3 0,.ref 4 0],.dead,.dead,.dead,.dead,.dead,.dead,.dead,.dead,.dead,.dead] .ready none),(6,.kept 1 [.dead,.dead,.ref 0 0,.dead,.dead,.dead,.ref 1 0,.dead,.dead,.dead,.dead,.dead,.dead,.dead,.dead,.dead,.dead,.dead,.dead,.dead,.dead,.fn 40 [.ref 3 0,.ref 4 0],.dead,.dead,.dead,.dead,.dead,.dead,.dead,.dead,.dead,.dead]),(1000,.blk 60 (mixD aB.toEnc0 (w22 a1 a2 a3 a4 a5) a6 [.int .i64 a7,.osl 1001 (eInt .i64).sz a8.length])),(1001,.blk 3 (D.flat (a8.map (eInt .i64).d)))]⟩,(fun i=>i),⟨(.sames M M),(.cons (.blk M M M) (.cons (.blk M M M) (.cons (.blk M M M) (.cons (.blk M M M) (.cons (.loop M M M) (.cons (.kept M M M) (.cons (EntW.mix aB M (SubC.of_eq M) (SubC.of_eq M) M M) (.cons (EntW.lst M) .nil)))))))),aY [0,1,3,4,5,6,1000,1001] M (by decide),fun _ _=>M⟩,?_⟩
    obtain ⟨hk57,h⟩:=iG h
    refine aA M (aN M M (lb M) (svR M))<|aA M (gW aB.toEnc0 (d:=.int _ _) (n:=64) (k:=0) M M (lb M) underlying3 ag3 ti3 (by decide) (svR M) M hk57 (by rfl) (nle M) (by rfl))<|aA M (asI M M M M)<|aE ?_
    refine aV ?_
    refine bS (α:=Nat × Int × (List Int)) (fun z=>⟨[(0,.yld 5),(1,.ref 3 0),(4,.int .i64 z.2.1)],[(5,.loop 1 [.dead,.dead,.ref 0 0,.dead,.dead,.dead,.ref 1 0,.dead,.dead,.dead,.dead,.dead,.dead,.dead,.dead,.dead,.dead,.dead,.dead,.dead,.dead,.fn 40 [.ref 3 0,.ref 4 0],.dead,.dead,.dead,.dead,.dead,.dead,.dead,.dead,.dead,.dead] .ready none),(3,.blk 26 [.ref 1000 0]),(6,.kept 1 [.dead,.dead,.ref 0 0,.dead,.dead,.dead,.ref 1 0,.dead,.dead,.dead,.dead,.dead,.dead,.dead,.dead,.dead,.dead,.dead,.dead,.dead,.dead,.fn 40 [.ref 3 0,.ref 4 0],.dead,.dead,.dead,.dead,.dead,.dead,.dead,.dead,.dead,.dead]),(1000,.blk 60 (mixD aB.toEnc0 (w22 a1 a2 a3 a4 a5) a6 [.int .i64 a7,.osl 1001 (eInt .i64).sz a8.length])),(1001,.blk 3 (D.flat (a8.map (eInt .i64).d))),(0,.blk 26 [.ref 1000 0]),(1,.blk 24 [.osl 28 (eInt .i64).sz z.2.2.length]),(4,.blk 3 [.int .i64 x1]),(28,.blk 3 (D.flat (z.2.2.map (eInt .i64).d)))]⟩) (fun z=>jN a1 a2 a3 a4 a5 a6 a7 a8 z.1 z.2.1 z.2.2=some r) (fun z=>z.1) (fuel,a7,([]:(List Int))) (fun i=>if i=28 then 86 else i) ⟨(.sames M M),(.cons (.loop M M M) (.cons (.blk M M M) (.cons (.kept M M M) (.cons (EntW.mix aB M (SubC.of_eq M) (SubC.of_eq M) M M) (.cons (EntW.lst M) (.cons (.blk M M M) (.cons (.sub M (.nilo .nil) M) (.cons (.blk M M M) (.cons (.nilb M) .nil))))))))),aY [5,3,6,1000,1001,0,1,4,86] M (by decide),(fun i hi=>by first | rfl | (show (if _ then _ else _)=_; (repeat' split) <;> omega))⟩ ?_ ?_
    ·exact h
    ·
     rintro ⟨n3,v64,v65⟩ h
     cases n3 with
     | zero=>exact absurd h (by unfold jN; exact nofun)
     | succ n3 =>
      unfold jN at h
      refine aU ?_
      obtain ⟨x72,hx72,h⟩:=aK h
      refine aF (aA M (mvI M M M M)<|aA M (aO M M (lb M) (svI M) (sv (d:=.int _ (-1)) M) M hx72)<|aE ?_)
      refine aW (b:=_) M (fun hc73=>?_) (fun hc73=>?_)
      ·
       replace h:=bX h hc73
       refine aT ?_
       refine aJ ?_
       refine aV ?_
       obtain ⟨x74,hx74,h⟩:=aL h
       obtain ⟨x75,hx75,h⟩:=aL h
       refine aF (aA M (aR (d:=.ref _ _) M M (lb M) underlying26 ag26 ti26 (by decide) (svR M) M (nle M) M)<|aA M (mvI M M M M)<|aA M (aN M M (lb M) (svR M))<|aA M (faR 5 M M M underlying60 M ti58 (lb M) M M)<|aA M (dO aB.toEnc0 M M (lb M) underlying58 ti57 (svR M) hk57 (svI M) hx74)<|aA M (cB M M (lb M) underlying57 M ti3 (by decide) (svR M) (k':=3) M)<|aA M (cI aB.toEnc0 (b:=5) (k:=3) (d:=.int _ _) M M (lb M) underlying3 ag3 ti3 (by decide) (svR M) M M hx75 (nle M) M)<|aA M (asI M M M M)<|aE ?_)
       refine aU ?_
       refine aF (aA M (aD M M (lb M) (sv (d:=.yld _) M))<|aA M (mvI M M M M) <|?_)
       refine gI (S':=⟨[(0,.yld 5),(1,.ref 3 0),(5,.int .i64 x75.next),(20,.yld 5),(21,.int .i64 v64)],[(0,.blk 26 [.ref 1000 0]),(1,.blk 24 [.osl 28 (eInt .i64).sz v65.length]),(3,.blk 26 [.ref 1000 0]),(4,.blk 3 [.int .i64 x1]),(5,.loop 1 [.dead,.dead,.ref 0 0,.dead,.dead,.dead,.ref 1 0,.dead,.dead,.dead,.dead,.dead,.dead,.dead,.dead,.dead,.dead,.dead,.dead,.dead,.dead,.fn 40 [.ref 3 0,.ref 4 0],.dead,.dead,.dead,.dead,.dead,.dead,.dead,.dead,.dead,.dead] .ready none),(6,.kept 1 [.dead,.dead,.ref 0 0,.dead,.dead,.dead,.ref 1 0,.dead,.dead,.dead,.dead,.dead,.dead,.dead,.dead,.dead,.dead,.dead,.dead,.dead,.dead,.fn 40 [.ref 3 0,.ref 4 0],.dead,.dead,.dead,.dead,.dead,.dead,.dead,.dead,.dead,.dead]),(28,.blk 3 (D.flat (v65.map (eInt .i64).d))),(1000,.blk 60 (mixD aB.toEnc0 (w22 a1 a2 a3 a4 a5) a6 [.int .i64 a7,.osl 1001 (eInt .i64).sz a8.length])),(1001,.blk 3 (D.flat (a8.map (eInt .i64).d)))]⟩) (fun i=>i) ⟨(.sames M M),(.cons (.blk M M M) (.cons (.blk M M M) (.cons (.blk M M M) (.cons (.blk M M M) (.cons (.loop M M M) (.cons (.kept M M M) (.cons (EntW.lst M) (.cons (EntW.mix aB M (SubC.of_eq M) (SubC.of_eq M) M M) (.cons (EntW.lst M) .nil))))))))),aY [0,1,3,4,5,6,28,1000,1001] M (by decide),fun _ _=>M⟩ ?_
       refine pC 2 5 29 M M M (by decide) M (.cons (svI M) .nil) M M M M M M hO1.round hlc1 ⟨[(22,.int .i64 v64),(2,.ref 0 0),(6,.ref 1 0)],[(0,.blk 26 [.ref 1000 0]),(1,.blk 24 [.osl 28 (eInt .i64).sz v65.length]),(3,.blk 26 [.ref 1000 0]),(4,.blk 3 [.int .i64 x1]),(5,.loop 1 [.dead,.dead,.ref 0 0,.dead,.dead,.dead,.ref 1 0,.dead,.dead,.dead,.dead,.dead,.dead,.dead,.dead,.dead,.dead,.dead,.dead,.dead,.dead,.fn 40 [.ref 3 0,.ref 4 0],.dead,.dead,.dead,.dead,.dead,.dead,.dead,.dead,.dead,.dead] .ready none),(6,.kept 1 [.dead,.dead,.ref 0 0,.dead,.dead,.dead,.ref 1 0,.dead,.dead,.dead,.dead,.dead,.dead,.dead,.dead,.dead,.dead,.dead,.dead,.dead,.dead,.fn 40 [.ref 3 0,.ref 4 0],.dead,.dead,.dead,.dead,.dead,.dead,.dead,.dead,.dead,.dead]),(28,.blk 3 (D.flat (v65.map (eInt .i64).d))),(29,.kept 2 [.yld 5,.ref 3 0,.dead,.dead,.dead,.int .i64 x75.next,.dead,.dead,.dead,.dead,.dead,.dead,.dead,.dead,.dead,.dead,.dead,.dead,.dead,.dead,.yld 5,.int .i64 v64,.dead,.dead,.dead]),(1000,.blk 60 (mixD aB.toEnc0 (w22 a1 a2 a3 a4 a5) a6 [.int .i64 a7,.osl 1001 (eInt .i64).sz a8.length])),(1001,.blk 3 (D.flat (a8.map (eInt .i64).d)))]⟩ (fun i=>i) ⟨(.sames M M),(.cons (.blk M M M) (.cons (.blk M M M) (.cons (.blk M M M) (.cons (.blk M M M) (.cons (.loop M M M) (.cons (.kept M M M) (.cons (EntW.lst M) (.cons (.kept M M M) (.cons (EntW.mix aB M (SubC.of_eq M) (SubC.of_eq M) M M) (.cons (EntW.lst M) .nil)))))))))),aY [0,1,3,4,5,6,28,29,1000,1001] M (by decide),fun _ _=>M⟩ fun O2=>?_
       refine aS (aA M (asI M M M M)<|bE ?_)
       refine ⟨M,5,_,M,⟨[(2,.ref 0 0),(6,.ref 1 0),(7,.int .i64 v64)],[(0,.blk 26 [.ref 1000 0]),(1,.blk 24 [.osl 28 (eInt .i64).sz v65.length]),(3,.blk 26 [.ref 1000 0]),(4,.blk 3 [.int .i64 x1]),(5,.loop 1 [.dead,.dead,.ref 0 0,.dead,.dead,.dead,.ref 1 0,.dead,.dead,.dead,.dead,.dead,.dead,.dead,.dead,.dead,.dead,.dead,.dead,.dead,.dead,.fn 40 [.ref 3 0,.ref 4 0],.dead,.dead,.dead,.dead,.dead,.dead,.dead,.dead,.dead,.dead] .busy none),(6,.kept 1 [.dead,.dead,.ref 0 0,.dead,.dead,.dead,.ref 1 0,.dead,.dead,.dead,.dead,.dead,.dead,.dead,.dead,.dead,.dead,.dead,.dead,.dead,.dead,.fn 40 [.ref 3 0,.ref 4 0],.dead,.dead,.dead,.dead,.dead,.dead,.dead,.dead,.dead,.dead]),(28,.blk 3 (D.flat (v65.map (eInt .i64).d))),(29,.kept 2 [.yld 5,.ref 3 0,.dead,.dead,.dead,.int .i64 x75.next,.dead,.dead,.dead,.dead,.dead,.dead,.dead,.dead,.dead,.dead,.dead,.dead,.dead,.dead,.yld 5,.int .i64 v64,.dead,.dead,.dead]),(1000,.blk 60 (mixD aB.toEnc0 (w22 a1 a2 a3 a4 a5) a6 [.int .i64 a7,.osl 1001 (eInt .i64).sz a8.length])),(1001,.blk 3 (D.flat (a8.map (eInt .i64).d)))]⟩,(fun i=>i),⟨(.sames M M),(.cons (.blk M M M) (.cons (.blk M M M) (.cons (.blk M M M) (.cons (.blk M M M) (.cons (.loop M M M) (.cons (.kept M M M) (.cons (EntW.lst M) (.cons (.kept M M M) (.cons (EntW.mix aB M (SubC.of_eq M) (SubC.of_eq M) M M) (.cons (EntW.lst M) .nil)))))))))),aY [0,1,3,4,5,6,28,29,1000,1001] M (by decide),fun _ _=>M⟩,?_⟩
       refine aV ?_
       obtain ⟨x76,hx76,h⟩:=aL h
       obtain ⟨x77,hx77,h⟩:=aL h
       refine iM M [⟨[6],[1],[(23,.osl 28 (eInt .i64).sz v65.length)],[]⟩,
        ⟨[2],[0],[(24,.ref 1000 0)],[]⟩,
        ⟨[7],[],[(25,.int .i64 v64)],[]⟩,
        ⟨[24,25],[1000,1001],[(26,.int .i64 x76)],[]⟩,
        ⟨[26],[30],[(27,.osl 30 (eInt .i64).sz (([x76]:(List Int)).length))],[(30,.blk 3 (D.flat (([x76]:(List Int)).map (eInt .i64).d)))]⟩,
        ⟨[23,27],[28,30,31],[(28,.osl 31 (eInt .i64).sz x77.length)],[(31,.blk 3 (D.flat (x77.map (eInt .i64).d))),(28,.none)]⟩,
        ⟨[6,28],[1],[],[(1,.blk 24 [.osl 31 (eInt .i64).sz x77.length])]⟩] M ?_ (by kernel_rfl) ?_
       ·refine .cons (lop M M fun S hA=>(aR (d:=.osl _ _ _) M M (lb M) underlying24 ag24 ti24 (by decide) (svaR hA M M) (agi hA M M) (nle M) M)) ?_
        refine .cons (lop M M fun S hA=>(aR (d:=.ref _ _) M M (lb M) underlying26 ag26 ti26 (by decide) (svaR hA M M) (agi hA M M) (nle M) M)) ?_
        refine .cons (lop M M fun S hA=>(aD M M (lb M) (svaI hA M M))) ?_
        refine .cons (lop M M fun S hA=>(iF (r':=.int .i64 x76) (V:=[(1000,.blk 60 (mixD aB.toEnc0 (w22 a1 a2 a3 a4 a5) a6 [.int .i64 a7,.osl 1001 (eInt .i64).sz a8.length])),(1001,.blk 3 (D.flat (a8.map (eInt .i64).d)))]) 30 [1000,1001] M M (lb M) cl25 (.cons (svaR hA M M) (.cons (svaI hA M M) .nil)) M M M ⟨by decide,M,List.forall_mem_cons.2 ⟨⟨M,M,(jI aB (agi hA M M) M M),(cW aB M M)⟩,List.forall_mem_cons.2 ⟨⟨M,M,(fW (eInt .i64) (agi hA M M)),(bK (eInt .i64))⟩,List.forall_mem_nil _⟩⟩⟩ (jV _ _ _ _ _ _ _ _ _ _ hx76) M M (List.forall_mem_cons.2 ⟨⟨M,(cW aB M M)⟩,List.forall_mem_cons.2 ⟨⟨M,(bK (eInt .i64))⟩,List.forall_mem_nil _⟩⟩) (by simp only [List.map_cons,List.map_nil,Ent.ren,bL,bT,dE]; rfl) (List.forall_mem_cons.2 ⟨(agi hA M M),List.forall_mem_cons.2 ⟨(agi hA M M),List.forall_mem_nil _⟩⟩) M)) ?_
        refine .cons (lop M M fun S hA=>(nM (eInt .i64).toEnc0 ([x76]:(List Int)) 30 M M (lb M) underlying24 ti3 (agi hA M M) (.cons (svaI hA M M) .nil) M M (by decide))) ?_
        refine .cons (lop M M fun S hA=>(lZ (eInt .i64).toEnc0 31 M M (lb M) underlying24 ti3 M (agr hA M M) M (agi hA M M) (agi hA M M) (rQ (eInt .i64).toEnc0 (agr hA M M) M (agi hA M M)) hx77)) ?_
        refine .cons (lop M M fun S hA=>(fD (ds':=[.osl _ _ _]) M M ti24 (svaR hA M M) (agi hA M M) (sv (d:=.osl _ _ _) (agr hA M M)) M M M (nle M) M)) ?_
        exact .nil
       refine bI ?_
       refine ⟨5,29,_,_,none,M,M,M,M,(by decide),⟨[(0,.yld 5),(1,.ref 3 0),(5,.int .i64 x75.next),(22,.bool true)],[(0,.blk 26 [.ref 1000 0]),(1,.blk 24 [.osl 31 (eInt .i64).sz x77.length]),(3,.blk 26 [.ref 1000 0]),(4,.blk 3 [.int .i64 x1]),(5,.loop 1 [.dead,.dead,.ref 0 0,.dead,.dead,.dead,.ref 1 0,.dead,.dead,.dead,.dead,.dead,.dead,.dead,.dead,.dead,.dead,.dead,.dead,.dead,.dead,.fn 40 [.ref 3 0,.ref 4 0],.dead,.dead,.dead,.dead,.dead,.dead,.dead,.dead,.dead,.dead] .ready none),(6,.kept 1 [.dead,.dead,.ref 0 0,.dead,.dead,.dead,.ref 1 0,.dead,.dead,.dead,.dead,.dead,.dead,.dead,.dead,.dead,.dead,.dead,.dead,.dead,.dead,.fn 40 [.ref 3 0,.ref 4 0],.dead,.dead,.dead,.dead,.dead,.dead,.dead,.dead,.dead,.dead]),(31,.blk 3 (D.flat (x77.map (eInt .i64).d))),(1000,.blk 60 (mixD aB.toEnc0 (w22 a1 a2 a3 a4 a5) a6 [.int .i64 a7,.osl 1001 (eInt .i64).sz a8.length])),(1001,.blk 3 (D.flat (a8.map (eInt .i64).d)))]⟩,(fun i=>i),⟨(.sames M M),(.cons (.blk M M M) (.cons (.blk M M M) (.cons (.blk M M M) (.cons (.blk M M M) (.cons (.loop M M M) (.cons (.kept M M M) (.cons (EntW.lst M) (.cons (EntW.mix aB M (SubC.of_eq M) (SubC.of_eq M) M M) (.cons (EntW.lst M) .nil))))))))),aY [0,1,3,4,5,6,31,1000,1001] M (by decide),fun _ _=>M⟩,?_⟩
       refine aA M (eX M M (lb M) (svB M))<|aE ?_
       refine gM M M ?_
       refine aT ?_
       refine aJ ?_
       refine aS (aA M (mvI M M M M)<|aA M (asI M M M M)<|bE ?_)
       refine bI ?_
       refine aJ ⟨(n3,x75.next,x77),(fun i=>if i=28 then 31 else i),⟨(.sames M M),(.cons (.loop M M M) (.cons (.blk M M M) (.cons (.kept M M M) (.cons (EntW.mix aB M (SubC.of_eq M) (SubC.of_eq M) M M) (.cons (EntW.lst M) (.cons (.blk M M M) (.cons (.blk M M M) (.cons (.blk M M M) (.cons (EntW.lst M) .nil))))))))),aY [5,3,6,1000,1001,0,1,4,31] M (by decide),(fun i hi=>by first | rfl | (show (if _ then _ else _)=_; (repeat' split) <;> omega))⟩,?_,?_⟩
       exact h
       exact Nat.lt_succ_self _
      ·
       replace h:=bY h hc73
       refine cA ?_
       refine bD ?_
       refine bD ?_
       refine cC ?_
       refine ⟨.inl M,5,6,_,_,_,_,M,(by simp),M,M,⟨[(6,.ref 1 0)],[(1,.blk 24 [.osl 28 (eInt .i64).sz v65.length]),(28,.blk 3 (D.flat (v65.map (eInt .i64).d))),(1000,.blk 60 (mixD aB.toEnc0 (w22 a1 a2 a3 a4 a5) a6 [.int .i64 a7,.osl 1001 (eInt .i64).sz a8.length])),(1001,.blk 3 (D.flat (a8.map (eInt .i64).d)))]⟩,(fun i=>i),⟨(.sames M M),(.cons (.blk M M M) (.cons (EntW.lst M) (.cons (EntW.mix aB M (SubC.of_eq M) (SubC.of_eq M) M M) (.cons (EntW.lst M) .nil)))),aY [1,28,1000,1001] M (by decide),fun _ _=>M⟩,?_⟩
       refine bI ?_
       refine aJ ⟨v65,(fun i=>i),⟨(.sames M M),(.cons (.blk M M M) (.cons (EntW.mix aB M (SubC.of_eq M) (SubC.of_eq M) M M) (.cons (EntW.lst M) (.cons (EntW.lst M) .nil)))),aY [1,1000,1001,28] M (by decide),fun _ _=>M⟩,?_⟩
       exact h
   ·
    replace h:=bY h hc56
    refine aT ?_
    refine aJ ?_
    obtain ⟨x78,hx78,h⟩:=aL h
    obtain ⟨hk79,h⟩:=iG h
    refine aF (aA M (mvR M M M M)<|aA M (mvI M M M M)<|aA M (aN M M (lb M) (svR M))<|aA M (faR 5 M M M underlying60 M ti58 (lb M) M M)<|aA M (dO aB.toEnc0 M M (lb M) underlying58 ti57 (svR M) hk79 (svI M) hx78)<|aA M (cB M M (lb M) underlying57 M ti3 (by decide) (svR M) (k':=2) M)<|aA M (aI M M (lb M) (svR M))<|aE ?_)
    refine bB ?_
    refine ⟨.inr M,7,_,[.ref 1000 (5 + (((x1:Int).toNat) * aB.sz + 2))],(.cons (sv M) .nil),M,M,⟨[(0,.yld 5),(1,.ref 3 0),(8,.ref 1000 (5 + (((x1:Int).toNat) * aB.sz + 2)))],[(0,.blk 26 [.ref 1000 0]),(1,.blk 24 [.nils]),(3,.blk 26 [.ref 1000 0]),(4,.blk 3 [.int .i64 x1]),(5,.loop 1 [.dead,.dead,.ref 0 0,.dead,.dead,.dead,.ref 1 0,.dead,.dead,.dead,.dead,.dead,.dead,.dead,.dead,.dead,.dead,.dead,.dead,.dead,.dead,.fn 40 [.ref 3 0,.ref 4 0],.dead,.dead,.dead,.dead,.dead,.dead,.dead,.dead,.dead,.dead] .ready none),(6,.kept 1 [.dead,.dead,.ref 0 0,.dead,.dead,.dead,.ref 1 0,.dead,.dead,.dead,.dead,.dead,.dead,.dead,.dead,.dead,.dead,.dead,.dead,.dead,.dead,.fn 40 [.ref 3 0,.ref 4 0],.dead,.dead,.dead,.dead,.dead,.dead,.dead,.dead,.dead,.dead]),(1000,.blk 60 (mixD aB.toEnc0 (w22 a1 a2 a3 a4 a5) a6 [.int .i64 a7,.osl 1001 (eInt .i64).sz a8.length])),(1001,.blk 3 (D.flat (a8.map (eInt .i64).d)))]⟩,(fun i=>i),⟨(.sames M M),(.cons (.blk M M M) (.cons (.blk M M M) (.cons (.blk M M M) (.cons (.blk M M M) (.cons (.loop M M M) (.cons (.kept M M M) (.cons (EntW.mix aB M (SubC.of_eq M) (SubC.of_eq M) M M) (.cons (EntW.lst M) .nil)))))))),aY [0,1,3,4,5,6,1000,1001] M (by decide),fun _ _=>M⟩,?_⟩
    obtain ⟨x80,hx80,h⟩:=aL h
    refine aA M (aN M M (lb M) (svR M))<|aA M (cI aB.toEnc0 (b:=5) (k:=2) (d:=.int _ _) M M (lb M) underlying3 ag3 ti3 (by decide) (svR M) M M hx80 (nle M) M)<|aA M (asI M M M M)<|aE ?_
    refine aV ?_
    refine bS (α:=Nat × Int × (List Int)) (fun z=>⟨[(0,.yld 5),(1,.ref 3 0),(4,.int .i64 z.2.1)],[(5,.loop 1 [.dead,.dead,.ref 0 0,.dead,.dead,.dead,.ref 1 0,.dead,.dead,.dead,.dead,.dead,.dead,.dead,.dead,.dead,.dead,.dead,.dead,.dead,.dead,.fn 40 [.ref 3 0,.ref 4 0],.dead,.dead,.dead,.dead,.dead,.dead,.dead,.dead,.dead,.dead] .ready none),(3,.blk 26 [.ref 1000 0]),(6,.kept 1 [.dead,.dead,.ref 0 0,.dead,.dead,.dead,.ref 1 0,.dead,.dead,.dead,.dead,.dead,.dead,.dead,.dead,.dead,.dead,.dead,.dead,.dead,.dead,.fn 40 [.ref 3 0,.ref 4 0],.dead,.dead,.dead,.dead,.dead,.dead,.dead,.dead,.dead,.dead]),(1000,.blk 60 (mixD aB.toEnc0 (w22 a1 a2 a3 a4 a5) a6 [.int .i64 a7,.osl 1001 (eInt .i64).sz a8.length])),(1001,.blk 3 (D.flat (a8.map (eInt .i64).d))),(0,.blk 26 [.ref 1000 0]),(1,.blk 24 [.osl 28 (eInt .i64).sz z.2.2.length]),(4,.blk 3 [.int .i64 x1]),(28,.blk 3 (D.flat (z.2.2.map (eInt .i64).d)))]⟩) (fun z=>jM a1 a2 a3 a4 a5 a6 a7 a8 z.1 z.2.1 z.2.2=some r) (fun z=>z.1) (fuel,x80.first,([]:(List Int))) (fun i=>if i=28 then 86 else i) ⟨(.sames M M),(.cons (.loop M M M) (.cons (.blk M M M) (.cons (.kept M M M) (.cons (EntW.mix aB M (SubC.of_eq M) (SubC.of_eq M) M M) (.cons (EntW.lst M) (.cons (.blk M M M) (.cons (.sub M (.nilo .nil) M) (.cons (.blk M M M) (.cons (.nilb M) .nil))))))))),aY [5,3,6,1000,1001,0,1,4,86] M (by decide),(fun i hi=>by first | rfl | (show (if _ then _ else _)=_; (repeat' split) <;> omega))⟩ ?_ ?_
    ·exact h
    ·
     rintro ⟨n4,v87,v88⟩ h
     cases n4 with
     | zero=>exact absurd h (by unfold jM; exact nofun)
     | succ n4 =>
      unfold jM at h
      refine aU ?_
      obtain ⟨x95,hx95,h⟩:=aK h
      refine aF (aA M (mvI M M M M)<|aA M (aO M M (lb M) (svI M) (sv (d:=.int _ (-1)) M) M hx95)<|aE ?_)
      refine aW (b:=_) M (fun hc96=>?_) (fun hc96=>?_)
      ·
       replace h:=bX h hc96
       refine aT ?_
       refine aJ ?_
       refine aV ?_
       obtain ⟨x97,hx97,h⟩:=aL h
       obtain ⟨x98,hx98,h⟩:=aL h
       refine aF (aA M (aR (d:=.ref _ _) M M (lb M) underlying26 ag26 ti26 (by decide) (svR M) M (nle M) M)<|aA M (mvI M M M M)<|aA M (aN M M (lb M) (svR M))<|aA M (faR 5 M M M underlying60 M ti58 (lb M) M M)<|aA M (dO aB.toEnc0 M M (lb M) underlying58 ti57 (svR M) hk79 (svI M) hx97)<|aA M (cB M M (lb M) underlying57 M ti3 (by decide) (svR M) (k':=3) M)<|aA M (cI aB.toEnc0 (b:=5) (k:=3) (d:=.int _ _) M M (lb M) underlying3 ag3 ti3 (by decide) (svR M) M M hx98 (nle M) M)<|aA M (asI M M M M)<|aE ?_)
       refine aU ?_
       refine aF (aA M (aD M M (lb M) (sv (d:=.yld _) M))<|aA M (mvI M M M M) <|?_)
       refine gI (S':=⟨[(0,.yld 5),(1,.ref 3 0),(5,.int .i64 x98.next),(20,.yld 5),(21,.int .i64 v87)],[(0,.blk 26 [.ref 1000 0]),(1,.blk 24 [.osl 28 (eInt .i64).sz v88.length]),(3,.blk 26 [.ref 1000 0]),(4,.blk 3 [.int .i64 x1]),(5,.loop 1 [.dead,.dead,.ref 0 0,.dead,.dead,.dead,.ref 1 0,.dead,.dead,.dead,.dead,.dead,.dead,.dead,.dead,.dead,.dead,.dead,.dead,.dead,.dead,.fn 40 [.ref 3 0,.ref 4 0],.dead,.dead,.dead,.dead,.dead,.dead,.dead,.dead,.dead,.dead] .ready none),(6,.kept 1 [.dead,.dead,.ref 0 0,.dead,.dead,.dead,.ref 1 0,.dead,.dead,.dead,.dead,.dead,.dead,.dead,.dead,.dead,.dead,.dead,.dead,.dead,.dead,.fn 40 [.ref 3 0,.ref 4 0],.dead,.dead,.dead,.dead,.dead,.dead,.dead,.dead,.dead,.dead]),(28,.blk 3 (D.flat (v88.map (eInt .i64).d))),(1000,.blk 60 (mixD aB.toEnc0 (w22 a1 a2 a3 a4 a5) a6 [.int .i64 a7,.osl 1001 (eInt .i64).sz a8.length])),(1001,.blk 3 (D.flat (a8.map (eInt .i64).d)))]⟩) (fun i=>i) ⟨(.sames M M),(.cons (.blk M M M) (.cons (.blk M M M) (.cons (.blk M M M) (.cons (.blk M M M) (.cons (.loop M M M) (.cons (.kept M M M) (.cons (EntW.lst M) (.cons (EntW.mix aB M (SubC.of_eq M) (SubC.of_eq M) M M) (.cons (EntW.lst M) .nil))))))))),aY [0,1,3,4,5,6,28,1000,1001] M (by decide),fun _ _=>M⟩ ?_
       refine pC 2 5 29 M M M (by decide) M (.cons (svI M) .nil) M M M M M M hO1.round hlc1 ⟨[(22,.int .i64 v87),(2,.ref 0 0),(6,.ref 1 0)],[(0,.blk 26 [.ref 1000 0]),(1,.blk 24 [.osl 28 (eInt .i64).sz v88.length]),(3,.blk 26 [.ref 1000 0]),(4,.blk 3 [.int .i64 x1]),(5,.loop 1 [.dead,.dead,.ref 0 0,.dead,.dead,.dead,.ref 1 0,.dead,.dead,.dead,.dead,.dead,.dead,.dead,.dead,.dead,.dead,.dead,.dead,.dead,.dead,.fn 40 [.ref 3 0,.ref 4 0],.dead,.dead,.dead,.dead,.dead,.dead,.dead,.dead,.dead,.dead] .ready none),(6,.kept 1 [.dead,.dead,.ref 0 0,.dead,.dead,.dead,.ref 1 0,.dead,.dead,.dead,.dead,.dead,.dead,.dead,.dead,.dead,.dead,.dead,.dead,.dead,.dead,.fn 40 [.ref 3 0,.ref 4 0],.dead,.dead,.dead,.dead,.dead,.dead,.dead,.dead,.dead,.dead]),(28,.blk 3 (D.flat (v88.map (eInt .i64).d))),(29,.kept 2 [.yld 5,.ref 3 0,.dead,.dead,.dead,.int .i64 x98.next,.dead,.dead,.dead,.dead,.dead,.dead,.dead,.dead,.dead,.dead,.dead,.dead,.dead,.dead,.yld 5,.int .i64 v87,.dead,.dead,.dead]),(1000,.blk 60 (mixD aB.toEnc0 (w22 a1 a2 a3 a4 a5) a6 [.int .i64 a7,.osl 1001 (eInt .i64).sz a8.length])),(1001,.blk 3 (D.flat (a8.map (eInt .i64).d)))]⟩ (fun i=>i) ⟨(.sames M M),(.cons (.blk M M M) (.cons (.blk M M M) (.cons (.blk M M M) (.cons (.blk M M M) (.cons (.loop M M M) (.cons (.kept M M M) (.cons (EntW.lst M) (.cons (.kept M M M) (.cons (EntW.mix aB M (SubC.of_eq M) (SubC.of_eq M) M M) (.cons (EntW.lst M) .nil)))))))))),aY [0,1,3,4,5,6,28,29,1000,1001] M (by decide),fun _ _=>M⟩ fun O2=>?_
       refine aS (aA M (asI M M M M)<|bE ?_)
       refine ⟨M,5,_,M,⟨[(2,.ref 0 0),(6,.ref 1 0),(7,.int .i64 v87)],[(0,.blk 26 [.ref 1000 0]),(1,.blk 24 [.osl 28 (eInt .i64).sz v88.length]),(3,.blk 26 [.ref 1000 0]),(4,.blk 3 [.int .i64 x1]),(5,.loop 1 [.dead,.dead,.ref 0 0,.dead,.dead,.dead,.ref 1 0,.dead,.dead,.dead,.dead,.dead,.dead,.dead,.dead,.dead,.dead,.dead,.dead,.dead,.dead,.fn 40 [.ref 3 0,.ref 4 0],.dead,.dead,.dead,.dead,.dead,.dead,.dead,.dead,.dead,.dead] .busy none),(6,.kept 1 [.dead,.dead,.ref 0 0,.dead,.dead,.dead,.ref 1 0,.dead,.dead,.dead,.dead,.dead,.dead,.dead,.dead,.dead,.dead,.dead,.dead,.dead,.dead,.fn 40 [.ref 3 0,.ref 4 0],.dead,.dead,.dead,.dead,.dead,.dead,.dead,.dead,.dead,.dead]),(28,.blk 3 (D.flat (v88.map (eInt .i64).d))),(29,.kept 2 [.yld 5,.ref 3 0,.dead,.dead,.dead,.int .i64 x98.next,.dead,.dead,.dead,.dead,.dead,.dead,.dead,.dead,.dead,.dead,.dead,.dead,.dead,.dead,.yld 5,.int .i64 v87,.dead,.dead,.dead]),(1000,.blk 60 (mixD aB.toEnc0 (w22 a1 a2 a3 a4 a5) a6 [.int .i64 a7,.osl 1001 (eInt .i64).sz a8.length])),(1001,.blk 3 (D.flat (a8.map (eInt .i64).d)))]⟩,(fun i=>i),⟨(.sames M M),(.cons (.blk M M M) (.cons (.blk M M M) (.cons (.blk M M M) (.cons (.blk M M M) (.cons (.loop M M M) (.cons (.kept M M M) (.cons (EntW.lst M) (.cons (.kept M M M) (.cons (EntW.mix aB M (SubC.of_eq M) (SubC.of_eq M) M M) (.cons (EntW.lst M) .nil)))))))))),aY [0,1,3,4,5,6,28,29,1000,1001] M (by decide),fun _ _=>M⟩,?_⟩
       refine aV ?_
       obtain ⟨x99,hx99,h⟩:=aL h
       obtain ⟨x100,hx100,h⟩:=aL h
       refine iM M [⟨[6],[1],[(23,.osl 28 (eInt .i64).sz v88.length)],[]⟩,
        ⟨[2],[0],[(24,.ref 1000 0)],[]⟩,
        ⟨[7],[],[(25,.int .i64 v87)],[]⟩,
        ⟨[24,25],[1000,1001],[(26,.int .i64 x99)],[]⟩,
        ⟨[26],[30],[(27,.osl 30 (eInt .i64).sz (([x99]:(List Int)).length))],[(30,.blk 3 (D.flat (([x99]:(List Int)).map (eInt .i64).d)))]⟩,
        ⟨[23,27],[28,30,31],[(28,.osl 31 (eInt .i64).sz x100.length)],[(31,.blk 3 (D.flat (x100.map (eInt .i64).d))),(28,.none)]⟩,
        ⟨[6,28],[1],[],[(1,.blk 24 [.osl 31 (eInt .i64).sz x100.length])]⟩] M ?_ (by kernel_rfl) ?_
       ·refine .cons (lop M M fun S hA=>(aR (d:=.osl _ _ _) M M (lb M) underlying24 ag24 ti24 (by decide) (svaR hA M M) (agi hA M M) (nle M) M)) ?_
        refine .cons (lop M M fun S hA=>(aR (d:=.ref _ _) M M (lb M) underlying26 ag26 ti26 (by decide) (svaR hA M M) (agi hA M M) (nle M) M)) ?_
        refine .cons (lop M M fun S hA=>(aD M M (lb M) (svaI hA M M))) ?_
        refine .cons (lop M M fun S hA=>(iF (r':=.int .i64 x99) (V:=[(1000,.blk 60 (mixD aB.toEnc0 (w22 a1 a2 a3 a4 a5) a6 [.int .i64 a7,.osl 1001 (eInt .i64).sz a8.length])),(1001,.blk 3 (D.flat (a8.map (eInt .i64).d)))]) 30 [1000,1001] M M (lb M) cl25 (.cons (svaR hA M M) (.cons (svaI hA M M) .nil)) M M M ⟨by decide,M,List.forall_mem_cons.2 ⟨⟨M,M,(jI aB (agi hA M M) M M),(cW aB M M)⟩,List.forall_mem_cons.2 ⟨⟨M,M,(fW (eInt .i64) (agi hA M M)),(bK (eInt .i64))⟩,List.forall_mem_nil _⟩⟩⟩ (jV _ _ _ _ _ _ _ _ _ _ hx99) M M (List.forall_mem_cons.2 ⟨⟨M,(cW aB M M)⟩,List.forall_mem_cons.2 ⟨⟨M,(bK (eInt .i64))⟩,List.forall_mem_nil _⟩⟩) (by simp only [List.map_cons,List.map_nil,Ent.ren,bL,bT,dE]; rfl) (List.forall_mem_cons.2 ⟨(agi hA M M),List.forall_mem_cons.2 ⟨(agi hA M M),List.forall_mem_nil _⟩⟩) M)) ?_
        refine .cons (lop M M fun S hA=>(nM (eInt .i64).toEnc0 ([x99]:(List Int)) 30 M M (lb M) underlying24 ti3 (agi hA M M) (.cons (svaI hA M M) .nil) M M (by decide))) ?_
        refine .cons (lop M M fun S hA=>(lZ (eInt .i64).toEnc0 31 M M (lb M) underlying24 ti3 M (agr hA M M) M (agi hA M M) (agi hA M M) (rQ (eInt .i64).toEnc0 (agr hA M M) M (agi hA M M)) hx100)) ?_
        refine .cons (lop M M fun S hA=>(fD (ds':=[.osl _ _ _]) M M ti24 (svaR hA M M) (agi hA M M) (sv (d:=.osl _ _ _) (agr hA M M)) M M M (nle M) M)) ?_
        exact .nil
       refine bI ?_
       refine ⟨5,29,_,_,none,M,M,M,M,(by decide),⟨[(0,.yld 5),(1,.ref 3 0),(5,.int .i64 x98.next),(22,.bool true)],[(0,.blk 26 [.ref 1000 0]),(1,.blk 24 [.osl 31 (eInt .i64).sz x100.length]),(3,.blk 26 [.ref 1000 0]),(4,.blk 3 [.int .i64 x1]),(5,.loop 1 [.dead,.dead,.ref 0 0,.dead,.dead,.dead,.ref 1 0,.dead,.dead,.dead,.dead,.dead,.dead,.dead,.dead,.dead,.dead,.dead,.dead,.dead,.dead,.fn 40 [.ref 3 0,.ref 4 0],.dead,.dead,.dead,.dead,.dead,.dead,.dead,.dead,.dead,.dead] .ready none),(6,.kept 1 [.dead,.dead,.ref 0 0,.dead,.dead,.dead,.ref 1 0,.dead,.dead,.dead,.dead,.dead,.dead,.dead,.dead,.dead,.dead,.dead,.dead,.dead,.dead,.fn 40 [.ref 3 0,.ref 4 0],.dead,.dead,.dead,.dead,.dead,.dead,.dead,.dead,.dead,.dead]),(31,.blk 3 (D.flat (x100.map (eInt .i64).d))),(1000,.blk 60 (mixD aB.toEnc0 (w22 a1 a2 a3 a4 a5) a6 [.int .i64 a7,.osl 1001 (eInt .i64).sz a8.length])),(1001,.blk 3 (D.flat (a8.map (eInt .i64).d)))]⟩,(fun i=>i),⟨(.sames M M),(.cons (.blk M M M) (.cons (.blk M M M) (.cons (.blk M M M) (.cons (.blk M M M) (.cons (.loop M M M) (.cons (.kept M M M) (.cons (EntW.lst M) (.cons (EntW.mix aB M (SubC.of_eq M) (SubC.of_eq M) M M) (.cons (EntW.lst M) .nil))))))))),aY [0,1,3,4,5,6,31,1000,1001] M (by decide),fun _ _=>M⟩,?_⟩
       refine aA M (eX M M (lb M) (svB M))<|aE ?_
       refine gM M M ?_
       refine aT ?_
       refine aJ ?_
       refine aS (aA M (mvI M M M M)<|aA M (asI M M M M)<|bE ?_)
       refine bI ?_
       refine aJ ⟨(n4,x98.next,x100),(fun i=>if i=28 then 31 else i),⟨(.sames M M),(.cons (.loop M M M) (.cons (.blk M M M) (.cons (.kept M M M) (.cons (EntW.mix aB M (SubC.of_eq M) (SubC.of_eq M) M M) (.cons (EntW.lst M) (.cons (.blk M M M) (.cons (.blk M M M) (.cons (.blk M M M) (.cons (EntW.lst M) .nil))))))))),aY [5,3,6,1000,1001,0,1,4,31] M (by decide),(fun i hi=>by first | rfl | (show (if _ then _ else _)=_; (repeat' split) <;> omega))⟩,?_,?_⟩
       exact h
       exact Nat.lt_succ_self _
      ·
       replace h:=bY h hc96
       refine cA ?_
       refine bD ?_
       refine bD ?_
       refine cC ?_
       refine ⟨.inl M,5,6,_,_,_,_,M,(by simp),M,M,⟨[(6,.ref 1 0)],[(1,.blk 24 [.osl 28 (eInt .i64).sz v88.length]),(28,.blk 3 (D.flat (v88.map (eInt .i64).d))),(1000,.blk 60 (mixD aB.toEnc0 (w22 a1 a2 a3 a4 a5) a6 [.int .i64 a7,.osl 1001 (eInt .i64).sz a8.length])),(1001,.blk 3 (D.flat (a8.map (eInt .i64).d)))]⟩,(fun i=>i),⟨(.sames M M),(.cons (.blk M M M) (.cons (EntW.lst M) (.cons (EntW.mix aB M (SubC.of_eq M) (SubC.of_eq M) M M) (.cons (EntW.lst M) .nil)))),aY [1,28,1000,1001] M (by decide),fun _ _=>M⟩,?_⟩
       refine bI ?_
       refine aJ ⟨v88,(fun i=>i),⟨(.sames M M),(.cons (.blk M M M) (.cons (EntW.mix aB M (SubC.of_eq M) (SubC.of_eq M) M M) (.cons (EntW.lst M) (.cons (EntW.lst M) .nil)))),aY [1,1000,1001,28] M (by decide),fun _ _=>M⟩,?_⟩
       exact h
  ·
   rintro v52 h
   unfold lJ at h
   obtain ⟨x53,hx53,h⟩:=aL h
   obtain ⟨hk54,h⟩:=iG h
   refine aF (aA M (aR (d:=.osl _ _ _) M M (lb M) underlying24 ag24 ti24 (by decide) (svR M) M (nle M) M)<|aA M (bG (r':=.tuple []) (H1':=[(28,.blk 3 (D.flat (x53.map (eInt .i64).d)))]) 29 [28] M M (lb M) cl30 (.cons (sv (d:=.osl _ _ _) M) .nil) M M ⟨M,M,by decide,M,List.forall_mem_cons.2 ⟨⟨M,M,(fW (eInt .i64) M),(bK (eInt .i64))⟩,List.forall_mem_nil _⟩⟩ (oA _ _ hx53) M M (List.forall_mem_cons.2 ⟨⟨M,(bK (eInt .i64))⟩,List.forall_mem_nil _⟩) (by simp only [List.map_cons,List.map_nil,Ent.ren,bL,bT]; rfl))<|aE ?_)
   refine aF (aA M (aR (d:=.osl _ _ _) M M (lb M) underlying24 ag24 ti24 (by decide) (svR M) M (nle M) M)<|aA M (aI M M (lb M) (sv (d:=.osl _ _ _) M))<|aE ?_)
   refine bB ?_
   obtain rfl:=sj_ h
   refine ⟨.inr M,(fun i=>if i=0 then 28 else i),⟨.nil,(.cons (EntW.mix aB M (SubC.of_eq M) (SubC.of_eq M) M M) (.cons (EntW.lst M) (.cons (EntW.lst M) .nil))),aY [1000,1001,28] M (by decide),(fun i hi=>by first | rfl | (show (if _ then _ else _)=_; (repeat' split) <;> omega))⟩,(.cons (sv (congrArg (D.osl _ _) hk54.symm)) .nil),M⟩

theorem pB (a0:Int) (a1:Int) (a2:(List aP)) (a3:Int) (a4:Int) (a5:(List aM)) (a6:Int) (a7:(List Int)) (r:(List Int)) (h:lX a0 a1 a2 a3 a4 a5 a6 a7=some r):FnH prog 10 [.ref 1000 0] [(1000,.blk 60 (mixD aB.toEnc0 (w22 a0 a1 a2 a3 a4) a5 [.int .i64 a6,.osl 1001 (eInt .i64).sz a7.length])),(1001,.blk 3 (D.flat (a7.map (eInt .i64).d)))] (.osl 0 (eInt .i64).sz r.length) [(1000,.blk 60 (mixD aB.toEnc0 (w22 a0 a1 a2 a3 a4) a5 [.int .i64 a6,.osl 1001 (eInt .i64).sz a7.length])),(1001,.blk 3 (D.flat (a7.map (eInt .i64).d))),(0,.blk 3 (D.flat (r.map (eInt .i64).d)))]:=by
 refine cF (rs:=[.osl 0 (eInt .i64).sz r.length]) func10 M ntmps10 (nle M) fun O hO=>?_
 show IWP _ _ _ _ ⟨[(0,.ref 1000 0)],[(1000,.blk 60 (mixD aB.toEnc0 (w22 a0 a1 a2 a3 a4) a5 [.int .i64 a6,.osl 1001 (eInt .i64).sz a7.length])),(1001,.blk 3 (D.flat (a7.map (eInt .i64).d)))]⟩ _
 unfold lX at h
 refine aF (aA M (aI M M (lb M) (sv (d:=.nils) M))<|aE ?_)
 refine aU ?_
 refine aF (aA M (mvR M M M M)<|aA M (pT M M (lb M) underlying26 (svR M) (sv (d:=.nilp) M))<|aE ?_)
 refine gM M M ?_
 refine aT ?_
 refine aJ ?_
 refine aF (aA M (aI M M (lb M) (sv (d:=.nils) M))<|aE ?_)
 refine aU ?_
 obtain ⟨hk1,h⟩:=iG h
 refine aF (aA M (mvR M M M M)<|aA M (aN M M (lb M) (svR M))<|aA M (faR 390 M M M underlying60 M ti24 (lb M) M M)<|aA M (gW aB.toEnc0 (d:=.osl _ _ _) (n:=64) (k:=1) M M (lb M) underlying24 ag24 ti24 (by decide) (svR M) M hk1 (by rfl) (nle M) (by rfl))<|aA M (mW M M (lb M) underlying24 (sv (d:=.osl _ _ _) M))<|aA M (aD M M (lb M) (sv (d:=.int _ 0) M))<|aE ?_)
 refine aV ?_
 refine bS (α:=Nat × (List Int) × Int) (fun z=>⟨[(0,.ref 1000 0),(3,.osl 21 (eInt .i64).sz z.2.1.length),(11,.osl 1001 (eInt .i64).sz a7.length),(12,.int .i64 (a7.length:Int)),(13,.int .i64 z.2.2)],[(1000,.blk 60 (mixD aB.toEnc0 (w22 a0 a1 a2 a3 a4) a5 [.int .i64 a6,.osl 1001 (eInt .i64).sz a7.length])),(21,.blk 3 (D.flat (z.2.1.map (eInt .i64).d))),(1001,.blk 3 (D.flat (a7.map (eInt .i64).d)))]⟩) (fun z=>iQ a0 a1 a2 a3 a4 a5 a6 a7 z.1 z.2.1 z.2.2=some r) (fun z=>z.1) (fuel,([]:(List Int)),0) (fun i=>if i=21 then 71 else i) ⟨(.s M M (.cons (.nilo M) (.sames M M))),(.cons (EntW.mix aB M (SubC.of_eq M) (SubC.of_eq M) M M) (.cons (.nilb M) (.cons (EntW.lst M) .nil))),aY [1000,71,1001] M (by decide),(fun i hi=>by first | rfl | (show (if _ then _ else _)=_; (repeat' split) <;> omega))⟩ ?_ ?_
 ·exact h
 ·
  rintro ⟨n0,v9,v10⟩ h
  cases n0 with
  | zero=>exact absurd h (by unfold iQ; exact nofun)
  | succ n0 =>
   unfold iQ at h
   obtain ⟨x18,hx18,h⟩:=aK h
   refine aF (aA M (aO M M (lb M) (svI M) (svI M) M hx18)<|aE ?_)
   refine aU ?_
   refine aW (b:=_) M (fun hc19=>?_) (fun hc19=>?_)
   ·
    replace h:=bX h hc19
    refine aT ?_
    refine aJ ?_
    refine aU ?_
    refine aV ?_
    obtain ⟨x20,hx20,h⟩:=aL h
    obtain ⟨x21,hx21,h⟩:=aL h
    refine aF (aA M (aX (eInt .i64).toEnc0 M M (lb M) underlying24 ti3 (sv (d:=.osl _ _ _) M) M (svI M) hx20)<|aA M (bO (eInt .i64).toEnc0 (d:=.int _ _) M M (lb M) underlying3 ag3 ti3 (by decide) (svR M) M hx21 (nle M) M)<|aA M (asI M M M M)<|aE ?_)
    obtain ⟨x22,hx22,h⟩:=aL h
    obtain ⟨x23,hx23,h⟩:=aL h
    refine aS (aA M (aD M M (lb M) (sv (d:=.osl _ _ _) M))<|aA M (mvR M M M M)<|aA M (mvI M M M M)<|aA M (iF (r':=.int .i64 x22) (V:=[(1000,.blk 60 (mixD aB.toEnc0 (w22 a0 a1 a2 a3 a4) a5 [.int .i64 a6,.osl 1001 (eInt .i64).sz a7.length])),(1001,.blk 3 (D.flat (a7.map (eInt .i64).d)))]) 22 [1000,1001] M M (lb M) cl25 (.cons (svR M) (.cons (svI M) .nil)) M M M ⟨by decide,M,List.forall_mem_cons.2 ⟨⟨M,M,(jI aB M M M),(cW aB M M)⟩,List.forall_mem_cons.2 ⟨⟨M,M,(fW (eInt .i64) M),(bK (eInt .i64))⟩,List.forall_mem_nil _⟩⟩⟩ (jV _ _ _ _ _ _ _ _ _ _ hx22) M M (List.forall_mem_cons.2 ⟨⟨M,(cW aB M M)⟩,List.forall_mem_cons.2 ⟨⟨M,(bK (eInt .i64))⟩,List.forall_mem_nil _⟩⟩) (by simp only [List.map_cons,List.map_nil,Ent.ren,bL,bT,dE]; rfl) (List.forall_mem_cons.2 ⟨M,List.forall_mem_cons.2 ⟨M,List.forall_mem_nil _⟩⟩) M)<|aA M (nM (eInt .i64).toEnc0 ([x22]:(List Int)) 22 M M (lb M) underlying24 ti3 M (.cons (svI M) .nil) M M (by decide))<|aA M (lZ (eInt .i64).toEnc0 23 M M (lb M) underlying24 ti3 M M M M M (rQ (eInt .i64).toEnc0 M M M) hx23)<|aA M (aI M M (lb M) (sv (d:=.osl _ _ _) M))<|bE ?_)
    refine bI ?_
    refine aJ ?_
    obtain ⟨x24,hx24,h⟩:=aK h
    refine aS (aA M (aQ M M (lb M) (svI M) (sv (d:=.int _ 1) M) M hx24)<|aA M (mvI M M M M)<|bE ?_)
    refine aJ ⟨(n0,x23,x24),(fun i=>if i=21 then 23 else i),⟨(.sames M M),(.cons (EntW.mix aB M (SubC.of_eq M) (SubC.of_eq M) M M) (.cons (EntW.lst M) (.cons (EntW.lst M) .nil))),aY [1000,23,1001] M (by decide),(fun i hi=>by first | rfl | (show (if _ then _ else _)=_; (repeat' split) <;> omega))⟩,?_,?_⟩
    exact h
    exact Nat.lt_succ_self _
   ·
    replace h:=bY h hc19
    refine cA ?_
    refine bD ?_
    refine bD ?_
    refine cC ?_
    refine aJ ?_
    refine aF (aA M (aD M M (lb M) (sv (d:=.osl _ _ _) M))<|aA M (aI M M (lb M) (sv (d:=.osl _ _ _) M))<|aE ?_)
    refine bB ?_
    obtain rfl:=sj_ h
    refine ⟨.inr M,(fun i=>if i=0 then 21 else i),⟨.nil,(.cons (EntW.mix aB M (SubC.of_eq M) (SubC.of_eq M) M M) (.cons (EntW.lst M) (.cons (EntW.lst M) .nil))),aY [1000,1001,21] M (by decide),(fun i hi=>by first | rfl | (show (if _ then _ else _)=_; (repeat' split) <;> omega))⟩,(.cons (sv M) .nil),M⟩

theorem gV  (r:Bool) (h:gB=some r):fS prog 7 [] (.bool r):=by
 refine cR (rs:=[.bool r]) func7 M ntmps7 (nle M) M fun O hO=>?_
 show IWP _ _ _ _ ⟨[],[]⟩ _
 unfold gB at h
 refine aF (aA M (aI M M (lb M) (sv (d:=.bool false) M))<|aE ?_)
 refine aF (?_)
 refine gI (S':=⟨[],[]⟩) (fun i=>i) ⟨.nil,.nil,aY [] M (by decide),fun _ _=>M⟩ ?_
 refine kZ 1 0 M M M (by decide) cl15 func15 M (.cons (sv (d:=.int _ 8) M) (.cons (sv (d:=.int _ 2) M) .nil)) ntmps15 (nle M) M hO.semiL fun O1 hO1=>?_
 show IWP _ _ _ _ ⟨[(0,.int .i64 8),(1,.int .i64 2)],[(0,.kept 1 q5)]⟩ _
 refine aF (aA M (aI M M (lb M) (sv (d:=.nilp) M))<|aA M (aI M M (lb M) (sv (d:=.int _ 0) M))<|aE ?_)
 refine aU ?_
 obtain ⟨x1,hx1,h⟩:=aL h
 obtain ⟨x2,hx2,h⟩:=aL h
 obtain ⟨x3,hx3,h⟩:=aK h
 refine aF (aA M (mvI M M M M)<|aA M (bJ (r:=.bool _) M M (lb M) cl31 (.cons (svI M) (.cons (sv (d:=.int _ 1) M) (.cons (sv (d:=.int _ 24) M) .nil))) M (mV _ _ _ _ hx1))<|aA M (eX M M (lb M) (svB M))<|aA M (mvB M M M M)<|aH M M (.one M) M (by decide) (fun hb=>(mvI M M M M))<|aH M M (.one M) M (by decide) (fun hb=>(mvI M M M M))<|aH M M (.one M) M (by decide) (fun hb=>(bJ (r:=.bool _) M M (lb M) cl31 (.cons (svcI M hb) (.cons (sv (d:=.int _ 0) M) (.cons (svcI M hb) .nil))) M (mV _ _ _ _ (gd_t hx2 hb))))<|aH M M (.one M) M (by decide) (fun hb=>(eX M M (lb M) (svcB M hb)))<|aA M (qN M M (lb M) (svB M) M M hx3)<|aE ?_)
 refine aW (b:=_) M (fun hc4=>?_) (fun hc4=>?_)
 ·
  replace h:=bX h hc4
  refine aF (aA M (aI M M (lb M) (sv (d:=.nilp) M))<|aA M (aI M M (lb M) (sv (d:=.int _ 8) M))<|aE ?_)
  refine bB ?_
  refine bP ?_
  refine ⟨.inr M,0,_,[.nilp,.int .i64 8],(.cons (sv M) (.cons (sv M) .nil)),M,M,⟨[(19,.tuple [.nilp,.int .i64 8])],[]⟩,(fun i=>i),⟨(.sames M M),.nil,aY [] M (by decide),fun _ _=>M⟩,?_⟩
  refine aA M (aD M M (lb M) (sv (d:=.tuple [.nilp,.int _ _]) M))<|aA M (cM (d:=.nilp) M M (lb M) (sv (d:=.tuple [.nilp,.int _ _]) M) M)<|aA M (cM (d:=.int _ _) M M (lb M) (sv (d:=.tuple [.nilp,.int _ _]) M) M)<|aA M (aI M M (lb M) (sv (d:=.nilp) M))<|aA M (asI M M M M)<|aE ?_
  refine aU ?_
  obtain ⟨x5,hx5,h⟩:=aK h
  obtain ⟨x6,hx6,h⟩:=aK h
  refine aF (aA M (mvI M M M M)<|aA M (aO M M (lb M) (svI M) (sv (d:=.int _ 0) M) M hx5)<|aA M (mvB M M M M)<|aH M M (.one M) M (by decide) (fun hb=>(aD M M (lb M) (sv (d:=.nilp) M)))<|aH M M (.one M) M (by decide) (fun hb=>(oH M M (lb M) underlying26 (svc (d:=.nilp) M hb) (sv (d:=.nilp) M)))<|aA M (qN M M (lb M) (svB M) M M hx6)<|aE ?_)
  refine aW (b:=_) M (fun hc7=>?_) (fun hc7=>?_)
  ·
   replace h:=bX h hc7
   refine aF (aA M (aI M M (lb M) (sv (d:=.bool false) M))<|aE ?_)
   refine bB ?_
   refine bP ?_
   obtain rfl:=sj_ h
   refine ⟨.inr M,(.cons (sv M) .nil)⟩
  ·
   replace h:=bY h hc7
   refine aT ?_
   refine aJ ?_
   obtain ⟨x8,hx8,h⟩:=aL h
   obtain ⟨x9,hx9,h⟩:=aL h
   obtain ⟨x10,hx10,h⟩:=aL h
   refine aF (aA M (aD M M (lb M) (sv (d:=.nilp) M))<|aA M (bJ (r:=.int _ _) M M (lb M) cl18 (.cons (sv (d:=.nilp) M) (.cons (sv (d:=.int _ 1) M) (.cons (sv (d:=.int _ 0) M) (.cons (sv (d:=.int _ 16) M) (.cons (sv (d:=.bool false) M) .nil))))) M (kI _ _ _ _ _ hx8))<|aA M (aD M M (lb M) (sv (d:=.nilp) M))<|aA M (bJ (r:=.int _ _) M M (lb M) cl18 (.cons (sv (d:=.nilp) M) (.cons (sv (d:=.int _ 3) M) (.cons (sv (d:=.int _ 1) M) (.cons (sv (d:=.int _ 32) M) (.cons (sv (d:=.bool false) M) .nil))))) M (kI _ _ _ _ _ hx9))<|aA M (aD M M (lb M) (sv (d:=.nilp) M))<|aA M (bJ (r:=.int _ _) M M (lb M) cl18 (.cons (sv (d:=.nilp) M) (.cons (sv (d:=.int _ 5) M) (.cons (sv (d:=.int _ 3) M) (.cons (sv (d:=.int _ 8) M) (.cons (sv (d:=.bool false) M) .nil))))) M (kI _ _ _ _ _ hx10))<|aA M (asI M M M M)<|aA M (asI M M M M)<|aA M (asI M M M M)<|aE ?_)
   obtain ⟨x11,hx11,h⟩:=aL h
   refine aF (aA M (aD M M (lb M) (sv (d:=.nilp) M))<|aA M (bJ (r:=.int _ _) M M (lb M) cl17 (.cons (sv (d:=.nilp) M) (.cons (sv (d:=.int _ 1) M) (.cons (sv (d:=.int _ 5) M) (.cons (sv (d:=.int _ 4) M) (.cons (sv (d:=.bool true) M) .nil))))) M (qI _ _ _ _ _ hx11))<|aA M (asI M M M M)<|aE ?_)
   obtain ⟨x12,hx12,h⟩:=aL h
   obtain ⟨x13,hx13,h⟩:=aL h
   refine aF (aA M (aD M M (lb M) (sv (d:=.nilp) M))<|aA M (bJ (r:=.slice _ _) M M (lb M) cl9 (.cons (sv (d:=.nilp) M) .nil) M (qB  _ hx12))<|aA M (bJ (r:=.slice _ _) M M (lb M) cl19 (.cons (svL M) .nil) M (rH _ _ hx13))<|aA M (aI M M (lb M) (svL M))<|aE ?_)
   obtain ⟨x14,hx14,h⟩:=aL h
   refine aF (aA M (aD M M (lb M) (sv (d:=.nilp) M))<|aA M (bJ (r:=.slice _ _) M M (lb M) cl11 (.cons (sv (d:=.nilp) M) (.cons (sv (d:=.int _ 3) M) .nil)) M (qH _ _ hx14))<|aA M (aI M M (lb M) (svL M))<|aE ?_)
   obtain ⟨x15,hx15,h⟩:=aL h
   refine aF (aA M (aD M M (lb M) (sv (d:=.nilp) M))<|aA M (sH (eInt .i64) ([3,1,9]:(List Int)) 1 M M (lb M) underlying24 ti3 M (.cons (sv (d:=.int _ 3) M) (.cons (sv (d:=.int _ 1) M) (.cons (sv (d:=.int _ 9) M) .nil))) M M (by decide))<|aA M (bJ (r:=.slice _ _) M M (lb M) cl13 (.cons (sv (d:=.nilp) M) (.cons (svg M) .nil)) M (oC _ _ hx15))<|aA M (aI M M (lb M) (svL M))<|aE ?_)
   obtain ⟨x16,hx16,h⟩:=aL h
   obtain ⟨x17,hx17,h⟩:=aL h
   refine aF (aA M (aD M M (lb M) (sv (d:=.nilp) M))<|aA M (bJ (r:=.int _ _) M M (lb M) cl20 (.cons (sv (d:=.nilp) M) (.cons (sv (d:=.int _ 1) M) .nil)) M (oE _ _ hx16))<|aA M (aD M M (lb M) (sv (d:=.nilp) M))<|aA M (bJ (r:=.int _ _) M M (lb M) cl20 (.cons (sv (d:=.nilp) M) (.cons (sv (d:=.int _ 1) M) .nil)) M (oE _ _ hx17))<|aA M (asI M M M M)<|aA M (asI M M M M)<|aE ?_)
   obtain ⟨x18,hx18,h⟩:=aL h
   refine aF (aA M (aD M M (lb M) (sv (d:=.nilp) M))<|aA M (sH (eInt .i64) ([3,1,9]:(List Int)) 2 M M (lb M) underlying24 ti3 M (.cons (sv (d:=.int _ 3) M) (.cons (sv (d:=.int _ 1) M) (.cons (sv (d:=.int _ 9) M) .nil))) M M (by decide))<|aA M (bJ (r:=.slice _ _) M M (lb M) cl13 (.cons (sv (d:=.nilp) M) (.cons (svg M) .nil)) M (oC _ _ hx18))<|aA M (aI M M (lb M) (svL M))<|aE ?_)
   obtain ⟨x19,hx19,h⟩:=aL h
   refine aF (aA M (aD M M (lb M) (sv (d:=.nilp) M))<|aA M (bJ (r:=.int _ _) M M (lb M) cl21 (.cons (sv (d:=.nilp) M) (.cons (sv (d:=.int _ 1) M) .nil)) M (pM _ _ hx19))<|aA M (asI M M M M)<|aE ?_)
   obtain ⟨x20,hx20,h⟩:=aL h
   refine aF (aA M (aD M M (lb M) (sv (d:=.nilp) M))<|aA M (bJ (r:=.slice _ _) M M (lb M) cl12 (.cons (sv (d:=.nilp) M) (.cons (sv (d:=.int _ 5) M) .nil)) M (qJ _ _ hx20))<|aA M (aI M M (lb M) (svL M))<|aE ?_)
   obtain ⟨x21,hx21,h⟩:=aL h
   refine aF (aA M (aD M M (lb M) (sv (d:=.nilp) M))<|aA M (bJ (r:=.int _ _) M M (lb M) cl18 (.cons (sv (d:=.nilp) M) (.cons (sv (d:=.int _ 3) M) (.cons (sv (d:=.int _ 0) M) (.cons (sv (d:=.int _ 1) M) (.cons (sv (d:=.bool false) M) .nil))))) M (kI _ _ _ _ _ hx21))<|aA M (asI M M M M)<|aE ?_)
   refine aF (?_)
   refine gI (S':=⟨[(1,.nilp),(3,.int .i64 x8),(4,.int .i64 x9),(5,.int .i64 x10),(6,.int .i64 x11),(7,.slice false (x13.map aC.d)),(8,.slice false (x14.map (eInt .i64).d)),(9,.slice false (x15.map (eInt .i64).d)),(10,.int .i64 x16),(11,.int .i64 x17),(12,.slice false (x18.map (eInt .i64).d)),(13,.int .i64 x19),(14,.slice false (x20.map (eInt .i64).d)),(15,.int .i64 x21)],[]⟩) (fun i=>i) ⟨(.sames M M),.nil,aY [] M (by decide),fun _ _=>M⟩ ?_
   refine kZ 1 3 M M M (by decide) cl15 func15 M (.cons (sv (d:=.int _ 0) M) (.cons (sv (d:=.int _ 0) M) .nil)) ntmps15 (nle M) M hO.semiL fun O1 hO1=>?_
   show IWP _ _ _ _ ⟨[(0,.int .i64 0),(1,.int .i64 0)],[(3,.kept 1 [.dead,.nilp,.dead,.int .i64 x8,.int .i64 x9,.int .i64 x10,.int .i64 x11,.slice false (x13.map aC.d),.slice false (x14.map (eInt .i64).d),.slice false (x15.map (eInt .i64).d),.int .i64 x16,.int .i64 x17,.slice false (x18.map (eInt .i64).d),.int .i64 x19,.slice false (x20.map (eInt .i64).d),.int .i64 x21,.dead,.dead,.dead,.dead,.dead,.dead,.dead,.dead,.dead,.dead,.dead,.dead,.dead,.dead,.dead,.dead,.dead,.dead,.dead,.dead,.dead,.dead,.dead,.dead,.dead,.dead,.dead,.dead,.dead,.dead,.dead,.dead,.dead,.dead,.dead,.dead,.dead,.dead,.dead,.dead,.dead,.dead,.dead,.dead,.dead,.dead,.dead,.dead,.dead,.dead,.dead,.dead,.dead,.dead,.dead,.dead,.dead,.dead,.dead,.dead,.dead,.dead,.dead,.dead,.dead,.dead,.dead,.dead,.dead,.dead,.dead,.dead,.dead,.dead,.dead,.dead,.dead,.dead,.dead,.dead,.dead,.dead,.dead,.dead,.dead,.dead,.dead,.dead,.dead,.dead,.dead,.dead,.dead,.dead,.dead,.dead,.dead,.dead,.dead,.dead,.dead,.dead,.dead,.dead,.dead,.dead,.dead,.dead,.dead,.dead,.dead,.dead,.dead,.dead,.dead,.dead,.dead,.dead,.dead,.dead,.dead,.dead,.dead,.dead,.dead,.dead,.dead,.dead,.dead,.dead,.dead,.dead])]⟩ _
   refine aF (aA M (aI M M (lb M) (sv (d:=.nilp) M))<|aA M (aI M M (lb M) (sv (d:=.int _ 0) M))<|aE ?_)
   refine aU ?_
   obtain ⟨x22,hx22,h⟩:=aL h
   obtain ⟨x23,hx23,h⟩:=aL h
   obtain ⟨x24,hx24,h⟩:=aK h
   refine aF (aA M (mvI M M M M)<|aA M (bJ (r:=.bool _) M M (lb M) cl31 (.cons (svI M) (.cons (sv (d:=.int _ 1) M) (.cons (sv (d:=.int _ 24) M) .nil))) M (mV _ _ _ _ hx22))<|aA M (eX M M (lb M) (svB M))<|aA M (mvB M M M M)<|aH M M (.one M) M (by decide) (fun hb=>(mvI M M M M))<|aH M M (.one M) M (by decide) (fun hb=>(mvI M M M M))<|aH M M (.one M) M (by decide) (fun hb=>(bJ (r:=.bool _) M M (lb M) cl31 (.cons (svcI M hb) (.cons (sv (d:=.int _ 0) M) (.cons (svcI M hb) .nil))) M (mV _ _ _ _ (gd_t hx23 hb))))<|aH M M (.one M) M (by decide) (fun hb=>(eX M M (lb M) (svcB M hb)))<|aA M (qN M M (lb M) (svB M) M M hx24)<|aE ?_)
   refine aW (b:=_) M (fun hc25=>?_) (fun hc25=>?_)
   ·
    replace h:=bX h hc25
    refine aF (aA M (aI M M (lb M) (sv (d:=.nilp) M))<|aA M (aI M M (lb M) (sv (d:=.int _ 8) M))<|aE ?_)
    refine bB ?_
    refine bP ?_
    refine ⟨.inr M,3,_,[.nilp,.int .i64 8],(.cons (sv M) (.cons (sv M) .nil)),M,M,⟨[(1,.nilp),(3,.int .i64 x8),(4,.int .i64 x9),(5,.int .i64 x10),(6,.int .i64 x11),(7,.slice false (x13.map aC.d)),(8,.slice false (x14.map (eInt .i64).d)),(9,.slice false (x15.map (eInt .i64).d)),(10,.int .i64 x16),(11,.int .i64 x17),(12,.slice false (x18.map (eInt .i64).d)),(13,.int .i64 x19),(14,.slice false (x20.map (eInt .i64).d)),(15,.int .i64 x21),(58,.tuple [.nilp,.int .i64 8])],[]⟩,(fun i=>i),⟨(.sames M M),.nil,aY [] M (by decide),fun _ _=>M⟩,?_⟩
    refine aA M (aD M M (lb M) (sv (d:=.tuple [.nilp,.int _ _]) M))<|aA M (cM (d:=.nilp) M M (lb M) (sv (d:=.tuple [.nilp,.int _ _]) M) M)<|aA M (cM (d:=.int _ _) M M (lb M) (sv (d:=.tuple [.nilp,.int _ _]) M) M)<|aA M (aI M M (lb M) (sv (d:=.nilp) M))<|aA M (asI M M M M)<|aE ?_
    refine fL (α:=Bool) (fun z=>⟨[(0,.bool z)],[]⟩) (fun z=>lI z=some r) ?_ ?_
    ·
     obtain ⟨x77,hx77,h⟩:=aK h
     obtain ⟨x78,hx78,h⟩:=aK h
     obtain ⟨x79,hx79,h⟩:=aK h
     obtain ⟨x80,hx80,h⟩:=aK h
     obtain ⟨x81,hx81,h⟩:=aK h
     obtain ⟨x82,hx82,h⟩:=aK h
     obtain ⟨x83,hx83,h⟩:=aK h
     obtain ⟨x84,hx84,h⟩:=aL h
     obtain ⟨x85,hx85,h⟩:=aK h
     obtain ⟨x86,hx86,h⟩:=aL h
     obtain ⟨x87,hx87,h⟩:=aK h
     obtain ⟨x88,hx88,h⟩:=aL h
     obtain ⟨x89,hx89,h⟩:=aK h
     obtain ⟨x90,hx90,h⟩:=aK h
     obtain ⟨x91,hx91,h⟩:=aK h
     obtain ⟨x92,hx92,h⟩:=aK h
     obtain ⟨x93,hx93,h⟩:=aK h
     obtain ⟨x94,hx94,h⟩:=aL h
     obtain ⟨x95,hx95,h⟩:=aK h
     obtain ⟨x96,hx96,h⟩:=aK h
     obtain ⟨x97,hx97,h⟩:=aK h
     obtain ⟨x98,hx98,h⟩:=aL h
     obtain ⟨x99,hx99,h⟩:=aK h
     obtain ⟨x100,hx100,h⟩:=aK h
     obtain ⟨x101,hx101,h⟩:=aK h
     obtain ⟨x102,hx102,h⟩:=aK h
     obtain ⟨x103,hx103,h⟩:=aK h
     obtain ⟨x104,hx104,h⟩:=aL h
     obtain ⟨x105,hx105,h⟩:=aK h
     obtain ⟨x106,hx106,h⟩:=aK h
     refine aS (aA M (mvI M M M M)<|aA M (aO M M (lb M) (svI M) (sv (d:=.int _ 0) M) M hx77)<|aA M (mvB M M M M)<|aH M M (.one M) M (by decide) (fun hb=>(mvI M M M M))<|aH M M (.one M) M (by decide) (fun hb=>(aO M M (lb M) (svcI M hb) (sv (d:=.int _ 0) M) M hx78))<|aA M (bC M M (lb M) (svB M) M M hx79)<|aA M (mvB M M M M)<|aH M M (.one M) M (by decide) (fun hb=>(mvI M M M M))<|aH M M (.one M) M (by decide) (fun hb=>(aO M M (lb M) (svcI M hb) (sv (d:=.int _ 0) M) M hx80))<|aA M (bC M M (lb M) (svB M) M M hx81)<|aA M (mvB M M M M)<|aH M M (.one M) M (by decide) (fun hb=>(mvI M M M M))<|aH M M (.one M) M (by decide) (fun hb=>(aO M M (lb M) (svcI M hb) (sv (d:=.int _ 0) M) M hx82))<|aA M (bC M M (lb M) (svB M) M M hx83)<|aA M (mvB M M M M)<|aH M M (.one M) M (by decide) (fun hb=>(mvL M M M M))<|aH M M (.one M) M (by decide) (fun hb=>(cV (cs:=q9) M M (lb M) underlying50 ti50 pl50 M (.cons (sv (d:=.int _ 1) M) (.cons (sv (d:=.int _ 5) M) (.cons (sv (d:=.int _ 4) M) .nil))) M))<|aH M M (.one M) M (by decide) (fun hb=>(cV (cs:=q9) M M (lb M) underlying50 ti50 pl50 M (.cons (sv (d:=.int _ 3) M) (.cons (sv (d:=.int _ 1) M) (.cons (sv (d:=.int _ 32) M) .nil))) M))<|aH M M (.one M) M (by decide) (fun hb=>(cV (cs:=q9) M M (lb M) underlying50 ti50 pl50 M (.cons (sv (d:=.int _ 5) M) (.cons (sv (d:=.int _ 8) M) .nil)) M))<|aH M M (.one M) M (by decide) (fun hb=>(lP aC ([(⟨1,5,4,false⟩:aG),(⟨3,1,32,false⟩:aG),(⟨5,0,8,false⟩:aG)]:(List aG)) M M (lb M) underlying46 ti50 (.cons (svcA (w23 1 5 4 false) M hb) (.cons (svcA (w23 3 1 32 false) M hb) (.cons (svcA (w23 5 0 8 false) M hb) .nil))) M M (by decide)))<|aH M M (.one M) M (by decide) (fun hb=>(bJ (r:=.bool _) M M (lb M) cl22 (.cons (svcL M hb) (.cons (svcL M hb) .nil)) M (jS _ _ _ (gd_t hx84 hb))))<|aA M (bC M M (lb M) (svB M) M M hx85)<|aA M (mvB M M M M)<|aH M M (.one M) M (by decide) (fun hb=>(mvL M M M M))<|aH M M (.one M) M (by decide) (fun hb=>(lP (eInt .i64) ([1,5]:(List Int)) M M (lb M) underlying24 ti3 (.cons (sv (d:=.int _ 1) M) (.cons (sv (d:=.int _ 5) M) .nil)) M M (by decide)))<|aH M M (.one M) M (by decide) (fun hb=>(bJ (r:=.bool _) M M (lb M) cl23 (.cons (svcL M hb) (.cons (svcL M hb) .nil)) M (cT _ _ _ (gd_t hx86 hb))))<|aA M (bC M M (lb M) (svB M) M M hx87)<|aA M (mvB M M M M)<|aH M M (.one M) M (by decide) (fun hb=>(mvL M M M M))<|aH M M (.one M) M (by decide) (fun hb=>(lP (eInt .i64) ([1]:(List Int)) M M (lb M) underlying24 ti3 (.cons (sv (d:=.int _ 1) M) .nil) M M (by decide)))<|aH M M (.one M) M (by decide) (fun hb=>(bJ (r:=.bool _) M M (lb M) cl23 (.cons (svcL M hb) (.cons (svcL M hb) .nil)) M (cT _ _ _ (gd_t hx88 hb))))<|aA M (bC M M (lb M) (svB M) M M hx89)<|aA M (mvB M M M M)<|aH M M (.one M) M (by decide) (fun hb=>(mvI M M M M))<|aH M M (.one M) M (by decide) (fun hb=>(aO M M (lb M) (svcI M hb) (sv (d:=.int _ 0) M) M hx90))<|aA M (bC M M (lb M) (svB M) M M hx91)<|aA M (mvB M M M M)<|aH M M (.one M) M (by decide) (fun hb=>(mvI M M M M))<|aH M M (.one M) M (by decide) (fun hb=>(aO M M (lb M) (svcI M hb) (sv (d:=.int _ 9) M) M hx92))<|aA M (bC M M (lb M) (svB M) M M hx93)<|aA M (mvB M M M M)<|aH M M (.one M) M (by decide) (fun hb=>(mvL M M M M))<|aH M M (.one M) M (by decide) (fun hb=>(lP (eInt .i64) ([3]:(List Int)) M M (lb M) underlying24 ti3 (.cons (sv (d:=.int _ 3) M) .nil) M M (by decide)))<|aH M M (.one M) M (by decide) (fun hb=>(bJ (r:=.bool _) M M (lb M) cl23 (.cons (svcL M hb) (.cons (svcL M hb) .nil)) M (cT _ _ _ (gd_t hx94 hb))))<|aA M (bC M M (lb M) (svB M) M M hx95)<|aA M (mvB M M M M)<|aH M M (.one M) M (by decide) (fun hb=>(mvI M M M M))<|aH M M (.one M) M (by decide) (fun hb=>(aO M M (lb M) (svcI M hb) (sv (d:=.int _ 0) M) M hx96))<|aA M (bC M M (lb M) (svB M) M M hx97)<|aA M (mvB M M M M)<|aH M M (.one M) M (by decide) (fun hb=>(mvL M M M M))<|aH M M (.one M) M (by decide) (fun hb=>(lP (eInt .i64) ([3]:(List Int)) M M (lb M) underlying24 ti3 (.cons (sv (d:=.int _ 3) M) .nil) M M (by decide)))<|aH M M (.one M) M (by decide) (fun hb=>(bJ (r:=.bool _) M M (lb M) cl23 (.cons (svcL M hb) (.cons (svcL M hb) .nil)) M (cT _ _ _ (gd_t hx98 hb))))<|aA M (bC M M (lb M) (svB M) M M hx99)<|aA M (mvB M M M M)<|aH M M (.one M) M (by decide) (fun hb=>(mvI M M M M))<|aH M M (.one M) M (by decide) (fun hb=>(aO M M (lb M) (svcI M hb) (sv (d:=.int _ 13) M) M hx100))<|aA M (bC M M (lb M) (svB M) M M hx101)<|aA M (mvB M M M M)<|aH M M (.one M) M (by decide) (fun hb=>(mvI M M M M))<|aH M M (.one M) M (by decide) (fun hb=>(aO M M (lb M) (svcI M hb) (sv (d:=.int _ 8) M) M hx102))<|aA M (bC M M (lb M) (svB M) M M hx103)<|aA M (mvB M M M M)<|aH M M (.one M) M (by decide) (fun hb=>(aD M M (lb M) (sv (d:=.nilp) M)))<|aH M M (.one M) M (by decide) (fun hb=>(bJ (r:=.int _ _) M M (lb M) cl14 (.cons (svc (d:=.nilp) M hb) .nil) M (iH  _ (gd_t hx104 hb))))<|aH M M (.one M) M (by decide) (fun hb=>(aO M M (lb M) (svcI M hb) (sv (d:=.int _ 2) M) M hx105))<|aA M (bC M M (lb M) (svB M) M M hx106)<|aA M (mvB M M M M)<|aH M M (.one M) M (by decide) (fun hb=>(aD M M (lb M) (sv (d:=.nilp) M))) <|?_)
     refine fZ (.slice false (([]:List Int).map (eInt .i64).d)) M M (.one M) M (by decide) (fun hc107=>?_) (fun hc107=>?_)
     ·
      replace h:=bX h hc107
      refine kY 129 M hc107 ?_
      obtain ⟨x108,hx108,h⟩:=aL h
      obtain ⟨x109,hx109,h⟩:=aK h
      obtain ⟨x110,hx110,h⟩:=aK h
      obtain ⟨x111,hx111,h⟩:=aK h
      obtain ⟨x112,hx112,h⟩:=aK h
      obtain ⟨x113,hx113,h⟩:=aK h
      obtain ⟨x114,hx114,h⟩:=aK h
      obtain ⟨x115,hx115,h⟩:=aK h
      obtain ⟨x116,hx116,h⟩:=aK h
      obtain ⟨x117,hx117,h⟩:=aK h
      refine aA M (bJ (r:=.slice _ _) M M (lb M) cl10 (.cons (sv (d:=.nilp) M) .nil) M (nL  _ hx108))<|aH M M (.one M) M (by decide) (fun hb=>(dU (eInt .i64) (l:=x108) M M (lb M) underlying24 (svL M)))<|aH M M (.one M) M (by decide) (fun hb=>(aO M M (lb M) (svcI M hb) (sv (d:=.int _ 0) M) M hx109))<|aA M (bC M M (lb M) (svB M) M M hx110)<|aA M (mvB M M M M)<|aA M (cK M M (lb M) (svB M) M M hx111)<|aA M (mvB M M M M)<|aA M (cK M M (lb M) (svB M) M M hx112)<|aA M (mvB M M M M)<|aA M (cK M M (lb M) (svB M) M M hx113)<|aA M (mvB M M M M)<|aA M (cK M M (lb M) (svB M) M M hx114)<|aA M (mvB M M M M)<|aA M (cK M M (lb M) (svB M) M M hx115)<|aA M (mvB M M M M)<|aA M (cK M M (lb M) (svB M) M M hx116)<|aA M (mvB M M M M)<|aA M (cK M M (lb M) (svB M) M M hx117)<|aA M (asB M M M M)<|bE ?_
      refine aJ ⟨x117,(fun i=>i),⟨(.sames M M),.nil,aY [] M (by decide),fun _ _=>M⟩,?_⟩
      exact h
     ·
      replace h:=bY h hc107
      obtain ⟨x118,hx118,h⟩:=aK h
      obtain ⟨x119,hx119,h⟩:=aK h
      obtain ⟨x120,hx120,h⟩:=aK h
      obtain ⟨x121,hx121,h⟩:=aK h
      obtain ⟨x122,hx122,h⟩:=aK h
      obtain ⟨x123,hx123,h⟩:=aK h
      obtain ⟨x124,hx124,h⟩:=aK h
      obtain ⟨x125,hx125,h⟩:=aK h
      obtain ⟨x126,hx126,h⟩:=aK h
      refine aH M M (.one M) M (by decide) (fun hb=>(dU (eInt .i64) (l:=([]:(List Int))) M M (lb M) underlying24 (svcL M hb)))<|aH M M (.one M) M (by decide) (fun hb=>(aO M M (lb M) (svcI M hb) (sv (d:=.int _ 0) M) M hx118))<|aA M (bC M M (lb M) (svB M) M M hx119)<|aA M (mvB M M M M)<|aA M (cK M M (lb M) (svB M) M M hx120)<|aA M (mvB M M M M)<|aA M (cK M M (lb M) (svB M) M M hx121)<|aA M (mvB M M M M)<|aA M (cK M M (lb M) (svB M) M M hx122)<|aA M (mvB M M M M)<|aA M (cK M M (lb M) (svB M) M M hx123)<|aA M (mvB M M M M)<|aA M (cK M M (lb M) (svB M) M M hx124)<|aA M (mvB M M M M)<|aA M (cK M M (lb M) (svB M) M M hx125)<|aA M (mvB M M M M)<|aA M (cK M M (lb M) (svB M) M M hx126)<|aA M (asB M M M M)<|bE ?_
      refine aJ ⟨x126,(fun i=>i),⟨(.sames M M),.nil,aY [] M (by decide),fun _ _=>M⟩,?_⟩
      exact h
    ·
     rintro v76 h
     unfold lI at h
     refine bB ?_
     obtain rfl:=sj_ h
     refine ⟨.inr M,(.cons (sv M) .nil)⟩
   ·
    replace h:=bY h hc25
    refine aT ?_
    refine aJ ?_
    obtain ⟨x127,hx127,h⟩:=aL h
    refine aF (aA M (mvI M M M M)<|aA M (mvI M M M M)<|aA M (bJ (r:=.agg q10) M M (lb M) cl32 .nil M (rM  _ hx127))<|aA M (cV (cs:=(mixD aB.toEnc0 q7 (List.replicate 64 (⟨0,0,0,0,0,false⟩:aM):(List aM)) [.int _ _,.nils])) M M (lb M) underlying60 ti60 pl60 M (.cons (svI M) (.cons (svI M) (.cons (svA q10 M) (.cons (sv (d:=.int _ (-1)) M) .nil)))) (by kernel_rfl))<|aA M (fE (cs:=(mixD aB.toEnc0 q7 (List.replicate 64 (⟨0,0,0,0,0,false⟩:aM):(List aM)) [.int _ _,.nils])) 4 M M (lb M) M (sv (d:=.agg (mixD aB.toEnc0 q7 (List.replicate 64 (⟨0,0,0,0,0,false⟩:aM):(List aM)) [.int _ _,.nils])) M) M M)<|gI (S':=⟨[(0,.int .i64 0),(1,.int .i64 0),(4,.nilp),(5,.int .i64 0),(6,.int .i64 0),(7,.bool x22),(8,.bool (!x22)),(9,.bool (!x22)),(14,.bool x24),(15,.int .i64 0),(16,.int .i64 0),(17,.agg (v1 x127)),(18,.agg (mixD aB.toEnc0 (w22 0 0 x127.Cells x127.Free x127.Used) (List.replicate 64 (⟨0,0,0,0,0,false⟩:aM):(List aM)) [.int .i64 (-1),.nils])),(19,.ref 4 0)],[(5,.blk 3 (D.flat (([]:(List Int)).map (eInt .i64).d))),(3,.kept 1 [.dead,.nilp,.dead,.int .i64 x8,.int .i64 x9,.int .i64 x10,.int .i64 x11,.slice false (x13.map aC.d),.slice false (x14.map (eInt .i64).d),.slice false (x15.map (eInt .i64).d),.int .i64 x16,.int .i64 x17,.slice false (x18.map (eInt .i64).d),.int .i64 x19,.slice false (x20.map (eInt .i64).d),.int .i64 x21,.dead,.dead,.dead,.dead,.dead,.dead,.dead,.dead,.dead,.dead,.dead,.dead,.dead,.dead,.dead,.dead,.dead,.dead,.dead,.dead,.dead,.dead,.dead,.dead,.dead,.dead,.dead,.dead,.dead,.dead,.dead,.dead,.dead,.dead,.dead,.dead,.dead,.dead,.dead,.dead,.dead,.dead,.dead,.dead,.dead,.dead,.dead,.dead,.dead,.dead,.dead,.dead,.dead,.dead,.dead,.dead,.dead,.dead,.dead,.dead,.dead,.dead,.dead,.dead,.dead,.dead,.dead,.dead,.dead,.dead,.dead,.dead,.dead,.dead,.dead,.dead,.dead,.dead,.dead,.dead,.dead,.dead,.dead,.dead,.dead,.dead,.dead,.dead,.dead,.dead,.dead,.dead,.dead,.dead,.dead,.dead,.dead,.dead,.dead,.dead,.dead,.dead,.dead,.dead,.dead,.dead,.dead,.dead,.dead,.dead,.dead,.dead,.dead,.dead,.dead,.dead,.dead,.dead,.dead,.dead,.dead,.dead,.dead,.dead,.dead,.dead,.dead,.dead,.dead,.dead,.dead,.dead]),(4,.blk 60 (mixD aB.toEnc0 (w22 0 0 x127.Cells x127.Free x127.Used) (List.replicate 64 (⟨0,0,0,0,0,false⟩:aM):(List aM)) [.int .i64 (-1),.osl 5 (eInt .i64).sz 0]))]⟩) (fun i=>if i=5 then 60 else i) ⟨(.sames M M),(.cons (.nilb M) (.cons (.kept M M M) (.cons (EntW.mix aB M (SubC.of_eq M) (.same (.nilo .nil)) M M) .nil))),aY [60,3,4] M (by decide),(fun i hi=>by first | rfl | (show (if _ then _ else _)=_; (repeat' split) <;> omega))⟩<|aA M (aI M M (lb M) (svR M))<|aA M (aI M M (lb M) (sv (d:=.int _ 0) M))<|aE ?_)
    refine bB ?_
    refine ⟨.inr M,3,_,[.ref 4 0,.int .i64 0],(.cons (sv M) (.cons (sv M) .nil)),M,M,⟨[(1,.nilp),(3,.int .i64 x8),(4,.int .i64 x9),(5,.int .i64 x10),(6,.int .i64 x11),(7,.slice false (x13.map aC.d)),(8,.slice false (x14.map (eInt .i64).d)),(9,.slice false (x15.map (eInt .i64).d)),(10,.int .i64 x16),(11,.int .i64 x17),(12,.slice false (x18.map (eInt .i64).d)),(13,.int .i64 x19),(14,.slice false (x20.map (eInt .i64).d)),(15,.int .i64 x21),(58,.tuple [.ref 4 0,.int .i64 0])],[(4,.blk 60 (mixD aB.toEnc0 (w22 0 0 x127.Cells x127.Free x127.Used) (List.replicate 64 (⟨0,0,0,0,0,false⟩:aM):(List aM)) [.int .i64 (-1),.osl 5 (eInt .i64).sz 0])),(5,.blk 3 (D.flat (([]:(List Int)).map (eInt .i64).d)))]⟩,(fun i=>i),⟨(.sames M M),(.cons (EntW.mix aB M (SubC.of_eq M) (SubC.of_eq M) M M) (.cons (EntW.lst M) .nil)),aY [4,5] M (by decide),fun _ _=>M⟩,?_⟩
    refine aA M (aD M M (lb M) (sv (d:=.tuple q18) M))<|aA M (cM (d:=.ref _ _) M M (lb M) (sv (d:=.tuple q18) M) M)<|aA M (cM (d:=.int _ _) M M (lb M) (sv (d:=.tuple q18) M) M)<|aA M (aI M M (lb M) (svR M))<|aA M (asI M M M M)<|aE ?_
    refine fL (α:=Bool) (fun z=>⟨[(0,.bool z)],[]⟩) (fun z=>lH z=some r) ?_ ?_
    ·
     obtain ⟨x179,hx179,h⟩:=aK h
     obtain ⟨x180,hx180,h⟩:=aK h
     obtain ⟨x181,hx181,h⟩:=aK h
     obtain ⟨x182,hx182,h⟩:=aK h
     obtain ⟨x183,hx183,h⟩:=aK h
     obtain ⟨x184,hx184,h⟩:=aK h
     obtain ⟨x185,hx185,h⟩:=aK h
     obtain ⟨x186,hx186,h⟩:=aL h
     obtain ⟨x187,hx187,h⟩:=aK h
     obtain ⟨x188,hx188,h⟩:=aL h
     obtain ⟨x189,hx189,h⟩:=aK h
     obtain ⟨x190,hx190,h⟩:=aL h
     obtain ⟨x191,hx191,h⟩:=aK h
     obtain ⟨x192,hx192,h⟩:=aK h
     obtain ⟨x193,hx193,h⟩:=aK h
     obtain ⟨x194,hx194,h⟩:=aK h
     obtain ⟨x195,hx195,h⟩:=aK h
     obtain ⟨x196,hx196,h⟩:=aL h
     obtain ⟨x197,hx197,h⟩:=aK h
     obtain ⟨x198,hx198,h⟩:=aK h
     obtain ⟨x199,hx199,h⟩:=aK h
     obtain ⟨x200,hx200,h⟩:=aL h
     obtain ⟨x201,hx201,h⟩:=aK h
     obtain ⟨x202,hx202,h⟩:=aK h
     obtain ⟨x203,hx203,h⟩:=aK h
     obtain ⟨x204,hx204,h⟩:=aK h
     obtain ⟨x205,hx205,h⟩:=aK h
     obtain ⟨x206,hx206,h⟩:=aL h
     obtain ⟨x207,hx207,h⟩:=aK h
     obtain ⟨x208,hx208,h⟩:=aK h
     refine aS (aA M (mvI M M M M)<|aA M (aO M M (lb M) (svI M) (sv (d:=.int _ 0) M) M hx179)<|aA M (mvB M M M M)<|aH M M (.one M) M (by decide) (fun hb=>(mvI M M M M))<|aH M M (.one M) M (by decide) (fun hb=>(aO M M (lb M) (svcI M hb) (sv (d:=.int _ 0) M) M hx180))<|aA M (bC M M (lb M) (svB M) M M hx181)<|aA M (mvB M M M M)<|aH M M (.one M) M (by decide) (fun hb=>(mvI M M M M))<|aH M M (.one M) M (by decide) (fun hb=>(aO M M (lb M) (svcI M hb) (sv (d:=.int _ 0) M) M hx182))<|aA M (bC M M (lb M) (svB M) M M hx183)<|aA M (mvB M M M M)<|aH M M (.one M) M (by decide) (fun hb=>(mvI M M M M))<|aH M M (.one M) M (by decide) (fun hb=>(aO M M (lb M) (svcI M hb) (sv (d:=.int _ 0) M) M hx184))<|aA M (bC M M (lb M) (svB M) M M hx185)<|aA M (mvB M M M M)<|aH M M (.one M) M (by decide) (fun hb=>(mvL M M M M))<|aH M M (.one M) M (by decide) (fun hb=>(cV (cs:=q9) M M (lb M) underlying50 ti50 pl50 M (.cons (sv (d:=.int _ 1) M) (.cons (sv (d:=.int _ 5) M) (.cons (sv (d:=.int _ 4) M) .nil))) M))<|aH M M (.one M) M (by decide) (fun hb=>(cV (cs:=q9) M M (lb M) underlying50 ti50 pl50 M (.cons (sv (d:=.int _ 3) M) (.cons (sv (d:=.int _ 1) M) (.cons (sv (d:=.int _ 32) M) .nil))) M))<|aH M M (.one M) M (by decide) (fun hb=>(cV (cs:=q9) M M (lb M) underlying50 ti50 pl50 M (.cons (sv (d:=.int _ 5) M) (.cons (sv (d:=.int _ 8) M) .nil)) M))<|aH M M (.one M) M (by decide) (fun hb=>(lP aC ([(⟨1,5,4,false⟩:aG),(⟨3,1,32,false⟩:aG),(⟨5,0,8,false⟩:aG)]:(List aG)) M M (lb M) underlying46 ti50 (.cons (svcA (w23 1 5 4 false) M hb) (.cons (svcA (w23 3 1 32 false) M hb) (.cons (svcA (w23 5 0 8 false) M hb) .nil))) M M (by decide)))<|aH M M (.one M) M (by decide) (fun hb=>(bJ (r:=.bool _) M M (lb M) cl22 (.cons (svcL M hb) (.cons (svcL M hb) .nil)) M (jS _ _ _ (gd_t hx186 hb))))<|aA M (bC M M (lb M) (svB M) M M hx187)<|aA M (mvB M M M M)<|aH M M (.one M) M (by decide) (fun hb=>(mvL M M M M))<|aH M M (.one M) M (by decide) (fun hb=>(lP (eInt .i64) ([1,5]:(List Int)) M M (lb M) underlying24 ti3 (.cons (sv (d:=.int _ 1) M) (.cons (sv (d:=.int _ 5) M) .nil)) M M (by decide)))<|aH M M (.one M) M (by decide) (fun hb=>(bJ (r:=.bool _) M M (lb M) cl23 (.cons (svcL M hb) (.cons (svcL M hb) .nil)) M (cT _ _ _ (gd_t hx188 hb))))<|aA M (bC M M (lb M) (svB M) M M hx189)<|aA M (mvB M M M M)<|aH M M (.one M) M (by decide) (fun hb=>(mvL M M M M))<|aH M M (.one M) M (by decide) (fun hb=>(lP (eInt .i64) ([1]:(List Int)) M M (lb M) underlying24 ti3 (.cons (sv (d:=.int _ 1) M) .nil) M M (by decide)))<|aH M M (.one M) M (by decide) (fun hb=>(bJ (r:=.bool _) M M (lb M) cl23 (.cons (svcL M hb) (.cons (svcL M hb) .nil)) M (cT _ _ _ (gd_t hx190 hb))))<|aA M (bC M M (lb M) (svB M) M M hx191)<|aA M (mvB M M M M)<|aH M M (.one M) M (by decide) (fun hb=>(mvI M M M M))<|aH M M (.one M) M (by decide) (fun hb=>(aO M M (lb M) (svcI M hb) (sv (d:=.int _ 0) M) M hx192))<|aA M (bC M M (lb M) (svB M) M M hx193)<|aA M (mvB M M M M)<|aH M M (.one M) M (by decide) (fun hb=>(mvI M M M M))<|aH M M (.one M) M (by decide) (fun hb=>(aO M M (lb M) (svcI M hb) (sv (d:=.int _ 9) M) M hx194))<|aA M (bC M M (lb M) (svB M) M M hx195)<|aA M (mvB M M M M)<|aH M M (.one M) M (by decide) (fun hb=>(mvL M M M M))<|aH M M (.one M) M (by decide) (fun hb=>(lP (eInt .i64) ([3]:(List Int)) M M (lb M) underlying24 ti3 (.cons (sv (d:=.int _ 3) M) .nil) M M (by decide)))<|aH M M (.one M) M (by decide) (fun hb=>(bJ (r:=.bool _) M M (lb M) cl23 (.cons (svcL M hb) (.cons (svcL M hb) .nil)) M (cT _ _ _ (gd_t hx196 hb))))<|aA M (bC M M (lb M) (svB M) M M hx197)<|aA M (mvB M M M M)<|aH M M (.one M) M (by decide) (fun hb=>(mvI M M M M))<|aH M M (.one M) M (by decide) (fun hb=>(aO M M (lb M) (svcI M hb) (sv (d:=.int _ 0) M) M hx198))<|aA M (bC M M (lb M) (svB M) M M hx199)<|aA M (mvB M M M M)<|aH M M (.one M) M (by decide) (fun hb=>(mvL M M M M))<|aH M M (.one M) M (by decide) (fun hb=>(lP (eInt .i64) ([3]:(List Int)) M M (lb M) underlying24 ti3 (.cons (sv (d:=.int _ 3) M) .nil) M M (by decide)))<|aH M M (.one M) M (by decide) (fun hb=>(bJ (r:=.bool _) M M (lb M) cl23 (.cons (svcL M hb) (.cons (svcL M hb) .nil)) M (cT _ _ _ (gd_t hx200 hb))))<|aA M (bC M M (lb M) (svB M) M M hx201)<|aA M (mvB M M M M)<|aH M M (.one M) M (by decide) (fun hb=>(mvI M M M M))<|aH M M (.one M) M (by decide) (fun hb=>(aO M M (lb M) (svcI M hb) (sv (d:=.int _ 13) M) M hx202))<|aA M (bC M M (lb M) (svB M) M M hx203)<|aA M (mvB M M M M)<|aH M M (.one M) M (by decide) (fun hb=>(mvI M M M M))<|aH M M (.one M) M (by decide) (fun hb=>(aO M M (lb M) (svcI M hb) (sv (d:=.int _ 8) M) M hx204))<|aA M (bC M M (lb M) (svB M) M M hx205)<|aA M (mvB M M M M)<|aH M M (.one M) M (by decide) (fun hb=>(aD M M (lb M) (sv (d:=.nilp) M)))<|aH M M (.one M) M (by decide) (fun hb=>(bJ (r:=.int _ _) M M (lb M) cl14 (.cons (svc (d:=.nilp) M hb) .nil) M (iH  _ (gd_t hx206 hb))))<|aH M M (.one M) M (by decide) (fun hb=>(aO M M (lb M) (svcI M hb) (sv (d:=.int _ 2) M) M hx207))<|aA M (bC M M (lb M) (svB M) M M hx208)<|aA M (mvB M M M M)<|aH M M (.one M) M (by decide) (fun hb=>(aD M M (lb M) (sv (d:=.nilp) M))) <|?_)
     refine fZ (.slice false (([]:List Int).map (eInt .i64).d)) M M (.one M) M (by decide) (fun hc209=>?_) (fun hc209=>?_)
     ·
      replace h:=bX h hc209
      refine kY 129 M hc209 ?_
      obtain ⟨x210,hx210,h⟩:=aL h
      obtain ⟨x211,hx211,h⟩:=aK h
      obtain ⟨x212,hx212,h⟩:=aK h
      obtain ⟨x213,hx213,h⟩:=aK h
      obtain ⟨x214,hx214,h⟩:=aK h
      obtain ⟨x215,hx215,h⟩:=aK h
      obtain ⟨x216,hx216,h⟩:=aK h
      obtain ⟨x217,hx217,h⟩:=aK h
      obtain ⟨x218,hx218,h⟩:=aK h
      obtain ⟨x219,hx219,h⟩:=aK h
      refine aA M (bJ (r:=.slice _ _) M M (lb M) cl10 (.cons (sv (d:=.nilp) M) .nil) M (nL  _ hx210))<|aH M M (.one M) M (by decide) (fun hb=>(dU (eInt .i64) (l:=x210) M M (lb M) underlying24 (svL M)))<|aH M M (.one M) M (by decide) (fun hb=>(aO M M (lb M) (svcI M hb) (sv (d:=.int _ 0) M) M hx211))<|aA M (bC M M (lb M) (svB M) M M hx212)<|aA M (mvB M M M M)<|aA M (cK M M (lb M) (svB M) M M hx213)<|aA M (mvB M M M M)<|aA M (cK M M (lb M) (svB M) M M hx214)<|aA M (mvB M M M M)<|aA M (cK M M (lb M) (svB M) M M hx215)<|aA M (mvB M M M M)<|aA M (cK M M (lb M) (svB M) M M hx216)<|aA M (mvB M M M M)<|aA M (cK M M (lb M) (svB M) M M hx217)<|aA M (mvB M M M M)<|aA M (cK M M (lb M) (svB M) M M hx218)<|aA M (mvB M M M M)<|aA M (cK M M (lb M) (svB M) M M hx219)<|aA M (asB M M M M)<|bE ?_
      refine aJ ⟨x219,(fun i=>i),⟨(.sames M M),.nil,aY [] M (by decide),fun _ _=>M⟩,?_⟩
      exact h
     ·
      replace h:=bY h hc209
      obtain ⟨x220,hx220,h⟩:=aK h
      obtain ⟨x221,hx221,h⟩:=aK h
      obtain ⟨x222,hx222,h⟩:=aK h
      obtain ⟨x223,hx223,h⟩:=aK h
      obtain ⟨x224,hx224,h⟩:=aK h
      obtain ⟨x225,hx225,h⟩:=aK h
      obtain ⟨x226,hx226,h⟩:=aK h
      obtain ⟨x227,hx227,h⟩:=aK h
      obtain ⟨x228,hx228,h⟩:=aK h
      refine aH M M (.one M) M (by decide) (fun hb=>(dU (eInt .i64) (l:=([]:(List Int))) M M (lb M) underlying24 (svcL M hb)))<|aH M M (.one M) M (by decide) (fun hb=>(aO M M (lb M) (svcI M hb) (sv (d:=.int _ 0) M) M hx220))<|aA M (bC M M (lb M) (svB M) M M hx221)<|aA M (mvB M M M M)<|aA M (cK M M (lb M) (svB M) M M hx222)<|aA M (mvB M M M M)<|aA M (cK M M (lb M) (svB M) M M hx223)<|aA M (mvB M M M M)<|aA M (cK M M (lb M) (svB M) M M hx224)<|aA M (mvB M M M M)<|aA M (cK M M (lb M) (svB M) M M hx225)<|aA M (mvB M M M M)<|aA M (cK M M (lb M) (svB M) M M hx226)<|aA M (mvB M M M M)<|aA M (cK M M (lb M) (svB M) M M hx227)<|aA M (mvB M M M M)<|aA M (cK M M (lb M) (svB M) M M hx228)<|aA M (asB M M M M)<|bE ?_
      refine aJ ⟨x228,(fun i=>i),⟨(.sames M M),.nil,aY [] M (by decide),fun _ _=>M⟩,?_⟩
      exact h
    ·
     rintro v178 h
     unfold lH at h
     refine bB ?_
     obtain rfl:=sj_ h
     refine ⟨.inr M,(.cons (sv M) .nil)⟩
 ·
  replace h:=bY h hc4
  refine aT ?_
  refine aJ ?_
  obtain ⟨x229,hx229,h⟩:=aL h
  refine aF (aA M (mvI M M M M)<|aA M (mvI M M M M)<|aA M (bJ (r:=.agg q10) M M (lb M) cl32 .nil M (rM  _ hx229))<|aA M (cV (cs:=(mixD aB.toEnc0 q7 (List.replicate 64 (⟨0,0,0,0,0,false⟩:aM):(List aM)) [.int _ _,.nils])) M M (lb M) underlying60 ti60 pl60 M (.cons (svI M) (.cons (svI M) (.cons (svA q10 M) (.cons (sv (d:=.int _ (-1)) M) .nil)))) (by kernel_rfl))<|aA M (fE (cs:=(mixD aB.toEnc0 q7 (List.replicate 64 (⟨0,0,0,0,0,false⟩:aM):(List aM)) [.int _ _,.nils])) 1 M M (lb M) M (sv (d:=.agg (mixD aB.toEnc0 q7 (List.replicate 64 (⟨0,0,0,0,0,false⟩:aM):(List aM)) [.int _ _,.nils])) M) M M)<|gI (S':=⟨[(0,.int .i64 8),(1,.int .i64 2),(4,.nilp),(5,.int .i64 0),(6,.int .i64 8),(7,.bool x1),(8,.bool (!x1)),(9,.bool (!x1)),(14,.bool x3),(15,.int .i64 8),(16,.int .i64 2),(17,.agg (v1 x229)),(18,.agg (mixD aB.toEnc0 (w22 8 2 x229.Cells x229.Free x229.Used) (List.replicate 64 (⟨0,0,0,0,0,false⟩:aM):(List aM)) [.int .i64 (-1),.nils])),(19,.ref 1 0)],[(2,.blk 3 (D.flat (([]:(List Int)).map (eInt .i64).d))),(0,.kept 1 q5),(1,.blk 60 (mixD aB.toEnc0 (w22 8 2 x229.Cells x229.Free x229.Used) (List.replicate 64 (⟨0,0,0,0,0,false⟩:aM):(List aM)) [.int .i64 (-1),.osl 2 (eInt .i64).sz 0]))]⟩) (fun i=>if i=2 then 54 else i) ⟨(.sames M M),(.cons (.nilb M) (.cons (.kept M M M) (.cons (EntW.mix aB M (SubC.of_eq M) (.same (.nilo .nil)) M M) .nil))),aY [54,0,1] M (by decide),(fun i hi=>by first | rfl | (show (if _ then _ else _)=_; (repeat' split) <;> omega))⟩<|aA M (aI M M (lb M) (svR M))<|aA M (aI M M (lb M) (sv (d:=.int _ 0) M))<|aE ?_)
  refine bB ?_
  refine ⟨.inr M,0,_,[.ref 1 0,.int .i64 0],(.cons (sv M) (.cons (sv M) .nil)),M,M,⟨[(19,.tuple [.ref 1 0,.int .i64 0])],[(1,.blk 60 (mixD aB.toEnc0 (w22 8 2 x229.Cells x229.Free x229.Used) (List.replicate 64 (⟨0,0,0,0,0,false⟩:aM):(List aM)) [.int .i64 (-1),.osl 2 (eInt .i64).sz 0])),(2,.blk 3 (D.flat (([]:(List Int)).map (eInt .i64).d)))]⟩,(fun i=>i),⟨(.sames M M),(.cons (EntW.mix aB M (SubC.of_eq M) (SubC.of_eq M) M M) (.cons (EntW.lst M) .nil)),aY [1,2] M (by decide),fun _ _=>M⟩,?_⟩
  refine aA M (aD M M (lb M) (sv (d:=.tuple q18) M))<|aA M (cM (d:=.ref _ _) M M (lb M) (sv (d:=.tuple q18) M) M)<|aA M (cM (d:=.int _ _) M M (lb M) (sv (d:=.tuple q18) M) M)<|aA M (aI M M (lb M) (svR M))<|aA M (asI M M M M)<|aE ?_
  refine aU ?_
  obtain ⟨x230,hx230,h⟩:=aK h
  obtain ⟨x231,hx231,h⟩:=aK h
  refine aF (aA M (mvI M M M M)<|aA M (aO M M (lb M) (svI M) (sv (d:=.int _ 0) M) M hx230)<|aA M (mvB M M M M)<|aH M M (.one M) M (by decide) (fun hb=>(mvR M M M M))<|aH M M (.one M) M (by decide) (fun hb=>(pT M M (lb M) underlying26 (svcR M hb) (sv (d:=.nilp) M)))<|aA M (qN M M (lb M) (svB M) M M hx231)<|aE ?_)
  refine aW (b:=_) M (fun hc232=>?_) (fun hc232=>?_)
  ·
   replace h:=bX h hc232
   refine aF (aA M (aI M M (lb M) (sv (d:=.bool false) M))<|aE ?_)
   refine bB ?_
   refine bP ?_
   obtain rfl:=sj_ h
   refine ⟨.inr M,(.cons (sv M) .nil)⟩
  ·
   replace h:=bY h hc232
   refine aT ?_
   refine aJ ?_
   obtain ⟨x233,hx233,h⟩:=aL h
   obtain ⟨x234,hx234,h⟩:=aL h
   obtain ⟨x235,hx235,h⟩:=aL h
   refine aF (aA M (mvR M M M M)<|aA M (bG (r':=.int .i64 x233.1) (H1':=[(1,.blk 60 (mixD aB.toEnc0 (w22 x233.2.1 x233.2.2.1 x233.2.2.2.1 x233.2.2.2.2.1 x233.2.2.2.2.2.1) x233.2.2.2.2.2.2.1 [.int .i64 x233.2.2.2.2.2.2.2.1,.osl 3 (eInt .i64).sz x233.2.2.2.2.2.2.2.2.length])),(3,.blk 3 (D.flat (x233.2.2.2.2.2.2.2.2.map (eInt .i64).d)))]) 3 [1,2] M M (lb M) cl18 (.cons (svR M) (.cons (sv (d:=.int _ 1) M) (.cons (sv (d:=.int _ 0) M) (.cons (sv (d:=.int _ 16) M) (.cons (sv (d:=.bool false) M) .nil))))) M M ⟨M,M,by decide,M,List.forall_mem_cons.2 ⟨⟨M,M,(jI aB M M M),(cW aB M M)⟩,List.forall_mem_cons.2 ⟨⟨M,M,(fW (eInt .i64) M),(bK (eInt .i64))⟩,List.forall_mem_nil _⟩⟩⟩ (kV _ _ _ _ _ _ _ _ _ _ _ _ _ hx233) M M (List.forall_mem_cons.2 ⟨⟨M,(cW aB M M)⟩,List.forall_mem_cons.2 ⟨⟨M,(bK (eInt .i64))⟩,List.forall_mem_nil _⟩⟩) (by simp only [List.map_cons,List.map_nil,Ent.ren,bL,bT,dE]; rfl))<|aA M (mvR M M M M)<|aA M (bG (r':=.int .i64 x234.1) (H1':=[(1,.blk 60 (mixD aB.toEnc0 (w22 x234.2.1 x234.2.2.1 x234.2.2.2.1 x234.2.2.2.2.1 x234.2.2.2.2.2.1) x234.2.2.2.2.2.2.1 [.int .i64 x234.2.2.2.2.2.2.2.1,.osl 4 (eInt .i64).sz x234.2.2.2.2.2.2.2.2.length])),(4,.blk 3 (D.flat (x234.2.2.2.2.2.2.2.2.map (eInt .i64).d)))]) 4 [1,3] M M (lb M) cl18 (.cons (svR M) (.cons (sv (d:=.int _ 3) M) (.cons (sv (d:=.int _ 1) M) (.cons (sv (d:=.int _ 32) M) (.cons (sv (d:=.bool false) M) .nil))))) M M ⟨M,M,by decide,M,List.forall_mem_cons.2 ⟨⟨M,M,(jI aB M M M),(cW aB M M)⟩,List.forall_mem_cons.2 ⟨⟨M,M,(fW (eInt .i64) M),(bK (eInt .i64))⟩,List.forall_mem_nil _⟩⟩⟩ (kV _ _ _ _ _ _ _ _ _ _ _ _ _ hx234) M M (List.forall_mem_cons.2 ⟨⟨M,(cW aB M M)⟩,List.forall_mem_cons.2 ⟨⟨M,(bK (eInt .i64))⟩,List.forall_mem_nil _⟩⟩) (by simp only [List.map_cons,List.map_nil,Ent.ren,bL,bT,dE]; rfl))<|aA M (mvR M M M M)<|aA M (bG (r':=.int .i64 x235.1) (H1':=[(1,.blk 60 (mixD aB.toEnc0 (w22 x235.2.1 x235.2.2.1 x235.2.2.2.1 x235.2.2.2.2.1 x235.2.2.2.2.2.1) x235.2.2.2.2.2.2.1 [.int .i64 x235.2.2.2.2.2.2.2.1,.osl 5 (eInt .i64).sz x235.2.2.2.2.2.2.2.2.length])),(5,.blk 3 (D.flat (x235.2.2.2.2.2.2.2.2.map (eInt .i64).d)))]) 5 [1,4] M M (lb M) cl18 (.cons (svR M) (.cons (sv (d:=.int _ 5) M) (.cons (sv (d:=.int _ 3) M) (.cons (sv (d:=.int _ 8) M) (.cons (sv (d:=.bool false) M) .nil))))) M M ⟨M,M,by decide,M,List.forall_mem_cons.2 ⟨⟨M,M,(jI aB M M M),(cW aB M M)⟩,List.forall_mem_cons.2 ⟨⟨M,M,(fW (eInt .i64) M),(bK (eInt .i64))⟩,List.forall_mem_nil _⟩⟩⟩ (kV _ _ _ _ _ _ _ _ _ _ _ _ _ hx235) M M (List.forall_mem_cons.2 ⟨⟨M,(cW aB M M)⟩,List.forall_mem_cons.2 ⟨⟨M,(bK (eInt .i64))⟩,List.forall_mem_nil _⟩⟩) (by simp only [List.map_cons,List.map_nil,Ent.ren,bL,bT,dE]; rfl))<|aA M (asI M M M M)<|aA M (asI M M M M)<|aA M (asI M M M M)<|aE ?_)
   obtain ⟨x236,hx236,h⟩:=aL h
   refine aF (aA M (mvR M M M M)<|aA M (bG (r':=.int .i64 x236.1) (H1':=[(1,.blk 60 (mixD aB.toEnc0 (w22 x236.2.1 x236.2.2.1 x236.2.2.2.1 x236.2.2.2.2.1 x236.2.2.2.2.2.1) x236.2.2.2.2.2.2.1 [.int .i64 x236.2.2.2.2.2.2.2.1,.osl 6 (eInt .i64).sz x236.2.2.2.2.2.2.2.2.length])),(6,.blk 3 (D.flat (x236.2.2.2.2.2.2.2.2.map (eInt .i64).d)))]) 6 [1,5] M M (lb M) cl17 (.cons (svR M) (.cons (sv (d:=.int _ 1) M) (.cons (sv (d:=.int _ 5) M) (.cons (sv (d:=.int _ 4) M) (.cons (sv (d:=.bool true) M) .nil))))) M M ⟨M,M,by decide,M,List.forall_mem_cons.2 ⟨⟨M,M,(jI aB M M M),(cW aB M M)⟩,List.forall_mem_cons.2 ⟨⟨M,M,(fW (eInt .i64) M),(bK (eInt .i64))⟩,List.forall_mem_nil _⟩⟩⟩ (rJ _ _ _ _ _ _ _ _ _ _ _ _ _ hx236) M M (List.forall_mem_cons.2 ⟨⟨M,(cW aB M M)⟩,List.forall_mem_cons.2 ⟨⟨M,(bK (eInt .i64))⟩,List.forall_mem_nil _⟩⟩) (by simp only [List.map_cons,List.map_nil,Ent.ren,bL,bT,dE]; rfl))<|aA M (asI M M M M)<|aE ?_)
   obtain ⟨x237,hx237,h⟩:=aL h
   obtain ⟨x238,hx238,h⟩:=aL h
   refine aF (aA M (mvR M M M M)<|aA M (bG (r':=.osl 7 aC.sz x237.length) (H1':=[(1,.blk 60 (mixD aB.toEnc0 (w22 x236.2.1 x236.2.2.1 x236.2.2.2.1 x236.2.2.2.2.1 x236.2.2.2.2.2.1) x236.2.2.2.2.2.2.1 [.int .i64 x236.2.2.2.2.2.2.2.1,.osl 6 (eInt .i64).sz x236.2.2.2.2.2.2.2.2.length])),(6,.blk 3 (D.flat (x236.2.2.2.2.2.2.2.2.map (eInt .i64).d))),(7,.blk 40 (D.flat (x237.map aC.d)))]) 7 [1,6] M M (lb M) cl9 (.cons (svR M) .nil) M M ⟨M,M,by decide,M,List.forall_mem_cons.2 ⟨⟨M,M,(jI aB M M M),(cW aB M M)⟩,List.forall_mem_cons.2 ⟨⟨M,M,(fW (eInt .i64) M),(bK (eInt .i64))⟩,List.forall_mem_nil _⟩⟩⟩ (rC _ _ _ _ _ _ _ _ _ hx237) M M (List.forall_mem_cons.2 ⟨⟨M,(cW aB M M)⟩,List.forall_mem_cons.2 ⟨⟨M,(bK (eInt .i64))⟩,List.forall_mem_cons.2 ⟨⟨M,(bK aC)⟩,List.forall_mem_nil _⟩⟩⟩) (by simp only [List.map_cons,List.map_nil,Ent.ren,bL,bT,dE]; rfl))<|aA M (iF (r':=.slice false (x238.map aC.d)) (V:=[(7,.blk 40 (D.flat (x237.map aC.d)))]) 8 [7] M M (lb M) cl19 (.cons (sv (d:=.osl _ _ _) M) .nil) M M M ⟨by decide,M,List.forall_mem_cons.2 ⟨⟨M,M,(fW aC M),(bK aC)⟩,List.forall_mem_nil _⟩⟩ (qR _ _ hx238) M M (List.forall_mem_cons.2 ⟨⟨M,(bK aC)⟩,List.forall_mem_nil _⟩) (by simp only [List.map_cons,List.map_nil,Ent.ren,bL,bT]; rfl) (List.forall_mem_cons.2 ⟨M,List.forall_mem_nil _⟩) M)<|aA M (aI M M (lb M) (svL M))<|aE ?_)
   obtain ⟨x239,hx239,h⟩:=aL h
   refine aF (aA M (mvR M M M M)<|aA M (bG (r':=.osl 8 (eInt .i64).sz x239.length) (H1':=[(1,.blk 60 (mixD aB.toEnc0 (w22 x236.2.1 x236.2.2.1 x236.2.2.2.1 x236.2.2.2.2.1 x236.2.2.2.2.2.1) x236.2.2.2.2.2.2.1 [.int .i64 x236.2.2.2.2.2.2.2.1,.osl 6 (eInt .i64).sz x236.2.2.2.2.2.2.2.2.length])),(6,.blk 3 (D.flat (x236.2.2.2.2.2.2.2.2.map (eInt .i64).d))),(8,.blk 3 (D.flat (x239.map (eInt .i64).d)))]) 8 [1,6] M M (lb M) cl11 (.cons (svR M) (.cons (sv (d:=.int _ 3) M) .nil)) M M ⟨M,M,by decide,M,List.forall_mem_cons.2 ⟨⟨M,M,(jI aB M M M),(cW aB M M)⟩,List.forall_mem_cons.2 ⟨⟨M,M,(fW (eInt .i64) M),(bK (eInt .i64))⟩,List.forall_mem_nil _⟩⟩⟩ (rI _ _ _ _ _ _ _ _ _ _ hx239) M M (List.forall_mem_cons.2 ⟨⟨M,(cW aB M M)⟩,List.forall_mem_cons.2 ⟨⟨M,(bK (eInt .i64))⟩,List.forall_mem_cons.2 ⟨⟨M,(bK (eInt .i64))⟩,List.forall_mem_nil _⟩⟩⟩) (by simp only [List.map_cons,List.map_nil,Ent.ren,bL,bT,dE]; rfl))<|aA M (aI M M (lb M) (sv (d:=.osl _ _ _) M))<|aE ?_)
   obtain ⟨x240,hx240,h⟩:=aL h
   refine aF (aA M (mvR M M M M)<|aA M (sH (eInt .i64) ([3,1,9]:(List Int)) 9 M M (lb M) underlying24 ti3 M (.cons (sv (d:=.int _ 3) M) (.cons (sv (d:=.int _ 1) M) (.cons (sv (d:=.int _ 9) M) .nil))) M M (by decide))<|aA M (bG (r':=.osl 10 (eInt .i64).sz x240.length) (H1':=[(1,.blk 60 (mixD aB.toEnc0 (w22 x236.2.1 x236.2.2.1 x236.2.2.2.1 x236.2.2.2.2.1 x236.2.2.2.2.2.1) x236.2.2.2.2.2.2.1 [.int .i64 x236.2.2.2.2.2.2.2.1,.osl 6 (eInt .i64).sz x236.2.2.2.2.2.2.2.2.length])),(6,.blk 3 (D.flat (x236.2.2.2.2.2.2.2.2.map (eInt .i64).d))),(10,.blk 3 (D.flat (x240.map (eInt .i64).d)))]) 10 [1,6] M M (lb M) cl13 (.cons (svR M) (.cons (svg M) .nil)) M M ⟨M,M,by decide,M,List.forall_mem_cons.2 ⟨⟨M,M,(jI aB M M M),(cW aB M M)⟩,List.forall_mem_cons.2 ⟨⟨M,M,(fW (eInt .i64) M),(bK (eInt .i64))⟩,List.forall_mem_nil _⟩⟩⟩ (pH _ _ _ _ _ _ _ _ _ _ hx240) M M (List.forall_mem_cons.2 ⟨⟨M,(cW aB M M)⟩,List.forall_mem_cons.2 ⟨⟨M,(bK (eInt .i64))⟩,List.forall_mem_cons.2 ⟨⟨M,(bK (eInt .i64))⟩,List.forall_mem_nil _⟩⟩⟩) (by simp only [List.map_cons,List.map_nil,Ent.ren,bL,bT,dE]; rfl))<|aA M (aI M M (lb M) (sv (d:=.osl _ _ _) M))<|aE ?_)
   obtain ⟨x241,hx241,h⟩:=aL h
   obtain ⟨x242,hx242,h⟩:=aL h
   refine aF (aA M (mvR M M M M)<|aA M (bG (r':=.int .i64 x241.1) (H1':=[(1,.blk 60 (mixD aB.toEnc0 (w22 x241.2.1 x241.2.2.1 x241.2.2.2.1 x241.2.2.2.2.1 x241.2.2.2.2.2.1) x241.2.2.2.2.2.2.1 [.int .i64 x241.2.2.2.2.2.2.2.1,.osl 11 (eInt .i64).sz x241.2.2.2.2.2.2.2.2.length])),(11,.blk 3 (D.flat (x241.2.2.2.2.2.2.2.2.map (eInt .i64).d)))]) 11 [1,6] M M (lb M) cl20 (.cons (svR M) (.cons (sv (d:=.int _ 1) M) .nil)) M M ⟨M,M,by decide,M,List.forall_mem_cons.2 ⟨⟨M,M,(jI aB M M M),(cW aB M M)⟩,List.forall_mem_cons.2 ⟨⟨M,M,(fW (eInt .i64) M),(bK (eInt .i64))⟩,List.forall_mem_nil _⟩⟩⟩ (pI _ _ _ _ _ _ _ _ _ _ hx241) M M (List.forall_mem_cons.2 ⟨⟨M,(cW aB M M)⟩,List.forall_mem_cons.2 ⟨⟨M,(bK (eInt .i64))⟩,List.forall_mem_nil _⟩⟩) (by simp only [List.map_cons,List.map_nil,Ent.ren,bL,bT,dE]; rfl))<|aA M (mvR M M M M)<|aA M (bG (r':=.int .i64 x242.1) (H1':=[(1,.blk 60 (mixD aB.toEnc0 (w22 x242.2.1 x242.2.2.1 x242.2.2.2.1 x242.2.2.2.2.1 x242.2.2.2.2.2.1) x242.2.2.2.2.2.2.1 [.int .i64 x242.2.2.2.2.2.2.2.1,.osl 12 (eInt .i64).sz x242.2.2.2.2.2.2.2.2.length])),(12,.blk 3 (D.flat (x242.2.2.2.2.2.2.2.2.map (eInt .i64).d)))]) 12 [1,11] M M (lb M) cl20 (.cons (svR M) (.cons (sv (d:=.int _ 1) M) .nil)) M M ⟨M,M,by decide,M,List.forall_mem_cons.2 ⟨⟨M,M,(jI aB M M M),(cW aB M M)⟩,List.forall_mem_cons.2 ⟨⟨M,M,(fW (eInt .i64) M),(bK (eInt .i64))⟩,List.forall_mem_nil _⟩⟩⟩ (pI _ _ _ _ _ _ _ _ _ _ hx242) M M (List.forall_mem_cons.2 ⟨⟨M,(cW aB M M)⟩,List.forall_mem_cons.2 ⟨⟨M,(bK (eInt .i64))⟩,List.forall_mem_nil _⟩⟩) (by simp only [List.map_cons,List.map_nil,Ent.ren,bL,bT,dE]; rfl))<|aA M (asI M M M M)<|aA M (asI M M M M)<|aE ?_)
   obtain ⟨x243,hx243,h⟩:=aL h
   refine aF (aA M (mvR M M M M)<|aA M (sH (eInt .i64) ([3,1,9]:(List Int)) 13 M M (lb M) underlying24 ti3 M (.cons (sv (d:=.int _ 3) M) (.cons (sv (d:=.int _ 1) M) (.cons (sv (d:=.int _ 9) M) .nil))) M M (by decide))<|aA M (bG (r':=.osl 14 (eInt .i64).sz x243.length) (H1':=[(1,.blk 60 (mixD aB.toEnc0 (w22 x242.2.1 x242.2.2.1 x242.2.2.2.1 x242.2.2.2.2.1 x242.2.2.2.2.2.1) x242.2.2.2.2.2.2.1 [.int .i64 x242.2.2.2.2.2.2.2.1,.osl 12 (eInt .i64).sz x242.2.2.2.2.2.2.2.2.length])),(12,.blk 3 (D.flat (x242.2.2.2.2.2.2.2.2.map (eInt .i64).d))),(14,.blk 3 (D.flat (x243.map (eInt .i64).d)))]) 14 [1,12] M M (lb M) cl13 (.cons (svR M) (.cons (svg M) .nil)) M M ⟨M,M,by decide,M,List.forall_mem_cons.2 ⟨⟨M,M,(jI aB M M M),(cW aB M M)⟩,List.forall_mem_cons.2 ⟨⟨M,M,(fW (eInt .i64) M),(bK (eInt .i64))⟩,List.forall_mem_nil _⟩⟩⟩ (pH _ _ _ _ _ _ _ _ _ _ hx243) M M (List.forall_mem_cons.2 ⟨⟨M,(cW aB M M)⟩,List.forall_mem_cons.2 ⟨⟨M,(bK (eInt .i64))⟩,List.forall_mem_cons.2 ⟨⟨M,(bK (eInt .i64))⟩,List.forall_mem_nil _⟩⟩⟩) (by simp only [List.map_cons,List.map_nil,Ent.ren,bL,bT,dE]; rfl))<|aA M (aI M M (lb M) (sv (d:=.osl _ _ _) M))<|aE ?_)
   obtain ⟨x244,hx244,h⟩:=aL h
   refine aF (aA M (mvR M M M M)<|aA M (bG (r':=.int .i64 x244.1) (H1':=[(1,.blk 60 (mixD aB.toEnc0 (w22 x244.2.1 x244.2.2.1 x244.2.2.2.1 x244.2.2.2.2.1 x244.2.2.2.2.2.1) x244.2.2.2.2.2.2.1 [.int .i64 x244.2.2.2.2.2.2.2.1,.osl 15 (eInt .i64).sz x244.2.2.2.2.2.2.2.2.length])),(15,.blk 3 (D.flat (x244.2.2.2.2.2.2.2.2.map (eInt .i64).d)))]) 15 [1,12] M M (lb M) cl21 (.cons (svR M) (.cons (sv (d:=.int _ 1) M) .nil)) M M ⟨M,M,by decide,M,List.forall_mem_cons.2 ⟨⟨M,M,(jI aB M M M),(cW aB M M)⟩,List.forall_mem_cons.2 ⟨⟨M,M,(fW (eInt .i64) M),(bK (eInt .i64))⟩,List.forall_mem_nil _⟩⟩⟩ (qS _ _ _ _ _ _ _ _ _ _ hx244) M M (List.forall_mem_cons.2 ⟨⟨M,(cW aB M M)⟩,List.forall_mem_cons.2 ⟨⟨M,(bK (eInt .i64))⟩,List.forall_mem_nil _⟩⟩) (by simp only [List.map_cons,List.map_nil,Ent.ren,bL,bT,dE]; rfl))<|aA M (asI M M M M)<|aE ?_)
   obtain ⟨x245,hx245,h⟩:=aL h
   refine aF (aA M (mvR M M M M)<|aA M (bG (r':=.osl 16 (eInt .i64).sz x245.length) (H1':=[(1,.blk 60 (mixD aB.toEnc0 (w22 x244.2.1 x244.2.2.1 x244.2.2.2.1 x244.2.2.2.2.1 x244.2.2.2.2.2.1) x244.2.2.2.2.2.2.1 [.int .i64 x244.2.2.2.2.2.2.2.1,.osl 15 (eInt .i64).sz x244.2.2.2.2.2.2.2.2.length])),(15,.blk 3 (D.flat (x244.2.2.2.2.2.2.2.2.map (eInt .i64).d))),(16,.blk 3 (D.flat (x245.map (eInt .i64).d)))]) 16 [1,15] M M (lb M) cl12 (.cons (svR M) (.cons (sv (d:=.int _ 5) M) .nil)) M M ⟨M,M,by decide,M,List.forall_mem_cons.2 ⟨⟨M,M,(jI aB M M M),(cW aB M M)⟩,List.forall_mem_cons.2 ⟨⟨M,M,(fW (eInt .i64) M),(bK (eInt .i64))⟩,List.forall_mem_nil _⟩⟩⟩ (rK _ _ _ _ _ _ _ _ _ _ hx245) M M (List.forall_mem_cons.2 ⟨⟨M,(cW aB M M)⟩,List.forall_mem_cons.2 ⟨⟨M,(bK (eInt .i64))⟩,List.forall_mem_cons.2 ⟨⟨M,(bK (eInt .i64))⟩,List.forall_mem_nil _⟩⟩⟩) (by simp only [List.map_cons,List.map_nil,Ent.ren,bL,bT,dE]; rfl))<|aA M (aI M M (lb M) (sv (d:=.osl _ _ _) M))<|aE ?_)
   obtain ⟨x246,hx246,h⟩:=aL h
   refine aF (aA M (mvR M M M M)<|aA M (bG (r':=.int .i64 x246.1) (H1':=[(1,.blk 60 (mixD aB.toEnc0 (w22 x246.2.1 x246.2.2.1 x246.2.2.2.1 x246.2.2.2.2.1 x246.2.2.2.2.2.1) x246.2.2.2.2.2.2.1 [.int .i64 x246.2.2.2.2.2.2.2.1,.osl 17 (eInt .i64).sz x246.2.2.2.2.2.2.2.2.length])),(17,.blk 3 (D.flat (x246.2.2.2.2.2.2.2.2.map (eInt .i64).d)))]) 17 [1,15] M M (lb M) cl18 (.cons (svR M) (.cons (sv (d:=.int _ 3) M) (.cons (sv (d:=.int _ 0) M) (.cons (sv (d:=.int _ 1) M) (.cons (sv (d:=.bool false) M) .nil))))) M M ⟨M,M,by decide,M,List.forall_mem_cons.2 ⟨⟨M,M,(jI aB M M M),(cW aB M M)⟩,List.forall_mem_cons.2 ⟨⟨M,M,(fW (eInt .i64) M),(bK (eInt .i64))⟩,List.forall_mem_nil _⟩⟩⟩ (kV _ _ _ _ _ _ _ _ _ _ _ _ _ hx246) M M (List.forall_mem_cons.2 ⟨⟨M,(cW aB M M)⟩,List.forall_mem_cons.2 ⟨⟨M,(bK (eInt .i64))⟩,List.forall_mem_nil _⟩⟩) (by simp only [List.map_cons,List.map_nil,Ent.ren,bL,bT,dE]; rfl))<|aA M (asI M M M M)<|aE ?_)
   refine aF (?_)
   refine gI (S':=⟨[(1,.ref 1 0),(3,.int .i64 x233.1),(4,.int .i64 x234.1),(5,.int .i64 x235.1),(6,.int .i64 x236.1),(7,.slice false (x238.map aC.d)),(8,.osl 8 (eInt .i64).sz x239.length),(9,.osl 10 (eInt .i64).sz x240.length),(10,.int .i64 x241.1),(11,.int .i64 x242.1),(12,.osl 14 (eInt .i64).sz x243.length),(13,.int .i64 x244.1),(14,.osl 16 (eInt .i64).sz x245.length),(15,.int .i64 x246.1)],[(1,.blk 60 (mixD aB.toEnc0 (w22 x246.2.1 x246.2.2.1 x246.2.2.2.1 x246.2.2.2.2.1 x246.2.2.2.2.2.1) x246.2.2.2.2.2.2.1 [.int .i64 x246.2.2.2.2.2.2.2.1,.osl 17 (eInt .i64).sz x246.2.2.2.2.2.2.2.2.length])),(8,.blk 3 (D.flat (x239.map (eInt .i64).d))),(10,.blk 3 (D.flat (x240.map (eInt .i64).d))),(14,.blk 3 (D.flat (x243.map (eInt .i64).d))),(16,.blk 3 (D.flat (x245.map (eInt .i64).d))),(17,.blk 3 (D.flat (x246.2.2.2.2.2.2.2.2.map (eInt .i64).d)))]⟩) (fun i=>i) ⟨(.sames M M),(.cons (EntW.mix aB M (SubC.of_eq M) (SubC.of_eq M) M M) (.cons (EntW.lst M) (.cons (EntW.lst M) (.cons (EntW.lst M) (.cons (EntW.lst M) (.cons (EntW.lst M) .nil)))))),aY [1,8,10,14,16,17] M (by decide),fun _ _=>M⟩ ?_
   refine kZ 1 18 M M M (by decide) cl15 func15 M (.cons (sv (d:=.int _ 0) M) (.cons (sv (d:=.int _ 0) M) .nil)) ntmps15 (nle M) M hO.semiL fun O1 hO1=>?_
   show IWP _ _ _ _ ⟨[(0,.int .i64 0),(1,.int .i64 0)],[(18,.kept 1 [.dead,.ref 1 0,.dead,.int .i64 x233.1,.int .i64 x234.1,.int .i64 x235.1,.int .i64 x236.1,.slice false (x238.map aC.d),.osl 8 (eInt .i64).sz x239.length,.osl 10 (eInt .i64).sz x240.length,.int .i64 x241.1,.int .i64 x242.1,.osl 14 (eInt .i64).sz x243.length,.int .i64 x244.1,.osl 16 (eInt .i64).sz x245.length,.int .i64 x246.1,.dead,.dead,.dead,.dead,.dead,.dead,.dead,.dead,.dead,.dead,.dead,.dead,.dead,.dead,.dead,.dead,.dead,.dead,.dead,.dead,.dead,.dead,.dead,.dead,.dead,.dead,.dead,.dead,.dead,.dead,.dead,.dead,.dead,.dead,.dead,.dead,.dead,.dead,.dead,.dead,.dead,.dead,.dead,.dead,.dead,.dead,.dead,.dead,.dead,.dead,.dead,.dead,.dead,.dead,.dead,.dead,.dead,.dead,.dead,.dead,.dead,.dead,.dead,.dead,.dead,.dead,.dead,.dead,.dead,.dead,.dead,.dead,.dead,.dead,.dead,.dead,.dead,.dead,.dead,.dead,.dead,.dead,.dead,.dead,.dead,.dead,.dead,.dead,.dead,.dead,.dead,.dead,.dead,.dead,.dead,.dead,.dead,.dead,.dead,.dead,.dead,.dead,.dead,.dead,.dead,.dead,.dead,.dead,.dead,.dead,.dead,.dead,.dead,.dead,.dead,.dead,.dead,.dead,.dead,.dead,.dead,.dead,.dead,.dead,.dead,.dead,.dead,.dead,.dead,.dead,.dead,.dead]),(1,.blk 60 (mixD aB.toEnc0 (w22 x246.2.1 x246.2.2.1 x246.2.2.2.1 x246.2.2.2.2.1 x246.2.2.2.2.2.1) x246.2.2.2.2.2.2.1 [.int .i64 x246.2.2.2.2.2.2.2.1,.osl 17 (eInt .i64).sz x246.2.2.2.2.2.2.2.2.length])),(8,.blk 3 (D.flat (x239.map (eInt .i64).d))),(10,.blk 3 (D.flat (x240.map (eInt .i64).d))),(14,.blk 3 (D.flat (x243.map (eInt .i64).d))),(16,.blk 3 (D.flat (x245.map (eInt .i64).d))),(17,.blk 3 (D.flat (x246.2.2.2.2.2.2.2.2.map (eInt .i64).d)))]⟩ _
   refine aF (aA M (aI M M (lb M) (sv (d:=.nilp) M))<|aA M (aI M M (lb M) (sv (d:=.int _ 0) M))<|aE ?_)
   refine aU ?_
   obtain ⟨x247,hx247,h⟩:=aL h
   obtain ⟨x248,hx248,h⟩:=aL h
   obtain ⟨x249,hx249,h⟩:=aK h
   refine aF (aA M (mvI M M M M)<|aA M (bJ (r:=.bool _) M M (lb M) cl31 (.cons (svI M) (.cons (sv (d:=.int _ 1) M) (.cons (sv (d:=.int _ 24) M) .nil))) M (mV _ _ _ _ hx247))<|aA M (eX M M (lb M) (svB M))<|aA M (mvB M M M M)<|aH M M (.one M) M (by decide) (fun hb=>(mvI M M M M))<|aH M M (.one M) M (by decide) (fun hb=>(mvI M M M M))<|aH M M (.one M) M (by decide) (fun hb=>(bJ (r:=.bool _) M M (lb M) cl31 (.cons (svcI M hb) (.cons (sv (d:=.int _ 0) M) (.cons (svcI M hb) .nil))) M (mV _ _ _ _ (gd_t hx248 hb))))<|aH M M (.one M) M (by decide) (fun hb=>(eX M M (lb M) (svcB M hb)))<|aA M (qN M M (lb M) (svB M) M M hx249)<|aE ?_)
   refine aW (b:=_) M (fun hc250=>?_) (fun hc250=>?_)
   ·
    replace h:=bX h hc250
    refine aF (aA M (aI M M (lb M) (sv (d:=.nilp) M))<|aA M (aI M M (lb M) (sv (d:=.int _ 8) M))<|aE ?_)
    refine bB ?_
    refine bP ?_
    refine ⟨.inr M,18,_,[.nilp,.int .i64 8],(.cons (sv M) (.cons (sv M) .nil)),M,M,⟨[(1,.ref 1 0),(3,.int .i64 x233.1),(4,.int .i64 x234.1),(5,.int .i64 x235.1),(6,.int .i64 x236.1),(7,.slice false (x238.map aC.d)),(8,.osl 8 (eInt .i64).sz x239.length),(9,.osl 10 (eInt .i64).sz x240.length),(10,.int .i64 x241.1),(11,.int .i64 x242.1),(12,.osl 14 (eInt .i64).sz x243.length),(13,.int .i64 x244.1),(14,.osl 16 (eInt .i64).sz x245.length),(15,.int .i64 x246.1),(58,.tuple [.nilp,.int .i64 8])],[(1,.blk 60 (mixD aB.toEnc0 (w22 x246.2.1 x246.2.2.1 x246.2.2.2.1 x246.2.2.2.2.1 x246.2.2.2.2.2.1) x246.2.2.2.2.2.2.1 [.int .i64 x246.2.2.2.2.2.2.2.1,.osl 17 (eInt .i64).sz x246.2.2.2.2.2.2.2.2.length])),(8,.blk 3 (D.flat (x239.map (eInt .i64).d))),(10,.blk 3 (D.flat (x240.map (eInt .i64).d))),(14,.blk 3 (D.flat (x243.map (eInt .i64).d))),(16,.blk 3 (D.flat (x245.map (eInt .i64).d))),(17,.blk 3 (D.flat (x246.2.2.2.2.2.2.2.2.map (eInt .i64).d)))]⟩,(fun i=>i),⟨(.sames M M),(.cons (EntW.mix aB M (SubC.of_eq M) (SubC.of_eq M) M M) (.cons (EntW.lst M) (.cons (EntW.lst M) (.cons (EntW.lst M) (.cons (EntW.lst M) (.cons (EntW.lst M) .nil)))))),aY [1,8,10,14,16,17] M (by decide),fun _ _=>M⟩,?_⟩
    refine aA M (aD M M (lb M) (sv (d:=.tuple [.nilp,.int _ _]) M))<|aA M (cM (d:=.nilp) M M (lb M) (sv (d:=.tuple [.nilp,.int _ _]) M) M)<|aA M (cM (d:=.int _ _) M M (lb M) (sv (d:=.tuple [.nilp,.int _ _]) M) M)<|aA M (aI M M (lb M) (sv (d:=.nilp) M))<|aA M (asI M M M M)<|aE ?_
    refine fL (α:=Bool) (fun z=>⟨[(0,.bool z)],[]⟩) (fun z=>lG z=some r) ?_ ?_
    ·
     obtain ⟨x302,hx302,h⟩:=aK h
     obtain ⟨x303,hx303,h⟩:=aK h
     obtain ⟨x304,hx304,h⟩:=aK h
     obtain ⟨x305,hx305,h⟩:=aK h
     obtain ⟨x306,hx306,h⟩:=aK h
     obtain ⟨x307,hx307,h⟩:=aK h
     obtain ⟨x308,hx308,h⟩:=aK h
     obtain ⟨x309,hx309,h⟩:=aL h
     obtain ⟨x310,hx310,h⟩:=aK h
     obtain ⟨x311,hx311,h⟩:=aL h
     obtain ⟨x312,hx312,h⟩:=aK h
     obtain ⟨x313,hx313,h⟩:=aL h
     obtain ⟨x314,hx314,h⟩:=aK h
     obtain ⟨x315,hx315,h⟩:=aK h
     obtain ⟨x316,hx316,h⟩:=aK h
     obtain ⟨x317,hx317,h⟩:=aK h
     obtain ⟨x318,hx318,h⟩:=aK h
     obtain ⟨x319,hx319,h⟩:=aL h
     obtain ⟨x320,hx320,h⟩:=aK h
     obtain ⟨x321,hx321,h⟩:=aK h
     obtain ⟨x322,hx322,h⟩:=aK h
     obtain ⟨x323,hx323,h⟩:=aL h
     obtain ⟨x324,hx324,h⟩:=aK h
     obtain ⟨x325,hx325,h⟩:=aK h
     obtain ⟨x326,hx326,h⟩:=aK h
     obtain ⟨x327,hx327,h⟩:=aK h
     obtain ⟨x328,hx328,h⟩:=aK h
     obtain ⟨x329,hx329,h⟩:=aL h
     obtain ⟨x330,hx330,h⟩:=aK h
     obtain ⟨x331,hx331,h⟩:=aK h
     refine aS (aA M (mvI M M M M)<|aA M (aO M M (lb M) (svI M) (sv (d:=.int _ 0) M) M hx302)<|aA M (mvB M M M M)<|aH M M (.one M) M (by decide) (fun hb=>(mvI M M M M))<|aH M M (.one M) M (by decide) (fun hb=>(aO M M (lb M) (svcI M hb) (sv (d:=.int _ 0) M) M hx303))<|aA M (bC M M (lb M) (svB M) M M hx304)<|aA M (mvB M M M M)<|aH M M (.one M) M (by decide) (fun hb=>(mvI M M M M))<|aH M M (.one M) M (by decide) (fun hb=>(aO M M (lb M) (svcI M hb) (sv (d:=.int _ 0) M) M hx305))<|aA M (bC M M (lb M) (svB M) M M hx306)<|aA M (mvB M M M M)<|aH M M (.one M) M (by decide) (fun hb=>(mvI M M M M))<|aH M M (.one M) M (by decide) (fun hb=>(aO M M (lb M) (svcI M hb) (sv (d:=.int _ 0) M) M hx307))<|aA M (bC M M (lb M) (svB M) M M hx308)<|aA M (mvB M M M M)<|aH M M (.one M) M (by decide) (fun hb=>(mvL M M M M))<|aH M M (.one M) M (by decide) (fun hb=>(cV (cs:=q9) M M (lb M) underlying50 ti50 pl50 M (.cons (sv (d:=.int _ 1) M) (.cons (sv (d:=.int _ 5) M) (.cons (sv (d:=.int _ 4) M) .nil))) M))<|aH M M (.one M) M (by decide) (fun hb=>(cV (cs:=q9) M M (lb M) underlying50 ti50 pl50 M (.cons (sv (d:=.int _ 3) M) (.cons (sv (d:=.int _ 1) M) (.cons (sv (d:=.int _ 32) M) .nil))) M))<|aH M M (.one M) M (by decide) (fun hb=>(cV (cs:=q9) M M (lb M) underlying50 ti50 pl50 M (.cons (sv (d:=.int _ 5) M) (.cons (sv (d:=.int _ 8) M) .nil)) M))<|aH M M (.one M) M (by decide) (fun hb=>(lP aC ([(⟨1,5,4,false⟩:aG),(⟨3,1,32,false⟩:aG),(⟨5,0,8,false⟩:aG)]:(List aG)) M M (lb M) underlying46 ti50 (.cons (svcA (w23 1 5 4 false) M hb) (.cons (svcA (w23 3 1 32 false) M hb) (.cons (svcA (w23 5 0 8 false) M hb) .nil))) M M (by decide)))<|aH M M (.one M) M (by decide) (fun hb=>(bJ (r:=.bool _) M M (lb M) cl22 (.cons (svcL M hb) (.cons (svcL M hb) .nil)) M (jS _ _ _ (gd_t hx309 hb))))<|aA M (bC M M (lb M) (svB M) M M hx310)<|aA M (mvB M M M M)<|aH M M (.one M) M (by decide) (fun hb=>(aD M M (lb M) (sv (d:=.osl _ _ _) M)))<|aH M M (.one M) M (by decide) (fun hb=>(lP (eInt .i64) ([1,5]:(List Int)) M M (lb M) underlying24 ti3 (.cons (sv (d:=.int _ 1) M) (.cons (sv (d:=.int _ 5) M) .nil)) M M (by decide)))<|aH M M (.one M) M (by decide) (fun hb=>(mG (r:=.bool x311) M M (lb M) cl23 (.cons (svc (d:=.osl _ _ _) M hb) (.cons (svcL M hb) .nil)) (.cons (FDT (eInt .i64) M M) (.all _)) M M (cT _ _ _ (gd_t hx311 hb))))<|aA M (bC M M (lb M) (svB M) M M hx312)<|aA M (mvB M M M M)<|aH M M (.one M) M (by decide) (fun hb=>(aD M M (lb M) (sv (d:=.osl _ _ _) M)))<|aH M M (.one M) M (by decide) (fun hb=>(lP (eInt .i64) ([1]:(List Int)) M M (lb M) underlying24 ti3 (.cons (sv (d:=.int _ 1) M) .nil) M M (by decide)))<|aH M M (.one M) M (by decide) (fun hb=>(mG (r:=.bool x313) M M (lb M) cl23 (.cons (svc (d:=.osl _ _ _) M hb) (.cons (svcL M hb) .nil)) (.cons (FDT (eInt .i64) M M) (.all _)) M M (cT _ _ _ (gd_t hx313 hb))))<|aA M (bC M M (lb M) (svB M) M M hx314)<|aA M (mvB M M M M)<|aH M M (.one M) M (by decide) (fun hb=>(mvI M M M M))<|aH M M (.one M) M (by decide) (fun hb=>(aO M M (lb M) (svcI M hb) (sv (d:=.int _ 0) M) M hx315))<|aA M (bC M M (lb M) (svB M) M M hx316)<|aA M (mvB M M M M)<|aH M M (.one M) M (by decide) (fun hb=>(mvI M M M M))<|aH M M (.one M) M (by decide) (fun hb=>(aO M M (lb M) (svcI M hb) (sv (d:=.int _ 9) M) M hx317))<|aA M (bC M M (lb M) (svB M) M M hx318)<|aA M (mvB M M M M)<|aH M M (.one M) M (by decide) (fun hb=>(aD M M (lb M) (sv (d:=.osl _ _ _) M)))<|aH M M (.one M) M (by decide) (fun hb=>(lP (eInt .i64) ([3]:(List Int)) M M (lb M) underlying24 ti3 (.cons (sv (d:=.int _ 3) M) .nil) M M (by decide)))<|aH M M (.one M) M (by decide) (fun hb=>(mG (r:=.bool x319) M M (lb M) cl23 (.cons (svc (d:=.osl _ _ _) M hb) (.cons (svcL M hb) .nil)) (.cons (FDT (eInt .i64) M M) (.all _)) M M (cT _ _ _ (gd_t hx319 hb))))<|aA M (bC M M (lb M) (svB M) M M hx320)<|aA M (mvB M M M M)<|aH M M (.one M) M (by decide) (fun hb=>(mvI M M M M))<|aH M M (.one M) M (by decide) (fun hb=>(aO M M (lb M) (svcI M hb) (sv (d:=.int _ 0) M) M hx321))<|aA M (bC M M (lb M) (svB M) M M hx322)<|aA M (mvB M M M M)<|aH M M (.one M) M (by decide) (fun hb=>(aD M M (lb M) (sv (d:=.osl _ _ _) M)))<|aH M M (.one M) M (by decide) (fun hb=>(lP (eInt .i64) ([3]:(List Int)) M M (lb M) underlying24 ti3 (.cons (sv (d:=.int _ 3) M) .nil) M M (by decide)))<|aH M M (.one M) M (by decide) (fun hb=>(mG (r:=.bool x323) M M (lb M) cl23 (.cons (svc (d:=.osl _ _ _) M hb) (.cons (svcL M hb) .nil)) (.cons (FDT (eInt .i64) M M) (.all _)) M M (cT _ _ _ (gd_t hx323 hb))))<|aA M (bC M M (lb M) (svB M) M M hx324)<|aA M (mvB M M M M)<|aH M M (.one M) M (by decide) (fun hb=>(mvI M M M M))<|aH M M (.one M) M (by decide) (fun hb=>(aO M M (lb M) (svcI M hb) (sv (d:=.int _ 13) M) M hx325))<|aA M (bC M M (lb M) (svB M) M M hx326)<|aA M (mvB M M M M)<|aH M M (.one M) M (by decide) (fun hb=>(mvI M M M M))<|aH M M (.one M) M (by decide) (fun hb=>(aO M M (lb M) (svcI M hb) (sv (d:=.int _ 8) M) M hx327))<|aA M (bC M M (lb M) (svB M) M M hx328)<|aA M (mvB M M M M)<|aH M M (.one M) M (by decide) (fun hb=>(mvR M M M M))<|aH M M (.one M) M (by decide) (fun hb=>(iF (r':=.int .i64 x329) (V:=[(1,.blk 60 (mixD aB.toEnc0 (w22 x246.2.1 x246.2.2.1 x246.2.2.2.1 x246.2.2.2.2.1 x246.2.2.2.2.2.1) x246.2.2.2.2.2.2.1 [.int .i64 x246.2.2.2.2.2.2.2.1,.osl 17 (eInt .i64).sz x246.2.2.2.2.2.2.2.2.length])),(17,.blk 3 (D.flat (x246.2.2.2.2.2.2.2.2.map (eInt .i64).d)))]) 24 [1,17] M M (lb M) cl14 (.cons (svcR M hb) .nil) M M M ⟨by decide,M,List.forall_mem_cons.2 ⟨⟨M,M,(jI aB M M M),(cW aB M M)⟩,List.forall_mem_cons.2 ⟨⟨M,M,(fW (eInt .i64) M),(bK (eInt .i64))⟩,List.forall_mem_nil _⟩⟩⟩ (oD _ _ _ _ _ _ _ _ _ (gd_t hx329 hb)) M M (List.forall_mem_cons.2 ⟨⟨M,(cW aB M M)⟩,List.forall_mem_cons.2 ⟨⟨M,(bK (eInt .i64))⟩,List.forall_mem_nil _⟩⟩) (by simp only [List.map_cons,List.map_nil,Ent.ren,bL,bT,dE]; rfl) (List.forall_mem_cons.2 ⟨M,List.forall_mem_cons.2 ⟨M,List.forall_mem_nil _⟩⟩) M))<|aH M M (.one M) M (by decide) (fun hb=>(aO M M (lb M) (svcI M hb) (sv (d:=.int _ 2) M) M hx330))<|aA M (bC M M (lb M) (svB M) M M hx331)<|aA M (mvB M M M M)<|aH M M (.one M) M (by decide) (fun hb=>(mvR M M M M)) <|?_)
     refine fZ (.slice false (([]:List Int).map (eInt .i64).d)) M M (.one M) M (by decide) (fun hc332=>?_) (fun hc332=>?_)
     ·
      replace h:=bX h hc332
      refine kY 129 M hc332 ?_
      obtain ⟨x333,hx333,h⟩:=aL h
      obtain ⟨x334,hx334,h⟩:=aK h
      obtain ⟨x335,hx335,h⟩:=aK h
      obtain ⟨x336,hx336,h⟩:=aK h
      obtain ⟨x337,hx337,h⟩:=aK h
      obtain ⟨x338,hx338,h⟩:=aK h
      obtain ⟨x339,hx339,h⟩:=aK h
      obtain ⟨x340,hx340,h⟩:=aK h
      obtain ⟨x341,hx341,h⟩:=aK h
      obtain ⟨x342,hx342,h⟩:=aK h
      refine aA M (bG (r':=.osl 24 (eInt .i64).sz x333.length) (H1':=[(1,.blk 60 (mixD aB.toEnc0 (w22 x246.2.1 x246.2.2.1 x246.2.2.2.1 x246.2.2.2.2.1 x246.2.2.2.2.2.1) x246.2.2.2.2.2.2.1 [.int .i64 x246.2.2.2.2.2.2.2.1,.osl 17 (eInt .i64).sz x246.2.2.2.2.2.2.2.2.length])),(17,.blk 3 (D.flat (x246.2.2.2.2.2.2.2.2.map (eInt .i64).d))),(24,.blk 3 (D.flat (x333.map (eInt .i64).d)))]) 24 [1,17] M M (lb M) cl10 (.cons (svR M) .nil) M M ⟨M,M,by decide,M,List.forall_mem_cons.2 ⟨⟨M,M,(jI aB M M M),(cW aB M M)⟩,List.forall_mem_cons.2 ⟨⟨M,M,(fW (eInt .i64) M),(bK (eInt .i64))⟩,List.forall_mem_nil _⟩⟩⟩ (pB _ _ _ _ _ _ _ _ _ hx333) M M (List.forall_mem_cons.2 ⟨⟨M,(cW aB M M)⟩,List.forall_mem_cons.2 ⟨⟨M,(bK (eInt .i64))⟩,List.forall_mem_cons.2 ⟨⟨M,(bK (eInt .i64))⟩,List.forall_mem_nil _⟩⟩⟩) (by simp only [List.map_cons,List.map_nil,Ent.ren,bL,bT,dE]; rfl))<|aH M M (.one M) M (by decide) (fun hb=>(mW M M (lb M) underlying24 (sv (d:=.osl _ _ _) M)))<|aH M M (.one M) M (by decide) (fun hb=>(aO M M (lb M) (svcI M hb) (sv (d:=.int _ 0) M) M hx334))<|aA M (bC M M (lb M) (svB M) M M hx335)<|aA M (mvB M M M M)<|aA M (cK M M (lb M) (svB M) M M hx336)<|aA M (mvB M M M M)<|aA M (cK M M (lb M) (svB M) M M hx337)<|aA M (mvB M M M M)<|aA M (cK M M (lb M) (svB M) M M hx338)<|aA M (mvB M M M M)<|aA M (cK M M (lb M) (svB M) M M hx339)<|aA M (mvB M M M M)<|aA M (cK M M (lb M) (svB M) M M hx340)<|aA M (mvB M M M M)<|aA M (cK M M (lb M) (svB M) M M hx341)<|aA M (mvB M M M M)<|aA M (cK M M (lb M) (svB M) M M hx342)<|aA M (asB M M M M)<|bE ?_
      refine aJ ⟨x342,(fun i=>i),⟨(.sames M M),.nil,aY [] M (by decide),fun _ _=>M⟩,?_⟩
      exact h
     ·
      replace h:=bY h hc332
      obtain ⟨x343,hx343,h⟩:=aK h
      obtain ⟨x344,hx344,h⟩:=aK h
      obtain ⟨x345,hx345,h⟩:=aK h
      obtain ⟨x346,hx346,h⟩:=aK h
      obtain ⟨x347,hx347,h⟩:=aK h
      obtain ⟨x348,hx348,h⟩:=aK h
      obtain ⟨x349,hx349,h⟩:=aK h
      obtain ⟨x350,hx350,h⟩:=aK h
      obtain ⟨x351,hx351,h⟩:=aK h
      refine aH M M (.one M) M (by decide) (fun hb=>(dU (eInt .i64) (l:=([]:(List Int))) M M (lb M) underlying24 (svcL M hb)))<|aH M M (.one M) M (by decide) (fun hb=>(aO M M (lb M) (svcI M hb) (sv (d:=.int _ 0) M) M hx343))<|aA M (bC M M (lb M) (svB M) M M hx344)<|aA M (mvB M M M M)<|aA M (cK M M (lb M) (svB M) M M hx345)<|aA M (mvB M M M M)<|aA M (cK M M (lb M) (svB M) M M hx346)<|aA M (mvB M M M M)<|aA M (cK M M (lb M) (svB M) M M hx347)<|aA M (mvB M M M M)<|aA M (cK M M (lb M) (svB M) M M hx348)<|aA M (mvB M M M M)<|aA M (cK M M (lb M) (svB M) M M hx349)<|aA M (mvB M M M M)<|aA M (cK M M (lb M) (svB M) M M hx350)<|aA M (mvB M M M M)<|aA M (cK M M (lb M) (svB M) M M hx351)<|aA M (asB M M M M)<|bE ?_
      refine aJ ⟨x351,(fun i=>i),⟨(.sames M M),.nil,aY [] M (by decide),fun _ _=>M⟩,?_⟩
      exact h
    ·
     rintro v301 h
     unfold lG at h
     refine bB ?_
     obtain rfl:=sj_ h
     refine ⟨.inr M,(.cons (sv M) .nil)⟩
   ·
    replace h:=bY h hc250
    refine aT ?_
    refine aJ ?_
    obtain ⟨x352,hx352,h⟩:=aL h
    refine aF (aA M (mvI M M M M)<|aA M (mvI M M M M)<|aA M (bJ (r:=.agg q10) M M (lb M) cl32 .nil M (rM  _ hx352))<|aA M (cV (cs:=(mixD aB.toEnc0 q7 (List.replicate 64 (⟨0,0,0,0,0,false⟩:aM):(List aM)) [.int _ _,.nils])) M M (lb M) underlying60 ti60 pl60 M (.cons (svI M) (.cons (svI M) (.cons (svA q10 M) (.cons (sv (d:=.int _ (-1)) M) .nil)))) (by kernel_rfl))<|aA M (fE (cs:=(mixD aB.toEnc0 q7 (List.replicate 64 (⟨0,0,0,0,0,false⟩:aM):(List aM)) [.int _ _,.nils])) 19 M M (lb M) M (sv (d:=.agg (mixD aB.toEnc0 q7 (List.replicate 64 (⟨0,0,0,0,0,false⟩:aM):(List aM)) [.int _ _,.nils])) M) M M)<|gI (S':=⟨[(0,.int .i64 0),(1,.int .i64 0),(4,.nilp),(5,.int .i64 0),(6,.int .i64 0),(7,.bool x247),(8,.bool (!x247)),(9,.bool (!x247)),(14,.bool x249),(15,.int .i64 0),(16,.int .i64 0),(17,.agg (v1 x352)),(18,.agg (mixD aB.toEnc0 (w22 0 0 x352.Cells x352.Free x352.Used) (List.replicate 64 (⟨0,0,0,0,0,false⟩:aM):(List aM)) [.int .i64 (-1),.nils])),(19,.ref 19 0)],[(20,.blk 3 (D.flat (([]:(List Int)).map (eInt .i64).d))),(1,.blk 60 (mixD aB.toEnc0 (w22 x246.2.1 x246.2.2.1 x246.2.2.2.1 x246.2.2.2.2.1 x246.2.2.2.2.2.1) x246.2.2.2.2.2.2.1 [.int .i64 x246.2.2.2.2.2.2.2.1,.osl 17 (eInt .i64).sz x246.2.2.2.2.2.2.2.2.length])),(8,.blk 3 (D.flat (x239.map (eInt .i64).d))),(10,.blk 3 (D.flat (x240.map (eInt .i64).d))),(14,.blk 3 (D.flat (x243.map (eInt .i64).d))),(16,.blk 3 (D.flat (x245.map (eInt .i64).d))),(17,.blk 3 (D.flat (x246.2.2.2.2.2.2.2.2.map (eInt .i64).d))),(18,.kept 1 [.dead,.ref 1 0,.dead,.int .i64 x233.1,.int .i64 x234.1,.int .i64 x235.1,.int .i64 x236.1,.slice false (x238.map aC.d),.osl 8 (eInt .i64).sz x239.length,.osl 10 (eInt .i64).sz x240.length,.int .i64 x241.1,.int .i64 x242.1,.osl 14 (eInt .i64).sz x243.length,.int .i64 x244.1,.osl 16 (eInt .i64).sz x245.length,.int .i64 x246.1,.dead,.dead,.dead,.dead,.dead,.dead,.dead,.dead,.dead,.dead,.dead,.dead,.dead,.dead,.dead,.dead,.dead,.dead,.dead,.dead,.dead,.dead,.dead,.dead,.dead,.dead,.dead,.dead,.dead,.dead,.dead,.dead,.dead,.dead,.dead,.dead,.dead,.dead,.dead,.dead,.dead,.dead,.dead,.dead,.dead,.dead,.dead,.dead,.dead,.dead,.dead,.dead,.dead,.dead,.dead,.dead,.dead,.dead,.dead,.dead,.dead,.dead,.dead,.dead,.dead,.dead,.dead,.dead,.dead,.dead,.dead,.dead,.dead,.dead,.dead,.dead,.dead,.dead,.dead,.dead,.dead,.dead,.dead,.dead,.dead,.dead,.dead,.dead,.dead,.dead,.dead,.dead,.dead,.dead,.dead,.dead,.dead,.dead,.dead,.dead,.dead,.dead,.dead,.dead,.dead,.dead,.dead,.dead,.dead,.dead,.dead,.dead,.dead,.dead,.dead,.dead,.dead,.dead,.dead,.dead,.dead,.dead,.dead,.dead,.dead,.dead,.dead,.dead,.dead,.dead,.dead,.dead]),(19,.blk 60 (mixD aB.toEnc0 (w22 0 0 x352.Cells x352.Free x352.Used) (List.replicate 64 (⟨0,0,0,0,0,false⟩:aM):(List aM)) [.int .i64 (-1),.osl 20 (eInt .i64).sz 0]))]⟩) (fun i=>if i=20 then 90 else i) ⟨(.sames M M),(.cons (.nilb M) (.cons (EntW.mix aB M (SubC.of_eq M) (SubC.of_eq M) M M) (.cons (EntW.lst M) (.cons (EntW.lst M) (.cons (EntW.lst M) (.cons (EntW.lst M) (.cons (EntW.lst M) (.cons (.kept M M M) (.cons (EntW.mix aB M (SubC.of_eq M) (.same (.nilo .nil)) M M) .nil))))))))),aY [90,1,8,10,14,16,17,18,19] M (by decide),(fun i hi=>by first | rfl | (show (if _ then _ else _)=_; (repeat' split) <;> omega))⟩<|aA M (aI M M (lb M) (svR M))<|aA M (aI M M (lb M) (sv (d:=.int _ 0) M))<|aE ?_)
    refine bB ?_
    refine ⟨.inr M,18,_,[.ref 19 0,.int .i64 0],(.cons (sv M) (.cons (sv M) .nil)),M,M,⟨[(1,.ref 1 0),(3,.int .i64 x233.1),(4,.int .i64 x234.1),(5,.int .i64 x235.1),(6,.int .i64 x236.1),(7,.slice false (x238.map aC.d)),(8,.osl 8 (eInt .i64).sz x239.length),(9,.osl 10 (eInt .i64).sz x240.length),(10,.int .i64 x241.1),(11,.int .i64 x242.1),(12,.osl 14 (eInt .i64).sz x243.length),(13,.int .i64 x244.1),(14,.osl 16 (eInt .i64).sz x245.length),(15,.int .i64 x246.1),(58,.tuple [.ref 19 0,.int .i64 0])],[(1,.blk 60 (mixD aB.toEnc0 (w22 x246.2.1 x246.2.2.1 x246.2.2.2.1 x246.2.2.2.2.1 x246.2.2.2.2.2.1) x246.2.2.2.2.2.2.1 [.int .i64 x246.2.2.2.2.2.2.2.1,.osl 17 (eInt .i64).sz x246.2.2.2.2.2.2.2.2.length])),(8,.blk 3 (D.flat (x239.map (eInt .i64).d))),(10,.blk 3 (D.flat (x240.map (eInt .i64).d))),(14,.blk 3 (D.flat (x243.map (eInt .i64).d))),(16,.blk 3 (D.flat (x245.map (eInt .i64).d))),(17,.blk 3 (D.flat (x246.2.2.2.2.2.2.2.2.map (eInt .i64).d))),(19,.blk 60 (mixD aB.toEnc0 (w22 0 0 x352.Cells x352.Free x352.Used) (List.replicate 64 (⟨0,0,0,0,0,false⟩:aM):(List aM)) [.int .i64 (-1),.osl 20 (eInt .i64).sz 0])),(20,.blk 3 (D.flat (([]:(List Int)).map (eInt .i64).d)))]⟩,(fun i=>i),⟨(.sames M M),(.cons (EntW.mix aB M (SubC.of_eq M) (SubC.of_eq M) M M) (.cons (EntW.lst M) (.cons (EntW.lst M) (.cons (EntW.lst M) (.cons (EntW.lst M) (.cons (EntW.lst M) (.cons (EntW.mix aB M (SubC.of_eq M) (SubC.of_eq M) M M) (.cons (EntW.lst M) .nil)))))))),aY [1,8,10,14,16,17,19,20] M (by decide),fun _ _=>M⟩,?_⟩
    refine aA M (aD M M (lb M) (sv (d:=.tuple q18) M))<|aA M (cM (d:=.ref _ _) M M (lb M) (sv (d:=.tuple q18) M) M)<|aA M (cM (d:=.int _ _) M M (lb M) (sv (d:=.tuple q18) M) M)<|aA M (aI M M (lb M) (svR M))<|aA M (asI M M M M)<|aE ?_
    refine fL (α:=Bool) (fun z=>⟨[(0,.bool z)],[]⟩) (fun z=>lF z=some r) ?_ ?_
    ·
     obtain ⟨x404,hx404,h⟩:=aK h
     obtain ⟨x405,hx405,h⟩:=aK h
     obtain ⟨x406,hx406,h⟩:=aK h
     obtain ⟨x407,hx407,h⟩:=aK h
     obtain ⟨x408,hx408,h⟩:=aK h
     obtain ⟨x409,hx409,h⟩:=aK h
     obtain ⟨x410,hx410,h⟩:=aK h
     obtain ⟨x411,hx411,h⟩:=aL h
     obtain ⟨x412,hx412,h⟩:=aK h
     obtain ⟨x413,hx413,h⟩:=aL h
     obtain ⟨x414,hx414,h⟩:=aK h
     obtain ⟨x415,hx415,h⟩:=aL h
     obtain ⟨x416,hx416,h⟩:=aK h
     obtain ⟨x417,hx417,h⟩:=aK h
     obtain ⟨x418,hx418,h⟩:=aK h
     obtain ⟨x419,hx419,h⟩:=aK h
     obtain ⟨x420,hx420,h⟩:=aK h
     obtain ⟨x421,hx421,h⟩:=aL h
     obtain ⟨x422,hx422,h⟩:=aK h
     obtain ⟨x423,hx423,h⟩:=aK h
     obtain ⟨x424,hx424,h⟩:=aK h
     obtain ⟨x425,hx425,h⟩:=aL h
     obtain ⟨x426,hx426,h⟩:=aK h
     obtain ⟨x427,hx427,h⟩:=aK h
     obtain ⟨x428,hx428,h⟩:=aK h
     obtain ⟨x429,hx429,h⟩:=aK h
     obtain ⟨x430,hx430,h⟩:=aK h
     obtain ⟨x431,hx431,h⟩:=aL h
     obtain ⟨x432,hx432,h⟩:=aK h
     obtain ⟨x433,hx433,h⟩:=aK h
     refine aS (aA M (mvI M M M M)<|aA M (aO M M (lb M) (svI M) (sv (d:=.int _ 0) M) M hx404)<|aA M (mvB M M M M)<|aH M M (.one M) M (by decide) (fun hb=>(mvI M M M M))<|aH M M (.one M) M (by decide) (fun hb=>(aO M M (lb M) (svcI M hb) (sv (d:=.int _ 0) M) M hx405))<|aA M (bC M M (lb M) (svB M) M M hx406)<|aA M (mvB M M M M)<|aH M M (.one M) M (by decide) (fun hb=>(mvI M M M M))<|aH M M (.one M) M (by decide) (fun hb=>(aO M M (lb M) (svcI M hb) (sv (d:=.int _ 0) M) M hx407))<|aA M (bC M M (lb M) (svB M) M M hx408)<|aA M (mvB M M M M)<|aH M M (.one M) M (by decide) (fun hb=>(mvI M M M M))<|aH M M (.one M) M (by decide) (fun hb=>(aO M M (lb M) (svcI M hb) (sv (d:=.int _ 0) M) M hx409))<|aA M (bC M M (lb M) (svB M) M M hx410)<|aA M (mvB M M M M)<|aH M M (.one M) M (by decide) (fun hb=>(mvL M M M M))<|aH M M (.one M) M (by decide) (fun hb=>(cV (cs:=q9) M M (lb M) underlying50 ti50 pl50 M (.cons (sv (d:=.int _ 1) M) (.cons (sv (d:=.int _ 5) M) (.cons (sv (d:=.int _ 4) M) .nil))) M))<|aH M M (.one M) M (by decide) (fun hb=>(cV (cs:=q9) M M (lb M) underlying50 ti50 pl50 M (.cons (sv (d:=.int _ 3) M) (.cons (sv (d:=.int _ 1) M) (.cons (sv (d:=.int _ 32) M) .nil))) M))<|aH M M (.one M) M (by decide) (fun hb=>(cV (cs:=q9) M M (lb M) underlying50 ti50 pl50 M (.cons (sv (d:=.int _ 5) M) (.cons (sv (d:=.int _ 8) M) .nil)) M))<|aH M M (.one M) M (by decide) (fun hb=>(lP aC ([(⟨1,5,4,false⟩:aG),(⟨3,1,32,false⟩:aG),(⟨5,0,8,false⟩:aG)]:(List aG)) M M (lb M) underlying46 ti50 (.cons (svcA (w23 1 5 4 false) M hb) (.cons (svcA (w23 3 1 32 false) M hb) (.cons (svcA (w23 5 0 8 false) M hb) .nil))) M M (by decide)))<|aH M M (.one M) M (by decide) (fun hb=>(bJ (r:=.bool _) M M (lb M) cl22 (.cons (svcL M hb) (.cons (svcL M hb) .nil)) M (jS _ _ _ (gd_t hx411 hb))))<|aA M (bC M M (lb M) (svB M) M M hx412)<|aA M (mvB M M M M)<|aH M M (.one M) M (by decide) (fun hb=>(aD M M (lb M) (sv (d:=.osl _ _ _) M)))<|aH M M (.one M) M (by decide) (fun hb=>(lP (eInt .i64) ([1,5]:(List Int)) M M (lb M) underlying24 ti3 (.cons (sv (d:=.int _ 1) M) (.cons (sv (d:=.int _ 5) M) .nil)) M M (by decide)))<|aH M M (.one M) M (by decide) (fun hb=>(mG (r:=.bool x413) M M (lb M) cl23 (.cons (svc (d:=.osl _ _ _) M hb) (.cons (svcL M hb) .nil)) (.cons (FDT (eInt .i64) M M) (.all _)) M M (cT _ _ _ (gd_t hx413 hb))))<|aA M (bC M M (lb M) (svB M) M M hx414)<|aA M (mvB M M M M)<|aH M M (.one M) M (by decide) (fun hb=>(aD M M (lb M) (sv (d:=.osl _ _ _) M)))<|aH M M (.one M) M (by decide) (fun hb=>(lP (eInt .i64) ([1]:(List Int)) M M (lb M) underlying24 ti3 (.cons (sv (d:=.int _ 1) M) .nil) M M (by decide)))<|aH M M (.one M) M (by decide) (fun hb=>(mG (r:=.bool x415) M M (lb M) cl23 (.cons (svc (d:=.osl _ _ _) M hb) (.cons (svcL M hb) .nil)) (.cons (FDT (eInt .i64) M M) (.all _)) M M (cT _ _ _ (gd_t hx415 hb))))<|aA M (bC M M (lb M) (svB M) M M hx416)<|aA M (mvB M M M M)<|aH M M (.one M) M (by decide) (fun hb=>(mvI M M M M))<|aH M M (.one M) M (by decide) (fun hb=>(aO M M (lb M) (svcI M hb) (sv (d:=.int _ 0) M) M hx417))<|aA M (bC M M (lb M) (svB M) M M hx418)<|aA M (mvB M M M M)<|aH M M (.one M) M (by decide) (fun hb=>(mvI M M M M))<|aH M M (.one M) M (by decide) (fun hb=>(aO M M (lb M) (svcI M hb) (sv (d:=.int _ 9) M) M hx419))<|aA M (bC M M (lb M) (svB M) M M hx420)<|aA M (mvB M M M M)<|aH M M (.one M) M (by decide) (fun hb=>(aD M M (lb M) (sv (d:=.osl _ _ _) M)))<|aH M M (.one M) M (by decide) (fun hb=>(lP (eInt .i64) ([3]:(List Int)) M M (lb M) underlying24 ti3 (.cons (sv (d:=.int _ 3) M) .nil) M M (by decide)))<|aH M M (.one M) M (by decide) (fun hb=>(mG (r:=.bool x421) M M (lb M) cl23 (.cons (svc (d:=.osl _ _ _) M hb) (.cons (svcL M hb) .nil)) (.cons (FDT (eInt .i64) M M) (.all _)) M M (cT _ _ _ (gd_t hx421 hb))))<|aA M (bC M M (lb M) (svB M) M M hx422)<|aA M (mvB M M M M)<|aH M M (.one M) M (by decide) (fun hb=>(mvI M M M M))<|aH M M (.one M) M (by decide) (fun hb=>(aO M M (lb M) (svcI M hb) (sv (d:=.int _ 0) M) M hx423))<|aA M (bC M M (lb M) (svB M) M M hx424)<|aA M (mvB M M M M)<|aH M M (.one M) M (by decide) (fun hb=>(aD M M (lb M) (sv (d:=.osl _ _ _) M)))<|aH M M (.one M) M (by decide) (fun hb=>(lP (eInt .i64) ([3]:(List Int)) M M (lb M) underlying24 ti3 (.cons (sv (d:=.int _ 3) M) .nil) M M (by decide)))<|aH M M (.one M) M (by decide) (fun hb=>(mG (r:=.bool x425) M M (lb M) cl23 (.cons (svc (d:=.osl _ _ _) M hb) (.cons (svcL M hb) .nil)) (.cons (FDT (eInt .i64) M M) (.all _)) M M (cT _ _ _ (gd_t hx425 hb))))<|aA M (bC M M (lb M) (svB M) M M hx426)<|aA M (mvB M M M M)<|aH M M (.one M) M (by decide) (fun hb=>(mvI M M M M))<|aH M M (.one M) M (by decide) (fun hb=>(aO M M (lb M) (svcI M hb) (sv (d:=.int _ 13) M) M hx427))<|aA M (bC M M (lb M) (svB M) M M hx428)<|aA M (mvB M M M M)<|aH M M (.one M) M (by decide) (fun hb=>(mvI M M M M))<|aH M M (.one M) M (by decide) (fun hb=>(aO M M (lb M) (svcI M hb) (sv (d:=.int _ 8) M) M hx429))<|aA M (bC M M (lb M) (svB M) M M hx430)<|aA M (mvB M M M M)<|aH M M (.one M) M (by decide) (fun hb=>(mvR M M M M))<|aH M M (.one M) M (by decide) (fun hb=>(iF (r':=.int .i64 x431) (V:=[(1,.blk 60 (mixD aB.toEnc0 (w22 x246.2.1 x246.2.2.1 x246.2.2.2.1 x246.2.2.2.2.1 x246.2.2.2.2.2.1) x246.2.2.2.2.2.2.1 [.int .i64 x246.2.2.2.2.2.2.2.1,.osl 17 (eInt .i64).sz x246.2.2.2.2.2.2.2.2.length])),(17,.blk 3 (D.flat (x246.2.2.2.2.2.2.2.2.map (eInt .i64).d)))]) 26 [1,17] M M (lb M) cl14 (.cons (svcR M hb) .nil) M M M ⟨by decide,M,List.forall_mem_cons.2 ⟨⟨M,M,(jI aB M M M),(cW aB M M)⟩,List.forall_mem_cons.2 ⟨⟨M,M,(fW (eInt .i64) M),(bK (eInt .i64))⟩,List.forall_mem_nil _⟩⟩⟩ (oD _ _ _ _ _ _ _ _ _ (gd_t hx431 hb)) M M (List.forall_mem_cons.2 ⟨⟨M,(cW aB M M)⟩,List.forall_mem_cons.2 ⟨⟨M,(bK (eInt .i64))⟩,List.forall_mem_nil _⟩⟩) (by simp only [List.map_cons,List.map_nil,Ent.ren,bL,bT,dE]; rfl) (List.forall_mem_cons.2 ⟨M,List.forall_mem_cons.2 ⟨M,List.forall_mem_nil _⟩⟩) M))<|aH M M (.one M) M (by decide) (fun hb=>(aO M M (lb M) (svcI M hb) (sv (d:=.int _ 2) M) M hx432))<|aA M (bC M M (lb M) (svB M) M M hx433)<|aA M (mvB M M M M)<|aH M M (.one M) M (by decide) (fun hb=>(mvR M M M M)) <|?_)
     refine fZ (.slice false (([]:List Int).map (eInt .i64).d)) M M (.one M) M (by decide) (fun hc434=>?_) (fun hc434=>?_)
     ·
      replace h:=bX h hc434
      refine kY 129 M hc434 ?_
      obtain ⟨x435,hx435,h⟩:=aL h
      obtain ⟨x436,hx436,h⟩:=aK h
      obtain ⟨x437,hx437,h⟩:=aK h
      obtain ⟨x438,hx438,h⟩:=aK h
      obtain ⟨x439,hx439,h⟩:=aK h
      obtain ⟨x440,hx440,h⟩:=aK h
      obtain ⟨x441,hx441,h⟩:=aK h
      obtain ⟨x442,hx442,h⟩:=aK h
      obtain ⟨x443,hx443,h⟩:=aK h
      obtain ⟨x444,hx444,h⟩:=aK h
      refine aA M (bG (r':=.osl 26 (eInt .i64).sz x435.length) (H1':=[(1,.blk 60 (mixD aB.toEnc0 (w22 x246.2.1 x246.2.2.1 x246.2.2.2.1 x246.2.2.2.2.1 x246.2.2.2.2.2.1) x246.2.2.2.2.2.2.1 [.int .i64 x246.2.2.2.2.2.2.2.1,.osl 17 (eInt .i64).sz x246.2.2.2.2.2.2.2.2.length])),(17,.blk 3 (D.flat (x246.2.2.2.2.2.2.2.2.map (eInt .i64).d))),(26,.blk 3 (D.flat (x435.map (eInt .i64).d)))]) 26 [1,17] M M (lb M) cl10 (.cons (svR M) .nil) M M ⟨M,M,by decide,M,List.forall_mem_cons.2 ⟨⟨M,M,(jI aB M M M),(cW aB M M)⟩,List.forall_mem_cons.2 ⟨⟨M,M,(fW (eInt .i64) M),(bK (eInt .i64))⟩,List.forall_mem_nil _⟩⟩⟩ (pB _ _ _ _ _ _ _ _ _ hx435) M M (List.forall_mem_cons.2 ⟨⟨M,(cW aB M M)⟩,List.forall_mem_cons.2 ⟨⟨M,(bK (eInt .i64))⟩,List.forall_mem_cons.2 ⟨⟨M,(bK (eInt .i64))⟩,List.forall_mem_nil _⟩⟩⟩) (by simp only [List.map_cons,List.map_nil,Ent.ren,bL,bT,dE]; rfl))<|aH M M (.one M) M (by decide) (fun hb=>(mW M M (lb M) underlying24 (sv (d:=.osl _ _ _) M)))<|aH M M (.one M) M (by decide) (fun hb=>(aO M M (lb M) (svcI M hb) (sv (d:=.int _ 0) M) M hx436))<|aA M (bC M M (lb M) (svB M) M M hx437)<|aA M (mvB M M M M)<|aA M (cK M M (lb M) (svB M) M M hx438)<|aA M (mvB M M M M)<|aA M (cK M M (lb M) (svB M) M M hx439)<|aA M (mvB M M M M)<|aA M (cK M M (lb M) (svB M) M M hx440)<|aA M (mvB M M M M)<|aA M (cK M M (lb M) (svB M) M M hx441)<|aA M (mvB M M M M)<|aA M (cK M M (lb M) (svB M) M M hx442)<|aA M (mvB M M M M)<|aA M (cK M M (lb M) (svB M) M M hx443)<|aA M (mvB M M M M)<|aA M (cK M M (lb M) (svB M) M M hx444)<|aA M (asB M M M M)<|bE ?_
      refine aJ ⟨x444,(fun i=>i),⟨(.sames M M),.nil,aY [] M (by decide),fun _ _=>M⟩,?_⟩
      exact h
     ·
      replace h:=bY h hc434
      obtain ⟨x445,hx445,h⟩:=aK h
      obtain ⟨x446,hx446,h⟩:=aK h
      obtain ⟨x447,hx447,h⟩:=aK h
      obtain ⟨x448,hx448,h⟩:=aK h
      obtain ⟨x449,hx449,h⟩:=aK h
      obtain ⟨x450,hx450,h⟩:=aK h
      obtain ⟨x451,hx451,h⟩:=aK h
      obtain ⟨x452,hx452,h⟩:=aK h
      obtain ⟨x453,hx453,h⟩:=aK h
      refine aH M M (.one M) M (by decide) (fun hb=>(dU (eInt .i64) (l:=([]:(List Int))) M M (lb M) underlying24 (svcL M hb)))<|aH M M (.one M) M (by decide) (fun hb=>(aO M M (lb M) (svcI M hb) (sv (d:=.int _ 0) M) M hx445))<|aA M (bC M M (lb M) (svB M) M M hx446)<|aA M (mvB M M M M)<|aA M (cK M M (lb M) (svB M) M M hx447)<|aA M (mvB M M M M)<|aA M (cK M M (lb M) (svB M) M M hx448)<|aA M (mvB M M M M)<|aA M (cK M M (lb M) (svB M) M M hx449)<|aA M (mvB M M M M)<|aA M (cK M M (lb M) (svB M) M M hx450)<|aA M (mvB M M M M)<|aA M (cK M M (lb M) (svB M) M M hx451)<|aA M (mvB M M M M)<|aA M (cK M M (lb M) (svB M) M M hx452)<|aA M (mvB M M M M)<|aA M (cK M M (lb M) (svB M) M M hx453)<|aA M (asB M M M M)<|bE ?_
      refine aJ ⟨x453,(fun i=>i),⟨(.sames M M),.nil,aY [] M (by decide),fun _ _=>M⟩,?_⟩
      exact h
    ·
     rintro v403 h
     unfold lF at h
     refine bB ?_
     obtain rfl:=sj_ h
     refine ⟨.inr M,(.cons (sv M) .nil)⟩

theorem sT (a0:eY) (r:Int) (h:nC a0=some r):fS prog 8 [.nilp,.agg (v0 a0)] (.int .i64 r):=by
 refine cR (rs:=[.int .i64 r]) func8 M ntmps8 (nle M) M fun O hO=>?_
 show IWP _ _ _ _ ⟨[(0,.nilp),(1,.agg (v0 a0))],[]⟩ _
 unfold nC at h
 refine aF (aA M (fE (cs:=q8) 0 M M (lb M) M (svA q8 M) M M)<|aA M (aI M M (lb M) (sv (d:=.int _ 0) M))<|aE ?_)
 refine aU ?_
 obtain ⟨x1,hx1,h⟩:=aL h
 refine aF (aA M (faR 0 M M M underlying23 M ti5 (lb M) M M)<|aA M (aR (d:=.int _ _) M M (lb M) underlying5 ag5 ti5 (by decide) (svR M) M (nle M) M)<|aA M (yT M M (lb M) (svI M) (sv (d:=.int _ 6) M) hx1)<|aE ?_)
 refine aV ?_
 refine fL (α:=Bool) (fun z=>⟨[(0,.nilp),(3,.ref 0 0),(7,.int .u8 x1),(8,.bool z)],[(0,.blk 23 (v0 a0))]⟩) (fun z=>lM a0 x1 z=some r) ?_ ?_
 ·
  obtain ⟨x21,hx21,h⟩:=aK h
  refine aF (aA M (aO M M (lb M) (svI M) (sv (d:=.int _ 0) M) M hx21)<|aA M (asB M M M M)<|aE ?_)
  refine aW (b:=_) M (fun hc22=>?_) (fun hc22=>?_)
  ·
   replace h:=bX h hc22
   refine aT ?_
   refine aJ ⟨x21,(fun i=>i),⟨(.sames M M),(.cons (.blk M M M) .nil),aY [0] M (by decide),fun _ _=>M⟩,?_⟩
   exact h
  ·
   replace h:=bY h hc22
   obtain ⟨x23,hx23,h⟩:=aK h
   refine aS (aA M (aO M M (lb M) (svI M) (sv (d:=.int _ 1) M) M hx23)<|aA M (asB M M M M)<|bE ?_)
   refine aJ ⟨x23,(fun i=>i),⟨(.sames M M),(.cons (.blk M M M) .nil),aY [0] M (by decide),fun _ _=>M⟩,?_⟩
   exact h
 ·
  rintro v5 h
  unfold lM at h
  refine aW (b:=_) M (fun hc6=>?_) (fun hc6=>?_)
  ·
   replace h:=bX h hc6
   obtain ⟨x7,hx7,h⟩:=aL h
   refine aF (aA M (aD M M (lb M) (sv (d:=.nilp) M))<|aA M (faR 1 M M M underlying23 M ti3 (lb M) M M)<|aA M (aR (d:=.int _ _) M M (lb M) underlying3 ag3 ti3 (by decide) (svR M) M (nle M) M)<|aA M (faR 2 M M M underlying23 M ti3 (lb M) M M)<|aA M (aR (d:=.int _ _) M M (lb M) underlying3 ag3 ti3 (by decide) (svR M) M (nle M) M)<|aA M (faR 3 M M M underlying23 M ti3 (lb M) M M)<|aA M (aR (d:=.int _ _) M M (lb M) underlying3 ag3 ti3 (by decide) (svR M) M (nle M) M)<|aA M (faR 4 M M M underlying23 M ti4 (lb M) M M)<|aA M (aR (d:=.bool _) M M (lb M) underlying4 ag4 ti4 (by decide) (svR M) M (nle M) M)<|aA M (bJ (r:=.int _ _) M M (lb M) cl18 (.cons (sv (d:=.nilp) M) (.cons (svI M) (.cons (svI M) (.cons (svI M) (.cons (svB M) .nil))))) M (kI _ _ _ _ _ hx7))<|aA M (asI M M M M)<|aE ?_)
   refine bB ?_
   refine dB ?_
   refine bP ?_
   obtain rfl:=sj_ h
   refine ⟨.inr M,(.cons (sv M) .nil)⟩
  ·
   replace h:=bY h hc6
   refine fL (α:=Bool) (fun z=>⟨[(0,.nilp),(3,.ref 0 0),(7,.int .u8 x1),(21,.bool z)],[(0,.blk 23 (v0 a0))]⟩) (fun z=>lL a0 x1 z=some r) ?_ ?_
   ·
    obtain ⟨x18,hx18,h⟩:=aK h
    refine aF (aA M (aO M M (lb M) (svI M) (sv (d:=.int _ 2) M) M hx18)<|aA M (asB M M M M)<|aE ?_)
    refine aW (b:=_) M (fun hc19=>?_) (fun hc19=>?_)
    ·
     replace h:=bX h hc19
     refine aT ?_
     refine aJ ⟨x18,(fun i=>i),⟨(.sames M M),(.cons (.blk M M M) .nil),aY [0] M (by decide),fun _ _=>M⟩,?_⟩
     exact h
    ·
     replace h:=bY h hc19
     obtain ⟨x20,hx20,h⟩:=aK h
     refine aS (aA M (aO M M (lb M) (svI M) (sv (d:=.int _ 3) M) M hx20)<|aA M (asB M M M M)<|bE ?_)
     refine aJ ⟨x20,(fun i=>i),⟨(.sames M M),(.cons (.blk M M M) .nil),aY [0] M (by decide),fun _ _=>M⟩,?_⟩
     exact h
   ·
    rintro v11 h
    unfold lL at h
    refine aW (b:=_) M (fun hc12=>?_) (fun hc12=>?_)
    ·
     replace h:=bX h hc12
     obtain ⟨x13,hx13,h⟩:=aL h
     refine aF (aA M (aD M M (lb M) (sv (d:=.nilp) M))<|aA M (faR 1 M M M underlying23 M ti3 (lb M) M M)<|aA M (aR (d:=.int _ _) M M (lb M) underlying3 ag3 ti3 (by decide) (svR M) M (nle M) M)<|aA M (faR 2 M M M underlying23 M ti3 (lb M) M M)<|aA M (aR (d:=.int _ _) M M (lb M) underlying3 ag3 ti3 (by decide) (svR M) M (nle M) M)<|aA M (faR 3 M M M underlying23 M ti3 (lb M) M M)<|aA M (aR (d:=.int _ _) M M (lb M) underlying3 ag3 ti3 (by decide) (svR M) M (nle M) M)<|aA M (faR 4 M M M underlying23 M ti4 (lb M) M M)<|aA M (aR (d:=.bool _) M M (lb M) underlying4 ag4 ti4 (by decide) (svR M) M (nle M) M)<|aA M (bJ (r:=.int _ _) M M (lb M) cl17 (.cons (sv (d:=.nilp) M) (.cons (svI M) (.cons (svI M) (.cons (svI M) (.cons (svB M) .nil))))) M (qI _ _ _ _ _ hx13))<|aA M (asI M M M M)<|aE ?_)
     refine bB ?_
     refine dB ?_
     refine bP ?_
     obtain rfl:=sj_ h
     refine ⟨.inr M,(.cons (sv M) .nil)⟩
    ·
     replace h:=bY h hc12
     obtain ⟨x14,hx14,h⟩:=aK h
     refine aF (aA M (aO M M (lb M) (svI M) (sv (d:=.int _ 4) M) M hx14)<|aA M (asB M M M M)<|aE ?_)
     refine aW (b:=_) M (fun hc15=>?_) (fun hc15=>?_)
     ·
      replace h:=bX h hc15
      obtain ⟨x16,hx16,h⟩:=aL h
      refine aF (aA M (aD M M (lb M) (sv (d:=.nilp) M))<|aA M (faR 1 M M M underlying23 M ti3 (lb M) M M)<|aA M (aR (d:=.int _ _) M M (lb M) underlying3 ag3 ti3 (by decide) (svR M) M (nle M) M)<|aA M (bJ (r:=.int _ _) M M (lb M) cl20 (.cons (sv (d:=.nilp) M) (.cons (svI M) .nil)) M (oE _ _ hx16))<|aA M (asI M M M M)<|aE ?_)
      refine bB ?_
      refine dB ?_
      refine bP ?_
      obtain rfl:=sj_ h
      refine ⟨.inr M,(.cons (sv M) .nil)⟩
     ·
      replace h:=bY h hc15
      refine aT ?_
      refine bI ?_
      refine aJ ?_
      obtain ⟨x17,hx17,h⟩:=aL h
      refine aF (aA M (aD M M (lb M) (sv (d:=.nilp) M))<|aA M (faR 1 M M M underlying23 M ti3 (lb M) M M)<|aA M (aR (d:=.int _ _) M M (lb M) underlying3 ag3 ti3 (by decide) (svR M) M (nle M) M)<|aA M (bJ (r:=.int _ _) M M (lb M) cl21 (.cons (sv (d:=.nilp) M) (.cons (svI M) .nil)) M (pM _ _ hx17))<|aA M (asI M M M M)<|aE ?_)
      refine bB ?_
      obtain rfl:=sj_ h
      refine ⟨.inr M,(.cons (sv M) .nil)⟩
end Go.Proofs.Ytdnjagkihgjpcaa
