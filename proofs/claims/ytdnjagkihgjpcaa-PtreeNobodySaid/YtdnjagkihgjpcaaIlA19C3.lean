/-
  A part of the proof: rules and plain facts. No condition.
-/
import Derived.Test.YtdnjagkihgjpcaaProg
import Derived.KernelRfl
import Derived.Test.YtdnjagkihgjpcaaIlMb
import Derived.Test.YtdnjagkihgjpcaaIlA19C2
set_option linter.all false
set_option maxRecDepth 8000
set_option maxHeartbeats 2000000
open Go Go.IL Go.Fn Go.Proofs
open Go.Proofs.Try
namespace Go.Proofs.Ytdnjagkihgjpcaa
theorem rP:TI prog 118 (some (.int .u64 0)) 1 8:=by unfold TI; kernel_rfl
theorem ag72:kJ prog 72=true:=by kernel_rfl
theorem wC:kJ prog 118=false:=by kernel_rfl
theorem pl57:∀ w,(Array.mapM (m:=Sem) (fun (f:Field)=>Functor.map (Prod.mk f.offset) (sizeOf f.type)) (fieldsOf prog 57)).run prog w = .ok #[(0,1),(1,1),(2,1),(3,1),(4,1),(5,1)] w:=fun w=>by kernel_rfl
theorem cl14:bM prog 14:=⟨f14,func14,rfl,rfl⟩
theorem cl27:bM prog 27:=⟨f27,func27,rfl,rfl⟩
theorem cl33:bM prog 33:=⟨f33,func33,rfl,rfl⟩
theorem cl34:bM prog 34:=⟨f34,func34,rfl,rfl⟩
theorem cl35:bM prog 35:=⟨f35,func35,rfl,rfl⟩
theorem cl36:bM prog 36:=⟨f36,func36,rfl,rfl⟩
theorem cl39:bM prog 39:=⟨f39,func39,rfl,rfl⟩
theorem cl43:bM prog 43:=⟨f43,func43,rfl,rfl⟩
theorem cl66:bM prog 66:=⟨f66,func66,rfl,rfl⟩
theorem cl82:bM prog 82:=⟨f82,func82,rfl,rfl⟩
theorem cl83:bM prog 83:=⟨f83,func83,rfl,rfl⟩
theorem cl84:bM prog 84:=⟨f84,func84,rfl,rfl⟩
theorem cl85:bM prog 85:=⟨f85,func85,rfl,rfl⟩
theorem cl86:bM prog 86:=⟨f86,func86,rfl,rfl⟩
theorem cl93:bM prog 93:=⟨f93,func93,rfl,rfl⟩
def la72:=LA.mk underlying72 ag72 ti72 (by decide)


theorem pA (a0:Int) (a1:gS) (a2:Int) (a3:Int) (a4:(List aP)) (a5:Int) (a6:Int) (a7:(List aM)) (a8:Int) (a9:(List Int)) (r:(Int × Int × Int × (List aP) × Int × Int × (List aM) × Int × (List Int))) (h:lW a0 a1 a2 a3 a4 a5 a6 a7 a8 a9=some r):FnH prog 34 [.ref 1000 0,.int .i64 a0,.agg (v4 a1)] [(1000,.blk 60 (mixD aB.toEnc0 (w22 a2 a3 a4 a5 a6) a7 [.int .i64 a8,.osl 1001 (eInt .i64).sz a9.length])),(1001,.blk 3 (D.flat (a9.map (eInt .i64).d)))] (.int .i64 r.1) [(1000,.blk 60 (mixD aB.toEnc0 (w22 r.2.1 r.2.2.1 r.2.2.2.1 r.2.2.2.2.1 r.2.2.2.2.2.1) r.2.2.2.2.2.2.1 [.int .i64 r.2.2.2.2.2.2.2.1,.osl 0 (eInt .i64).sz r.2.2.2.2.2.2.2.2.length])),(0,.blk 3 (D.flat (r.2.2.2.2.2.2.2.2.map (eInt .i64).d)))]:=by
 refine cF (rs:=[.int .i64 r.1]) func34 M ntmps34 (nle M) fun O hO=>?_
 show IWP _ _ _ _ ⟨[(0,.ref 1000 0),(1,.int .i64 a0),(2,.agg (v4 a1))],[(1000,.blk 60 (mixD aB.toEnc0 (w22 a2 a3 a4 a5 a6) a7 [.int .i64 a8,.osl 1001 (eInt .i64).sz a9.length])),(1001,.blk 3 (D.flat (a9.map (eInt .i64).d)))]⟩ _
 unfold lW at h
 refine aF (aA M (fE (cs:=q12) 0 M M (lb M) M (svA q12 M) M M)<|aA M (aI M M (lb M) (sv (d:=.int _ 0) M))<|aE ?_)
 refine fL (α:=Int × Int × (List aP) × Int × Int × (List aM) × Int × (List Int)) (fun z=>⟨[(0,.ref 1000 0),(1,.int .i64 a0),(5,.ref 0 0)],[(1000,.blk 60 (mixD aB.toEnc0 (w22 z.1 z.2.1 z.2.2.1 z.2.2.2.1 z.2.2.2.2.1) z.2.2.2.2.2.1 [.int .i64 z.2.2.2.2.2.2.1,.osl 1 (eInt .i64).sz z.2.2.2.2.2.2.2.length])),(0,.blk 72 (v4 a1)),(1,.blk 3 (D.flat (z.2.2.2.2.2.2.2.map (eInt .i64).d)))]⟩) (fun z=>kL a0 a1 z.1 z.2.1 z.2.2.1 z.2.2.2.1 z.2.2.2.2.1 z.2.2.2.2.2.1 z.2.2.2.2.2.2.1 z.2.2.2.2.2.2.2=some r) ?_ ?_
 ·
  obtain ⟨x27,hx27,h⟩:=aL h
  obtain ⟨x28,hx28,h⟩:=aK h
  refine dN M [⟨[0],[],[(10,.ref 1000 0)],[]⟩,
   ⟨[10],[1000,1001],[(11,.int .i64 x27)],[]⟩,
   ⟨[0],[],[(12,.ref 1000 0)],[]⟩,
   ⟨[12],[],[(13,.ref 1000 0)],[]⟩,
   ⟨[13],[],[(14,.ref 1000 0)],[]⟩,
   ⟨[14],[1000],[(15,.int .i64 a2)],[]⟩,
   ⟨[11,15],[],[(16,.bool x28)],[]⟩] M ?_ (by kernel_rfl) ?_
  ·refine .cons (lop M M fun S hA=>(aD M M (lb M) (svaR hA M M))) ?_
   refine .cons (lop M M fun S hA=>(iF (r':=.int .i64 x27) (V:=[(1000,.blk 60 (mixD aB.toEnc0 (w22 a2 a3 a4 a5 a6) a7 [.int .i64 a8,.osl 1001 (eInt .i64).sz a9.length])),(1001,.blk 3 (D.flat (a9.map (eInt .i64).d)))]) 1 [1000,1001] M M (lb M) cl14 (.cons (svaR hA M M) .nil) M M M ⟨by decide,M,List.forall_mem_cons.2 ⟨⟨M,M,(jI aB (agi hA M M) M M),(cW aB M M)⟩,List.forall_mem_cons.2 ⟨⟨M,M,(fW (eInt .i64) (agi hA M M)),(bK (eInt .i64))⟩,List.forall_mem_nil _⟩⟩⟩ (oD _ _ _ _ _ _ _ _ _ hx27) M M (List.forall_mem_cons.2 ⟨⟨M,(cW aB M M)⟩,List.forall_mem_cons.2 ⟨⟨M,(bK (eInt .i64))⟩,List.forall_mem_nil _⟩⟩) (by simp only [List.map_cons,List.map_nil,Ent.ren,bL,bT,dE]; rfl) (List.forall_mem_cons.2 ⟨(agi hA M M),List.forall_mem_cons.2 ⟨(agi hA M M),List.forall_mem_nil _⟩⟩) M)) ?_
   refine .cons (lop M M fun S hA=>(aD M M (lb M) (svaR hA M M))) ?_
   refine .cons (lop M M fun S hA=>(aN M M (lb M) (svaR hA M M))) ?_
   refine .cons (lop M M fun S hA=>(bF M M (lb M) underlying60 M ti3 (by decide) (svaR hA M M) (off':=0) M)) ?_
   refine .cons (lop M M fun S hA=>(rN aB.toEnc0 (d:=.int _ _) M M (lb M) underlying3 ag3 ti3 (by decide) (svaR hA M M) (agi hA M M) (nle M) (by rfl))) ?_
   refine .cons (lop M M fun S hA=>(aO M M (lb M) (svaI hA M M) (svaI hA M M) M hx28)) ?_
   exact .nil
  refine aW (b:=_) M (fun hc29=>?_) (fun hc29=>?_)
  ·
   replace h:=bX h hc29
   refine aU ?_
   obtain ⟨hk30,h⟩:=iG h
   obtain ⟨x31,hx31,h⟩:=aK h
   refine aF (aA M (mvR M M M M)<|aA M (aN M M (lb M) (svR M))<|aA M (faR 390 M M M underlying60 M ti24 (lb M) M M)<|aA M (gW aB.toEnc0 (d:=.osl _ _ _) (n:=64) (k:=1) M M (lb M) underlying24 ag24 ti24 (by decide) (svR M) M hk30 (by rfl) (nle M) (by rfl))<|aA M (mW M M (lb M) underlying24 (sv (d:=.osl _ _ _) M))<|aA M (aO M M (lb M) (svI M) (sv (d:=.int _ 0) M) M hx31)<|aE ?_)
   refine aW (b:=_) M (fun hc32=>?_) (fun hc32=>?_)
   ·
    replace h:=bX h hc32
    refine aF (aA M (aI M M (lb M) (sv (d:=.int _ 7) M))<|aE ?_)
    refine bB ?_
    refine bP ?_
    refine bP ?_
    obtain rfl:=sj_ h
    refine ⟨.inr M,(fun i=>if i=0 then 1001 else i),⟨.nil,(.cons (EntW.mix aB M (SubC.of_eq M) (SubC.of_eq M) M M) (.cons (EntW.lst M) .nil)),aY [1000,1001] M (by decide),(fun i hi=>by first | rfl | (show (if _ then _ else _)=_; (repeat' split) <;> omega))⟩,(.cons (sv M) .nil),M⟩
   ·
    replace h:=bY h hc32
    refine aT ?_
    refine aJ ?_
    obtain ⟨x33,hx33,h⟩:=aL h
    obtain ⟨x34,hx34,h⟩:=aL h
    obtain ⟨x35,hx35,h⟩:=aL h
    refine aS (aA M (mvR M M M M)<|aA M (mvR M M M M)<|aA M (aN M M (lb M) (svR M))<|aA M (faR 390 M M M underlying60 M ti24 (lb M) M M)<|aA M (gW aB.toEnc0 (d:=.osl _ _ _) (n:=64) (k:=1) M M (lb M) underlying24 ag24 ti24 (by decide) (svR M) M hk30 (by rfl) (nle M) (by rfl))<|aA M (aX (eInt .i64).toEnc0 M M (lb M) underlying24 ti3 (sv (d:=.osl _ _ _) M) M (sv (d:=.int _ 0) M) hx33)<|aA M (bO (eInt .i64).toEnc0 (d:=.int _ _) M M (lb M) underlying3 ag3 ti3 (by decide) (svR M) M hx34 (nle M) M)<|aA M (bG (r':=.tuple []) (H1':=[(1000,.blk 60 (mixD aB.toEnc0 (w22 x35.1 x35.2.1 x35.2.2.1 x35.2.2.2.1 x35.2.2.2.2.1) x35.2.2.2.2.2.1 [.int .i64 x35.2.2.2.2.2.2.1,.osl 1 (eInt .i64).sz x35.2.2.2.2.2.2.2.length])),(1,.blk 3 (D.flat (x35.2.2.2.2.2.2.2.map (eInt .i64).d)))]) 1 [1000,1001] M M (lb M) cl36 (.cons (svR M) (.cons (svI M) .nil)) M M ⟨M,M,by decide,M,List.forall_mem_cons.2 ⟨⟨M,M,(jI aB M M M),(cW aB M M)⟩,List.forall_mem_cons.2 ⟨⟨M,M,(fW (eInt .i64) M),(bK (eInt .i64))⟩,List.forall_mem_nil _⟩⟩⟩ (oB _ _ _ _ _ _ _ _ _ _ hx35) M M (List.forall_mem_cons.2 ⟨⟨M,(cW aB M M)⟩,List.forall_mem_cons.2 ⟨⟨M,(bK (eInt .i64))⟩,List.forall_mem_nil _⟩⟩) (by simp only [List.map_cons,List.map_nil,Ent.ren,bL,bT,dE]; rfl))<|bE ?_)
    refine aJ ⟨(x35.1,x35.2.1,x35.2.2.1,x35.2.2.2.1,x35.2.2.2.2.1,x35.2.2.2.2.2.1,x35.2.2.2.2.2.2.1,x35.2.2.2.2.2.2.2),(fun i=>i),⟨(.sames M M),(.cons (EntW.mix aB M (SubC.of_eq M) (SubC.of_eq M) M M) (.cons (.blk M M M) (.cons (EntW.lst M) .nil))),aY [1000,0,1] M (by decide),fun _ _=>M⟩,?_⟩
    exact h
  ·
   replace h:=bY h hc29
   refine aT ?_
   refine aJ ⟨(a2,a3,a4,a5,a6,a7,a8,a9),(fun i=>if i=1 then 1001 else i),⟨(.sames M M),(.cons (EntW.mix aB M (SubC.of_eq M) (SubC.of_eq M) M M) (.cons (.blk M M M) (.cons (EntW.lst M) .nil))),aY [1000,0,1001] M (by decide),(fun i hi=>by first | rfl | (show (if _ then _ else _)=_; (repeat' split) <;> omega))⟩,?_⟩
   exact h
 ·
  rintro ⟨v10,v11,v12,v13,v14,v15,v16,v17⟩ h
  unfold kL at h
  obtain ⟨x18,hx18,h⟩:=aL h
  refine aF (aA M (mvR M M M M)<|aA M (aN M M (lb M) (svR M))<|aA M (faR 2 M M M underlying60 M ti55 (lb M) M M)<|aA M (pS aB.toEnc0 (cs:=q10) M M (lb M) underlying55 ag55 ti55 (by decide) (svR M) M (nle M) (by rfl))<|aA M (mvI M M M M)<|aA M (bJ (r:=.tuple q20) M M (lb M) cl43 (.cons (svA q10 M) (.cons (svI M) .nil)) M (vH _ _ _ hx18))<|aA M (aD M M (lb M) (sv (d:=.tuple q20) M))<|aA M (cM (d:=.agg q10) M M (lb M) (sv (d:=.tuple q20) M) M)<|aA M (cM (d:=.int _ _) M M (lb M) (sv (d:=.tuple q20) M) M)<|aA M (cM (d:=.int _ _) M M (lb M) (sv (d:=.tuple q20) M) M)<|aA M (gN (cs:=q14) (cs':=[.slice false (([]:List aP).map bA.d),.int .i64 0,.int .i64 0]) 2 M M (lb M) M ti55 M M (.cons (.nils _) (.all _)))<|aA M (stA q10 q10 ti55 M M M M M M M M (nle M) M)<|aA M (asI M M M M)<|aA M (asI M M M M)<|aE ?_)
  refine aU ?_
  obtain ⟨x19,hx19,h⟩:=aK h
  refine aF (aA M (mvI M M M M)<|aA M (aO M M (lb M) (svI M) (sv (d:=.int _ 0) M) M hx19)<|aE ?_)
  refine aW (b:=_) M (fun hc20=>?_) (fun hc20=>?_)
  ·
   replace h:=bX h hc20
   refine aF (aA M (mvI M M M M)<|aA M (asI M M M M)<|aE ?_)
   refine bB ?_
   refine bP ?_
   obtain rfl:=sj_ h
   refine ⟨.inr M,(fun i=>if i=0 then 1 else i),⟨.nil,(.cons (EntW.mix aB M (SubC.of_eq M) (SubC.of_eq M) M M) (.cons (EntW.lst M) .nil)),aY [1000,1] M (by decide),(fun i hi=>by first | rfl | (show (if _ then _ else _)=_; (repeat' split) <;> omega))⟩,(.cons (sv M) .nil),M⟩
  ·
   replace h:=bY h hc20
   refine aT ?_
   refine aJ ?_
   refine aF (aA M (mvR M M M M)<|aA M (lra q10 la55 M M M M M (nle M) M)<|aA M (aN M M (lb M) (svR M))<|aA M (faR 2 M M M underlying60 M ti55 (lb M) M M)<|aA M (sG aB.toEnc0 (pre:=q7) (pre':=q7) M M ti55 (svR M) M (svA q10 M) M M M (nle M) M)<|aE ?_)
   obtain ⟨x21,hx21,h⟩:=aL h
   obtain ⟨hk22,h⟩:=iG h
   obtain ⟨x23,hx23,h⟩:=aL h
   obtain ⟨x24,hx24,h⟩:=aK h
   refine aF (aA M (mvR M M M M)<|aA M (mvI M M M M)<|aA M (mvI M M M M)<|aA M (cV (cs:=q6) M M (lb M) underlying57 ti57 pl57 M (.cons (svI M) (.cons (sv (d:=.int _ (-1)) M) (.cons (sv (d:=.int _ (-1)) M) (.cons (sv (d:=.int _ 16) M) .nil)))) M)<|aA M (aN M M (lb M) (svR M))<|aA M (faR 5 M M M underlying60 M ti58 (lb M) M M)<|aA M (dO aB.toEnc0 M M (lb M) underlying58 ti57 (svR M) hk22 (svI M) hx21)<|aA M (jW aB.toEnc0 (b:=5) (k:=0) (a':=(⟨a0,0,(-1),(-1),16,false⟩:aM)) M M ti57 (svR M) M (svA q6 M) M M M M hx23 (nle M) M hx24)<|aE ?_)
   obtain ⟨x25,hx25,h⟩:=aL h
   refine aF (aA M (mvR M M M M)<|aA M (mvI M M M M)<|aA M (bG (r':=.tuple []) (H1':=[(1000,.blk 60 (mixD aB.toEnc0 (w22 x25.1 x25.2.1 x25.2.2.1 x25.2.2.2.1 x25.2.2.2.2.1) x25.2.2.2.2.2.1 [.int .i64 x25.2.2.2.2.2.2.1,.osl 3 (eInt .i64).sz x25.2.2.2.2.2.2.2.length])),(3,.blk 3 (D.flat (x25.2.2.2.2.2.2.2.map (eInt .i64).d)))]) 3 [1000,1] M M (lb M) cl44 (.cons (svR M) (.cons (svI M) (.cons (sv (d:=.int _ (-1)) M) .nil))) M M ⟨M,M,by decide,M,List.forall_mem_cons.2 ⟨⟨M,M,(jI aB M M M),(cW aB M M)⟩,List.forall_mem_cons.2 ⟨⟨M,M,(fW (eInt .i64) M),(bK (eInt .i64))⟩,List.forall_mem_nil _⟩⟩⟩ (pL _ _ _ _ _ _ _ _ _ _ _ hx25) M M (List.forall_mem_cons.2 ⟨⟨M,(cW aB M M)⟩,List.forall_mem_cons.2 ⟨⟨M,(bK (eInt .i64))⟩,List.forall_mem_nil _⟩⟩) (by simp only [List.map_cons,List.map_nil,Ent.ren,bL,bT,dE]; rfl))<|aE ?_)
   obtain ⟨x26,hx26,h⟩:=aL h
   refine aF (aA M (mvR M M M M)<|aA M (mvI M M M M)<|aA M (lra q12 la72 M M M M M (nle M) M)<|aA M (bG (r':=.tuple []) (H1':=[(1000,.blk 60 (mixD aB.toEnc0 (w22 x26.1 x26.2.1 x26.2.2.1 x26.2.2.2.1 x26.2.2.2.2.1) x26.2.2.2.2.2.1 [.int .i64 x26.2.2.2.2.2.2.1,.osl 4 (eInt .i64).sz x26.2.2.2.2.2.2.2.length])),(4,.blk 3 (D.flat (x26.2.2.2.2.2.2.2.map (eInt .i64).d)))]) 4 [1000,3] M M (lb M) cl35 (.cons (svR M) (.cons (svI M) (.cons (svA q12 M) .nil))) M M ⟨M,M,by decide,M,List.forall_mem_cons.2 ⟨⟨M,M,(jI aB M M M),(cW aB M M)⟩,List.forall_mem_cons.2 ⟨⟨M,M,(fW (eInt .i64) M),(bK (eInt .i64))⟩,List.forall_mem_nil _⟩⟩⟩ (pG _ _ _ _ _ _ _ _ _ _ _ hx26) M M (List.forall_mem_cons.2 ⟨⟨M,(cW aB M M)⟩,List.forall_mem_cons.2 ⟨⟨M,(bK (eInt .i64))⟩,List.forall_mem_nil _⟩⟩) (by simp only [List.map_cons,List.map_nil,Ent.ren,bL,bT,dE]; rfl))<|aE ?_)
   refine aF (aA M (aI M M (lb M) (sv (d:=.int _ 0) M))<|aE ?_)
   refine bB ?_
   obtain rfl:=sj_ h
   refine ⟨.inr M,(fun i=>if i=0 then 4 else i),⟨.nil,(.cons (EntW.mix aB M (SubC.of_eq M) (SubC.of_eq M) M M) (.cons (EntW.lst M) .nil)),aY [1000,4] M (by decide),(fun i hi=>by first | rfl | (show (if _ then _ else _)=_; (repeat' split) <;> omega))⟩,(.cons (sv M) .nil),M⟩

theorem kV (a0:Int) (a1:Int) (a2:Int) (a3:Bool) (a4:Int) (a5:Int) (a6:(List aP)) (a7:Int) (a8:Int) (a9:(List aM)) (a10:Int) (a11:(List Int)) (r:(Int × Int × Int × (List aP) × Int × Int × (List aM) × Int × (List Int))) (h:iR a0 a1 a2 a3 a4 a5 a6 a7 a8 a9 a10 a11=some r):FnH prog 18 [.ref 1000 0,.int .i64 a0,.int .i64 a1,.int .i64 a2,.bool a3] [(1000,.blk 60 (mixD aB.toEnc0 (w22 a4 a5 a6 a7 a8) a9 [.int .i64 a10,.osl 1001 (eInt .i64).sz a11.length])),(1001,.blk 3 (D.flat (a11.map (eInt .i64).d)))] (.int .i64 r.1) [(1000,.blk 60 (mixD aB.toEnc0 (w22 r.2.1 r.2.2.1 r.2.2.2.1 r.2.2.2.2.1 r.2.2.2.2.2.1) r.2.2.2.2.2.2.1 [.int .i64 r.2.2.2.2.2.2.2.1,.osl 0 (eInt .i64).sz r.2.2.2.2.2.2.2.2.length])),(0,.blk 3 (D.flat (r.2.2.2.2.2.2.2.2.map (eInt .i64).d)))]:=by
 refine cF (rs:=[.int .i64 r.1]) func18 M ntmps18 (nle M) fun O hO=>?_
 show IWP _ _ _ _ ⟨[(0,.ref 1000 0),(1,.int .i64 a0),(2,.int .i64 a1),(3,.int .i64 a2),(4,.bool a3)],[(1000,.blk 60 (mixD aB.toEnc0 (w22 a4 a5 a6 a7 a8) a9 [.int .i64 a10,.osl 1001 (eInt .i64).sz a11.length])),(1001,.blk 3 (D.flat (a11.map (eInt .i64).d)))]⟩ _
 unfold iR at h
 refine aF (aA M (aI M M (lb M) (sv (d:=.int _ 0) M))<|aE ?_)
 refine aU ?_
 refine aF (aA M (mvR M M M M)<|aA M (pT M M (lb M) underlying26 (svR M) (sv (d:=.nilp) M))<|aE ?_)
 refine gM M M ?_
 refine aT ?_
 refine aJ ?_
 refine aF (aA M (mvI M M M M)<|aA M (mvI M M M M)<|aA M (mvB M M M M)<|aA M (cV (cs:=q12) M M (lb M) underlying72 ti72 pl72 M (.cons (svI M) (.cons (svI M) (.cons (svB M) .nil))) M)<|aA M (gN (cs:=q12) (cs':=[.int .i64 0,.int .i64 0,.bool false]) 0 M M (lb M) M ti72 M M (.all _))<|aA M (stA q12 q12 ti72 M M M M M M M M (nle M) M)<|aE ?_)
 refine aU ?_
 obtain ⟨x1,hx1,h⟩:=aL h
 refine aF (aA M (lra q12 la72 M M M M M (nle M) M)<|aA M (mvI M M M M)<|aA M (bJ (r:=.int _ _) M M (lb M) cl33 (.cons (svA q12 M) (.cons (svI M) .nil)) M (pZ _ _ _ hx1))<|aA M (asI M M M M)<|aE ?_)
 obtain ⟨x2,hx2,h⟩:=aK h
 refine aF (aA M (mvI M M M M)<|aA M (aO M M (lb M) (svI M) (sv (d:=.int _ 0) M) M hx2)<|aE ?_)
 refine aW (b:=_) M (fun hc3=>?_) (fun hc3=>?_)
 ·
  replace h:=bX h hc3
  refine aF (aA M (mvI M M M M)<|aA M (asI M M M M)<|aE ?_)
  refine bB ?_
  refine bP ?_
  obtain rfl:=sj_ h
  refine ⟨.inr M,(fun i=>if i=0 then 1001 else i),⟨.nil,(.cons (EntW.mix aB M (SubC.of_eq M) (SubC.of_eq M) M M) (.cons (EntW.lst M) .nil)),aY [1000,1001] M (by decide),(fun i hi=>by first | rfl | (show (if _ then _ else _)=_; (repeat' split) <;> omega))⟩,(.cons (sv M) .nil),M⟩
 ·
  replace h:=bY h hc3
  refine aT ?_
  refine aJ ?_
  refine aU ?_
  obtain ⟨x4,hx4,h⟩:=aL h
  obtain ⟨x5,hx5,h⟩:=aK h
  refine aF (aA M (mvR M M M M)<|aA M (mvI M M M M)<|aA M (iF (r':=.int .i64 x4) (V:=[(1000,.blk 60 (mixD aB.toEnc0 (w22 a4 a5 a6 a7 a8) a9 [.int .i64 a10,.osl 1001 (eInt .i64).sz a11.length])),(1001,.blk 3 (D.flat (a11.map (eInt .i64).d)))]) 1 [1000,1001] M M (lb M) cl28 (.cons (svR M) (.cons (svI M) .nil)) M M M ⟨by decide,M,List.forall_mem_cons.2 ⟨⟨M,M,(jI aB M M M),(cW aB M M)⟩,List.forall_mem_cons.2 ⟨⟨M,M,(fW (eInt .i64) M),(bK (eInt .i64))⟩,List.forall_mem_nil _⟩⟩⟩ (gJ _ _ _ _ _ _ _ _ _ _ hx4) M M (List.forall_mem_cons.2 ⟨⟨M,(cW aB M M)⟩,List.forall_mem_cons.2 ⟨⟨M,(bK (eInt .i64))⟩,List.forall_mem_nil _⟩⟩) (by simp only [List.map_cons,List.map_nil,Ent.ren,bL,bT,dE]; rfl) (List.forall_mem_cons.2 ⟨M,List.forall_mem_cons.2 ⟨M,List.forall_mem_nil _⟩⟩) M)<|aA M (aO M M (lb M) (svI M) (sv (d:=.int _ (-1)) M) M hx5)<|aE ?_)
  refine aW (b:=_) M (fun hc6=>?_) (fun hc6=>?_)
  ·
   replace h:=bX h hc6
   refine aF (aA M (aI M M (lb M) (sv (d:=.int _ 13) M))<|aE ?_)
   refine bB ?_
   refine bP ?_
   obtain rfl:=sj_ h
   refine ⟨.inr M,(fun i=>if i=0 then 1001 else i),⟨.nil,(.cons (EntW.mix aB M (SubC.of_eq M) (SubC.of_eq M) M M) (.cons (EntW.lst M) .nil)),aY [1000,1001] M (by decide),(fun i hi=>by first | rfl | (show (if _ then _ else _)=_; (repeat' split) <;> omega))⟩,(.cons (sv M) .nil),M⟩
  ·
   replace h:=bY h hc6
   refine aT ?_
   refine aJ ?_
   obtain ⟨x7,hx7,h⟩:=aL h
   refine aF (aA M (mvR M M M M)<|aA M (mvI M M M M)<|aA M (lra q12 la72 M M M M M (nle M) M)<|aA M (bG (r':=.int .i64 x7.1) (H1':=[(1000,.blk 60 (mixD aB.toEnc0 (w22 x7.2.1 x7.2.2.1 x7.2.2.2.1 x7.2.2.2.2.1 x7.2.2.2.2.2.1) x7.2.2.2.2.2.2.1 [.int .i64 x7.2.2.2.2.2.2.2.1,.osl 1 (eInt .i64).sz x7.2.2.2.2.2.2.2.2.length])),(1,.blk 3 (D.flat (x7.2.2.2.2.2.2.2.2.map (eInt .i64).d)))]) 1 [1000,1001] M M (lb M) cl34 (.cons (svR M) (.cons (svI M) (.cons (svA q12 M) .nil))) M M ⟨M,M,by decide,M,List.forall_mem_cons.2 ⟨⟨M,M,(jI aB M M M),(cW aB M M)⟩,List.forall_mem_cons.2 ⟨⟨M,M,(fW (eInt .i64) M),(bK (eInt .i64))⟩,List.forall_mem_nil _⟩⟩⟩ (pA _ _ _ _ _ _ _ _ _ _ _ hx7) M M (List.forall_mem_cons.2 ⟨⟨M,(cW aB M M)⟩,List.forall_mem_cons.2 ⟨⟨M,(bK (eInt .i64))⟩,List.forall_mem_nil _⟩⟩) (by simp only [List.map_cons,List.map_nil,Ent.ren,bL,bT,dE]; rfl))<|aA M (asI M M M M)<|aE ?_)
   refine bB ?_
   obtain rfl:=sj_ h
   refine ⟨.inr M,(fun i=>if i=0 then 1 else i),⟨.nil,(.cons (EntW.mix aB M (SubC.of_eq M) (SubC.of_eq M) M M) (.cons (EntW.lst M) .nil)),aY [1000,1] M (by decide),(fun i hi=>by first | rfl | (show (if _ then _ else _)=_; (repeat' split) <;> omega))⟩,(.cons (sv M) .nil),M⟩

theorem rJ (a0:Int) (a1:Int) (a2:Int) (a3:Bool) (a4:Int) (a5:Int) (a6:(List aP)) (a7:Int) (a8:Int) (a9:(List aM)) (a10:Int) (a11:(List Int)) (r:(Int × Int × Int × (List aP) × Int × Int × (List aM) × Int × (List Int))) (h:oO a0 a1 a2 a3 a4 a5 a6 a7 a8 a9 a10 a11=some r):FnH prog 17 [.ref 1000 0,.int .i64 a0,.int .i64 a1,.int .i64 a2,.bool a3] [(1000,.blk 60 (mixD aB.toEnc0 (w22 a4 a5 a6 a7 a8) a9 [.int .i64 a10,.osl 1001 (eInt .i64).sz a11.length])),(1001,.blk 3 (D.flat (a11.map (eInt .i64).d)))] (.int .i64 r.1) [(1000,.blk 60 (mixD aB.toEnc0 (w22 r.2.1 r.2.2.1 r.2.2.2.1 r.2.2.2.2.1 r.2.2.2.2.2.1) r.2.2.2.2.2.2.1 [.int .i64 r.2.2.2.2.2.2.2.1,.osl 0 (eInt .i64).sz r.2.2.2.2.2.2.2.2.length])),(0,.blk 3 (D.flat (r.2.2.2.2.2.2.2.2.map (eInt .i64).d)))]:=by
 refine cF (rs:=[.int .i64 r.1]) func17 M ntmps17 (nle M) fun O hO=>?_
 show IWP _ _ _ _ ⟨[(0,.ref 1000 0),(1,.int .i64 a0),(2,.int .i64 a1),(3,.int .i64 a2),(4,.bool a3)],[(1000,.blk 60 (mixD aB.toEnc0 (w22 a4 a5 a6 a7 a8) a9 [.int .i64 a10,.osl 1001 (eInt .i64).sz a11.length])),(1001,.blk 3 (D.flat (a11.map (eInt .i64).d)))]⟩ _
 unfold oO at h
 refine aF (aA M (aI M M (lb M) (sv (d:=.int _ 0) M))<|aE ?_)
 refine aU ?_
 refine aF (aA M (mvR M M M M)<|aA M (pT M M (lb M) underlying26 (svR M) (sv (d:=.nilp) M))<|aE ?_)
 refine gM M M ?_
 refine aT ?_
 refine aJ ?_
 refine aF (aA M (mvI M M M M)<|aA M (mvI M M M M)<|aA M (mvB M M M M)<|aA M (cV (cs:=q12) M M (lb M) underlying72 ti72 pl72 M (.cons (svI M) (.cons (svI M) (.cons (svB M) .nil))) M)<|aA M (gN (cs:=q12) (cs':=[.int .i64 0,.int .i64 0,.bool false]) 0 M M (lb M) M ti72 M M (.all _))<|aA M (stA q12 q12 ti72 M M M M M M M M (nle M) M)<|aE ?_)
 refine aU ?_
 obtain ⟨x1,hx1,h⟩:=aL h
 refine aF (aA M (lra q12 la72 M M M M M (nle M) M)<|aA M (mvI M M M M)<|aA M (bJ (r:=.int _ _) M M (lb M) cl33 (.cons (svA q12 M) (.cons (svI M) .nil)) M (pZ _ _ _ hx1))<|aA M (asI M M M M)<|aE ?_)
 obtain ⟨x2,hx2,h⟩:=aK h
 refine aF (aA M (mvI M M M M)<|aA M (aO M M (lb M) (svI M) (sv (d:=.int _ 0) M) M hx2)<|aE ?_)
 refine aW (b:=_) M (fun hc3=>?_) (fun hc3=>?_)
 ·
  replace h:=bX h hc3
  refine aF (aA M (mvI M M M M)<|aA M (asI M M M M)<|aE ?_)
  refine bB ?_
  refine bP ?_
  obtain rfl:=sj_ h
  refine ⟨.inr M,(fun i=>if i=0 then 1001 else i),⟨.nil,(.cons (EntW.mix aB M (SubC.of_eq M) (SubC.of_eq M) M M) (.cons (EntW.lst M) .nil)),aY [1000,1001] M (by decide),(fun i hi=>by first | rfl | (show (if _ then _ else _)=_; (repeat' split) <;> omega))⟩,(.cons (sv M) .nil),M⟩
 ·
  replace h:=bY h hc3
  refine aT ?_
  refine aJ ?_
  obtain ⟨x4,hx4,h⟩:=aL h
  refine aF (aA M (mvR M M M M)<|aA M (mvI M M M M)<|aA M (iF (r':=.int .i64 x4) (V:=[(1000,.blk 60 (mixD aB.toEnc0 (w22 a4 a5 a6 a7 a8) a9 [.int .i64 a10,.osl 1001 (eInt .i64).sz a11.length])),(1001,.blk 3 (D.flat (a11.map (eInt .i64).d)))]) 1 [1000,1001] M M (lb M) cl28 (.cons (svR M) (.cons (svI M) .nil)) M M M ⟨by decide,M,List.forall_mem_cons.2 ⟨⟨M,M,(jI aB M M M),(cW aB M M)⟩,List.forall_mem_cons.2 ⟨⟨M,M,(fW (eInt .i64) M),(bK (eInt .i64))⟩,List.forall_mem_nil _⟩⟩⟩ (gJ _ _ _ _ _ _ _ _ _ _ hx4) M M (List.forall_mem_cons.2 ⟨⟨M,(cW aB M M)⟩,List.forall_mem_cons.2 ⟨⟨M,(bK (eInt .i64))⟩,List.forall_mem_nil _⟩⟩) (by simp only [List.map_cons,List.map_nil,Ent.ren,bL,bT,dE]; rfl) (List.forall_mem_cons.2 ⟨M,List.forall_mem_cons.2 ⟨M,List.forall_mem_nil _⟩⟩) M)<|aA M (asI M M M M)<|aE ?_)
  refine aU ?_
  obtain ⟨x5,hx5,h⟩:=aK h
  refine aF (aA M (mvI M M M M)<|aA M (aO M M (lb M) (svI M) (sv (d:=.int _ (-1)) M) M hx5)<|aE ?_)
  refine aW (b:=_) M (fun hc6=>?_) (fun hc6=>?_)
  ·
   replace h:=bX h hc6
   obtain ⟨x7,hx7,h⟩:=aL h
   refine aF (aA M (mvR M M M M)<|aA M (mvI M M M M)<|aA M (lra q12 la72 M M M M M (nle M) M)<|aA M (bG (r':=.int .i64 x7.1) (H1':=[(1000,.blk 60 (mixD aB.toEnc0 (w22 x7.2.1 x7.2.2.1 x7.2.2.2.1 x7.2.2.2.2.1 x7.2.2.2.2.2.1) x7.2.2.2.2.2.2.1 [.int .i64 x7.2.2.2.2.2.2.2.1,.osl 1 (eInt .i64).sz x7.2.2.2.2.2.2.2.2.length])),(1,.blk 3 (D.flat (x7.2.2.2.2.2.2.2.2.map (eInt .i64).d)))]) 1 [1000,1001] M M (lb M) cl34 (.cons (svR M) (.cons (svI M) (.cons (svA q12 M) .nil))) M M ⟨M,M,by decide,M,List.forall_mem_cons.2 ⟨⟨M,M,(jI aB M M M),(cW aB M M)⟩,List.forall_mem_cons.2 ⟨⟨M,M,(fW (eInt .i64) M),(bK (eInt .i64))⟩,List.forall_mem_nil _⟩⟩⟩ (pA _ _ _ _ _ _ _ _ _ _ _ hx7) M M (List.forall_mem_cons.2 ⟨⟨M,(cW aB M M)⟩,List.forall_mem_cons.2 ⟨⟨M,(bK (eInt .i64))⟩,List.forall_mem_nil _⟩⟩) (by simp only [List.map_cons,List.map_nil,Ent.ren,bL,bT,dE]; rfl))<|aA M (asI M M M M)<|aE ?_)
   refine bB ?_
   refine bP ?_
   obtain rfl:=sj_ h
   refine ⟨.inr M,(fun i=>if i=0 then 1 else i),⟨.nil,(.cons (EntW.mix aB M (SubC.of_eq M) (SubC.of_eq M) M M) (.cons (EntW.lst M) .nil)),aY [1000,1] M (by decide),(fun i hi=>by first | rfl | (show (if _ then _ else _)=_; (repeat' split) <;> omega))⟩,(.cons (sv M) .nil),M⟩
  ·
   replace h:=bY h hc6
   refine aT ?_
   refine aJ ?_
   obtain ⟨x8,hx8,h⟩:=aL h
   refine aF (aA M (mvR M M M M)<|aA M (mvI M M M M)<|aA M (lra q12 la72 M M M M M (nle M) M)<|aA M (bG (r':=.tuple []) (H1':=[(1000,.blk 60 (mixD aB.toEnc0 (w22 x8.1 x8.2.1 x8.2.2.1 x8.2.2.2.1 x8.2.2.2.2.1) x8.2.2.2.2.2.1 [.int .i64 x8.2.2.2.2.2.2.1,.osl 1 (eInt .i64).sz x8.2.2.2.2.2.2.2.length])),(1,.blk 3 (D.flat (x8.2.2.2.2.2.2.2.map (eInt .i64).d)))]) 1 [1000,1001] M M (lb M) cl35 (.cons (svR M) (.cons (svI M) (.cons (svA q12 M) .nil))) M M ⟨M,M,by decide,M,List.forall_mem_cons.2 ⟨⟨M,M,(jI aB M M M),(cW aB M M)⟩,List.forall_mem_cons.2 ⟨⟨M,M,(fW (eInt .i64) M),(bK (eInt .i64))⟩,List.forall_mem_nil _⟩⟩⟩ (pG _ _ _ _ _ _ _ _ _ _ _ hx8) M M (List.forall_mem_cons.2 ⟨⟨M,(cW aB M M)⟩,List.forall_mem_cons.2 ⟨⟨M,(bK (eInt .i64))⟩,List.forall_mem_nil _⟩⟩) (by simp only [List.map_cons,List.map_nil,Ent.ren,bL,bT,dE]; rfl))<|aE ?_)
   refine aF (aA M (aI M M (lb M) (sv (d:=.int _ 0) M))<|aE ?_)
   refine bB ?_
   obtain rfl:=sj_ h
   refine ⟨.inr M,(fun i=>if i=0 then 1 else i),⟨.nil,(.cons (EntW.mix aB M (SubC.of_eq M) (SubC.of_eq M) M M) (.cons (EntW.lst M) .nil)),aY [1000,1] M (by decide),(fun i hi=>by first | rfl | (show (if _ then _ else _)=_; (repeat' split) <;> omega))⟩,(.cons (sv M) .nil),M⟩

theorem jV (a0:Int) (a1:Int) (a2:Int) (a3:(List aP)) (a4:Int) (a5:Int) (a6:(List aM)) (a7:Int) (a8:(List Int)) (r:Int) (h:iZ a0 a1 a2 a3 a4 a5 a6 a7 a8=some r):FnH prog 25 [.ref 1000 0,.int .i64 a0] [(1000,.blk 60 (mixD aB.toEnc0 (w22 a1 a2 a3 a4 a5) a6 [.int .i64 a7,.osl 1001 (eInt .i64).sz a8.length])),(1001,.blk 3 (D.flat (a8.map (eInt .i64).d)))] (.int .i64 r) [(1000,.blk 60 (mixD aB.toEnc0 (w22 a1 a2 a3 a4 a5) a6 [.int .i64 a7,.osl 1001 (eInt .i64).sz a8.length])),(1001,.blk 3 (D.flat (a8.map (eInt .i64).d)))]:=by
 refine cF (rs:=[.int .i64 r]) func25 M ntmps25 (nle M) fun O hO=>?_
 show IWP _ _ _ _ ⟨[(0,.ref 1000 0),(1,.int .i64 a0)],[(1000,.blk 60 (mixD aB.toEnc0 (w22 a1 a2 a3 a4 a5) a6 [.int .i64 a7,.osl 1001 (eInt .i64).sz a8.length])),(1001,.blk 3 (D.flat (a8.map (eInt .i64).d)))]⟩ _
 unfold iZ at h
 refine aF (aA M (aI M M (lb M) (sv (d:=.int _ 0) M))<|aE ?_)
 refine aU ?_
 obtain ⟨x1,hx1,h⟩:=aK h
 refine aF (aA M (mvI M M M M)<|aA M (aO M M (lb M) (svI M) (sv (d:=.int _ (-1)) M) M hx1)<|aE ?_)
 refine aW (b:=_) M (fun hc2=>?_) (fun hc2=>?_)
 ·
  replace h:=bX h hc2
  refine aF (aA M (aI M M (lb M) (sv (d:=.int _ 0) M))<|aE ?_)
  refine bB ?_
  refine bP ?_
  obtain rfl:=sj_ h
  refine ⟨.inr M,(fun i=>i),⟨.nil,(.cons (EntW.mix aB M (SubC.of_eq M) (SubC.of_eq M) M M) (.cons (EntW.lst M) .nil)),aY [1000,1001] M (by decide),fun _ _=>M⟩,(.cons (sv M) .nil),M⟩
 ·
  replace h:=bY h hc2
  refine aT ?_
  refine aJ ?_
  obtain ⟨x3,hx3,h⟩:=aL h
  obtain ⟨hk4,h⟩:=iG h
  obtain ⟨x5,hx5,h⟩:=aL h
  refine aF (aA M (mvR M M M M)<|aA M (mvI M M M M)<|aA M (aN M M (lb M) (svR M))<|aA M (faR 5 M M M underlying60 M ti58 (lb M) M M)<|aA M (dO aB.toEnc0 M M (lb M) underlying58 ti57 (svR M) hk4 (svI M) hx3)<|aA M (cB M M (lb M) underlying57 M ti3 (by decide) (svR M) (k':=0) M)<|aA M (cI aB.toEnc0 (b:=5) (k:=0) (d:=.int _ _) M M (lb M) underlying3 ag3 ti3 (by decide) (svR M) M M hx5 (nle M) M)<|aA M (asI M M M M)<|aE ?_)
  refine bB ?_
  obtain rfl:=sj_ h
  refine ⟨.inr M,(fun i=>i),⟨.nil,(.cons (EntW.mix aB M (SubC.of_eq M) (SubC.of_eq M) M M) (.cons (EntW.lst M) .nil)),aY [1000,1001] M (by decide),fun _ _=>M⟩,(.cons (sv M) .nil),M⟩

theorem sE (a0:Int) (r:Int) (h:pQ a0=some r):fS prog 66 [.int .u64 a0] (.int .i64 r):=by
 refine cR (rs:=[.int .i64 r]) func66 M ntmps66 (nle M) M fun O hO=>?_
 show IWP _ _ _ _ ⟨[(0,.int .u64 a0)],[]⟩ _
 unfold pQ at h
 refine aF (aA M (aI M M (lb M) (sv (d:=.int _ 0) M))<|aE ?_)
 refine fL (α:=Int × Int) (fun z=>⟨[(0,.int .u64 z.1),(2,.int .i64 z.2)],[]⟩) (fun z=>mQ z.1 z.2=some r) ?_ ?_
 ·
  obtain ⟨x30,hx30,h⟩:=aK h
  refine aF (aA M (mvI M M M M)<|aA M (aO M M (lb M) (svI M) (sv (d:=.int _ 4294967296) M) M hx30)<|aE ?_)
  refine aW (b:=_) M (fun hc31=>?_) (fun hc31=>?_)
  ·
   replace h:=bX h hc31
   obtain ⟨x32,hx32,h⟩:=aL h
   refine aF (aA M (mvI M M M M)<|aA M (tA M M (lb M) (svI M) (sv (d:=.int _ 32) M) hx32)<|aA M (asI M M M M)<|aE ?_)
   refine aS (aA M (aI M M (lb M) (sv (d:=.int _ 32) M))<|bE ?_)
   refine aJ ⟨(x32,32),(fun i=>i),⟨(.sames M M),.nil,aY [] M (by decide),fun _ _=>M⟩,?_⟩
   exact h
  ·
   replace h:=bY h hc31
   refine aT ?_
   refine aJ ⟨(a0,0),(fun i=>i),⟨(.sames M M),.nil,aY [] M (by decide),fun _ _=>M⟩,?_⟩
   exact h
 ·
  rintro ⟨v4,v5⟩ h
  unfold mQ at h
  refine fL (α:=Int × Int) (fun z=>⟨[(0,.int .u64 z.1),(2,.int .i64 z.2)],[]⟩) (fun z=>mP z.1 z.2=some r) ?_ ?_
  ·
   obtain ⟨x26,hx26,h⟩:=aK h
   refine aF (aA M (mvI M M M M)<|aA M (aO M M (lb M) (svI M) (sv (d:=.int _ 65536) M) M hx26)<|aE ?_)
   refine aW (b:=_) M (fun hc27=>?_) (fun hc27=>?_)
   ·
    replace h:=bX h hc27
    obtain ⟨x28,hx28,h⟩:=aL h
    refine aF (aA M (mvI M M M M)<|aA M (tA M M (lb M) (svI M) (sv (d:=.int _ 16) M) hx28)<|aA M (asI M M M M)<|aE ?_)
    obtain ⟨x29,hx29,h⟩:=aK h
    refine aS (aA M (mvI M M M M)<|aA M (aQ M M (lb M) (svI M) (sv (d:=.int _ 16) M) M hx29)<|aA M (asI M M M M)<|bE ?_)
    refine aJ ⟨(x28,x29),(fun i=>i),⟨(.sames M M),.nil,aY [] M (by decide),fun _ _=>M⟩,?_⟩
    exact h
   ·
    replace h:=bY h hc27
    refine aT ?_
    refine aJ ⟨(v4,v5),(fun i=>i),⟨(.sames M M),.nil,aY [] M (by decide),fun _ _=>M⟩,?_⟩
    exact h
  ·
   rintro ⟨v10,v11⟩ h
   unfold mP at h
   refine fL (α:=Int × Int) (fun z=>⟨[(0,.int .u64 z.1),(2,.int .i64 z.2)],[]⟩) (fun z=>mO z.1 z.2=some r) ?_ ?_
   ·
    obtain ⟨x22,hx22,h⟩:=aK h
    refine aF (aA M (mvI M M M M)<|aA M (aO M M (lb M) (svI M) (sv (d:=.int _ 256) M) M hx22)<|aE ?_)
    refine aW (b:=_) M (fun hc23=>?_) (fun hc23=>?_)
    ·
     replace h:=bX h hc23
     obtain ⟨x24,hx24,h⟩:=aL h
     refine aF (aA M (mvI M M M M)<|aA M (tA M M (lb M) (svI M) (sv (d:=.int _ 8) M) hx24)<|aA M (asI M M M M)<|aE ?_)
     obtain ⟨x25,hx25,h⟩:=aK h
     refine aS (aA M (mvI M M M M)<|aA M (aQ M M (lb M) (svI M) (sv (d:=.int _ 8) M) M hx25)<|aA M (asI M M M M)<|bE ?_)
     refine aJ ⟨(x24,x25),(fun i=>i),⟨(.sames M M),.nil,aY [] M (by decide),fun _ _=>M⟩,?_⟩
     exact h
    ·
     replace h:=bY h hc23
     refine aT ?_
     refine aJ ⟨(v10,v11),(fun i=>i),⟨(.sames M M),.nil,aY [] M (by decide),fun _ _=>M⟩,?_⟩
     exact h
   ·
    rintro ⟨v16,v17⟩ h
    unfold mO at h
    obtain ⟨x18,hx18,h⟩:=aK h
    obtain ⟨x19,hx19,h⟩:=aL h
    obtain ⟨x20,hx20,h⟩:=aK h
    obtain ⟨x21,hx21,h⟩:=aK h
    refine aF (aA M (mvI M M M M)<|aA M (mvI M M M M)<|aA M (kX M M (lb M) ⟨_,underlying109⟩ underlying5 (svI M) hx18)<|aA M (wT M M (lb M) underlying9 (sv (d:=.str [0,1,2,2,3,3,3,3,4,4,4,4,4,4,4,4,5,5,5,5,5,5,5,5,5,5,5,5,5,5,5,5,6,6,6,6,6,6,6,6,6,6,6,6,6,6,6,6,6,6,6,6,6,6,6,6,6,6,6,6,6,6,6,6,7,7,7,7,7,7,7,7,7,7,7,7,7,7,7,7,7,7,7,7,7,7,7,7,7,7,7,7,7,7,7,7,7,7,7,7,7,7,7,7,7,7,7,7,7,7,7,7,7,7,7,7,7,7,7,7,7,7,7,7,7,7,7,7,8,8,8,8,8,8,8,8,8,8,8,8,8,8,8,8,8,8,8,8,8,8,8,8,8,8,8,8,8,8,8,8,8,8,8,8,8,8,8,8,8,8,8,8,8,8,8,8,8,8,8,8,8,8,8,8,8,8,8,8,8,8,8,8,8,8,8,8,8,8,8,8,8,8,8,8,8,8,8,8,8,8,8,8,8,8,8,8,8,8,8,8,8,8,8,8,8,8,8,8,8,8,8,8,8,8,8,8,8,8,8,8,8,8,8,8,8,8,8,8,8,8,8,8,8,8,8,8]) M) (svI M) hx19)<|aA M (kX M M (lb M) ⟨_,underlying5⟩ underlying3 (svI M) hx20)<|aA M (aQ M M (lb M) (svI M) (svI M) M hx21)<|aA M (asI M M M M)<|aE ?_)
    refine bB ?_
    obtain rfl:=sj_ h
    refine ⟨.inr M,(.cons (sv M) .nil)⟩

theorem pN (a0:Int) (r:Int) (h:oF a0=some r):fS prog 39 [.int .u64 a0] (.int .i64 r):=by
 refine cR (rs:=[.int .i64 r]) func39 M ntmps39 (nle M) M fun O hO=>?_
 show IWP _ _ _ _ ⟨[(0,.int .u64 a0)],[]⟩ _
 unfold oF at h
 refine aF (aA M (aI M M (lb M) (sv (d:=.int _ 0) M))<|aE ?_)
 refine aU ?_
 refine gM M M ?_
 refine aT ?_
 refine aJ ?_
 obtain ⟨x1,hx1,h⟩:=aL h
 refine aF (aA M (mvI M M M M)<|aA M (bJ (r:=.int _ _) M M (lb M) cl66 (.cons (svI M) .nil) M (sE _ _ hx1))<|aA M (asI M M M M)<|aE ?_)
 refine bB ?_
 obtain rfl:=sj_ h
 refine ⟨.inr M,(.cons (sv M) .nil)⟩

theorem dS (a0:aG) (a1:aG) (r:Int) (h:dR a0 a1=some r):fS prog 27 [.agg (v2 a0),.agg (v2 a1)] (.int .i64 r):=by
 refine cR (rs:=[.int .i64 r]) func27 M ntmps27 (nle M) M fun O hO=>?_
 show IWP _ _ _ _ ⟨[(0,.agg (v2 a0)),(1,.agg (v2 a1))],[]⟩ _
 unfold dR at h
 refine aF (aA M (fE (cs:=q9) 0 M M (lb M) M (svA q9 M) M M)<|aA M (fE (cs:=q9) 1 M M (lb M) M (svA q9 M) M M)<|aA M (aI M M (lb M) (sv (d:=.int _ 0) M))<|aE ?_)
 obtain ⟨x1,hx1,h⟩:=aK h
 refine aF (aA M (faR 0 M M M underlying40 M ti3 (lb M) M M)<|aA M (aR (d:=.int _ _) M M (lb M) underlying3 ag3 ti3 (by decide) (svR M) M (nle M) M)<|aA M (faR 0 M M M underlying40 M ti3 (lb M) M M)<|aA M (aR (d:=.int _ _) M M (lb M) underlying3 ag3 ti3 (by decide) (svR M) M (nle M) M)<|aA M (aQ M M (lb M) (svI M) (svI M) M hx1)<|aA M (asI M M M M)<|aE ?_)
 refine bB ?_
 obtain rfl:=sj_ h
 refine ⟨.inr M,(.cons (sv M) .nil)⟩

theorem kM (a0:Int) (a1:Int) (a2:(List aG)) (r:(List aG)) (h:eZ a0 a1 a2=some r):FnH prog 57 [.osl 1000 aC.sz a2.length,.int .i64 a0,.int .i64 a1,.fn 27 []] [(1000,.blk 40 (D.flat (a2.map aC.d)))] (retD []) [(1000,.blk 40 (D.flat (r.map aC.d)))]:=by
 refine cF (rs:=[]) func57 M ntmps57 (nle M) fun O hO=>?_
 show IWP _ _ _ _ ⟨[(0,.osl 1000 aC.sz a2.length),(1,.int .i64 a0),(2,.int .i64 a1),(3,.fn 27 [])],[(1000,.blk 40 (D.flat (a2.map aC.d)))]⟩ _
 unfold eZ at h
 obtain ⟨x1,hx1,h⟩:=aK h
 refine aF (aA M (mvI M M M M)<|aA M (aQ M M (lb M) (svI M) (sv (d:=.int _ 1) M) M hx1)<|aA M (asI M M M M)<|aE ?_)
 refine aV ?_
 refine bS (α:=Nat × (List aG) × Int) (fun z=>⟨[(0,.osl 1000 aC.sz z.2.1.length),(1,.int .i64 a0),(2,.int .i64 a1),(3,.fn 27 []),(8,.int .i64 z.2.2)],[(1000,.blk 40 (D.flat (z.2.1.map aC.d)))]⟩) (fun z=>cL a0 a1 z.1 z.2.1 z.2.2=some r) (fun z=>z.1) (fuel,a2,x1) (fun i=>i) ⟨(.sames M M),(.cons (EntW.lst M) .nil),aY [1000] M (by decide),fun _ _=>M⟩ ?_ ?_
 ·exact h
 ·
  rintro ⟨n0,v76,v77⟩ h
  cases n0 with
  | zero=>exact absurd h (by unfold cL; exact nofun)
  | succ n0 =>
   unfold cL at h
   refine aU ?_
   obtain ⟨x152,hx152,h⟩:=aK h
   refine aF (aA M (mvI M M M M)<|aA M (mvI M M M M)<|aA M (aO M M (lb M) (svI M) (svI M) M hx152)<|aE ?_)
   refine aW (b:=_) M (fun hc153=>?_) (fun hc153=>?_)
   ·
    replace h:=bX h hc153
    refine aT ?_
    refine aJ ?_
    refine aU ?_
    refine aV ?_
    refine aF (aA M (mvI M M M M)<|aA M (asI M M M M)<|aE ?_)
    refine aV ?_
    refine bS (α:=Nat × (List aG) × Int) (fun z=>⟨[(0,.osl 1000 aC.sz z.2.1.length),(1,.int .i64 a0),(2,.int .i64 a1),(3,.fn 27 []),(8,.int .i64 v77),(9,.int .i64 z.2.2)],[(1000,.blk 40 (D.flat (z.2.1.map aC.d)))]⟩) (fun z=>dA a0 v77 (cL a0 a1 n0) z.1 z.2.1 z.2.2=some r) (fun z=>z.1) (fuel,v76,v77) (fun i=>i) ⟨(.sames M M),(.cons (EntW.lst M) .nil),aY [1000] M (by decide),fun _ _=>M⟩ ?_ ?_
    ·exact h
    ·
     rintro ⟨n1,v177,v178⟩ h
     cases n1 with
     | zero=>exact absurd h (by unfold dA; exact nofun)
     | succ n1 =>
      unfold dA at h
      refine aU ?_
      obtain ⟨x202,hx202,h⟩:=aK h
      obtain ⟨x203,hx203,h⟩:=aL h
      obtain ⟨x204,hx204,h⟩:=aL h
      obtain ⟨x205,hx205,h⟩:=aK h
      obtain ⟨x206,hx206,h⟩:=aL h
      obtain ⟨x207,hx207,h⟩:=aL h
      obtain ⟨x208,hx208,h⟩:=aL h
      obtain ⟨x209,hx209,h⟩:=aK h
      obtain ⟨x210,hx210,h⟩:=aK h
      refine dN M [⟨[9],[],[(18,.int .i64 v178)],[]⟩,
       ⟨[1],[],[(19,.int .i64 a0)],[]⟩,
       ⟨[18,19],[],[(20,.bool x202)],[]⟩,
       ⟨[20],[],[(21,.bool x202)],[]⟩,
       ⟨[3,21],[],[(22,.cnd (x202 == true) (.fn 27 []))],[]⟩,
       ⟨[0,21],[],[(23,.cnd (x202 == true) (.osl 1000 aC.sz v177.length))],[]⟩,
       ⟨[9,21],[],[(24,.cnd (x202 == true) (.int .i64 v178))],[]⟩,
       ⟨[21,23,24],[],[(25,.cnd (x202 == true) (.ref 1000 (((v178:Int).toNat) * aC.sz + 0)))],[]⟩,
       ⟨[21,25],[1000],[(26,.cnd (x202 == true) (.agg (v2 x204)))],[]⟩,
       ⟨[0,21],[],[(27,.cnd (x202 == true) (.osl 1000 aC.sz v177.length))],[]⟩,
       ⟨[9,21],[],[(28,.cnd (x202 == true) (.int .i64 v178))],[]⟩,
       ⟨[21,28],[],[(29,.cnd (x202 == true) (.int .i64 x205))],[]⟩,
       ⟨[21,27,29],[],[(30,.cnd (x202 == true) (.ref 1000 (((x205:Int).toNat) * aC.sz + 0)))],[]⟩,
       ⟨[21,30],[1000],[(31,.cnd (x202 == true) (.agg (v2 x207)))],[]⟩,
       ⟨[21,22,26,31],[],[(32,.cnd (x202 == true) (.int .i64 x208))],[]⟩,
       ⟨[21,32],[],[(33,.cnd (x202 == true) (.bool x209))],[]⟩,
       ⟨[21,33],[],[(34,.bool x210)],[]⟩] M ?_ (by kernel_rfl) ?_
      ·refine .cons (lop M M fun S hA=>(aD M M (lb M) (svaI hA M M))) ?_
       refine .cons (lop M M fun S hA=>(aD M M (lb M) (svaI hA M M))) ?_
       refine .cons (lop M M fun S hA=>(aO M M (lb M) (svaI hA M M) (svaI hA M M) M hx202)) ?_
       refine .cons (lop M M fun S hA=>(aD M M (lb M) (svaB hA M M))) ?_
       refine .cons (lopg M M M M (by decide) (fun S hA=>grd1 hA M M) (fun S hA hb=>(aD M M (lb M) (sv (d:=.fn 27 []) (agr hA M M))))) ?_
       refine .cons (lopg M M M M (by decide) (fun S hA=>grd1 hA M M) (fun S hA hb=>(aD M M (lb M) (sv (d:=.osl _ _ _) (agr hA M M))))) ?_
       refine .cons (lopg M M M M (by decide) (fun S hA=>grd1 hA M M) (fun S hA hb=>(aD M M (lb M) (svaI hA M M)))) ?_
       refine .cons (lopg M M M M (by decide) (fun S hA=>grd1 hA M M) (fun S hA hb=>(aX aC.toEnc0 M M (lb M) underlying28 ti40 (svc (d:=.osl _ _ _) (agr hA M M) hb) M (svc (d:=.int _ _) (agr hA M M) hb) (gd_t hx203 hb)))) ?_
       refine .cons (lopg M M M M (by decide) (fun S hA=>grd1 hA M M) (fun S hA hb=>(bW aC.toEnc0 (cs:=q9) M M (lb M) underlying40 ag40 ti40 (by decide) (svc (d:=.ref _ _) (agr hA M M) hb) (agi hA M M) (gd_t hx204 hb) (nle M) M))) ?_
       refine .cons (lopg M M M M (by decide) (fun S hA=>grd1 hA M M) (fun S hA hb=>(aD M M (lb M) (sv (d:=.osl _ _ _) (agr hA M M))))) ?_
       refine .cons (lopg M M M M (by decide) (fun S hA=>grd1 hA M M) (fun S hA hb=>(aD M M (lb M) (svaI hA M M)))) ?_
       refine .cons (lopg M M M M (by decide) (fun S hA=>grd1 hA M M) (fun S hA hb=>(aQ M M (lb M) (svc (d:=.int _ _) (agr hA M M) hb) (sv (d:=.int _ 1) M) M hx205))) ?_
       refine .cons (lopg M M M M (by decide) (fun S hA=>grd1 hA M M) (fun S hA hb=>(aX aC.toEnc0 M M (lb M) underlying28 ti40 (svc (d:=.osl _ _ _) (agr hA M M) hb) M (svc (d:=.int _ _) (agr hA M M) hb) (gd_t hx206 hb)))) ?_
       refine .cons (lopg M M M M (by decide) (fun S hA=>grd1 hA M M) (fun S hA hb=>(bW aC.toEnc0 (cs:=q9) M M (lb M) underlying40 ag40 ti40 (by decide) (svc (d:=.ref _ _) (agr hA M M) hb) (agi hA M M) (gd_t hx207 hb) (nle M) M))) ?_
       refine .cons (lopg M M M M (by decide) (fun S hA=>grd1 hA M M) (fun S hA hb=>(jO (r:=.int _ _) M M (lb M) cl27 (svc (d:=.fn 27 []) (agr hA M M) hb) (.cons (svc (d:=.agg (v2 x204)) (agr hA M M) hb) (.cons (svc (d:=.agg (v2 x207)) (agr hA M M) hb) .nil)) M (dS _ _ _ (gd_t hx208 hb))))) ?_
       refine .cons (lopg M M M M (by decide) (fun S hA=>grd1 hA M M) (fun S hA hb=>(aO M M (lb M) (svc (d:=.int _ _) (agr hA M M) hb) (sv (d:=.int _ 0) M) M hx209))) ?_
       refine .cons (lop M M fun S hA=>(bC M M (lb M) (svaB hA M M) (agr hA M M) M hx210)) ?_
       exact .nil
      refine aW (b:=_) M (fun hc211=>?_) (fun hc211=>?_)
      ·
       replace h:=bX h hc211
       refine aT ?_
       refine aJ ?_
       refine aU ?_
       refine aV ?_
       obtain ⟨x212,hx212,h⟩:=aK h
       obtain ⟨x213,hx213,h⟩:=aK h
       obtain ⟨x214,hx214,h⟩:=aL h
       obtain ⟨x215,hx215,h⟩:=aL h
       obtain ⟨x216,hx216,h⟩:=aL h
       obtain ⟨x217,hx217,h⟩:=aL h
       obtain ⟨x218,hx218,h⟩:=aL h
       obtain ⟨x219,hx219,h⟩:=aL h
       obtain ⟨x220,hx220,h⟩:=aK h
       obtain ⟨x221,hx221,h⟩:=aL h
       obtain ⟨x222,hx222,h⟩:=aL h
       obtain ⟨x223,hx223,h⟩:=aK h
       refine iM M [⟨[0],[],[(37,.osl 1000 aC.sz v177.length)],[]⟩,
        ⟨[9],[],[(38,.int .i64 v178)],[]⟩,
        ⟨[0],[],[(39,.osl 1000 aC.sz v177.length)],[]⟩,
        ⟨[9],[],[(40,.int .i64 v178)],[]⟩,
        ⟨[40],[],[(41,.int .i64 x212)],[]⟩,
        ⟨[0],[],[(42,.osl 1000 aC.sz v177.length)],[]⟩,
        ⟨[9],[],[(43,.int .i64 v178)],[]⟩,
        ⟨[43],[],[(44,.int .i64 x213)],[]⟩,
        ⟨[42,44],[],[(45,.ref 1000 (((x213:Int).toNat) * aC.sz + 0))],[]⟩,
        ⟨[45],[1000],[(46,.agg (v2 x215))],[]⟩,
        ⟨[0],[],[(47,.osl 1000 aC.sz v177.length)],[]⟩,
        ⟨[9],[],[(48,.int .i64 v178)],[]⟩,
        ⟨[47,48],[],[(49,.ref 1000 (((v178:Int).toNat) * aC.sz + 0))],[]⟩,
        ⟨[49],[1000],[(50,.agg (v2 x217))],[]⟩,
        ⟨[37,38],[],[(51,.ref 1000 (((v178:Int).toNat) * aC.sz + 0))],[]⟩,
        ⟨[46,51],[1000],[],[(1000,.blk 40 (D.flat (x220.map aC.d)))]⟩,
        ⟨[39,41],[],[(52,.ref 1000 (((x212:Int).toNat) * aC.sz + 0))],[]⟩,
        ⟨[50,52],[1000],[],[(1000,.blk 40 (D.flat (x223.map aC.d)))]⟩] M ?_ (by kernel_rfl) ?_
       ·refine .cons (lop M M fun S hA=>(aD M M (lb M) (sv (d:=.osl _ _ _) (agr hA M M)))) ?_
        refine .cons (lop M M fun S hA=>(aD M M (lb M) (svaI hA M M))) ?_
        refine .cons (lop M M fun S hA=>(aD M M (lb M) (sv (d:=.osl _ _ _) (agr hA M M)))) ?_
        refine .cons (lop M M fun S hA=>(aD M M (lb M) (svaI hA M M))) ?_
        refine .cons (lop M M fun S hA=>(aQ M M (lb M) (svaI hA M M) (sv (d:=.int _ 1) M) M hx212)) ?_
        refine .cons (lop M M fun S hA=>(aD M M (lb M) (sv (d:=.osl _ _ _) (agr hA M M)))) ?_
        refine .cons (lop M M fun S hA=>(aD M M (lb M) (svaI hA M M))) ?_
        refine .cons (lop M M fun S hA=>(aQ M M (lb M) (svaI hA M M) (sv (d:=.int _ 1) M) M hx213)) ?_
        refine .cons (lop M M fun S hA=>(aX aC.toEnc0 M M (lb M) underlying28 ti40 (sv (d:=.osl _ _ _) (agr hA M M)) M (svaI hA M M) hx214)) ?_
        refine .cons (lop M M fun S hA=>(bW aC.toEnc0 (cs:=q9) M M (lb M) underlying40 ag40 ti40 (by decide) (svaR hA M M) (agi hA M M) hx215 (nle M) M)) ?_
        refine .cons (lop M M fun S hA=>(aD M M (lb M) (sv (d:=.osl _ _ _) (agr hA M M)))) ?_
        refine .cons (lop M M fun S hA=>(aD M M (lb M) (svaI hA M M))) ?_
        refine .cons (lop M M fun S hA=>(aX aC.toEnc0 M M (lb M) underlying28 ti40 (sv (d:=.osl _ _ _) (agr hA M M)) M (svaI hA M M) hx216)) ?_
        refine .cons (lop M M fun S hA=>(bW aC.toEnc0 (cs:=q9) M M (lb M) underlying40 ag40 ti40 (by decide) (svaR hA M M) (agi hA M M) hx217 (nle M) M)) ?_
        refine .cons (lop M M fun S hA=>(aX aC.toEnc0 M M (lb M) underlying28 ti40 (sv (d:=.osl _ _ _) (agr hA M M)) M (svaI hA M M) hx218)) ?_
        refine .cons (lop M M fun S hA=>(bR aC.toEnc0 (a':=x215) M M ti40 (svaR hA M M) (agi hA M M) (svaA q9 hA M M) M M M hx219 (nle M) M hx220)) ?_
        refine .cons (lop M M fun S hA=>(aX aC.toEnc0 M M (lb M) underlying28 ti40 (sv (d:=.osl _ _ _) (agr hA M M)) (bV hx220 M) (svaI hA M M) hx221)) ?_
        refine .cons (lop M M fun S hA=>(bR aC.toEnc0 (a':=x217) M M ti40 (svaR hA M M) (agi hA M M) (svaA q9 hA M M) M M M hx222 (nle M) M hx223)) ?_
        exact .nil
       refine bI ?_
       refine aJ ?_
       obtain ⟨x224,hx224,h⟩:=aK h
       refine aS (aA M (mvI M M M M)<|aA M (aQ M M (lb M) (svI M) (sv (d:=.int _ 1) M) M hx224)<|aA M (asI M M M M)<|bE ?_)
       refine aJ ⟨(n1,x223,x224),(fun i=>i),⟨(.cons (.same (congrArg (D.osl _ _) (bV hx223 (bV hx220 M)).symm) M) (.sames M M)),(.cons (EntW.lst M) .nil),aY [1000] M (by decide),fun _ _=>M⟩,?_,?_⟩
       exact h
       exact Nat.lt_succ_self _
      ·
       replace h:=bY h hc211
       refine cA ?_
       refine bD ?_
       refine bD ?_
       refine cC ?_
       refine bI ?_
       refine aJ ?_
       obtain ⟨x225,hx225,h⟩:=aK h
       refine aS (aA M (mvI M M M M)<|aA M (aQ M M (lb M) (svI M) (sv (d:=.int _ 1) M) M hx225)<|aA M (asI M M M M)<|bE ?_)
       refine aJ ⟨(n0,v177,x225),(fun i=>i),⟨(.sames M M),(.cons (EntW.lst M) .nil),aY [1000] M (by decide),fun _ _=>M⟩,?_,?_⟩
       exact h
       exact Nat.lt_succ_self _
   ·
    replace h:=bY h hc153
    refine cA ?_
    refine bD ?_
    refine bD ?_
    refine cC ?_
    obtain rfl:=sj_ h
    refine ⟨.inl M,(fun i=>i),⟨.nil,(.cons (EntW.lst M) .nil),aY [1000] M (by decide),fun _ _=>M⟩,.nil,M⟩

theorem hJ (a0:Int) (a1:Int) (a2:Int) (a3:(List aG)) (r:(List aG)) (h:eQ a0 a1 a2 a3=some r):FnH prog 82 [.osl 1000 aC.sz a3.length,.int .i64 a0,.int .i64 a1,.int .i64 a2,.fn 27 []] [(1000,.blk 40 (D.flat (a3.map aC.d)))] (retD []) [(1000,.blk 40 (D.flat (r.map aC.d)))]:=by
 refine cF (rs:=[]) func82 M ntmps82 (nle M) fun O hO=>?_
 show IWP _ _ _ _ ⟨[(0,.osl 1000 aC.sz a3.length),(1,.int .i64 a0),(2,.int .i64 a1),(3,.int .i64 a2),(4,.fn 27 [])],[(1000,.blk 40 (D.flat (a3.map aC.d)))]⟩ _
 unfold eQ at h
 refine aF (aA M (mvI M M M M)<|aA M (asI M M M M)<|aE ?_)
 refine aV ?_
 refine bS (α:=Nat × (List aG) × Int) (fun z=>⟨[(0,.osl 1000 aC.sz z.2.1.length),(2,.int .i64 a1),(3,.int .i64 a2),(4,.fn 27 []),(10,.int .i64 z.2.2)],[(1000,.blk 40 (D.flat (z.2.1.map aC.d)))]⟩) (fun z=>cH a1 a2 z.1 z.2.1 z.2.2=some r) (fun z=>z.1) (fuel,a3,a0) (fun i=>i) ⟨(.sames M M),(.cons (EntW.lst M) .nil),aY [1000] M (by decide),fun _ _=>M⟩ ?_ ?_
 ·exact h
 ·
  rintro ⟨n0,v57,v58⟩ h
  cases n0 with
  | zero=>exact absurd h (by unfold cH; exact nofun)
  | succ n0 =>
   unfold cH at h
   refine aV ?_
   obtain ⟨x115,hx115,h⟩:=aK h
   obtain ⟨x116,hx116,h⟩:=aK h
   refine aF (aA M (mvI M M M M)<|aA M (aQ M M (lb M) (sv (d:=.int _ 2) M) (svI M) M hx115)<|aA M (aQ M M (lb M) (svI M) (sv (d:=.int _ 1) M) M hx116)<|aA M (asI M M M M)<|aE ?_)
   refine aU ?_
   obtain ⟨x117,hx117,h⟩:=aK h
   refine aF (aA M (mvI M M M M)<|aA M (mvI M M M M)<|aA M (aO M M (lb M) (svI M) (svI M) M hx117)<|aE ?_)
   refine aW (b:=_) M (fun hc118=>?_) (fun hc118=>?_)
   ·
    replace h:=bX h hc118
    refine cA ?_
    refine bD ?_
    refine oV M ?_
    refine bD ?_
    refine cC ?_
    obtain rfl:=sj_ h
    refine ⟨.inl M,(fun i=>i),⟨.nil,(.cons (EntW.lst M) .nil),aY [1000] M (by decide),fun _ _=>M⟩,.nil,M⟩
   ·
    replace h:=bY h hc118
    refine aT ?_
    refine aJ ?_
    refine fL (α:=Int) (fun z=>⟨[(0,.osl 1000 aC.sz v57.length),(2,.int .i64 a1),(3,.int .i64 a2),(4,.fn 27 []),(10,.int .i64 v58),(11,.int .i64 z)],[(1000,.blk 40 (D.flat (v57.map aC.d)))]⟩) (fun z=>eH a2 v57 v58 (cH a1 a2 n0) z=some r) ?_ ?_
    ·
     obtain ⟨x157,hx157,h⟩:=aK h
     obtain ⟨x158,hx158,h⟩:=aK h
     obtain ⟨x159,hx159,h⟩:=aK h
     obtain ⟨x160,hx160,h⟩:=aL h
     obtain ⟨x161,hx161,h⟩:=aL h
     obtain ⟨x162,hx162,h⟩:=aK h
     obtain ⟨x163,hx163,h⟩:=aK h
     obtain ⟨x164,hx164,h⟩:=aL h
     obtain ⟨x165,hx165,h⟩:=aL h
     obtain ⟨x166,hx166,h⟩:=aL h
     obtain ⟨x167,hx167,h⟩:=aK h
     obtain ⟨x168,hx168,h⟩:=aK h
     refine dN M [⟨[11],[],[(19,.int .i64 x116)],[]⟩,
      ⟨[19],[],[(20,.int .i64 x157)],[]⟩,
      ⟨[2],[],[(21,.int .i64 a1)],[]⟩,
      ⟨[20,21],[],[(22,.bool x158)],[]⟩,
      ⟨[22],[],[(23,.bool x158)],[]⟩,
      ⟨[4,23],[],[(24,.cnd (x158 == true) (.fn 27 []))],[]⟩,
      ⟨[0,23],[],[(25,.cnd (x158 == true) (.osl 1000 aC.sz v57.length))],[]⟩,
      ⟨[3,23],[],[(26,.cnd (x158 == true) (.int .i64 a2))],[]⟩,
      ⟨[11,23],[],[(27,.cnd (x158 == true) (.int .i64 x116))],[]⟩,
      ⟨[23,26,27],[],[(28,.cnd (x158 == true) (.int .i64 x159))],[]⟩,
      ⟨[23,25,28],[],[(29,.cnd (x158 == true) (.ref 1000 (((x159:Int).toNat) * aC.sz + 0)))],[]⟩,
      ⟨[23,29],[1000],[(30,.cnd (x158 == true) (.agg (v2 x161)))],[]⟩,
      ⟨[0,23],[],[(31,.cnd (x158 == true) (.osl 1000 aC.sz v57.length))],[]⟩,
      ⟨[3,23],[],[(32,.cnd (x158 == true) (.int .i64 a2))],[]⟩,
      ⟨[11,23],[],[(33,.cnd (x158 == true) (.int .i64 x116))],[]⟩,
      ⟨[23,32,33],[],[(34,.cnd (x158 == true) (.int .i64 x162))],[]⟩,
      ⟨[23,34],[],[(35,.cnd (x158 == true) (.int .i64 x163))],[]⟩,
      ⟨[23,31,35],[],[(36,.cnd (x158 == true) (.ref 1000 (((x163:Int).toNat) * aC.sz + 0)))],[]⟩,
      ⟨[23,36],[1000],[(37,.cnd (x158 == true) (.agg (v2 x165)))],[]⟩,
      ⟨[23,24,30,37],[],[(38,.cnd (x158 == true) (.int .i64 x166))],[]⟩,
      ⟨[23,38],[],[(39,.cnd (x158 == true) (.bool x167))],[]⟩,
      ⟨[23,39],[],[(40,.bool x168)],[]⟩] M ?_ (by kernel_rfl) ?_
     ·refine .cons (lop M M fun S hA=>(aD M M (lb M) (svaI hA M M))) ?_
      refine .cons (lop M M fun S hA=>(aQ M M (lb M) (svaI hA M M) (sv (d:=.int _ 1) M) M hx157)) ?_
      refine .cons (lop M M fun S hA=>(aD M M (lb M) (svaI hA M M))) ?_
      refine .cons (lop M M fun S hA=>(aO M M (lb M) (svaI hA M M) (svaI hA M M) M hx158)) ?_
      refine .cons (lop M M fun S hA=>(aD M M (lb M) (svaB hA M M))) ?_
      refine .cons (lopg M M M M (by decide) (fun S hA=>grd1 hA M M) (fun S hA hb=>(aD M M (lb M) (sv (d:=.fn 27 []) (agr hA M M))))) ?_
      refine .cons (lopg M M M M (by decide) (fun S hA=>grd1 hA M M) (fun S hA hb=>(aD M M (lb M) (sv (d:=.osl _ _ _) (agr hA M M))))) ?_
      refine .cons (lopg M M M M (by decide) (fun S hA=>grd1 hA M M) (fun S hA hb=>(aD M M (lb M) (svaI hA M M)))) ?_
      refine .cons (lopg M M M M (by decide) (fun S hA=>grd1 hA M M) (fun S hA hb=>(aD M M (lb M) (svaI hA M M)))) ?_
      refine .cons (lopg M M M M (by decide) (fun S hA=>grd1 hA M M) (fun S hA hb=>(aQ M M (lb M) (svc (d:=.int _ _) (agr hA M M) hb) (svc (d:=.int _ _) (agr hA M M) hb) M hx159))) ?_
      refine .cons (lopg M M M M (by decide) (fun S hA=>grd1 hA M M) (fun S hA hb=>(aX aC.toEnc0 M M (lb M) underlying28 ti40 (svc (d:=.osl _ _ _) (agr hA M M) hb) M (svc (d:=.int _ _) (agr hA M M) hb) (gd_t hx160 hb)))) ?_
      refine .cons (lopg M M M M (by decide) (fun S hA=>grd1 hA M M) (fun S hA hb=>(bW aC.toEnc0 (cs:=q9) M M (lb M) underlying40 ag40 ti40 (by decide) (svc (d:=.ref _ _) (agr hA M M) hb) (agi hA M M) (gd_t hx161 hb) (nle M) M))) ?_
      refine .cons (lopg M M M M (by decide) (fun S hA=>grd1 hA M M) (fun S hA hb=>(aD M M (lb M) (sv (d:=.osl _ _ _) (agr hA M M))))) ?_
      refine .cons (lopg M M M M (by decide) (fun S hA=>grd1 hA M M) (fun S hA hb=>(aD M M (lb M) (svaI hA M M)))) ?_
      refine .cons (lopg M M M M (by decide) (fun S hA=>grd1 hA M M) (fun S hA hb=>(aD M M (lb M) (svaI hA M M)))) ?_
      refine .cons (lopg M M M M (by decide) (fun S hA=>grd1 hA M M) (fun S hA hb=>(aQ M M (lb M) (svc (d:=.int _ _) (agr hA M M) hb) (svc (d:=.int _ _) (agr hA M M) hb) M hx162))) ?_
      refine .cons (lopg M M M M (by decide) (fun S hA=>grd1 hA M M) (fun S hA hb=>(aQ M M (lb M) (svc (d:=.int _ _) (agr hA M M) hb) (sv (d:=.int _ 1) M) M hx163))) ?_
      refine .cons (lopg M M M M (by decide) (fun S hA=>grd1 hA M M) (fun S hA hb=>(aX aC.toEnc0 M M (lb M) underlying28 ti40 (svc (d:=.osl _ _ _) (agr hA M M) hb) M (svc (d:=.int _ _) (agr hA M M) hb) (gd_t hx164 hb)))) ?_
      refine .cons (lopg M M M M (by decide) (fun S hA=>grd1 hA M M) (fun S hA hb=>(bW aC.toEnc0 (cs:=q9) M M (lb M) underlying40 ag40 ti40 (by decide) (svc (d:=.ref _ _) (agr hA M M) hb) (agi hA M M) (gd_t hx165 hb) (nle M) M))) ?_
      refine .cons (lopg M M M M (by decide) (fun S hA=>grd1 hA M M) (fun S hA hb=>(jO (r:=.int _ _) M M (lb M) cl27 (svc (d:=.fn 27 []) (agr hA M M) hb) (.cons (svc (d:=.agg (v2 x161)) (agr hA M M) hb) (.cons (svc (d:=.agg (v2 x165)) (agr hA M M) hb) .nil)) M (dS _ _ _ (gd_t hx166 hb))))) ?_
      refine .cons (lopg M M M M (by decide) (fun S hA=>grd1 hA M M) (fun S hA hb=>(aO M M (lb M) (svc (d:=.int _ _) (agr hA M M) hb) (sv (d:=.int _ 0) M) M hx167))) ?_
      refine .cons (lop M M fun S hA=>(bC M M (lb M) (svaB hA M M) (agr hA M M) M hx168)) ?_
      exact .nil
     refine aW (b:=_) M (fun hc169=>?_) (fun hc169=>?_)
     ·
      replace h:=bX h hc169
      obtain ⟨x170,hx170,h⟩:=aK h
      refine aS (aA M (mvI M M M M)<|aA M (aQ M M (lb M) (svI M) (sv (d:=.int _ 1) M) M hx170)<|aA M (asI M M M M)<|bE ?_)
      refine aJ ⟨x170,(fun i=>i),⟨(.sames M M),(.cons (EntW.lst M) .nil),aY [1000] M (by decide),fun _ _=>M⟩,?_⟩
      exact h
     ·
      replace h:=bY h hc169
      refine aT ?_
      refine aJ ⟨x116,(fun i=>i),⟨(.sames M M),(.cons (EntW.lst M) .nil),aY [1000] M (by decide),fun _ _=>M⟩,?_⟩
      exact h
    ·
     rintro v133 h
     unfold eH at h
     refine aU ?_
     obtain ⟨x134,hx134,h⟩:=aK h
     obtain ⟨x135,hx135,h⟩:=aL h
     obtain ⟨x136,hx136,h⟩:=aL h
     obtain ⟨x137,hx137,h⟩:=aK h
     obtain ⟨x138,hx138,h⟩:=aL h
     obtain ⟨x139,hx139,h⟩:=aL h
     obtain ⟨x140,hx140,h⟩:=aL h
     obtain ⟨x141,hx141,h⟩:=aK h
     refine dN M [⟨[4],[],[(43,.fn 27 [])],[]⟩,
      ⟨[0],[],[(44,.osl 1000 aC.sz v57.length)],[]⟩,
      ⟨[3],[],[(45,.int .i64 a2)],[]⟩,
      ⟨[10],[],[(46,.int .i64 v58)],[]⟩,
      ⟨[45,46],[],[(47,.int .i64 x134)],[]⟩,
      ⟨[44,47],[],[(48,.ref 1000 (((x134:Int).toNat) * aC.sz + 0))],[]⟩,
      ⟨[48],[1000],[(49,.agg (v2 x136))],[]⟩,
      ⟨[0],[],[(50,.osl 1000 aC.sz v57.length)],[]⟩,
      ⟨[3],[],[(51,.int .i64 a2)],[]⟩,
      ⟨[11],[],[(52,.int .i64 v133)],[]⟩,
      ⟨[51,52],[],[(53,.int .i64 x137)],[]⟩,
      ⟨[50,53],[],[(54,.ref 1000 (((x137:Int).toNat) * aC.sz + 0))],[]⟩,
      ⟨[54],[1000],[(55,.agg (v2 x139))],[]⟩,
      ⟨[43,49,55],[],[(56,.int .i64 x140)],[]⟩,
      ⟨[56],[],[(57,.bool x141)],[]⟩,
      ⟨[57],[],[(58,.bool (!x141))],[]⟩] M ?_ (by kernel_rfl) ?_
     ·refine .cons (lop M M fun S hA=>(aD M M (lb M) (sv (d:=.fn 27 []) (agr hA M M)))) ?_
      refine .cons (lop M M fun S hA=>(aD M M (lb M) (sv (d:=.osl _ _ _) (agr hA M M)))) ?_
      refine .cons (lop M M fun S hA=>(aD M M (lb M) (svaI hA M M))) ?_
      refine .cons (lop M M fun S hA=>(aD M M (lb M) (svaI hA M M))) ?_
      refine .cons (lop M M fun S hA=>(aQ M M (lb M) (svaI hA M M) (svaI hA M M) M hx134)) ?_
      refine .cons (lop M M fun S hA=>(aX aC.toEnc0 M M (lb M) underlying28 ti40 (sv (d:=.osl _ _ _) (agr hA M M)) M (svaI hA M M) hx135)) ?_
      refine .cons (lop M M fun S hA=>(bW aC.toEnc0 (cs:=q9) M M (lb M) underlying40 ag40 ti40 (by decide) (svaR hA M M) (agi hA M M) hx136 (nle M) M)) ?_
      refine .cons (lop M M fun S hA=>(aD M M (lb M) (sv (d:=.osl _ _ _) (agr hA M M)))) ?_
      refine .cons (lop M M fun S hA=>(aD M M (lb M) (svaI hA M M))) ?_
      refine .cons (lop M M fun S hA=>(aD M M (lb M) (svaI hA M M))) ?_
      refine .cons (lop M M fun S hA=>(aQ M M (lb M) (svaI hA M M) (svaI hA M M) M hx137)) ?_
      refine .cons (lop M M fun S hA=>(aX aC.toEnc0 M M (lb M) underlying28 ti40 (sv (d:=.osl _ _ _) (agr hA M M)) M (svaI hA M M) hx138)) ?_
      refine .cons (lop M M fun S hA=>(bW aC.toEnc0 (cs:=q9) M M (lb M) underlying40 ag40 ti40 (by decide) (svaR hA M M) (agi hA M M) hx139 (nle M) M)) ?_
      refine .cons (lop M M fun S hA=>(jO (r:=.int _ _) M M (lb M) cl27 (sv (d:=.fn 27 []) (agr hA M M)) (.cons (svaA q9 hA M M) (.cons (svaA q9 hA M M) .nil)) M (dS _ _ _ hx140))) ?_
      refine .cons (lop M M fun S hA=>(aO M M (lb M) (svaI hA M M) (sv (d:=.int _ 0) M) M hx141)) ?_
      refine .cons (lop M M fun S hA=>(eX M M (lb M) (svaB hA M M))) ?_
      exact .nil
     refine aW (b:=_) M (fun hc142=>?_) (fun hc142=>?_)
     ·
      replace h:=bX h hc142
      refine bB ?_
      refine bP ?_
      refine dB ?_
      refine bP ?_
      refine dB ?_
      obtain rfl:=sj_ h
      refine ⟨.inr M,(fun i=>i),⟨.nil,(.cons (EntW.lst M) .nil),aY [1000] M (by decide),fun _ _=>M⟩,.nil,M⟩
     ·
      replace h:=bY h hc142
      refine aT ?_
      refine aJ ?_
      obtain ⟨x143,hx143,h⟩:=aK h
      obtain ⟨x144,hx144,h⟩:=aK h
      obtain ⟨x145,hx145,h⟩:=aK h
      obtain ⟨x146,hx146,h⟩:=aL h
      obtain ⟨x147,hx147,h⟩:=aL h
      obtain ⟨x148,hx148,h⟩:=aK h
      obtain ⟨x149,hx149,h⟩:=aL h
      obtain ⟨x150,hx150,h⟩:=aL h
      obtain ⟨x151,hx151,h⟩:=aL h
      obtain ⟨x152,hx152,h⟩:=aL h
      obtain ⟨x153,hx153,h⟩:=aK h
      obtain ⟨x154,hx154,h⟩:=aL h
      obtain ⟨x155,hx155,h⟩:=aL h
      obtain ⟨x156,hx156,h⟩:=aK h
      refine dN M [⟨[0],[],[(59,.osl 1000 aC.sz v57.length)],[]⟩,
       ⟨[3],[],[(60,.int .i64 a2)],[]⟩,
       ⟨[10],[],[(61,.int .i64 v58)],[]⟩,
       ⟨[60,61],[],[(62,.int .i64 x143)],[]⟩,
       ⟨[0],[],[(63,.osl 1000 aC.sz v57.length)],[]⟩,
       ⟨[3],[],[(64,.int .i64 a2)],[]⟩,
       ⟨[11],[],[(65,.int .i64 v133)],[]⟩,
       ⟨[64,65],[],[(66,.int .i64 x144)],[]⟩,
       ⟨[0],[],[(67,.osl 1000 aC.sz v57.length)],[]⟩,
       ⟨[3],[],[(68,.int .i64 a2)],[]⟩,
       ⟨[11],[],[(69,.int .i64 v133)],[]⟩,
       ⟨[68,69],[],[(70,.int .i64 x145)],[]⟩,
       ⟨[67,70],[],[(71,.ref 1000 (((x145:Int).toNat) * aC.sz + 0))],[]⟩,
       ⟨[71],[1000],[(72,.agg (v2 x147))],[]⟩,
       ⟨[0],[],[(73,.osl 1000 aC.sz v57.length)],[]⟩,
       ⟨[3],[],[(74,.int .i64 a2)],[]⟩,
       ⟨[10],[],[(75,.int .i64 v58)],[]⟩,
       ⟨[74,75],[],[(76,.int .i64 x148)],[]⟩,
       ⟨[73,76],[],[(77,.ref 1000 (((x148:Int).toNat) * aC.sz + 0))],[]⟩,
       ⟨[77],[1000],[(78,.agg (v2 x150))],[]⟩,
       ⟨[59,62],[],[(79,.ref 1000 (((x143:Int).toNat) * aC.sz + 0))],[]⟩,
       ⟨[72,79],[1000],[],[(1000,.blk 40 (D.flat (x153.map aC.d)))]⟩,
       ⟨[63,66],[],[(80,.ref 1000 (((x144:Int).toNat) * aC.sz + 0))],[]⟩,
       ⟨[78,80],[1000],[],[(1000,.blk 40 (D.flat (x156.map aC.d)))]⟩] M ?_ (by kernel_rfl) ?_
      ·refine .cons (lop M M fun S hA=>(aD M M (lb M) (sv (d:=.osl _ _ _) (agr hA M M)))) ?_
       refine .cons (lop M M fun S hA=>(aD M M (lb M) (svaI hA M M))) ?_
       refine .cons (lop M M fun S hA=>(aD M M (lb M) (svaI hA M M))) ?_
       refine .cons (lop M M fun S hA=>(aQ M M (lb M) (svaI hA M M) (svaI hA M M) M hx143)) ?_
       refine .cons (lop M M fun S hA=>(aD M M (lb M) (sv (d:=.osl _ _ _) (agr hA M M)))) ?_
       refine .cons (lop M M fun S hA=>(aD M M (lb M) (svaI hA M M))) ?_
       refine .cons (lop M M fun S hA=>(aD M M (lb M) (svaI hA M M))) ?_
       refine .cons (lop M M fun S hA=>(aQ M M (lb M) (svaI hA M M) (svaI hA M M) M hx144)) ?_
       refine .cons (lop M M fun S hA=>(aD M M (lb M) (sv (d:=.osl _ _ _) (agr hA M M)))) ?_
       refine .cons (lop M M fun S hA=>(aD M M (lb M) (svaI hA M M))) ?_
       refine .cons (lop M M fun S hA=>(aD M M (lb M) (svaI hA M M))) ?_
       refine .cons (lop M M fun S hA=>(aQ M M (lb M) (svaI hA M M) (svaI hA M M) M hx145)) ?_
       refine .cons (lop M M fun S hA=>(aX aC.toEnc0 M M (lb M) underlying28 ti40 (sv (d:=.osl _ _ _) (agr hA M M)) M (svaI hA M M) hx146)) ?_
       refine .cons (lop M M fun S hA=>(bW aC.toEnc0 (cs:=q9) M M (lb M) underlying40 ag40 ti40 (by decide) (svaR hA M M) (agi hA M M) hx147 (nle M) M)) ?_
       refine .cons (lop M M fun S hA=>(aD M M (lb M) (sv (d:=.osl _ _ _) (agr hA M M)))) ?_
       refine .cons (lop M M fun S hA=>(aD M M (lb M) (svaI hA M M))) ?_
       refine .cons (lop M M fun S hA=>(aD M M (lb M) (svaI hA M M))) ?_
       refine .cons (lop M M fun S hA=>(aQ M M (lb M) (svaI hA M M) (svaI hA M M) M hx148)) ?_
       refine .cons (lop M M fun S hA=>(aX aC.toEnc0 M M (lb M) underlying28 ti40 (sv (d:=.osl _ _ _) (agr hA M M)) M (svaI hA M M) hx149)) ?_
       refine .cons (lop M M fun S hA=>(bW aC.toEnc0 (cs:=q9) M M (lb M) underlying40 ag40 ti40 (by decide) (svaR hA M M) (agi hA M M) hx150 (nle M) M)) ?_
       refine .cons (lop M M fun S hA=>(aX aC.toEnc0 M M (lb M) underlying28 ti40 (sv (d:=.osl _ _ _) (agr hA M M)) M (svaI hA M M) hx151)) ?_
       refine .cons (lop M M fun S hA=>(bR aC.toEnc0 (a':=x147) M M ti40 (svaR hA M M) (agi hA M M) (svaA q9 hA M M) M M M hx152 (nle M) M hx153)) ?_
       refine .cons (lop M M fun S hA=>(aX aC.toEnc0 M M (lb M) underlying28 ti40 (sv (d:=.osl _ _ _) (agr hA M M)) (bV hx153 M) (svaI hA M M) hx154)) ?_
       refine .cons (lop M M fun S hA=>(bR aC.toEnc0 (a':=x150) M M ti40 (svaR hA M M) (agi hA M M) (svaA q9 hA M M) M M M hx155 (nle M) M hx156)) ?_
       exact .nil
      refine aS (aA M (mvI M M M M)<|aA M (asI M M M M)<|bE ?_)
      refine bI ?_
      refine aJ ⟨(n0,x156,v133),(fun i=>i),⟨(.cons (.same (congrArg (D.osl _ _) (bV hx156 (bV hx153 M)).symm) M) (.sames M M)),(.cons (EntW.lst M) .nil),aY [1000] M (by decide),fun _ _=>M⟩,?_,?_⟩
      exact h
      exact Nat.lt_succ_self _

theorem lO (a0:Int) (a1:Int) (a2:(List aG)) (r:(List aG)) (h:fX a0 a1 a2=some r):FnH prog 58 [.osl 1000 aC.sz a2.length,.int .i64 a0,.int .i64 a1,.fn 27 []] [(1000,.blk 40 (D.flat (a2.map aC.d)))] (retD []) [(1000,.blk 40 (D.flat (r.map aC.d)))]:=by
 refine cF (rs:=[]) func58 M ntmps58 (nle M) fun O hO=>?_
 show IWP _ _ _ _ ⟨[(0,.osl 1000 aC.sz a2.length),(1,.int .i64 a0),(2,.int .i64 a1),(3,.fn 27 [])],[(1000,.blk 40 (D.flat (a2.map aC.d)))]⟩ _
 unfold fX at h
 refine aF (aA M (mvI M M M M)<|aA M (asI M M M M)<|aE ?_)
 refine aF (aA M (aI M M (lb M) (sv (d:=.int _ 0) M))<|aE ?_)
 obtain ⟨x1,hx1,h⟩:=aK h
 refine aF (aA M (mvI M M M M)<|aA M (mvI M M M M)<|aA M (aQ M M (lb M) (svI M) (svI M) M hx1)<|aA M (asI M M M M)<|aE ?_)
 refine aU ?_
 obtain ⟨x2,hx2,h⟩:=aK h
 obtain ⟨x3,hx3,h⟩:=aL h
 refine aF (aA M (mvI M M M M)<|aA M (aQ M M (lb M) (svI M) (sv (d:=.int _ 1) M) M hx2)<|aA M (lK M M (lb M) (svI M) (sv (d:=.int _ 2) M) hx3)<|aA M (asI M M M M)<|aE ?_)
 refine aV ?_
 refine bS (α:=Nat × (List aG) × Int) (fun z=>⟨[(0,.osl 1000 aC.sz z.2.1.length),(3,.fn 27 []),(8,.int .i64 a0),(9,.int .i64 0),(10,.int .i64 x1),(11,.int .i64 z.2.2)],[(1000,.blk 40 (D.flat (z.2.1.map aC.d)))]⟩) (fun z=>dQ a0 x1 z.1 z.2.1 z.2.2=some r) (fun z=>z.1) (fuel,a2,x3) (fun i=>i) ⟨(.sames M M),(.cons (EntW.lst M) .nil),aY [1000] M (by decide),fun _ _=>M⟩ ?_ ?_
 ·exact h
 ·
  rintro ⟨n0,v9,v10⟩ h
  cases n0 with
  | zero=>exact absurd h (by unfold dQ; exact nofun)
  | succ n0 =>
   unfold dQ at h
   refine aU ?_
   obtain ⟨x16,hx16,h⟩:=aK h
   refine aF (aA M (mvI M M M M)<|aA M (aO M M (lb M) (svI M) (sv (d:=.int _ 0) M) M hx16)<|aE ?_)
   refine aW (b:=_) M (fun hc17=>?_) (fun hc17=>?_)
   ·
    replace h:=bX h hc17
    refine aT ?_
    refine aJ ?_
    refine aU ?_
    refine aV ?_
    obtain ⟨x18,hx18,h⟩:=aL h
    obtain ⟨hk19,h⟩:=iG h
    refine aS (aA M (aD M M (lb M) (sv (d:=.osl _ _ _) M))<|aA M (mvI M M M M)<|aA M (mvI M M M M)<|aA M (mvI M M M M)<|aA M (aD M M (lb M) (sv (d:=.fn 27 []) M))<|aA M (bG (r':=.tuple []) (H1':=[(1000,.blk 40 (D.flat (x18.map aC.d)))]) 0 [1000] M M (lb M) cl82 (.cons (sv (d:=.osl _ _ _) M) (.cons (svI M) (.cons (svI M) (.cons (svI M) (.cons (sv (d:=.fn 27 []) M) .nil))))) M M ⟨M,M,by decide,M,List.forall_mem_cons.2 ⟨⟨M,M,(fW aC M),(bK aC)⟩,List.forall_mem_nil _⟩⟩ (hJ _ _ _ _ _ hx18) M M (List.forall_mem_cons.2 ⟨⟨M,(bK aC)⟩,List.forall_mem_nil _⟩) (by simp only [List.map_cons,List.map_nil,Ent.ren,bL,bT]; rfl))<|bE ?_)
    refine bI ?_
    refine aJ ?_
    obtain ⟨x20,hx20,h⟩:=aK h
    refine aS (aA M (mvI M M M M)<|aA M (aQ M M (lb M) (svI M) (sv (d:=.int _ 1) M) M hx20)<|aA M (asI M M M M)<|bE ?_)
    refine aJ ⟨(n0,x18,x20),(fun i=>i),⟨(.cons (.same (congrArg (D.osl _ _) hk19.symm) M) (.sames M M)),(.cons (EntW.lst M) .nil),aY [1000] M (by decide),fun _ _=>M⟩,?_,?_⟩
    exact h
    exact Nat.lt_succ_self _
   ·
    replace h:=bY h hc17
    refine cA ?_
    refine bD ?_
    refine bD ?_
    refine cC ?_
    refine aJ ?_
    obtain ⟨x21,hx21,h⟩:=aK h
    refine aF (aA M (mvI M M M M)<|aA M (aQ M M (lb M) (svI M) (sv (d:=.int _ 1) M) M hx21)<|aA M (asI M M M M)<|aE ?_)
    refine aV ?_
    refine bS (α:=Nat × (List aG) × Int) (fun z=>⟨[(0,.osl 1000 aC.sz z.2.1.length),(3,.fn 27 []),(8,.int .i64 a0),(9,.int .i64 0),(12,.int .i64 z.2.2)],[(1000,.blk 40 (D.flat (z.2.1.map aC.d)))]⟩) (fun z=>dP a0 z.1 z.2.1 z.2.2=some r) (fun z=>z.1) (fuel,v9,x21) (fun i=>i) ⟨(.sames M M),(.cons (EntW.lst M) .nil),aY [1000] M (by decide),fun _ _=>M⟩ ?_ ?_
    ·exact h
    ·
     rintro ⟨n1,v39,v40⟩ h
     cases n1 with
     | zero=>exact absurd h (by unfold dP; exact nofun)
     | succ n1 =>
      unfold dP at h
      refine aU ?_
      obtain ⟨x58,hx58,h⟩:=aK h
      refine aF (aA M (mvI M M M M)<|aA M (aO M M (lb M) (svI M) (sv (d:=.int _ 0) M) M hx58)<|aE ?_)
      refine aW (b:=_) M (fun hc59=>?_) (fun hc59=>?_)
      ·
       replace h:=bX h hc59
       refine aT ?_
       refine aJ ?_
       refine aU ?_
       refine aV ?_
       obtain ⟨x60,hx60,h⟩:=aK h
       obtain ⟨x61,hx61,h⟩:=aK h
       obtain ⟨x62,hx62,h⟩:=aL h
       obtain ⟨x63,hx63,h⟩:=aL h
       obtain ⟨x64,hx64,h⟩:=aL h
       obtain ⟨x65,hx65,h⟩:=aL h
       obtain ⟨x66,hx66,h⟩:=aL h
       obtain ⟨x67,hx67,h⟩:=aL h
       obtain ⟨x68,hx68,h⟩:=aK h
       obtain ⟨x69,hx69,h⟩:=aL h
       obtain ⟨x70,hx70,h⟩:=aL h
       obtain ⟨x71,hx71,h⟩:=aK h
       refine dN M [⟨[0],[],[(36,.osl 1000 aC.sz v39.length)],[]⟩,
        ⟨[8],[],[(37,.int .i64 a0)],[]⟩,
        ⟨[0],[],[(38,.osl 1000 aC.sz v39.length)],[]⟩,
        ⟨[8],[],[(39,.int .i64 a0)],[]⟩,
        ⟨[12],[],[(40,.int .i64 v40)],[]⟩,
        ⟨[39,40],[],[(41,.int .i64 x60)],[]⟩,
        ⟨[0],[],[(42,.osl 1000 aC.sz v39.length)],[]⟩,
        ⟨[8],[],[(43,.int .i64 a0)],[]⟩,
        ⟨[12],[],[(44,.int .i64 v40)],[]⟩,
        ⟨[43,44],[],[(45,.int .i64 x61)],[]⟩,
        ⟨[42,45],[],[(46,.ref 1000 (((x61:Int).toNat) * aC.sz + 0))],[]⟩,
        ⟨[46],[1000],[(47,.agg (v2 x63))],[]⟩,
        ⟨[0],[],[(48,.osl 1000 aC.sz v39.length)],[]⟩,
        ⟨[8],[],[(49,.int .i64 a0)],[]⟩,
        ⟨[48,49],[],[(50,.ref 1000 (((a0:Int).toNat) * aC.sz + 0))],[]⟩,
        ⟨[50],[1000],[(51,.agg (v2 x65))],[]⟩,
        ⟨[36,37],[],[(52,.ref 1000 (((a0:Int).toNat) * aC.sz + 0))],[]⟩,
        ⟨[47,52],[1000],[],[(1000,.blk 40 (D.flat (x68.map aC.d)))]⟩,
        ⟨[38,41],[],[(53,.ref 1000 (((x60:Int).toNat) * aC.sz + 0))],[]⟩,
        ⟨[51,53],[1000],[],[(1000,.blk 40 (D.flat (x71.map aC.d)))]⟩] M ?_ (by kernel_rfl) ?_
       ·refine .cons (lop M M fun S hA=>(aD M M (lb M) (sv (d:=.osl _ _ _) (agr hA M M)))) ?_
        refine .cons (lop M M fun S hA=>(aD M M (lb M) (svaI hA M M))) ?_
        refine .cons (lop M M fun S hA=>(aD M M (lb M) (sv (d:=.osl _ _ _) (agr hA M M)))) ?_
        refine .cons (lop M M fun S hA=>(aD M M (lb M) (svaI hA M M))) ?_
        refine .cons (lop M M fun S hA=>(aD M M (lb M) (svaI hA M M))) ?_
        refine .cons (lop M M fun S hA=>(aQ M M (lb M) (svaI hA M M) (svaI hA M M) M hx60)) ?_
        refine .cons (lop M M fun S hA=>(aD M M (lb M) (sv (d:=.osl _ _ _) (agr hA M M)))) ?_
        refine .cons (lop M M fun S hA=>(aD M M (lb M) (svaI hA M M))) ?_
        refine .cons (lop M M fun S hA=>(aD M M (lb M) (svaI hA M M))) ?_
        refine .cons (lop M M fun S hA=>(aQ M M (lb M) (svaI hA M M) (svaI hA M M) M hx61)) ?_
        refine .cons (lop M M fun S hA=>(aX aC.toEnc0 M M (lb M) underlying28 ti40 (sv (d:=.osl _ _ _) (agr hA M M)) M (svaI hA M M) hx62)) ?_
        refine .cons (lop M M fun S hA=>(bW aC.toEnc0 (cs:=q9) M M (lb M) underlying40 ag40 ti40 (by decide) (svaR hA M M) (agi hA M M) hx63 (nle M) M)) ?_
        refine .cons (lop M M fun S hA=>(aD M M (lb M) (sv (d:=.osl _ _ _) (agr hA M M)))) ?_
        refine .cons (lop M M fun S hA=>(aD M M (lb M) (svaI hA M M))) ?_
        refine .cons (lop M M fun S hA=>(aX aC.toEnc0 M M (lb M) underlying28 ti40 (sv (d:=.osl _ _ _) (agr hA M M)) M (svaI hA M M) hx64)) ?_
        refine .cons (lop M M fun S hA=>(bW aC.toEnc0 (cs:=q9) M M (lb M) underlying40 ag40 ti40 (by decide) (svaR hA M M) (agi hA M M) hx65 (nle M) M)) ?_
        refine .cons (lop M M fun S hA=>(aX aC.toEnc0 M M (lb M) underlying28 ti40 (sv (d:=.osl _ _ _) (agr hA M M)) M (svaI hA M M) hx66)) ?_
        refine .cons (lop M M fun S hA=>(bR aC.toEnc0 (a':=x63) M M ti40 (svaR hA M M) (agi hA M M) (svaA q9 hA M M) M M M hx67 (nle M) M hx68)) ?_
        refine .cons (lop M M fun S hA=>(aX aC.toEnc0 M M (lb M) underlying28 ti40 (sv (d:=.osl _ _ _) (agr hA M M)) (bV hx68 M) (svaI hA M M) hx69)) ?_
        refine .cons (lop M M fun S hA=>(bR aC.toEnc0 (a':=x65) M M ti40 (svaR hA M M) (agi hA M M) (svaA q9 hA M M) M M M hx70 (nle M) M hx71)) ?_
        exact .nil
       obtain ⟨x72,hx72,h⟩:=aL h
       obtain ⟨hk73,h⟩:=iG h
       refine aS (aA M (aD M M (lb M) (sv (d:=.osl _ _ _) M))<|aA M (mvI M M M M)<|aA M (mvI M M M M)<|aA M (mvI M M M M)<|aA M (aD M M (lb M) (sv (d:=.fn 27 []) M))<|aA M (bG (r':=.tuple []) (H1':=[(1000,.blk 40 (D.flat (x72.map aC.d)))]) 0 [1000] M M (lb M) cl82 (.cons (sv (congrArg (D.osl _ _) (bV hx71 (bV hx68 M)).symm)) (.cons (svI M) (.cons (svI M) (.cons (svI M) (.cons (sv (d:=.fn 27 []) M) .nil))))) M M ⟨M,M,by decide,M,List.forall_mem_cons.2 ⟨⟨M,M,(fW aC M),(bK aC)⟩,List.forall_mem_nil _⟩⟩ (hJ _ _ _ _ _ hx72) M M (List.forall_mem_cons.2 ⟨⟨M,(bK aC)⟩,List.forall_mem_nil _⟩) (by simp only [List.map_cons,List.map_nil,Ent.ren,bL,bT]; rfl))<|bE ?_)
       refine bI ?_
       refine aJ ?_
       obtain ⟨x74,hx74,h⟩:=aK h
       refine aS (aA M (mvI M M M M)<|aA M (aQ M M (lb M) (svI M) (sv (d:=.int _ 1) M) M hx74)<|aA M (asI M M M M)<|bE ?_)
       refine aJ ⟨(n1,x72,x74),(fun i=>i),⟨(.cons (.same (congrArg (D.osl _ _) hk73.symm) M) (.sames M M)),(.cons (EntW.lst M) .nil),aY [1000] M (by decide),fun _ _=>M⟩,?_,?_⟩
       exact h
       exact Nat.lt_succ_self _
      ·
       replace h:=bY h hc59
       refine cA ?_
       refine bD ?_
       refine bD ?_
       refine cC ?_
       obtain rfl:=sj_ h
       refine ⟨.inl M,(fun i=>i),⟨.nil,(.cons (EntW.lst M) .nil),aY [1000] M (by decide),fun _ _=>M⟩,.nil,M⟩

theorem fY (a0:(List aG)) (a1:Int) (a2:Int) (a3:Int) (r:(Int × Int × Int)) (h:eD a0 a1 a2 a3=some r):FnH prog 93 [.slice false (a0.map aC.d),.int .i64 a1,.int .i64 a2,.ref 1000 0,.fn 27 []] [(1000,.blk 3 [.int .i64 a3])] (retD [.int .i64 r.1,.int .i64 r.2.1]) [(1000,.blk 3 [.int .i64 r.2.2])]:=by
 refine cF (rs:=[.int .i64 r.1,.int .i64 r.2.1]) func93 M ntmps93 (nle M) fun O hO=>?_
 show IWP _ _ _ _ ⟨[(0,.slice false (a0.map aC.d)),(1,.int .i64 a1),(2,.int .i64 a2),(3,.ref 1000 0),(4,.fn 27 [])],[(1000,.blk 3 [.int .i64 a3])]⟩ _
 unfold eD at h
 refine aF (aA M (aI M M (lb M) (sv (d:=.int _ 0) M))<|aA M (aI M M (lb M) (sv (d:=.int _ 0) M))<|aE ?_)
 refine aU ?_
 obtain ⟨x1,hx1,h⟩:=aL h
 obtain ⟨x2,hx2,h⟩:=aL h
 obtain ⟨x3,hx3,h⟩:=aL h
 obtain ⟨x4,hx4,h⟩:=aK h
 refine dN M [⟨[4],[],[(12,.fn 27 [])],[]⟩,
  ⟨[0],[],[(13,.slice false (a0.map aC.d))],[]⟩,
  ⟨[2],[],[(14,.int .i64 a2)],[]⟩,
  ⟨[13,14],[],[(15,.fptr (v2 x1))],[]⟩,
  ⟨[15],[],[(16,.agg (v2 x1))],[]⟩,
  ⟨[0],[],[(17,.slice false (a0.map aC.d))],[]⟩,
  ⟨[1],[],[(18,.int .i64 a1)],[]⟩,
  ⟨[17,18],[],[(19,.fptr (v2 x2))],[]⟩,
  ⟨[19],[],[(20,.agg (v2 x2))],[]⟩,
  ⟨[12,16,20],[],[(21,.int .i64 x3)],[]⟩,
  ⟨[21],[],[(22,.bool x4)],[]⟩] M ?_ (by kernel_rfl) ?_
 ·refine .cons (lop M M fun S hA=>(aD M M (lb M) (sv (d:=.fn 27 []) (agr hA M M)))) ?_
  refine .cons (lop M M fun S hA=>(aD M M (lb M) (svaL hA M M))) ?_
  refine .cons (lop M M fun S hA=>(aD M M (lb M) (svaI hA M M))) ?_
  refine .cons (lop M M fun S hA=>(iV aC (cs:=q9) M M (lb M) underlying28 ti40 (svaL hA M M) (svaI hA M M) hx1 M M)) ?_
  refine .cons (lop M M fun S hA=>(lY (cs:=q9) M M (lb M) underlying40 ag40 ti40 (by decide) (sv (d:=.fptr q9) (agr hA M M)) (nle M) M)) ?_
  refine .cons (lop M M fun S hA=>(aD M M (lb M) (svaL hA M M))) ?_
  refine .cons (lop M M fun S hA=>(aD M M (lb M) (svaI hA M M))) ?_
  refine .cons (lop M M fun S hA=>(iV aC (cs:=q9) M M (lb M) underlying28 ti40 (svaL hA M M) (svaI hA M M) hx2 M M)) ?_
  refine .cons (lop M M fun S hA=>(lY (cs:=q9) M M (lb M) underlying40 ag40 ti40 (by decide) (sv (d:=.fptr q9) (agr hA M M)) (nle M) M)) ?_
  refine .cons (lop M M fun S hA=>(jO (r:=.int _ _) M M (lb M) cl27 (sv (d:=.fn 27 []) (agr hA M M)) (.cons (svaA q9 hA M M) (.cons (svaA q9 hA M M) .nil)) M (dS _ _ _ hx3))) ?_
  refine .cons (lop M M fun S hA=>(aO M M (lb M) (svaI hA M M) (sv (d:=.int _ 0) M) M hx4)) ?_
  exact .nil
 refine aW (b:=_) M (fun hc5=>?_) (fun hc5=>?_)
 ·
  replace h:=bX h hc5
  obtain ⟨x6,hx6,h⟩:=aK h
  refine aF (aA M (mvR M M M M)<|aA M (aN M M (lb M) (svR M))<|aA M (aR (d:=.int _ _) M M (lb M) underlying3 ag3 ti3 (by decide) (svR M) M (nle M) M)<|aA M (aQ M M (lb M) (svI M) (sv (d:=.int _ 1) M) M hx6)<|aA M (aN M M (lb M) (svR M))<|aA M (fD (ds':=[.int _ _]) M M ti3 (svR M) M (svI M) M M M (nle M) M)<|aE ?_)
  refine aF (aA M (mvI M M M M)<|aA M (mvI M M M M)<|aA M (asI M M M M)<|aA M (asI M M M M)<|aE ?_)
  refine bB ?_
  refine bP ?_
  obtain rfl:=sj_ h
  refine ⟨.inr M,(fun i=>i),⟨.nil,(.cons (.blk M M M) .nil),aY [1000] M (by decide),fun _ _=>M⟩,(.cons (sv M) (.cons (sv M) .nil)),M⟩
 ·
  replace h:=bY h hc5
  refine aT ?_
  refine aJ ?_
  refine aF (aA M (mvI M M M M)<|aA M (mvI M M M M)<|aA M (asI M M M M)<|aA M (asI M M M M)<|aE ?_)
  refine bB ?_
  obtain rfl:=sj_ h
  refine ⟨.inr M,(fun i=>i),⟨.nil,(.cons (.blk M M M) .nil),aY [1000] M (by decide),fun _ _=>M⟩,(.cons (sv M) (.cons (sv M) .nil)),M⟩

theorem iE (a0:(List aG)) (a1:Int) (a2:Int) (a3:Int) (a4:Int) (r:(Int × Int)) (h:eU a0 a1 a2 a3 a4=some r):FnH prog 86 [.slice false (a0.map aC.d),.int .i64 a1,.int .i64 a2,.int .i64 a3,.ref 1000 0,.fn 27 []] [(1000,.blk 3 [.int .i64 a4])] (.int .i64 r.1) [(1000,.blk 3 [.int .i64 r.2])]:=by
 refine cF (rs:=[.int .i64 r.1]) func86 M ntmps86 (nle M) fun O hO=>?_
 show IWP _ _ _ _ ⟨[(0,.slice false (a0.map aC.d)),(1,.int .i64 a1),(2,.int .i64 a2),(3,.int .i64 a3),(4,.ref 1000 0),(5,.fn 27 [])],[(1000,.blk 3 [.int .i64 a4])]⟩ _
 unfold eU at h
 refine aF (aA M (aI M M (lb M) (sv (d:=.int _ 0) M))<|aE ?_)
 obtain ⟨x1,hx1,h⟩:=aL h
 refine aF (aA M (mvL M M M M)<|aA M (mvI M M M M)<|aA M (mvI M M M M)<|aA M (mvR M M M M)<|aA M (aD M M (lb M) (sv (d:=.fn 27 []) M))<|aA M (bG (r':=.tuple [.int .i64 x1.1,.int .i64 x1.2.1]) (H1':=[(1000,.blk 3 [.int .i64 x1.2.2])]) 0 [1000] M M (lb M) cl93 (.cons (svL M) (.cons (svI M) (.cons (svI M) (.cons (svR M) (.cons (sv (d:=.fn 27 []) M) .nil))))) M M ⟨M,M,by decide,M,List.forall_mem_cons.2 ⟨⟨M,M,M,M⟩,List.forall_mem_nil _⟩⟩ (fY _ _ _ _ _ hx1) M M (List.forall_mem_cons.2 ⟨⟨M,M⟩,List.forall_mem_nil _⟩) M)<|aA M (aD M M (lb M) (sv (d:=.tuple q17) M))<|aA M (cM (d:=.int _ _) M M (lb M) (sv (d:=.tuple q17) M) M)<|aA M (cM (d:=.int _ _) M M (lb M) (sv (d:=.tuple q17) M) M)<|aA M (asI M M M M)<|aA M (asI M M M M)<|aE ?_)
 obtain ⟨x2,hx2,h⟩:=aL h
 refine aF (aA M (mvL M M M M)<|aA M (mvI M M M M)<|aA M (mvI M M M M)<|aA M (mvR M M M M)<|aA M (aD M M (lb M) (sv (d:=.fn 27 []) M))<|aA M (bG (r':=.tuple [.int .i64 x2.1,.int .i64 x2.2.1]) (H1':=[(1000,.blk 3 [.int .i64 x2.2.2])]) 0 [1000] M M (lb M) cl93 (.cons (svL M) (.cons (svI M) (.cons (svI M) (.cons (svR M) (.cons (sv (d:=.fn 27 []) M) .nil))))) M M ⟨M,M,by decide,M,List.forall_mem_cons.2 ⟨⟨M,M,M,M⟩,List.forall_mem_nil _⟩⟩ (fY _ _ _ _ _ hx2) M M (List.forall_mem_cons.2 ⟨⟨M,M⟩,List.forall_mem_nil _⟩) M)<|aA M (aD M M (lb M) (sv (d:=.tuple q17) M))<|aA M (cM (d:=.int _ _) M M (lb M) (sv (d:=.tuple q17) M) M)<|aA M (cM (d:=.int _ _) M M (lb M) (sv (d:=.tuple q17) M) M)<|aA M (asI M M M M)<|aA M (asI M M M M)<|aE ?_)
 obtain ⟨x3,hx3,h⟩:=aL h
 refine aF (aA M (mvL M M M M)<|aA M (mvI M M M M)<|aA M (mvI M M M M)<|aA M (mvR M M M M)<|aA M (aD M M (lb M) (sv (d:=.fn 27 []) M))<|aA M (bG (r':=.tuple [.int .i64 x3.1,.int .i64 x3.2.1]) (H1':=[(1000,.blk 3 [.int .i64 x3.2.2])]) 0 [1000] M M (lb M) cl93 (.cons (svL M) (.cons (svI M) (.cons (svI M) (.cons (svR M) (.cons (sv (d:=.fn 27 []) M) .nil))))) M M ⟨M,M,by decide,M,List.forall_mem_cons.2 ⟨⟨M,M,M,M⟩,List.forall_mem_nil _⟩⟩ (fY _ _ _ _ _ hx3) M M (List.forall_mem_cons.2 ⟨⟨M,M⟩,List.forall_mem_nil _⟩) M)<|aA M (aD M M (lb M) (sv (d:=.tuple q17) M))<|aA M (cM (d:=.int _ _) M M (lb M) (sv (d:=.tuple q17) M) M)<|aA M (cM (d:=.int _ _) M M (lb M) (sv (d:=.tuple q17) M) M)<|aA M (asI M M M M)<|aA M (asI M M M M)<|aE ?_)
 refine aF (aA M (mvI M M M M)<|aA M (asI M M M M)<|aE ?_)
 refine bB ?_
 obtain rfl:=sj_ h
 refine ⟨.inr M,(fun i=>i),⟨.nil,(.cons (.blk M M M) .nil),aY [1000] M (by decide),fun _ _=>M⟩,(.cons (sv M) .nil),M⟩

theorem eT (a0:(List aG)) (a1:Int) (a2:Int) (r:(Int × Int)) (h:dD a0 a1 a2=some r):FnH prog 85 [.slice false (a0.map aC.d),.int .i64 a1,.ref 1000 0,.fn 27 []] [(1000,.blk 3 [.int .i64 a2])] (.int .i64 r.1) [(1000,.blk 3 [.int .i64 r.2])]:=by
 refine cF (rs:=[.int .i64 r.1]) func85 M ntmps85 (nle M) fun O hO=>?_
 show IWP _ _ _ _ ⟨[(0,.slice false (a0.map aC.d)),(1,.int .i64 a1),(2,.ref 1000 0),(3,.fn 27 [])],[(1000,.blk 3 [.int .i64 a2])]⟩ _
 unfold dD at h
 refine aF (aA M (aI M M (lb M) (sv (d:=.int _ 0) M))<|aE ?_)
 obtain ⟨x1,hx1,h⟩:=aK h
 obtain ⟨x2,hx2,h⟩:=aK h
 obtain ⟨x3,hx3,h⟩:=aL h
 refine aF (aA M (mvL M M M M)<|aA M (mvI M M M M)<|aA M (aQ M M (lb M) (svI M) (sv (d:=.int _ 1) M) M hx1)<|aA M (mvI M M M M)<|aA M (mvI M M M M)<|aA M (aQ M M (lb M) (svI M) (sv (d:=.int _ 1) M) M hx2)<|aA M (mvR M M M M)<|aA M (aD M M (lb M) (sv (d:=.fn 27 []) M))<|aA M (bG (r':=.int .i64 x3.1) (H1':=[(1000,.blk 3 [.int .i64 x3.2])]) 0 [1000] M M (lb M) cl86 (.cons (svL M) (.cons (svI M) (.cons (svI M) (.cons (svI M) (.cons (svR M) (.cons (sv (d:=.fn 27 []) M) .nil)))))) M M ⟨M,M,by decide,M,List.forall_mem_cons.2 ⟨⟨M,M,M,M⟩,List.forall_mem_nil _⟩⟩ (iE _ _ _ _ _ _ hx3) M M (List.forall_mem_cons.2 ⟨⟨M,M⟩,List.forall_mem_nil _⟩) M)<|aA M (asI M M M M)<|aE ?_)
 refine bB ?_
 obtain rfl:=sj_ h
 refine ⟨.inr M,(fun i=>i),⟨.nil,(.cons (.blk M M M) .nil),aY [1000] M (by decide),fun _ _=>M⟩,(.cons (sv M) .nil),M⟩

theorem lE (a0:(List aG)) (a1:Int) (a2:Int) (r:(Int × Int)) (h:fV a0 a1 a2=some r):fS prog 60 [.slice false (a0.map aC.d),.int .i64 a1,.int .i64 a2,.fn 27 []] (retD [.int .i64 r.1,.int .i64 r.2]):=by
 refine cR (rs:=[.int .i64 r.1,.int .i64 r.2]) func60 M ntmps60 (nle M) M fun O hO=>?_
 show IWP _ _ _ _ ⟨[(0,.slice false (a0.map aC.d)),(1,.int .i64 a1),(2,.int .i64 a2),(3,.fn 27 [])],[]⟩ _
 unfold fV at h
 refine aF (aA M (aI M M (lb M) (sv (d:=.int _ 0) M))<|aA M (aI M M (lb M) (sv (d:=.int _ 0) M))<|aE ?_)
 obtain ⟨x1,hx1,h⟩:=aK h
 refine aF (aA M (mvI M M M M)<|aA M (mvI M M M M)<|aA M (aQ M M (lb M) (svI M) (svI M) M hx1)<|aA M (asI M M M M)<|aE ?_)
 refine aF (aA M (gN (cs:=[.int _ _]) (cs':=[.int .i64 0]) 0 M M (lb M) M ti3 M M (.all _))<|aE ?_)
 obtain ⟨x2,hx2,h⟩:=aL h
 obtain ⟨x3,hx3,h⟩:=aK h
 obtain ⟨x4,hx4,h⟩:=aK h
 refine aF (aA M (mvI M M M M)<|aA M (mvI M M M M)<|aA M (lK M M (lb M) (svI M) (sv (d:=.int _ 4) M) hx2)<|aA M (aQ M M (lb M) (svI M) (sv (d:=.int _ 1) M) M hx3)<|aA M (aQ M M (lb M) (svI M) (svI M) M hx4)<|aA M (asI M M M M)<|aE ?_)
 obtain ⟨x5,hx5,h⟩:=aL h
 obtain ⟨x6,hx6,h⟩:=aK h
 obtain ⟨x7,hx7,h⟩:=aK h
 refine aF (aA M (mvI M M M M)<|aA M (mvI M M M M)<|aA M (lK M M (lb M) (svI M) (sv (d:=.int _ 4) M) hx5)<|aA M (aQ M M (lb M) (svI M) (sv (d:=.int _ 2) M) M hx6)<|aA M (aQ M M (lb M) (svI M) (svI M) M hx7)<|aA M (asI M M M M)<|aE ?_)
 obtain ⟨x8,hx8,h⟩:=aL h
 obtain ⟨x9,hx9,h⟩:=aK h
 obtain ⟨x10,hx10,h⟩:=aK h
 refine aF (aA M (mvI M M M M)<|aA M (mvI M M M M)<|aA M (lK M M (lb M) (svI M) (sv (d:=.int _ 4) M) hx8)<|aA M (aQ M M (lb M) (svI M) (sv (d:=.int _ 3) M) M hx9)<|aA M (aQ M M (lb M) (svI M) (svI M) M hx10)<|aA M (asI M M M M)<|aE ?_)
 refine fL (α:=Int × Int) (fun z=>⟨[(11,.ref 0 0),(13,.int .i64 z.1)],[(0,.blk 3 [.int .i64 z.2])]⟩) (fun z=>eG z.1 z.2=some r) ?_ ?_
 ·
  obtain ⟨x34,hx34,h⟩:=aK h
  refine aF (aA M (mvI M M M M)<|aA M (aO M M (lb M) (svI M) (sv (d:=.int _ 8) M) M hx34)<|aE ?_)
  refine aW (b:=_) M (fun hc35=>?_) (fun hc35=>?_)
  ·
   replace h:=bX h hc35
   refine fL (α:=Int × Int × Int × Int) (fun z=>⟨[(0,.slice false (a0.map aC.d)),(3,.fn 27 []),(11,.ref 0 0),(12,.int .i64 z.1),(13,.int .i64 z.2.1),(14,.int .i64 z.2.2.1)],[(0,.blk 3 [.int .i64 z.2.2.2])]⟩) (fun z=>eF a0 z.1 z.2.1 z.2.2.1 z.2.2.2=some r) ?_ ?_
   ·
    obtain ⟨x46,hx46,h⟩:=aK h
    refine aF (aA M (mvI M M M M)<|aA M (aO M M (lb M) (svI M) (sv (d:=.int _ 50) M) M hx46)<|aE ?_)
    refine aW (b:=_) M (fun hc47=>?_) (fun hc47=>?_)
    ·
     replace h:=bX h hc47
     obtain ⟨x48,hx48,h⟩:=aL h
     refine aF (aA M (mvL M M M M)<|aA M (mvI M M M M)<|aA M (aD M M (lb M) (sv (d:=.fn 27 []) M))<|aA M (bG (r':=.int .i64 x48.1) (H1':=[(0,.blk 3 [.int .i64 x48.2])]) 1 [0] M M (lb M) cl85 (.cons (svL M) (.cons (svI M) (.cons (svR M) (.cons (sv (d:=.fn 27 []) M) .nil)))) M M ⟨M,M,by decide,M,List.forall_mem_cons.2 ⟨⟨M,M,M,M⟩,List.forall_mem_nil _⟩⟩ (eT _ _ _ _ hx48) M M (List.forall_mem_cons.2 ⟨⟨M,M⟩,List.forall_mem_nil _⟩) M)<|aA M (asI M M M M)<|aE ?_)
     obtain ⟨x49,hx49,h⟩:=aL h
     refine aF (aA M (mvL M M M M)<|aA M (mvI M M M M)<|aA M (aD M M (lb M) (sv (d:=.fn 27 []) M))<|aA M (bG (r':=.int .i64 x49.1) (H1':=[(0,.blk 3 [.int .i64 x49.2])]) 1 [0] M M (lb M) cl85 (.cons (svL M) (.cons (svI M) (.cons (svR M) (.cons (sv (d:=.fn 27 []) M) .nil)))) M M ⟨M,M,by decide,M,List.forall_mem_cons.2 ⟨⟨M,M,M,M⟩,List.forall_mem_nil _⟩⟩ (eT _ _ _ _ hx49) M M (List.forall_mem_cons.2 ⟨⟨M,M⟩,List.forall_mem_nil _⟩) M)<|aA M (asI M M M M)<|aE ?_)
     obtain ⟨x50,hx50,h⟩:=aL h
     refine aS (aA M (mvL M M M M)<|aA M (mvI M M M M)<|aA M (aD M M (lb M) (sv (d:=.fn 27 []) M))<|aA M (bG (r':=.int .i64 x50.1) (H1':=[(0,.blk 3 [.int .i64 x50.2])]) 1 [0] M M (lb M) cl85 (.cons (svL M) (.cons (svI M) (.cons (svR M) (.cons (sv (d:=.fn 27 []) M) .nil)))) M M ⟨M,M,by decide,M,List.forall_mem_cons.2 ⟨⟨M,M,M,M⟩,List.forall_mem_nil _⟩⟩ (eT _ _ _ _ hx50) M M (List.forall_mem_cons.2 ⟨⟨M,M⟩,List.forall_mem_nil _⟩) M)<|aA M (asI M M M M)<|bE ?_)
     refine aJ ⟨(x48.1,x49.1,x50.1,x50.2),(fun i=>i),⟨(.sames M M),(.cons (.blk M M M) .nil),aY [0] M (by decide),fun _ _=>M⟩,?_⟩
     exact h
    ·
     replace h:=bY h hc47
     refine aT ?_
     refine aJ ⟨(x4,x7,x10,0),(fun i=>i),⟨(.sames M M),(.cons (.blk M M M) .nil),aY [0] M (by decide),fun _ _=>M⟩,?_⟩
     exact h
   ·
    rintro ⟨v41,v42,v43,v44⟩ h
    unfold eF at h
    obtain ⟨x45,hx45,h⟩:=aL h
    refine aS (aA M (mvL M M M M)<|aA M (mvI M M M M)<|aA M (mvI M M M M)<|aA M (mvI M M M M)<|aA M (aD M M (lb M) (sv (d:=.fn 27 []) M))<|aA M (bG (r':=.int .i64 x45.1) (H1':=[(0,.blk 3 [.int .i64 x45.2])]) 1 [0] M M (lb M) cl86 (.cons (svL M) (.cons (svI M) (.cons (svI M) (.cons (svI M) (.cons (svR M) (.cons (sv (d:=.fn 27 []) M) .nil)))))) M M ⟨M,M,by decide,M,List.forall_mem_cons.2 ⟨⟨M,M,M,M⟩,List.forall_mem_nil _⟩⟩ (iE _ _ _ _ _ _ hx45) M M (List.forall_mem_cons.2 ⟨⟨M,M⟩,List.forall_mem_nil _⟩) M)<|aA M (asI M M M M)<|bE ?_)
    refine aJ ⟨(x45.1,x45.2),(fun i=>i),⟨(.sames M M),(.cons (.blk M M M) .nil),aY [0] M (by decide),fun _ _=>M⟩,?_⟩
    exact h
  ·
   replace h:=bY h hc35
   refine aT ?_
   refine aJ ⟨(x7,0),(fun i=>i),⟨(.sames M M),(.cons (.blk M M M) .nil),aY [0] M (by decide),fun _ _=>M⟩,?_⟩
   exact h
 ·
  rintro ⟨v28,v29⟩ h
  unfold eG at h
  refine aF (aA M (aR (d:=.int _ _) M M (lb M) underlying3 ag3 ti3 (by decide) (svR M) M (nle M) M)<|aE ?_)
  refine aV ?_
  obtain ⟨x30,hx30,h⟩:=aK h
  refine aF (aA M (aO M M (lb M) (svI M) (sv (d:=.int _ 0) M) M hx30)<|aA M (asB M M M M)<|aE ?_)
  refine aW (b:=_) M (fun hc31=>?_) (fun hc31=>?_)
  ·
   replace h:=bX h hc31
   refine aF (aA M (mvI M M M M)<|aA M (asI M M M M)<|aA M (aI M M (lb M) (sv (d:=.int _ 1) M))<|aE ?_)
   refine bB ?_
   refine dB ?_
   obtain rfl:=sj_ h
   refine ⟨.inr M,(.cons (sv M) (.cons (sv M) .nil))⟩
  ·
   replace h:=bY h hc31
   obtain ⟨x32,hx32,h⟩:=aK h
   refine aF (aA M (aO M M (lb M) (svI M) (sv (d:=.int _ 12) M) M hx32)<|aA M (asB M M M M)<|aE ?_)
   refine aW (b:=_) M (fun hc33=>?_) (fun hc33=>?_)
   ·
    replace h:=bX h hc33
    refine aF (aA M (mvI M M M M)<|aA M (asI M M M M)<|aA M (aI M M (lb M) (sv (d:=.int _ 2) M))<|aE ?_)
    refine bB ?_
    refine dB ?_
    obtain rfl:=sj_ h
    refine ⟨.inr M,(.cons (sv M) (.cons (sv M) .nil))⟩
   ·
    replace h:=bY h hc33
    refine aF (aA M (mvI M M M M)<|aA M (asI M M M M)<|aA M (aI M M (lb M) (sv (d:=.int _ 0) M))<|aE ?_)
    refine bB ?_
    refine dB ?_
    obtain rfl:=sj_ h
    refine ⟨.inr M,(.cons (sv M) (.cons (sv M) .nil))⟩

theorem kP (a0:Int) (a1:Int) (a2:(List aG)) (r:(List aG)) (h:fF a0 a1 a2=some r):FnH prog 61 [.osl 1000 aC.sz a2.length,.int .i64 a0,.int .i64 a1,.fn 27 []] [(1000,.blk 40 (D.flat (a2.map aC.d)))] (retD []) [(1000,.blk 40 (D.flat (r.map aC.d)))]:=by
 refine cF (rs:=[]) func61 M ntmps61 (nle M) fun O hO=>?_
 show IWP _ _ _ _ ⟨[(0,.osl 1000 aC.sz a2.length),(1,.int .i64 a0),(2,.int .i64 a1),(3,.fn 27 [])],[(1000,.blk 40 (D.flat (a2.map aC.d)))]⟩ _
 unfold fF at h
 refine aF (aA M (mvI M M M M)<|aA M (asI M M M M)<|aE ?_)
 obtain ⟨x1,hx1,h⟩:=aK h
 refine aF (aA M (mvI M M M M)<|aA M (aQ M M (lb M) (svI M) (sv (d:=.int _ 1) M) M hx1)<|aA M (asI M M M M)<|aE ?_)
 refine aV ?_
 refine bS (α:=Nat × (List aG) × Int × Int) (fun z=>⟨[(0,.osl 1000 aC.sz z.2.1.length),(8,.int .i64 z.2.2.1),(9,.int .i64 z.2.2.2)],[(1000,.blk 40 (D.flat (z.2.1.map aC.d)))]⟩) (fun z=>dC z.1 z.2.1 z.2.2.1 z.2.2.2=some r) (fun z=>z.1) (fuel,a2,a0,x1) (fun i=>i) ⟨(.sames M M),(.cons (EntW.lst M) .nil),aY [1000] M (by decide),fun _ _=>M⟩ ?_ ?_
 ·exact h
 ·
  rintro ⟨n0,v16,v17,v18⟩ h
  cases n0 with
  | zero=>exact absurd h (by unfold dC; exact nofun)
  | succ n0 =>
   unfold dC at h
   refine aU ?_
   obtain ⟨x33,hx33,h⟩:=aK h
   refine aF (aA M (mvI M M M M)<|aA M (mvI M M M M)<|aA M (aO M M (lb M) (svI M) (svI M) M hx33)<|aE ?_)
   refine aW (b:=_) M (fun hc34=>?_) (fun hc34=>?_)
   ·
    replace h:=bX h hc34
    refine aT ?_
    refine aJ ?_
    refine aV ?_
    obtain ⟨x35,hx35,h⟩:=aL h
    obtain ⟨x36,hx36,h⟩:=aL h
    obtain ⟨x37,hx37,h⟩:=aL h
    obtain ⟨x38,hx38,h⟩:=aL h
    obtain ⟨x39,hx39,h⟩:=aL h
    obtain ⟨x40,hx40,h⟩:=aL h
    obtain ⟨x41,hx41,h⟩:=aK h
    obtain ⟨x42,hx42,h⟩:=aL h
    obtain ⟨x43,hx43,h⟩:=aL h
    obtain ⟨x44,hx44,h⟩:=aK h
    refine dN M [⟨[0],[],[(16,.osl 1000 aC.sz v16.length)],[]⟩,
     ⟨[8],[],[(17,.int .i64 v17)],[]⟩,
     ⟨[0],[],[(18,.osl 1000 aC.sz v16.length)],[]⟩,
     ⟨[9],[],[(19,.int .i64 v18)],[]⟩,
     ⟨[0],[],[(20,.osl 1000 aC.sz v16.length)],[]⟩,
     ⟨[9],[],[(21,.int .i64 v18)],[]⟩,
     ⟨[20,21],[],[(22,.ref 1000 (((v18:Int).toNat) * aC.sz + 0))],[]⟩,
     ⟨[22],[1000],[(23,.agg (v2 x36))],[]⟩,
     ⟨[0],[],[(24,.osl 1000 aC.sz v16.length)],[]⟩,
     ⟨[8],[],[(25,.int .i64 v17)],[]⟩,
     ⟨[24,25],[],[(26,.ref 1000 (((v17:Int).toNat) * aC.sz + 0))],[]⟩,
     ⟨[26],[1000],[(27,.agg (v2 x38))],[]⟩,
     ⟨[16,17],[],[(28,.ref 1000 (((v17:Int).toNat) * aC.sz + 0))],[]⟩,
     ⟨[23,28],[1000],[],[(1000,.blk 40 (D.flat (x41.map aC.d)))]⟩,
     ⟨[18,19],[],[(29,.ref 1000 (((v18:Int).toNat) * aC.sz + 0))],[]⟩,
     ⟨[27,29],[1000],[],[(1000,.blk 40 (D.flat (x44.map aC.d)))]⟩] M ?_ (by kernel_rfl) ?_
    ·refine .cons (lop M M fun S hA=>(aD M M (lb M) (sv (d:=.osl _ _ _) (agr hA M M)))) ?_
     refine .cons (lop M M fun S hA=>(aD M M (lb M) (svaI hA M M))) ?_
     refine .cons (lop M M fun S hA=>(aD M M (lb M) (sv (d:=.osl _ _ _) (agr hA M M)))) ?_
     refine .cons (lop M M fun S hA=>(aD M M (lb M) (svaI hA M M))) ?_
     refine .cons (lop M M fun S hA=>(aD M M (lb M) (sv (d:=.osl _ _ _) (agr hA M M)))) ?_
     refine .cons (lop M M fun S hA=>(aD M M (lb M) (svaI hA M M))) ?_
     refine .cons (lop M M fun S hA=>(aX aC.toEnc0 M M (lb M) underlying28 ti40 (sv (d:=.osl _ _ _) (agr hA M M)) M (svaI hA M M) hx35)) ?_
     refine .cons (lop M M fun S hA=>(bW aC.toEnc0 (cs:=q9) M M (lb M) underlying40 ag40 ti40 (by decide) (svaR hA M M) (agi hA M M) hx36 (nle M) M)) ?_
     refine .cons (lop M M fun S hA=>(aD M M (lb M) (sv (d:=.osl _ _ _) (agr hA M M)))) ?_
     refine .cons (lop M M fun S hA=>(aD M M (lb M) (svaI hA M M))) ?_
     refine .cons (lop M M fun S hA=>(aX aC.toEnc0 M M (lb M) underlying28 ti40 (sv (d:=.osl _ _ _) (agr hA M M)) M (svaI hA M M) hx37)) ?_
     refine .cons (lop M M fun S hA=>(bW aC.toEnc0 (cs:=q9) M M (lb M) underlying40 ag40 ti40 (by decide) (svaR hA M M) (agi hA M M) hx38 (nle M) M)) ?_
     refine .cons (lop M M fun S hA=>(aX aC.toEnc0 M M (lb M) underlying28 ti40 (sv (d:=.osl _ _ _) (agr hA M M)) M (svaI hA M M) hx39)) ?_
     refine .cons (lop M M fun S hA=>(bR aC.toEnc0 (a':=x36) M M ti40 (svaR hA M M) (agi hA M M) (svaA q9 hA M M) M M M hx40 (nle M) M hx41)) ?_
     refine .cons (lop M M fun S hA=>(aX aC.toEnc0 M M (lb M) underlying28 ti40 (sv (d:=.osl _ _ _) (agr hA M M)) (bV hx41 M) (svaI hA M M) hx42)) ?_
     refine .cons (lop M M fun S hA=>(bR aC.toEnc0 (a':=x38) M M ti40 (svaR hA M M) (agi hA M M) (svaA q9 hA M M) M M M hx43 (nle M) M hx44)) ?_
     exact .nil
    obtain ⟨x45,hx45,h⟩:=aK h
    refine aF (aA M (mvI M M M M)<|aA M (aQ M M (lb M) (svI M) (sv (d:=.int _ 1) M) M hx45)<|aA M (asI M M M M)<|aE ?_)
    obtain ⟨x46,hx46,h⟩:=aK h
    refine aS (aA M (mvI M M M M)<|aA M (aQ M M (lb M) (svI M) (sv (d:=.int _ 1) M) M hx46)<|aA M (asI M M M M)<|bE ?_)
    refine bI ?_
    refine aJ ⟨(n0,x44,x45,x46),(fun i=>i),⟨(.cons (.same (congrArg (D.osl _ _) (bV hx44 (bV hx41 M)).symm) M) (.sames M M)),(.cons (EntW.lst M) .nil),aY [1000] M (by decide),fun _ _=>M⟩,?_,?_⟩
    exact h
    exact Nat.lt_succ_self _
   ·
    replace h:=bY h hc34
    refine cA ?_
    refine bD ?_
    refine bD ?_
    refine cC ?_
    obtain rfl:=sj_ h
    refine ⟨.inl M,(fun i=>i),⟨.nil,(.cons (EntW.lst M) .nil),aY [1000] M (by decide),fun _ _=>M⟩,.nil,M⟩

theorem jE (a0 : Int) (a1:Int) (a2:(List aG)) (r:(Bool × (List aG))) (h:eL a0 a1 a2=some r):FnH prog 62 [.osl 1000 aC.sz a2.length,.int .i64 a0,.int .i64 a1,.fn 27 []] [(1000,.blk 40 (D.flat (a2.map aC.d)))] (.bool r.1) [(1000,.blk 40 (D.flat (r.2.map aC.d)))]:=by
 refine cF (rs:=[.bool r.1]) func62 M ntmps62 (nle M) fun O hO=>?_
 show IWP _ _ _ _ ⟨[(0,.osl 1000 aC.sz a2.length),(1,.int .i64 a0),(2,.int .i64 a1),(3,.fn 27 [])],[(1000,.blk 40 (D.flat (a2.map aC.d)))]⟩ _
 unfold eL at h
 refine aF (aA M (aI M M (lb M) (sv (d:=.bool false) M))<|aE ?_)
 obtain ⟨x1,hx1,h⟩:=aK h
 refine aF (aA M (mvI M M M M)<|aA M (aQ M M (lb M) (svI M) (sv (d:=.int _ 1) M) M hx1)<|aA M (asI M M M M)<|aE ?_)
 refine aU ?_
 refine aF (aA M (aI M M (lb M) (sv (d:=.int _ 0) M))<|aE ?_)
 refine aV ?_
 refine bS (α:=Nat × (List aG) × Int × Int) (fun z=>⟨[(0,.osl 1000 aC.sz z.2.1.length),(1,.int .i64 a0),(2,.int .i64 a1),(3,.fn 27 []),(9,.int .i64 z.2.2.1),(10,.int .i64 z.2.2.2)],[(1000,.blk 40 (D.flat (z.2.1.map aC.d)))]⟩) (fun z=>bH a0 a1 z.1 z.2.1 z.2.2.1 z.2.2.2=some r) (fun z=>z.1) (fuel,a2,x1,0) (fun i=>i) ⟨(.sames M M),(.cons (EntW.lst M) .nil),aY [1000] M (by decide),fun _ _=>M⟩ ?_ ?_
 ·exact h
 ·
  rintro ⟨n0,v284,v285,v286⟩ h
  cases n0 with
  | zero=>exact absurd h (by unfold bH; exact nofun)
  | succ n0 =>
   unfold bH at h
   refine aU ?_
   obtain ⟨x569,hx569,h⟩:=aK h
   refine aF (aA M (mvI M M M M)<|aA M (aO M M (lb M) (svI M) (sv (d:=.int _ 5) M) M hx569)<|aE ?_)
   refine aW (b:=_) M (fun hc570=>?_) (fun hc570=>?_)
   ·
    replace h:=bX h hc570
    refine aT ?_
    refine aJ ?_
    refine aU ?_
    refine aV ?_
    refine aU ?_
    refine aV ?_
    refine bS (α:=Nat × Int) (fun z=>⟨[(0,.osl 1000 aC.sz v284.length),(1,.int .i64 a0),(2,.int .i64 a1),(3,.fn 27 []),(9,.int .i64 z.2),(10,.int .i64 v286)],[(1000,.blk 40 (D.flat (v284.map aC.d)))]⟩) (fun z=>cP a0 a1 v284 v286 (bH a0 a1 n0) z.1 z.2=some r) (fun z=>z.1) (fuel,v285) (fun i=>i) ⟨(.sames M M),(.cons (EntW.lst M) .nil),aY [1000] M (by decide),fun _ _=>M⟩ ?_ ?_
    ·exact h
    ·
     rintro ⟨n1,v582⟩ h
     cases n1 with
     | zero=>exact absurd h (by unfold cP; exact nofun)
     | succ n1 =>
      unfold cP at h
      refine aU ?_
      obtain ⟨x594,hx594,h⟩:=aK h
      obtain ⟨x595,hx595,h⟩:=aL h
      obtain ⟨x596,hx596,h⟩:=aL h
      obtain ⟨x597,hx597,h⟩:=aK h
      obtain ⟨x598,hx598,h⟩:=aL h
      obtain ⟨x599,hx599,h⟩:=aL h
      obtain ⟨x600,hx600,h⟩:=aL h
      obtain ⟨x601,hx601,h⟩:=aK h
      obtain ⟨x602,hx602,h⟩:=aK h
      refine dN M [⟨[9],[],[(19,.int .i64 v582)],[]⟩,
       ⟨[2],[],[(20,.int .i64 a1)],[]⟩,
       ⟨[19,20],[],[(21,.bool x594)],[]⟩,
       ⟨[21],[],[(22,.bool x594)],[]⟩,
       ⟨[3,22],[],[(23,.cnd (x594 == true) (.fn 27 []))],[]⟩,
       ⟨[0,22],[],[(24,.cnd (x594 == true) (.osl 1000 aC.sz v284.length))],[]⟩,
       ⟨[9,22],[],[(25,.cnd (x594 == true) (.int .i64 v582))],[]⟩,
       ⟨[22,24,25],[],[(26,.cnd (x594 == true) (.ref 1000 (((v582:Int).toNat) * aC.sz + 0)))],[]⟩,
       ⟨[22,26],[1000],[(27,.cnd (x594 == true) (.agg (v2 x596)))],[]⟩,
       ⟨[0,22],[],[(28,.cnd (x594 == true) (.osl 1000 aC.sz v284.length))],[]⟩,
       ⟨[9,22],[],[(29,.cnd (x594 == true) (.int .i64 v582))],[]⟩,
       ⟨[22,29],[],[(30,.cnd (x594 == true) (.int .i64 x597))],[]⟩,
       ⟨[22,28,30],[],[(31,.cnd (x594 == true) (.ref 1000 (((x597:Int).toNat) * aC.sz + 0)))],[]⟩,
       ⟨[22,31],[1000],[(32,.cnd (x594 == true) (.agg (v2 x599)))],[]⟩,
       ⟨[22,23,27,32],[],[(33,.cnd (x594 == true) (.int .i64 x600))],[]⟩,
       ⟨[22,33],[],[(34,.cnd (x594 == true) (.bool x601))],[]⟩,
       ⟨[22,34],[],[(35,.cnd (x594 == true) (.bool (!x601)))],[]⟩,
       ⟨[22,35],[],[(36,.bool x602)],[]⟩] M ?_ (by kernel_rfl) ?_
      ·refine .cons (lop M M fun S hA=>(aD M M (lb M) (svaI hA M M))) ?_
       refine .cons (lop M M fun S hA=>(aD M M (lb M) (svaI hA M M))) ?_
       refine .cons (lop M M fun S hA=>(aO M M (lb M) (svaI hA M M) (svaI hA M M) M hx594)) ?_
       refine .cons (lop M M fun S hA=>(aD M M (lb M) (svaB hA M M))) ?_
       refine .cons (lopg M M M M (by decide) (fun S hA=>grd1 hA M M) (fun S hA hb=>(aD M M (lb M) (sv (d:=.fn 27 []) (agr hA M M))))) ?_
       refine .cons (lopg M M M M (by decide) (fun S hA=>grd1 hA M M) (fun S hA hb=>(aD M M (lb M) (sv (d:=.osl _ _ _) (agr hA M M))))) ?_
       refine .cons (lopg M M M M (by decide) (fun S hA=>grd1 hA M M) (fun S hA hb=>(aD M M (lb M) (svaI hA M M)))) ?_
       refine .cons (lopg M M M M (by decide) (fun S hA=>grd1 hA M M) (fun S hA hb=>(aX aC.toEnc0 M M (lb M) underlying28 ti40 (svc (d:=.osl _ _ _) (agr hA M M) hb) M (svc (d:=.int _ _) (agr hA M M) hb) (gd_t hx595 hb)))) ?_
       refine .cons (lopg M M M M (by decide) (fun S hA=>grd1 hA M M) (fun S hA hb=>(bW aC.toEnc0 (cs:=q9) M M (lb M) underlying40 ag40 ti40 (by decide) (svc (d:=.ref _ _) (agr hA M M) hb) (agi hA M M) (gd_t hx596 hb) (nle M) M))) ?_
       refine .cons (lopg M M M M (by decide) (fun S hA=>grd1 hA M M) (fun S hA hb=>(aD M M (lb M) (sv (d:=.osl _ _ _) (agr hA M M))))) ?_
       refine .cons (lopg M M M M (by decide) (fun S hA=>grd1 hA M M) (fun S hA hb=>(aD M M (lb M) (svaI hA M M)))) ?_
       refine .cons (lopg M M M M (by decide) (fun S hA=>grd1 hA M M) (fun S hA hb=>(aQ M M (lb M) (svc (d:=.int _ _) (agr hA M M) hb) (sv (d:=.int _ 1) M) M hx597))) ?_
       refine .cons (lopg M M M M (by decide) (fun S hA=>grd1 hA M M) (fun S hA hb=>(aX aC.toEnc0 M M (lb M) underlying28 ti40 (svc (d:=.osl _ _ _) (agr hA M M) hb) M (svc (d:=.int _ _) (agr hA M M) hb) (gd_t hx598 hb)))) ?_
       refine .cons (lopg M M M M (by decide) (fun S hA=>grd1 hA M M) (fun S hA hb=>(bW aC.toEnc0 (cs:=q9) M M (lb M) underlying40 ag40 ti40 (by decide) (svc (d:=.ref _ _) (agr hA M M) hb) (agi hA M M) (gd_t hx599 hb) (nle M) M))) ?_
       refine .cons (lopg M M M M (by decide) (fun S hA=>grd1 hA M M) (fun S hA hb=>(jO (r:=.int _ _) M M (lb M) cl27 (svc (d:=.fn 27 []) (agr hA M M) hb) (.cons (svc (d:=.agg (v2 x596)) (agr hA M M) hb) (.cons (svc (d:=.agg (v2 x599)) (agr hA M M) hb) .nil)) M (dS _ _ _ (gd_t hx600 hb))))) ?_
       refine .cons (lopg M M M M (by decide) (fun S hA=>grd1 hA M M) (fun S hA hb=>(aO M M (lb M) (svc (d:=.int _ _) (agr hA M M) hb) (sv (d:=.int _ 0) M) M hx601))) ?_
       refine .cons (lopg M M M M (by decide) (fun S hA=>grd1 hA M M) (fun S hA hb=>(eX M M (lb M) (svc (d:=.bool _) (agr hA M M) hb)))) ?_
       refine .cons (lop M M fun S hA=>(bC M M (lb M) (svaB hA M M) (agr hA M M) M hx602)) ?_
       exact .nil
      refine aW (b:=_) M (fun hc603=>?_) (fun hc603=>?_)
      ·
       replace h:=bX h hc603
       refine aT ?_
       refine aJ ?_
       refine aV ?_
       obtain ⟨x604,hx604,h⟩:=aK h
       refine aS (aA M (mvI M M M M)<|aA M (aQ M M (lb M) (svI M) (sv (d:=.int _ 1) M) M hx604)<|aA M (asI M M M M)<|bE ?_)
       refine bI ?_
       refine aJ ⟨(n1,x604),(fun i=>i),⟨(.sames M M),(.cons (EntW.lst M) .nil),aY [1000] M (by decide),fun _ _=>M⟩,?_,?_⟩
       exact h
       exact Nat.lt_succ_self _
      ·
       replace h:=bY h hc603
       refine cA ?_
       refine bD ?_
       refine bD ?_
       refine cC ?_
       refine aJ ?_
       refine aU ?_
       obtain ⟨x605,hx605,h⟩:=aK h
       refine aF (aA M (mvI M M M M)<|aA M (mvI M M M M)<|aA M (aO M M (lb M) (svI M) (svI M) M hx605)<|aE ?_)
       refine aW (b:=_) M (fun hc606=>?_) (fun hc606=>?_)
       ·
        replace h:=bX h hc606
        refine aF (aA M (aI M M (lb M) (sv (d:=.bool true) M))<|aE ?_)
        refine bB ?_
        refine bP ?_
        refine dB ?_
        refine bP ?_
        refine bP ?_
        refine dB ?_
        refine bP ?_
        obtain rfl:=sj_ h
        refine ⟨.inr M,(fun i=>i),⟨.nil,(.cons (EntW.lst M) .nil),aY [1000] M (by decide),fun _ _=>M⟩,(.cons (sv M) .nil),M⟩
       ·
        replace h:=bY h hc606
        refine aT ?_
        refine aJ ?_
        refine aU ?_
        obtain ⟨x607,hx607,h⟩:=aK h
        obtain ⟨x608,hx608,h⟩:=aK h
        refine aF (aA M (mvI M M M M)<|aA M (mvI M M M M)<|aA M (aQ M M (lb M) (svI M) (svI M) M hx607)<|aA M (aO M M (lb M) (svI M) (sv (d:=.int _ 50) M) M hx608)<|aE ?_)
        refine aW (b:=_) M (fun hc609=>?_) (fun hc609=>?_)
        ·
         replace h:=bX h hc609
         refine aF (aA M (aI M M (lb M) (sv (d:=.bool false) M))<|aE ?_)
         refine bB ?_
         refine bP ?_
         refine dB ?_
         refine bP ?_
         refine bP ?_
         refine dB ?_
         refine bP ?_
         obtain rfl:=sj_ h
         refine ⟨.inr M,(fun i=>i),⟨.nil,(.cons (EntW.lst M) .nil),aY [1000] M (by decide),fun _ _=>M⟩,(.cons (sv M) .nil),M⟩
        ·
         replace h:=bY h hc609
         refine aT ?_
         refine aJ ?_
         obtain ⟨x610,hx610,h⟩:=aK h
         obtain ⟨x611,hx611,h⟩:=aK h
         obtain ⟨x612,hx612,h⟩:=aL h
         obtain ⟨x613,hx613,h⟩:=aL h
         obtain ⟨x614,hx614,h⟩:=aL h
         obtain ⟨x615,hx615,h⟩:=aL h
         obtain ⟨x616,hx616,h⟩:=aL h
         obtain ⟨x617,hx617,h⟩:=aL h
         obtain ⟨x618,hx618,h⟩:=aK h
         obtain ⟨x619,hx619,h⟩:=aL h
         obtain ⟨x620,hx620,h⟩:=aL h
         obtain ⟨x621,hx621,h⟩:=aK h
         refine dN M [⟨[0],[],[(46,.osl 1000 aC.sz v284.length)],[]⟩,
          ⟨[9],[],[(47,.int .i64 v582)],[]⟩,
          ⟨[0],[],[(48,.osl 1000 aC.sz v284.length)],[]⟩,
          ⟨[9],[],[(49,.int .i64 v582)],[]⟩,
          ⟨[49],[],[(50,.int .i64 x610)],[]⟩,
          ⟨[0],[],[(51,.osl 1000 aC.sz v284.length)],[]⟩,
          ⟨[9],[],[(52,.int .i64 v582)],[]⟩,
          ⟨[52],[],[(53,.int .i64 x611)],[]⟩,
          ⟨[51,53],[],[(54,.ref 1000 (((x611:Int).toNat) * aC.sz + 0))],[]⟩,
          ⟨[54],[1000],[(55,.agg (v2 x613))],[]⟩,
          ⟨[0],[],[(56,.osl 1000 aC.sz v284.length)],[]⟩,
          ⟨[9],[],[(57,.int .i64 v582)],[]⟩,
          ⟨[56,57],[],[(58,.ref 1000 (((v582:Int).toNat) * aC.sz + 0))],[]⟩,
          ⟨[58],[1000],[(59,.agg (v2 x615))],[]⟩,
          ⟨[46,47],[],[(60,.ref 1000 (((v582:Int).toNat) * aC.sz + 0))],[]⟩,
          ⟨[55,60],[1000],[],[(1000,.blk 40 (D.flat (x618.map aC.d)))]⟩,
          ⟨[48,50],[],[(61,.ref 1000 (((x610:Int).toNat) * aC.sz + 0))],[]⟩,
          ⟨[59,61],[1000],[],[(1000,.blk 40 (D.flat (x621.map aC.d)))]⟩] M ?_ (by kernel_rfl) ?_
         ·refine .cons (lop M M fun S hA=>(aD M M (lb M) (sv (d:=.osl _ _ _) (agr hA M M)))) ?_
          refine .cons (lop M M fun S hA=>(aD M M (lb M) (svaI hA M M))) ?_
          refine .cons (lop M M fun S hA=>(aD M M (lb M) (sv (d:=.osl _ _ _) (agr hA M M)))) ?_
          refine .cons (lop M M fun S hA=>(aD M M (lb M) (svaI hA M M))) ?_
          refine .cons (lop M M fun S hA=>(aQ M M (lb M) (svaI hA M M) (sv (d:=.int _ 1) M) M hx610)) ?_
          refine .cons (lop M M fun S hA=>(aD M M (lb M) (sv (d:=.osl _ _ _) (agr hA M M)))) ?_
          refine .cons (lop M M fun S hA=>(aD M M (lb M) (svaI hA M M))) ?_
          refine .cons (lop M M fun S hA=>(aQ M M (lb M) (svaI hA M M) (sv (d:=.int _ 1) M) M hx611)) ?_
          refine .cons (lop M M fun S hA=>(aX aC.toEnc0 M M (lb M) underlying28 ti40 (sv (d:=.osl _ _ _) (agr hA M M)) M (svaI hA M M) hx612)) ?_
          refine .cons (lop M M fun S hA=>(bW aC.toEnc0 (cs:=q9) M M (lb M) underlying40 ag40 ti40 (by decide) (svaR hA M M) (agi hA M M) hx613 (nle M) M)) ?_
          refine .cons (lop M M fun S hA=>(aD M M (lb M) (sv (d:=.osl _ _ _) (agr hA M M)))) ?_
          refine .cons (lop M M fun S hA=>(aD M M (lb M) (svaI hA M M))) ?_
          refine .cons (lop M M fun S hA=>(aX aC.toEnc0 M M (lb M) underlying28 ti40 (sv (d:=.osl _ _ _) (agr hA M M)) M (svaI hA M M) hx614)) ?_
          refine .cons (lop M M fun S hA=>(bW aC.toEnc0 (cs:=q9) M M (lb M) underlying40 ag40 ti40 (by decide) (svaR hA M M) (agi hA M M) hx615 (nle M) M)) ?_
          refine .cons (lop M M fun S hA=>(aX aC.toEnc0 M M (lb M) underlying28 ti40 (sv (d:=.osl _ _ _) (agr hA M M)) M (svaI hA M M) hx616)) ?_
          refine .cons (lop M M fun S hA=>(bR aC.toEnc0 (a':=x613) M M ti40 (svaR hA M M) (agi hA M M) (svaA q9 hA M M) M M M hx617 (nle M) M hx618)) ?_
          refine .cons (lop M M fun S hA=>(aX aC.toEnc0 M M (lb M) underlying28 ti40 (sv (d:=.osl _ _ _) (agr hA M M)) (bV hx618 M) (svaI hA M M) hx619)) ?_
          refine .cons (lop M M fun S hA=>(bR aC.toEnc0 (a':=x615) M M ti40 (svaR hA M M) (agi hA M M) (svaA q9 hA M M) M M M hx620 (nle M) M hx621)) ?_
          exact .nil
         refine fL (α:=(List aG)) (fun z=>⟨[(0,.osl 1000 aC.sz z.length),(1,.int .i64 a0),(2,.int .i64 a1),(3,.fn 27 []),(9,.int .i64 v582),(10,.int .i64 v286)],[(1000,.blk 40 (D.flat (z.map aC.d)))]⟩) (fun z=>cQ a1 v286 (bH a0 a1 n0) v582 z=some r) ?_ ?_
         ·
          obtain ⟨x776,hx776,h⟩:=aK h
          obtain ⟨x777,hx777,h⟩:=aK h
          refine aF (aA M (mvI M M M M)<|aA M (mvI M M M M)<|aA M (aQ M M (lb M) (svI M) (svI M) M hx776)<|aA M (aO M M (lb M) (svI M) (sv (d:=.int _ 2) M) M hx777)<|aE ?_)
          refine aW (b:=_) M (fun hc778=>?_) (fun hc778=>?_)
          ·
           replace h:=bX h hc778
           obtain ⟨x779,hx779,h⟩:=aK h
           refine aF (aA M (mvI M M M M)<|aA M (aQ M M (lb M) (svI M) (sv (d:=.int _ 1) M) M hx779)<|aA M (asI M M M M)<|aE ?_)
           refine aV ?_
           refine bS (α:=Nat × (List aG) × Int) (fun z=>⟨[(0,.osl 1000 aC.sz z.2.1.length),(1,.int .i64 a0),(2,.int .i64 a1),(3,.fn 27 []),(9,.int .i64 v582),(10,.int .i64 v286),(11,.int .i64 z.2.2)],[(1000,.blk 40 (D.flat (z.2.1.map aC.d)))]⟩) (fun z=>cN a1 v286 (bH a0 a1 n0) v582 z.1 z.2.1 z.2.2=some r) (fun z=>z.1) (fuel,x621,x779) (fun i=>i) ⟨(.cons (.same (congrArg (D.osl _ _) (bV hx621 (bV hx618 M)).symm) M) (.sames M M)),(.cons (EntW.lst M) .nil),aY [1000] M (by decide),fun _ _=>M⟩ ?_ ?_
           ·exact h
           ·
            rintro ⟨n5,v803,v804⟩ h
            cases n5 with
            | zero=>exact absurd h (by unfold cN; exact nofun)
            | succ n5 =>
             unfold cN at h
             refine aU ?_
             obtain ⟨x828,hx828,h⟩:=aK h
             refine aF (aA M (mvI M M M M)<|aA M (aO M M (lb M) (svI M) (sv (d:=.int _ 1) M) M hx828)<|aE ?_)
             refine aW (b:=_) M (fun hc829=>?_) (fun hc829=>?_)
             ·
              replace h:=bX h hc829
              refine aT ?_
              refine aJ ?_
              refine aU ?_
              refine aV ?_
              refine aU ?_
              obtain ⟨x830,hx830,h⟩:=aL h
              obtain ⟨x831,hx831,h⟩:=aL h
              obtain ⟨x832,hx832,h⟩:=aK h
              obtain ⟨x833,hx833,h⟩:=aL h
              obtain ⟨x834,hx834,h⟩:=aL h
              obtain ⟨x835,hx835,h⟩:=aL h
              obtain ⟨x836,hx836,h⟩:=aK h
              refine dN M [⟨[3],[],[(72,.fn 27 [])],[]⟩,
               ⟨[0],[],[(73,.osl 1000 aC.sz v803.length)],[]⟩,
               ⟨[11],[],[(74,.int .i64 v804)],[]⟩,
               ⟨[73,74],[],[(75,.ref 1000 (((v804:Int).toNat) * aC.sz + 0))],[]⟩,
               ⟨[75],[1000],[(76,.agg (v2 x831))],[]⟩,
               ⟨[0],[],[(77,.osl 1000 aC.sz v803.length)],[]⟩,
               ⟨[11],[],[(78,.int .i64 v804)],[]⟩,
               ⟨[78],[],[(79,.int .i64 x832)],[]⟩,
               ⟨[77,79],[],[(80,.ref 1000 (((x832:Int).toNat) * aC.sz + 0))],[]⟩,
               ⟨[80],[1000],[(81,.agg (v2 x834))],[]⟩,
               ⟨[72,76,81],[],[(82,.int .i64 x835)],[]⟩,
               ⟨[82],[],[(83,.bool x836)],[]⟩,
               ⟨[83],[],[(84,.bool (!x836))],[]⟩] M ?_ (by kernel_rfl) ?_
              ·refine .cons (lop M M fun S hA=>(aD M M (lb M) (sv (d:=.fn 27 []) (agr hA M M)))) ?_
               refine .cons (lop M M fun S hA=>(aD M M (lb M) (sv (d:=.osl _ _ _) (agr hA M M)))) ?_
               refine .cons (lop M M fun S hA=>(aD M M (lb M) (svaI hA M M))) ?_
               refine .cons (lop M M fun S hA=>(aX aC.toEnc0 M M (lb M) underlying28 ti40 (sv (d:=.osl _ _ _) (agr hA M M)) M (svaI hA M M) hx830)) ?_
               refine .cons (lop M M fun S hA=>(bW aC.toEnc0 (cs:=q9) M M (lb M) underlying40 ag40 ti40 (by decide) (svaR hA M M) (agi hA M M) hx831 (nle M) M)) ?_
               refine .cons (lop M M fun S hA=>(aD M M (lb M) (sv (d:=.osl _ _ _) (agr hA M M)))) ?_
               refine .cons (lop M M fun S hA=>(aD M M (lb M) (svaI hA M M))) ?_
               refine .cons (lop M M fun S hA=>(aQ M M (lb M) (svaI hA M M) (sv (d:=.int _ 1) M) M hx832)) ?_
               refine .cons (lop M M fun S hA=>(aX aC.toEnc0 M M (lb M) underlying28 ti40 (sv (d:=.osl _ _ _) (agr hA M M)) M (svaI hA M M) hx833)) ?_
               refine .cons (lop M M fun S hA=>(bW aC.toEnc0 (cs:=q9) M M (lb M) underlying40 ag40 ti40 (by decide) (svaR hA M M) (agi hA M M) hx834 (nle M) M)) ?_
               refine .cons (lop M M fun S hA=>(jO (r:=.int _ _) M M (lb M) cl27 (sv (d:=.fn 27 []) (agr hA M M)) (.cons (svaA q9 hA M M) (.cons (svaA q9 hA M M) .nil)) M (dS _ _ _ hx835))) ?_
               refine .cons (lop M M fun S hA=>(aO M M (lb M) (svaI hA M M) (sv (d:=.int _ 0) M) M hx836)) ?_
               refine .cons (lop M M fun S hA=>(eX M M (lb M) (svaB hA M M))) ?_
               exact .nil
              refine aW (b:=_) M (fun hc837=>?_) (fun hc837=>?_)
              ·
               replace h:=bX h hc837
               refine cA ?_
               refine bD ?_
               refine oV M ?_
               refine bD ?_
               refine bD ?_
               refine cC ?_
               refine aJ ⟨v803,(fun i=>i),⟨(.sames M M),(.cons (EntW.lst M) .nil),aY [1000] M (by decide),fun _ _=>M⟩,?_⟩
               exact h
              ·
               replace h:=bY h hc837
               refine aT ?_
               refine aJ ?_
               obtain ⟨x838,hx838,h⟩:=aK h
               obtain ⟨x839,hx839,h⟩:=aK h
               obtain ⟨x840,hx840,h⟩:=aL h
               obtain ⟨x841,hx841,h⟩:=aL h
               obtain ⟨x842,hx842,h⟩:=aL h
               obtain ⟨x843,hx843,h⟩:=aL h
               obtain ⟨x844,hx844,h⟩:=aL h
               obtain ⟨x845,hx845,h⟩:=aL h
               obtain ⟨x846,hx846,h⟩:=aK h
               obtain ⟨x847,hx847,h⟩:=aL h
               obtain ⟨x848,hx848,h⟩:=aL h
               obtain ⟨x849,hx849,h⟩:=aK h
               refine iM M [⟨[0],[],[(85,.osl 1000 aC.sz v803.length)],[]⟩,
                ⟨[11],[],[(86,.int .i64 v804)],[]⟩,
                ⟨[0],[],[(87,.osl 1000 aC.sz v803.length)],[]⟩,
                ⟨[11],[],[(88,.int .i64 v804)],[]⟩,
                ⟨[88],[],[(89,.int .i64 x838)],[]⟩,
                ⟨[0],[],[(90,.osl 1000 aC.sz v803.length)],[]⟩,
                ⟨[11],[],[(91,.int .i64 v804)],[]⟩,
                ⟨[91],[],[(92,.int .i64 x839)],[]⟩,
                ⟨[90,92],[],[(93,.ref 1000 (((x839:Int).toNat) * aC.sz + 0))],[]⟩,
                ⟨[93],[1000],[(94,.agg (v2 x841))],[]⟩,
                ⟨[0],[],[(95,.osl 1000 aC.sz v803.length)],[]⟩,
                ⟨[11],[],[(96,.int .i64 v804)],[]⟩,
                ⟨[95,96],[],[(97,.ref 1000 (((v804:Int).toNat) * aC.sz + 0))],[]⟩,
                ⟨[97],[1000],[(98,.agg (v2 x843))],[]⟩,
                ⟨[85,86],[],[(99,.ref 1000 (((v804:Int).toNat) * aC.sz + 0))],[]⟩,
                ⟨[94,99],[1000],[],[(1000,.blk 40 (D.flat (x846.map aC.d)))]⟩,
                ⟨[87,89],[],[(100,.ref 1000 (((x838:Int).toNat) * aC.sz + 0))],[]⟩,
                ⟨[98,100],[1000],[],[(1000,.blk 40 (D.flat (x849.map aC.d)))]⟩] M ?_ (by kernel_rfl) ?_
               ·refine .cons (lop M M fun S hA=>(aD M M (lb M) (sv (d:=.osl _ _ _) (agr hA M M)))) ?_
                refine .cons (lop M M fun S hA=>(aD M M (lb M) (svaI hA M M))) ?_
                refine .cons (lop M M fun S hA=>(aD M M (lb M) (sv (d:=.osl _ _ _) (agr hA M M)))) ?_
                refine .cons (lop M M fun S hA=>(aD M M (lb M) (svaI hA M M))) ?_
                refine .cons (lop M M fun S hA=>(aQ M M (lb M) (svaI hA M M) (sv (d:=.int _ 1) M) M hx838)) ?_
                refine .cons (lop M M fun S hA=>(aD M M (lb M) (sv (d:=.osl _ _ _) (agr hA M M)))) ?_
                refine .cons (lop M M fun S hA=>(aD M M (lb M) (svaI hA M M))) ?_
                refine .cons (lop M M fun S hA=>(aQ M M (lb M) (svaI hA M M) (sv (d:=.int _ 1) M) M hx839)) ?_
                refine .cons (lop M M fun S hA=>(aX aC.toEnc0 M M (lb M) underlying28 ti40 (sv (d:=.osl _ _ _) (agr hA M M)) M (svaI hA M M) hx840)) ?_
                refine .cons (lop M M fun S hA=>(bW aC.toEnc0 (cs:=q9) M M (lb M) underlying40 ag40 ti40 (by decide) (svaR hA M M) (agi hA M M) hx841 (nle M) M)) ?_
                refine .cons (lop M M fun S hA=>(aD M M (lb M) (sv (d:=.osl _ _ _) (agr hA M M)))) ?_
                refine .cons (lop M M fun S hA=>(aD M M (lb M) (svaI hA M M))) ?_
                refine .cons (lop M M fun S hA=>(aX aC.toEnc0 M M (lb M) underlying28 ti40 (sv (d:=.osl _ _ _) (agr hA M M)) M (svaI hA M M) hx842)) ?_
                refine .cons (lop M M fun S hA=>(bW aC.toEnc0 (cs:=q9) M M (lb M) underlying40 ag40 ti40 (by decide) (svaR hA M M) (agi hA M M) hx843 (nle M) M)) ?_
                refine .cons (lop M M fun S hA=>(aX aC.toEnc0 M M (lb M) underlying28 ti40 (sv (d:=.osl _ _ _) (agr hA M M)) M (svaI hA M M) hx844)) ?_
                refine .cons (lop M M fun S hA=>(bR aC.toEnc0 (a':=x841) M M ti40 (svaR hA M M) (agi hA M M) (svaA q9 hA M M) M M M hx845 (nle M) M hx846)) ?_
                refine .cons (lop M M fun S hA=>(aX aC.toEnc0 M M (lb M) underlying28 ti40 (sv (d:=.osl _ _ _) (agr hA M M)) (bV hx846 M) (svaI hA M M) hx847)) ?_
                refine .cons (lop M M fun S hA=>(bR aC.toEnc0 (a':=x843) M M ti40 (svaR hA M M) (agi hA M M) (svaA q9 hA M M) M M M hx848 (nle M) M hx849)) ?_
                exact .nil
               refine bI ?_
               refine aJ ?_
               obtain ⟨x850,hx850,h⟩:=aK h
               refine aS (aA M (mvI M M M M)<|aA M (aQ M M (lb M) (svI M) (sv (d:=.int _ 1) M) M hx850)<|aA M (asI M M M M)<|bE ?_)
               refine aJ ⟨(n5,x849,x850),(fun i=>i),⟨(.cons (.same (congrArg (D.osl _ _) (bV hx849 (bV hx846 M)).symm) M) (.sames M M)),(.cons (EntW.lst M) .nil),aY [1000] M (by decide),fun _ _=>M⟩,?_,?_⟩
               exact h
               exact Nat.lt_succ_self _
             ·
              replace h:=bY h hc829
              refine cA ?_
              refine bD ?_
              refine bD ?_
              refine cC ?_
              refine aJ ⟨v803,(fun i=>i),⟨(.sames M M),(.cons (EntW.lst M) .nil),aY [1000] M (by decide),fun _ _=>M⟩,?_⟩
              exact h
          ·
           replace h:=bY h hc778
           refine aT ?_
           refine aJ ⟨x621,(fun i=>i),⟨(.cons (.same (congrArg (D.osl _ _) (bV hx621 (bV hx618 M)).symm) M) (.sames M M)),(.cons (EntW.lst M) .nil),aY [1000] M (by decide),fun _ _=>M⟩,?_⟩
           exact h
         ·
          rintro v697 h
          unfold cQ at h
          obtain ⟨x698,hx698,h⟩:=aK h
          obtain ⟨x699,hx699,h⟩:=aK h
          refine aF (aA M (mvI M M M M)<|aA M (mvI M M M M)<|aA M (aQ M M (lb M) (svI M) (svI M) M hx698)<|aA M (aO M M (lb M) (svI M) (sv (d:=.int _ 2) M) M hx699)<|aE ?_)
          refine aW (b:=_) M (fun hc700=>?_) (fun hc700=>?_)
          ·
           replace h:=bX h hc700
           obtain ⟨x701,hx701,h⟩:=aK h
           refine aF (aA M (mvI M M M M)<|aA M (aQ M M (lb M) (svI M) (sv (d:=.int _ 1) M) M hx701)<|aA M (asI M M M M)<|aE ?_)
           refine aV ?_
           refine bS (α:=Nat × (List aG) × Int) (fun z=>⟨[(0,.osl 1000 aC.sz z.2.1.length),(1,.int .i64 a0),(2,.int .i64 a1),(3,.fn 27 []),(9,.int .i64 v582),(10,.int .i64 v286),(12,.int .i64 z.2.2)],[(1000,.blk 40 (D.flat (z.2.1.map aC.d)))]⟩) (fun z=>cO a1 v286 (bH a0 a1 n0) v582 z.1 z.2.1 z.2.2=some r) (fun z=>z.1) (fuel,v697,x701) (fun i=>i) ⟨(.sames M M),(.cons (EntW.lst M) .nil),aY [1000] M (by decide),fun _ _=>M⟩ ?_ ?_
           ·exact h
           ·
            rintro ⟨n4,v725,v726⟩ h
            cases n4 with
            | zero=>exact absurd h (by unfold cO; exact nofun)
            | succ n4 =>
             unfold cO at h
             refine aU ?_
             obtain ⟨x750,hx750,h⟩:=aK h
             refine aF (aA M (mvI M M M M)<|aA M (mvI M M M M)<|aA M (aO M M (lb M) (svI M) (svI M) M hx750)<|aE ?_)
             refine aW (b:=_) M (fun hc751=>?_) (fun hc751=>?_)
             ·
              replace h:=bX h hc751
              refine aT ?_
              refine aJ ?_
              refine aU ?_
              refine aV ?_
              refine aU ?_
              obtain ⟨x752,hx752,h⟩:=aL h
              obtain ⟨x753,hx753,h⟩:=aL h
              obtain ⟨x754,hx754,h⟩:=aK h
              obtain ⟨x755,hx755,h⟩:=aL h
              obtain ⟨x756,hx756,h⟩:=aL h
              obtain ⟨x757,hx757,h⟩:=aL h
              obtain ⟨x758,hx758,h⟩:=aK h
              refine dN M [⟨[3],[],[(112,.fn 27 [])],[]⟩,
               ⟨[0],[],[(113,.osl 1000 aC.sz v725.length)],[]⟩,
               ⟨[12],[],[(114,.int .i64 v726)],[]⟩,
               ⟨[113,114],[],[(115,.ref 1000 (((v726:Int).toNat) * aC.sz + 0))],[]⟩,
               ⟨[115],[1000],[(116,.agg (v2 x753))],[]⟩,
               ⟨[0],[],[(117,.osl 1000 aC.sz v725.length)],[]⟩,
               ⟨[12],[],[(118,.int .i64 v726)],[]⟩,
               ⟨[118],[],[(119,.int .i64 x754)],[]⟩,
               ⟨[117,119],[],[(120,.ref 1000 (((x754:Int).toNat) * aC.sz + 0))],[]⟩,
               ⟨[120],[1000],[(121,.agg (v2 x756))],[]⟩,
               ⟨[112,116,121],[],[(122,.int .i64 x757)],[]⟩,
               ⟨[122],[],[(123,.bool x758)],[]⟩,
               ⟨[123],[],[(124,.bool (!x758))],[]⟩] M ?_ (by kernel_rfl) ?_
              ·refine .cons (lop M M fun S hA=>(aD M M (lb M) (sv (d:=.fn 27 []) (agr hA M M)))) ?_
               refine .cons (lop M M fun S hA=>(aD M M (lb M) (sv (d:=.osl _ _ _) (agr hA M M)))) ?_
               refine .cons (lop M M fun S hA=>(aD M M (lb M) (svaI hA M M))) ?_
               refine .cons (lop M M fun S hA=>(aX aC.toEnc0 M M (lb M) underlying28 ti40 (sv (d:=.osl _ _ _) (agr hA M M)) M (svaI hA M M) hx752)) ?_
               refine .cons (lop M M fun S hA=>(bW aC.toEnc0 (cs:=q9) M M (lb M) underlying40 ag40 ti40 (by decide) (svaR hA M M) (agi hA M M) hx753 (nle M) M)) ?_
               refine .cons (lop M M fun S hA=>(aD M M (lb M) (sv (d:=.osl _ _ _) (agr hA M M)))) ?_
               refine .cons (lop M M fun S hA=>(aD M M (lb M) (svaI hA M M))) ?_
               refine .cons (lop M M fun S hA=>(aQ M M (lb M) (svaI hA M M) (sv (d:=.int _ 1) M) M hx754)) ?_
               refine .cons (lop M M fun S hA=>(aX aC.toEnc0 M M (lb M) underlying28 ti40 (sv (d:=.osl _ _ _) (agr hA M M)) M (svaI hA M M) hx755)) ?_
               refine .cons (lop M M fun S hA=>(bW aC.toEnc0 (cs:=q9) M M (lb M) underlying40 ag40 ti40 (by decide) (svaR hA M M) (agi hA M M) hx756 (nle M) M)) ?_
               refine .cons (lop M M fun S hA=>(jO (r:=.int _ _) M M (lb M) cl27 (sv (d:=.fn 27 []) (agr hA M M)) (.cons (svaA q9 hA M M) (.cons (svaA q9 hA M M) .nil)) M (dS _ _ _ hx757))) ?_
               refine .cons (lop M M fun S hA=>(aO M M (lb M) (svaI hA M M) (sv (d:=.int _ 0) M) M hx758)) ?_
               refine .cons (lop M M fun S hA=>(eX M M (lb M) (svaB hA M M))) ?_
               exact .nil
              refine aW (b:=_) M (fun hc759=>?_) (fun hc759=>?_)
              ·
               replace h:=bX h hc759
               refine cA ?_
               refine bD ?_
               refine oV M ?_
               refine bD ?_
               refine bD ?_
               refine cC ?_
               refine bI ?_
               refine aJ ?_
               obtain ⟨x760,hx760,h⟩:=aK h
               refine aS (aA M (mvI M M M M)<|aA M (aQ M M (lb M) (svI M) (sv (d:=.int _ 1) M) M hx760)<|aA M (asI M M M M)<|bE ?_)
               refine aJ ⟨(n0,v725,v582,x760),(fun i=>i),⟨(.sames M M),(.cons (EntW.lst M) .nil),aY [1000] M (by decide),fun _ _=>M⟩,?_,?_⟩
               exact h
               exact Nat.lt_succ_self _
              ·
               replace h:=bY h hc759
               refine aT ?_
               refine aJ ?_
               obtain ⟨x761,hx761,h⟩:=aK h
               obtain ⟨x762,hx762,h⟩:=aK h
               obtain ⟨x763,hx763,h⟩:=aL h
               obtain ⟨x764,hx764,h⟩:=aL h
               obtain ⟨x765,hx765,h⟩:=aL h
               obtain ⟨x766,hx766,h⟩:=aL h
               obtain ⟨x767,hx767,h⟩:=aL h
               obtain ⟨x768,hx768,h⟩:=aL h
               obtain ⟨x769,hx769,h⟩:=aK h
               obtain ⟨x770,hx770,h⟩:=aL h
               obtain ⟨x771,hx771,h⟩:=aL h
               obtain ⟨x772,hx772,h⟩:=aK h
               refine iM M [⟨[0],[],[(125,.osl 1000 aC.sz v725.length)],[]⟩,
                ⟨[12],[],[(126,.int .i64 v726)],[]⟩,
                ⟨[0],[],[(127,.osl 1000 aC.sz v725.length)],[]⟩,
                ⟨[12],[],[(128,.int .i64 v726)],[]⟩,
                ⟨[128],[],[(129,.int .i64 x761)],[]⟩,
                ⟨[0],[],[(130,.osl 1000 aC.sz v725.length)],[]⟩,
                ⟨[12],[],[(131,.int .i64 v726)],[]⟩,
                ⟨[131],[],[(132,.int .i64 x762)],[]⟩,
                ⟨[130,132],[],[(133,.ref 1000 (((x762:Int).toNat) * aC.sz + 0))],[]⟩,
                ⟨[133],[1000],[(134,.agg (v2 x764))],[]⟩,
                ⟨[0],[],[(135,.osl 1000 aC.sz v725.length)],[]⟩,
                ⟨[12],[],[(136,.int .i64 v726)],[]⟩,
                ⟨[135,136],[],[(137,.ref 1000 (((v726:Int).toNat) * aC.sz + 0))],[]⟩,
                ⟨[137],[1000],[(138,.agg (v2 x766))],[]⟩,
                ⟨[125,126],[],[(139,.ref 1000 (((v726:Int).toNat) * aC.sz + 0))],[]⟩,
                ⟨[134,139],[1000],[],[(1000,.blk 40 (D.flat (x769.map aC.d)))]⟩,
                ⟨[127,129],[],[(140,.ref 1000 (((x761:Int).toNat) * aC.sz + 0))],[]⟩,
                ⟨[138,140],[1000],[],[(1000,.blk 40 (D.flat (x772.map aC.d)))]⟩] M ?_ (by kernel_rfl) ?_
               ·refine .cons (lop M M fun S hA=>(aD M M (lb M) (sv (d:=.osl _ _ _) (agr hA M M)))) ?_
                refine .cons (lop M M fun S hA=>(aD M M (lb M) (svaI hA M M))) ?_
                refine .cons (lop M M fun S hA=>(aD M M (lb M) (sv (d:=.osl _ _ _) (agr hA M M)))) ?_
                refine .cons (lop M M fun S hA=>(aD M M (lb M) (svaI hA M M))) ?_
                refine .cons (lop M M fun S hA=>(aQ M M (lb M) (svaI hA M M) (sv (d:=.int _ 1) M) M hx761)) ?_
                refine .cons (lop M M fun S hA=>(aD M M (lb M) (sv (d:=.osl _ _ _) (agr hA M M)))) ?_
                refine .cons (lop M M fun S hA=>(aD M M (lb M) (svaI hA M M))) ?_
                refine .cons (lop M M fun S hA=>(aQ M M (lb M) (svaI hA M M) (sv (d:=.int _ 1) M) M hx762)) ?_
                refine .cons (lop M M fun S hA=>(aX aC.toEnc0 M M (lb M) underlying28 ti40 (sv (d:=.osl _ _ _) (agr hA M M)) M (svaI hA M M) hx763)) ?_
                refine .cons (lop M M fun S hA=>(bW aC.toEnc0 (cs:=q9) M M (lb M) underlying40 ag40 ti40 (by decide) (svaR hA M M) (agi hA M M) hx764 (nle M) M)) ?_
                refine .cons (lop M M fun S hA=>(aD M M (lb M) (sv (d:=.osl _ _ _) (agr hA M M)))) ?_
                refine .cons (lop M M fun S hA=>(aD M M (lb M) (svaI hA M M))) ?_
                refine .cons (lop M M fun S hA=>(aX aC.toEnc0 M M (lb M) underlying28 ti40 (sv (d:=.osl _ _ _) (agr hA M M)) M (svaI hA M M) hx765)) ?_
                refine .cons (lop M M fun S hA=>(bW aC.toEnc0 (cs:=q9) M M (lb M) underlying40 ag40 ti40 (by decide) (svaR hA M M) (agi hA M M) hx766 (nle M) M)) ?_
                refine .cons (lop M M fun S hA=>(aX aC.toEnc0 M M (lb M) underlying28 ti40 (sv (d:=.osl _ _ _) (agr hA M M)) M (svaI hA M M) hx767)) ?_
                refine .cons (lop M M fun S hA=>(bR aC.toEnc0 (a':=x764) M M ti40 (svaR hA M M) (agi hA M M) (svaA q9 hA M M) M M M hx768 (nle M) M hx769)) ?_
                refine .cons (lop M M fun S hA=>(aX aC.toEnc0 M M (lb M) underlying28 ti40 (sv (d:=.osl _ _ _) (agr hA M M)) (bV hx769 M) (svaI hA M M) hx770)) ?_
                refine .cons (lop M M fun S hA=>(bR aC.toEnc0 (a':=x766) M M ti40 (svaR hA M M) (agi hA M M) (svaA q9 hA M M) M M M hx771 (nle M) M hx772)) ?_
                exact .nil
               refine bI ?_
               refine aJ ?_
               obtain ⟨x773,hx773,h⟩:=aK h
               refine aS (aA M (mvI M M M M)<|aA M (aQ M M (lb M) (svI M) (sv (d:=.int _ 1) M) M hx773)<|aA M (asI M M M M)<|bE ?_)
               refine aJ ⟨(n4,x772,x773),(fun i=>i),⟨(.cons (.same (congrArg (D.osl _ _) (bV hx772 (bV hx769 M)).symm) M) (.sames M M)),(.cons (EntW.lst M) .nil),aY [1000] M (by decide),fun _ _=>M⟩,?_,?_⟩
               exact h
               exact Nat.lt_succ_self _
             ·
              replace h:=bY h hc751
              refine cA ?_
              refine bD ?_
              refine bD ?_
              refine cC ?_
              refine bI ?_
              refine aJ ?_
              obtain ⟨x774,hx774,h⟩:=aK h
              refine aS (aA M (mvI M M M M)<|aA M (aQ M M (lb M) (svI M) (sv (d:=.int _ 1) M) M hx774)<|aA M (asI M M M M)<|bE ?_)
              refine aJ ⟨(n0,v725,v582,x774),(fun i=>i),⟨(.sames M M),(.cons (EntW.lst M) .nil),aY [1000] M (by decide),fun _ _=>M⟩,?_,?_⟩
              exact h
              exact Nat.lt_succ_self _
          ·
           replace h:=bY h hc700
           refine aT ?_
           refine bI ?_
           refine aJ ?_
           obtain ⟨x775,hx775,h⟩:=aK h
           refine aS (aA M (mvI M M M M)<|aA M (aQ M M (lb M) (svI M) (sv (d:=.int _ 1) M) M hx775)<|aA M (asI M M M M)<|bE ?_)
           refine aJ ⟨(n0,v697,v582,x775),(fun i=>i),⟨(.sames M M),(.cons (EntW.lst M) .nil),aY [1000] M (by decide),fun _ _=>M⟩,?_,?_⟩
           exact h
           exact Nat.lt_succ_self _
   ·
    replace h:=bY h hc570
    refine cA ?_
    refine bD ?_
    refine bD ?_
    refine cC ?_
    refine aJ ?_
    refine aF (aA M (aI M M (lb M) (sv (d:=.bool false) M))<|aE ?_)
    refine bB ?_
    obtain rfl:=sj_ h
    refine ⟨.inr M,(fun i=>i),⟨.nil,(.cons (EntW.lst M) .nil),aY [1000] M (by decide),fun _ _=>M⟩,(.cons (sv M) .nil),M⟩

theorem kG (a0:Int) (a1:Int) (a2:Int) (a3:(List aG)) (r:(Int × (List aG))) (h:eW a0 a1 a2 a3=some r):FnH prog 63 [.osl 1000 aC.sz a3.length,.int .i64 a0,.int .i64 a1,.int .i64 a2,.fn 27 []] [(1000,.blk 40 (D.flat (a3.map aC.d)))] (.int .i64 r.1) [(1000,.blk 40 (D.flat (r.2.map aC.d)))]:=by
 refine cF (rs:=[.int .i64 r.1]) func63 M ntmps63 (nle M) fun O hO=>?_
 show IWP _ _ _ _ ⟨[(0,.osl 1000 aC.sz a3.length),(1,.int .i64 a0),(2,.int .i64 a1),(3,.int .i64 a2),(4,.fn 27 [])],[(1000,.blk 40 (D.flat (a3.map aC.d)))]⟩ _
 unfold eW at h
 refine aF (aA M (aI M M (lb M) (sv (d:=.int _ 0) M))<|aE ?_)
 obtain ⟨x1,hx1,h⟩:=aL h
 obtain ⟨x2,hx2,h⟩:=aL h
 obtain ⟨x3,hx3,h⟩:=aL h
 obtain ⟨x4,hx4,h⟩:=aL h
 obtain ⟨x5,hx5,h⟩:=aL h
 obtain ⟨x6,hx6,h⟩:=aL h
 obtain ⟨x7,hx7,h⟩:=aK h
 obtain ⟨x8,hx8,h⟩:=aL h
 obtain ⟨x9,hx9,h⟩:=aL h
 obtain ⟨x10,hx10,h⟩:=aK h
 refine dN M [⟨[0],[],[(13,.osl 1000 aC.sz a3.length)],[]⟩,
  ⟨[1],[],[(14,.int .i64 a0)],[]⟩,
  ⟨[0],[],[(15,.osl 1000 aC.sz a3.length)],[]⟩,
  ⟨[3],[],[(16,.int .i64 a2)],[]⟩,
  ⟨[0],[],[(17,.osl 1000 aC.sz a3.length)],[]⟩,
  ⟨[3],[],[(18,.int .i64 a2)],[]⟩,
  ⟨[17,18],[],[(19,.ref 1000 (((a2:Int).toNat) * aC.sz + 0))],[]⟩,
  ⟨[19],[1000],[(20,.agg (v2 x2))],[]⟩,
  ⟨[0],[],[(21,.osl 1000 aC.sz a3.length)],[]⟩,
  ⟨[1],[],[(22,.int .i64 a0)],[]⟩,
  ⟨[21,22],[],[(23,.ref 1000 (((a0:Int).toNat) * aC.sz + 0))],[]⟩,
  ⟨[23],[1000],[(24,.agg (v2 x4))],[]⟩,
  ⟨[13,14],[],[(25,.ref 1000 (((a0:Int).toNat) * aC.sz + 0))],[]⟩,
  ⟨[20,25],[1000],[],[(1000,.blk 40 (D.flat (x7.map aC.d)))]⟩,
  ⟨[15,16],[],[(26,.ref 1000 (((a2:Int).toNat) * aC.sz + 0))],[]⟩,
  ⟨[24,26],[1000],[],[(1000,.blk 40 (D.flat (x10.map aC.d)))]⟩] M ?_ (by kernel_rfl) ?_
 ·refine .cons (lop M M fun S hA=>(aD M M (lb M) (sv (d:=.osl _ _ _) (agr hA M M)))) ?_
  refine .cons (lop M M fun S hA=>(aD M M (lb M) (svaI hA M M))) ?_
  refine .cons (lop M M fun S hA=>(aD M M (lb M) (sv (d:=.osl _ _ _) (agr hA M M)))) ?_
  refine .cons (lop M M fun S hA=>(aD M M (lb M) (svaI hA M M))) ?_
  refine .cons (lop M M fun S hA=>(aD M M (lb M) (sv (d:=.osl _ _ _) (agr hA M M)))) ?_
  refine .cons (lop M M fun S hA=>(aD M M (lb M) (svaI hA M M))) ?_
  refine .cons (lop M M fun S hA=>(aX aC.toEnc0 M M (lb M) underlying28 ti40 (sv (d:=.osl _ _ _) (agr hA M M)) M (svaI hA M M) hx1)) ?_
  refine .cons (lop M M fun S hA=>(bW aC.toEnc0 (cs:=q9) M M (lb M) underlying40 ag40 ti40 (by decide) (svaR hA M M) (agi hA M M) hx2 (nle M) M)) ?_
  refine .cons (lop M M fun S hA=>(aD M M (lb M) (sv (d:=.osl _ _ _) (agr hA M M)))) ?_
  refine .cons (lop M M fun S hA=>(aD M M (lb M) (svaI hA M M))) ?_
  refine .cons (lop M M fun S hA=>(aX aC.toEnc0 M M (lb M) underlying28 ti40 (sv (d:=.osl _ _ _) (agr hA M M)) M (svaI hA M M) hx3)) ?_
  refine .cons (lop M M fun S hA=>(bW aC.toEnc0 (cs:=q9) M M (lb M) underlying40 ag40 ti40 (by decide) (svaR hA M M) (agi hA M M) hx4 (nle M) M)) ?_
  refine .cons (lop M M fun S hA=>(aX aC.toEnc0 M M (lb M) underlying28 ti40 (sv (d:=.osl _ _ _) (agr hA M M)) M (svaI hA M M) hx5)) ?_
  refine .cons (lop M M fun S hA=>(bR aC.toEnc0 (a':=x2) M M ti40 (svaR hA M M) (agi hA M M) (svaA q9 hA M M) M M M hx6 (nle M) M hx7)) ?_
  refine .cons (lop M M fun S hA=>(aX aC.toEnc0 M M (lb M) underlying28 ti40 (sv (d:=.osl _ _ _) (agr hA M M)) (bV hx7 M) (svaI hA M M) hx8)) ?_
  refine .cons (lop M M fun S hA=>(bR aC.toEnc0 (a':=x4) M M ti40 (svaR hA M M) (agi hA M M) (svaA q9 hA M M) M M M hx9 (nle M) M hx10)) ?_
  exact .nil
 obtain ⟨x11,hx11,h⟩:=aK h
 obtain ⟨x12,hx12,h⟩:=aK h
 refine aF (aA M (mvI M M M M)<|aA M (aQ M M (lb M) (svI M) (sv (d:=.int _ 1) M) M hx11)<|aA M (mvI M M M M)<|aA M (aQ M M (lb M) (svI M) (sv (d:=.int _ 1) M) M hx12)<|aA M (asI M M M M)<|aA M (asI M M M M)<|aE ?_)
 refine aU ?_
 refine aV ?_
 refine bS (α:=Nat × (List aG) × Int × Int) (fun z=>⟨[(0,.osl 1000 aC.sz z.2.1.length),(1,.int .i64 a0),(4,.fn 27 []),(11,.int .i64 z.2.2.1),(12,.int .i64 z.2.2.2)],[(1000,.blk 40 (D.flat (z.2.1.map aC.d)))]⟩) (fun z=>cD a0 z.1 z.2.1 z.2.2.1 z.2.2.2=some r) (fun z=>z.1) (fuel,x10,x11,x12) (fun i=>i) ⟨(.cons (.same (congrArg (D.osl _ _) (bV hx10 (bV hx7 M)).symm) M) (.sames M M)),(.cons (EntW.lst M) .nil),aY [1000] M (by decide),fun _ _=>M⟩ ?_ ?_
 ·exact h
 ·
  rintro ⟨n0,v89,v90,v91⟩ h
  cases n0 with
  | zero=>exact absurd h (by unfold cD; exact nofun)
  | succ n0 =>
   unfold cD at h
   refine aV ?_
   refine aU ?_
   refine aV ?_
   refine bS (α:=Nat × Int) (fun z=>⟨[(0,.osl 1000 aC.sz v89.length),(1,.int .i64 a0),(4,.fn 27 []),(11,.int .i64 z.2),(12,.int .i64 v91)],[(1000,.blk 40 (D.flat (v89.map aC.d)))]⟩) (fun z=>cY a0 v89 v91 (cD a0 n0) z.1 z.2=some r) (fun z=>z.1) (fuel,v90) (fun i=>i) ⟨(.sames M M),(.cons (EntW.lst M) .nil),aY [1000] M (by decide),fun _ _=>M⟩ ?_ ?_
   ·exact h
   ·
    rintro ⟨n1,v178⟩ h
    cases n1 with
    | zero=>exact absurd h (by unfold cY; exact nofun)
    | succ n1 =>
     unfold cY at h
     refine aU ?_
     obtain ⟨x189,hx189,h⟩:=aK h
     obtain ⟨x190,hx190,h⟩:=aL h
     obtain ⟨x191,hx191,h⟩:=aL h
     obtain ⟨x192,hx192,h⟩:=aL h
     obtain ⟨x193,hx193,h⟩:=aL h
     obtain ⟨x194,hx194,h⟩:=aL h
     obtain ⟨x195,hx195,h⟩:=aK h
     obtain ⟨x196,hx196,h⟩:=aK h
     refine dN M [⟨[11],[],[(31,.int .i64 v178)],[]⟩,
      ⟨[12],[],[(32,.int .i64 v91)],[]⟩,
      ⟨[31,32],[],[(33,.bool x189)],[]⟩,
      ⟨[33],[],[(34,.bool x189)],[]⟩,
      ⟨[4,34],[],[(35,.cnd (x189 == true) (.fn 27 []))],[]⟩,
      ⟨[0,34],[],[(36,.cnd (x189 == true) (.osl 1000 aC.sz v89.length))],[]⟩,
      ⟨[1,34],[],[(37,.cnd (x189 == true) (.int .i64 a0))],[]⟩,
      ⟨[34,36,37],[],[(38,.cnd (x189 == true) (.ref 1000 (((a0:Int).toNat) * aC.sz + 0)))],[]⟩,
      ⟨[34,38],[1000],[(39,.cnd (x189 == true) (.agg (v2 x191)))],[]⟩,
      ⟨[0,34],[],[(40,.cnd (x189 == true) (.osl 1000 aC.sz v89.length))],[]⟩,
      ⟨[11,34],[],[(41,.cnd (x189 == true) (.int .i64 v178))],[]⟩,
      ⟨[34,40,41],[],[(42,.cnd (x189 == true) (.ref 1000 (((v178:Int).toNat) * aC.sz + 0)))],[]⟩,
      ⟨[34,42],[1000],[(43,.cnd (x189 == true) (.agg (v2 x193)))],[]⟩,
      ⟨[34,35,39,43],[],[(44,.cnd (x189 == true) (.int .i64 x194))],[]⟩,
      ⟨[34,44],[],[(45,.cnd (x189 == true) (.bool x195))],[]⟩,
      ⟨[34,45],[],[(46,.cnd (x189 == true) (.bool (!x195)))],[]⟩,
      ⟨[34,46],[],[(47,.bool x196)],[]⟩] M ?_ (by kernel_rfl) ?_
     ·refine .cons (lop M M fun S hA=>(aD M M (lb M) (svaI hA M M))) ?_
      refine .cons (lop M M fun S hA=>(aD M M (lb M) (svaI hA M M))) ?_
      refine .cons (lop M M fun S hA=>(aO M M (lb M) (svaI hA M M) (svaI hA M M) M hx189)) ?_
      refine .cons (lop M M fun S hA=>(aD M M (lb M) (svaB hA M M))) ?_
      refine .cons (lopg M M M M (by decide) (fun S hA=>grd1 hA M M) (fun S hA hb=>(aD M M (lb M) (sv (d:=.fn 27 []) (agr hA M M))))) ?_
      refine .cons (lopg M M M M (by decide) (fun S hA=>grd1 hA M M) (fun S hA hb=>(aD M M (lb M) (sv (d:=.osl _ _ _) (agr hA M M))))) ?_
      refine .cons (lopg M M M M (by decide) (fun S hA=>grd1 hA M M) (fun S hA hb=>(aD M M (lb M) (svaI hA M M)))) ?_
      refine .cons (lopg M M M M (by decide) (fun S hA=>grd1 hA M M) (fun S hA hb=>(aX aC.toEnc0 M M (lb M) underlying28 ti40 (svc (d:=.osl _ _ _) (agr hA M M) hb) M (svc (d:=.int _ _) (agr hA M M) hb) (gd_t hx190 hb)))) ?_
      refine .cons (lopg M M M M (by decide) (fun S hA=>grd1 hA M M) (fun S hA hb=>(bW aC.toEnc0 (cs:=q9) M M (lb M) underlying40 ag40 ti40 (by decide) (svc (d:=.ref _ _) (agr hA M M) hb) (agi hA M M) (gd_t hx191 hb) (nle M) M))) ?_
      refine .cons (lopg M M M M (by decide) (fun S hA=>grd1 hA M M) (fun S hA hb=>(aD M M (lb M) (sv (d:=.osl _ _ _) (agr hA M M))))) ?_
      refine .cons (lopg M M M M (by decide) (fun S hA=>grd1 hA M M) (fun S hA hb=>(aD M M (lb M) (svaI hA M M)))) ?_
      refine .cons (lopg M M M M (by decide) (fun S hA=>grd1 hA M M) (fun S hA hb=>(aX aC.toEnc0 M M (lb M) underlying28 ti40 (svc (d:=.osl _ _ _) (agr hA M M) hb) M (svc (d:=.int _ _) (agr hA M M) hb) (gd_t hx192 hb)))) ?_
      refine .cons (lopg M M M M (by decide) (fun S hA=>grd1 hA M M) (fun S hA hb=>(bW aC.toEnc0 (cs:=q9) M M (lb M) underlying40 ag40 ti40 (by decide) (svc (d:=.ref _ _) (agr hA M M) hb) (agi hA M M) (gd_t hx193 hb) (nle M) M))) ?_
      refine .cons (lopg M M M M (by decide) (fun S hA=>grd1 hA M M) (fun S hA hb=>(jO (r:=.int _ _) M M (lb M) cl27 (svc (d:=.fn 27 []) (agr hA M M) hb) (.cons (svc (d:=.agg (v2 x191)) (agr hA M M) hb) (.cons (svc (d:=.agg (v2 x193)) (agr hA M M) hb) .nil)) M (dS _ _ _ (gd_t hx194 hb))))) ?_
      refine .cons (lopg M M M M (by decide) (fun S hA=>grd1 hA M M) (fun S hA hb=>(aO M M (lb M) (svc (d:=.int _ _) (agr hA M M) hb) (sv (d:=.int _ 0) M) M hx195))) ?_
      refine .cons (lopg M M M M (by decide) (fun S hA=>grd1 hA M M) (fun S hA hb=>(eX M M (lb M) (svc (d:=.bool _) (agr hA M M) hb)))) ?_
      refine .cons (lop M M fun S hA=>(bC M M (lb M) (svaB hA M M) (agr hA M M) M hx196)) ?_
      exact .nil
     refine aW (b:=_) M (fun hc197=>?_) (fun hc197=>?_)
     ·
      replace h:=bX h hc197
      refine aT ?_
      refine aJ ?_
      refine aV ?_
      obtain ⟨x198,hx198,h⟩:=aK h
      refine aS (aA M (mvI M M M M)<|aA M (aQ M M (lb M) (svI M) (sv (d:=.int _ 1) M) M hx198)<|aA M (asI M M M M)<|bE ?_)
      refine bI ?_
      refine aJ ⟨(n1,x198),(fun i=>i),⟨(.sames M M),(.cons (EntW.lst M) .nil),aY [1000] M (by decide),fun _ _=>M⟩,?_,?_⟩
      exact h
      exact Nat.lt_succ_self _
     ·
      replace h:=bY h hc197
      refine cA ?_
      refine bD ?_
      refine bD ?_
      refine cC ?_
      refine aJ ?_
      refine aU ?_
      refine aV ?_
      refine bS (α:=Nat × Int) (fun z=>⟨[(0,.osl 1000 aC.sz v89.length),(1,.int .i64 a0),(4,.fn 27 []),(11,.int .i64 v178),(12,.int .i64 z.2)],[(1000,.blk 40 (D.flat (v89.map aC.d)))]⟩) (fun z=>cX a0 v89 (cD a0 n0) v178 z.1 z.2=some r) (fun z=>z.1) (fuel,v91) (fun i=>i) ⟨(.sames M M),(.cons (EntW.lst M) .nil),aY [1000] M (by decide),fun _ _=>M⟩ ?_ ?_
      ·exact h
      ·
       rintro ⟨n2,v209⟩ h
       cases n2 with
       | zero=>exact absurd h (by unfold cX; exact nofun)
       | succ n2 =>
        unfold cX at h
        refine aU ?_
        obtain ⟨x220,hx220,h⟩:=aK h
        obtain ⟨x221,hx221,h⟩:=aL h
        obtain ⟨x222,hx222,h⟩:=aL h
        obtain ⟨x223,hx223,h⟩:=aL h
        obtain ⟨x224,hx224,h⟩:=aL h
        obtain ⟨x225,hx225,h⟩:=aL h
        obtain ⟨x226,hx226,h⟩:=aK h
        obtain ⟨x227,hx227,h⟩:=aK h
        refine dN M [⟨[11],[],[(50,.int .i64 v178)],[]⟩,
         ⟨[12],[],[(51,.int .i64 v209)],[]⟩,
         ⟨[50,51],[],[(52,.bool x220)],[]⟩,
         ⟨[52],[],[(53,.bool x220)],[]⟩,
         ⟨[4,53],[],[(54,.cnd (x220 == true) (.fn 27 []))],[]⟩,
         ⟨[0,53],[],[(55,.cnd (x220 == true) (.osl 1000 aC.sz v89.length))],[]⟩,
         ⟨[1,53],[],[(56,.cnd (x220 == true) (.int .i64 a0))],[]⟩,
         ⟨[53,55,56],[],[(57,.cnd (x220 == true) (.ref 1000 (((a0:Int).toNat) * aC.sz + 0)))],[]⟩,
         ⟨[53,57],[1000],[(58,.cnd (x220 == true) (.agg (v2 x222)))],[]⟩,
         ⟨[0,53],[],[(59,.cnd (x220 == true) (.osl 1000 aC.sz v89.length))],[]⟩,
         ⟨[12,53],[],[(60,.cnd (x220 == true) (.int .i64 v209))],[]⟩,
         ⟨[53,59,60],[],[(61,.cnd (x220 == true) (.ref 1000 (((v209:Int).toNat) * aC.sz + 0)))],[]⟩,
         ⟨[53,61],[1000],[(62,.cnd (x220 == true) (.agg (v2 x224)))],[]⟩,
         ⟨[53,54,58,62],[],[(63,.cnd (x220 == true) (.int .i64 x225))],[]⟩,
         ⟨[53,63],[],[(64,.cnd (x220 == true) (.bool x226))],[]⟩,
         ⟨[53,64],[],[(65,.bool x227)],[]⟩] M ?_ (by kernel_rfl) ?_
        ·refine .cons (lop M M fun S hA=>(aD M M (lb M) (svaI hA M M))) ?_
         refine .cons (lop M M fun S hA=>(aD M M (lb M) (svaI hA M M))) ?_
         refine .cons (lop M M fun S hA=>(aO M M (lb M) (svaI hA M M) (svaI hA M M) M hx220)) ?_
         refine .cons (lop M M fun S hA=>(aD M M (lb M) (svaB hA M M))) ?_
         refine .cons (lopg M M M M (by decide) (fun S hA=>grd1 hA M M) (fun S hA hb=>(aD M M (lb M) (sv (d:=.fn 27 []) (agr hA M M))))) ?_
         refine .cons (lopg M M M M (by decide) (fun S hA=>grd1 hA M M) (fun S hA hb=>(aD M M (lb M) (sv (d:=.osl _ _ _) (agr hA M M))))) ?_
         refine .cons (lopg M M M M (by decide) (fun S hA=>grd1 hA M M) (fun S hA hb=>(aD M M (lb M) (svaI hA M M)))) ?_
         refine .cons (lopg M M M M (by decide) (fun S hA=>grd1 hA M M) (fun S hA hb=>(aX aC.toEnc0 M M (lb M) underlying28 ti40 (svc (d:=.osl _ _ _) (agr hA M M) hb) M (svc (d:=.int _ _) (agr hA M M) hb) (gd_t hx221 hb)))) ?_
         refine .cons (lopg M M M M (by decide) (fun S hA=>grd1 hA M M) (fun S hA hb=>(bW aC.toEnc0 (cs:=q9) M M (lb M) underlying40 ag40 ti40 (by decide) (svc (d:=.ref _ _) (agr hA M M) hb) (agi hA M M) (gd_t hx222 hb) (nle M) M))) ?_
         refine .cons (lopg M M M M (by decide) (fun S hA=>grd1 hA M M) (fun S hA hb=>(aD M M (lb M) (sv (d:=.osl _ _ _) (agr hA M M))))) ?_
         refine .cons (lopg M M M M (by decide) (fun S hA=>grd1 hA M M) (fun S hA hb=>(aD M M (lb M) (svaI hA M M)))) ?_
         refine .cons (lopg M M M M (by decide) (fun S hA=>grd1 hA M M) (fun S hA hb=>(aX aC.toEnc0 M M (lb M) underlying28 ti40 (svc (d:=.osl _ _ _) (agr hA M M) hb) M (svc (d:=.int _ _) (agr hA M M) hb) (gd_t hx223 hb)))) ?_
         refine .cons (lopg M M M M (by decide) (fun S hA=>grd1 hA M M) (fun S hA hb=>(bW aC.toEnc0 (cs:=q9) M M (lb M) underlying40 ag40 ti40 (by decide) (svc (d:=.ref _ _) (agr hA M M) hb) (agi hA M M) (gd_t hx224 hb) (nle M) M))) ?_
         refine .cons (lopg M M M M (by decide) (fun S hA=>grd1 hA M M) (fun S hA hb=>(jO (r:=.int _ _) M M (lb M) cl27 (svc (d:=.fn 27 []) (agr hA M M) hb) (.cons (svc (d:=.agg (v2 x222)) (agr hA M M) hb) (.cons (svc (d:=.agg (v2 x224)) (agr hA M M) hb) .nil)) M (dS _ _ _ (gd_t hx225 hb))))) ?_
         refine .cons (lopg M M M M (by decide) (fun S hA=>grd1 hA M M) (fun S hA hb=>(aO M M (lb M) (svc (d:=.int _ _) (agr hA M M) hb) (sv (d:=.int _ 0) M) M hx226))) ?_
         refine .cons (lop M M fun S hA=>(bC M M (lb M) (svaB hA M M) (agr hA M M) M hx227)) ?_
         exact .nil
        refine aW (b:=_) M (fun hc228=>?_) (fun hc228=>?_)
        ·
         replace h:=bX h hc228
         refine aT ?_
         refine aJ ?_
         refine aV ?_
         obtain ⟨x229,hx229,h⟩:=aK h
         refine aS (aA M (mvI M M M M)<|aA M (aQ M M (lb M) (svI M) (sv (d:=.int _ 1) M) M hx229)<|aA M (asI M M M M)<|bE ?_)
         refine bI ?_
         refine aJ ⟨(n2,x229),(fun i=>i),⟨(.sames M M),(.cons (EntW.lst M) .nil),aY [1000] M (by decide),fun _ _=>M⟩,?_,?_⟩
         exact h
         exact Nat.lt_succ_self _
        ·
         replace h:=bY h hc228
         refine cA ?_
         refine bD ?_
         refine bD ?_
         refine cC ?_
         refine aJ ?_
         refine aU ?_
         obtain ⟨x230,hx230,h⟩:=aK h
         refine aF (aA M (mvI M M M M)<|aA M (mvI M M M M)<|aA M (aO M M (lb M) (svI M) (svI M) M hx230)<|aE ?_)
         refine aW (b:=_) M (fun hc231=>?_) (fun hc231=>?_)
         ·
          replace h:=bX h hc231
          refine cA ?_
          refine bD ?_
          refine oV M ?_
          refine bD ?_
          refine cC ?_
          refine aJ ?_
          refine aF (aA M (mvI M M M M)<|aA M (asI M M M M)<|aE ?_)
          refine bB ?_
          obtain rfl:=sj_ h
          refine ⟨.inr M,(fun i=>i),⟨.nil,(.cons (EntW.lst M) .nil),aY [1000] M (by decide),fun _ _=>M⟩,(.cons (sv M) .nil),M⟩
         ·
          replace h:=bY h hc231
          refine aT ?_
          refine aJ ?_
          obtain ⟨x232,hx232,h⟩:=aL h
          obtain ⟨x233,hx233,h⟩:=aL h
          obtain ⟨x234,hx234,h⟩:=aL h
          obtain ⟨x235,hx235,h⟩:=aL h
          obtain ⟨x236,hx236,h⟩:=aL h
          obtain ⟨x237,hx237,h⟩:=aL h
          obtain ⟨x238,hx238,h⟩:=aK h
          obtain ⟨x239,hx239,h⟩:=aL h
          obtain ⟨x240,hx240,h⟩:=aL h
          obtain ⟨x241,hx241,h⟩:=aK h
          refine dN M [⟨[0],[],[(71,.osl 1000 aC.sz v89.length)],[]⟩,
           ⟨[11],[],[(72,.int .i64 v178)],[]⟩,
           ⟨[0],[],[(73,.osl 1000 aC.sz v89.length)],[]⟩,
           ⟨[12],[],[(74,.int .i64 v209)],[]⟩,
           ⟨[0],[],[(75,.osl 1000 aC.sz v89.length)],[]⟩,
           ⟨[12],[],[(76,.int .i64 v209)],[]⟩,
           ⟨[75,76],[],[(77,.ref 1000 (((v209:Int).toNat) * aC.sz + 0))],[]⟩,
           ⟨[77],[1000],[(78,.agg (v2 x233))],[]⟩,
           ⟨[0],[],[(79,.osl 1000 aC.sz v89.length)],[]⟩,
           ⟨[11],[],[(80,.int .i64 v178)],[]⟩,
           ⟨[79,80],[],[(81,.ref 1000 (((v178:Int).toNat) * aC.sz + 0))],[]⟩,
           ⟨[81],[1000],[(82,.agg (v2 x235))],[]⟩,
           ⟨[71,72],[],[(83,.ref 1000 (((v178:Int).toNat) * aC.sz + 0))],[]⟩,
           ⟨[78,83],[1000],[],[(1000,.blk 40 (D.flat (x238.map aC.d)))]⟩,
           ⟨[73,74],[],[(84,.ref 1000 (((v209:Int).toNat) * aC.sz + 0))],[]⟩,
           ⟨[82,84],[1000],[],[(1000,.blk 40 (D.flat (x241.map aC.d)))]⟩] M ?_ (by kernel_rfl) ?_
          ·refine .cons (lop M M fun S hA=>(aD M M (lb M) (sv (d:=.osl _ _ _) (agr hA M M)))) ?_
           refine .cons (lop M M fun S hA=>(aD M M (lb M) (svaI hA M M))) ?_
           refine .cons (lop M M fun S hA=>(aD M M (lb M) (sv (d:=.osl _ _ _) (agr hA M M)))) ?_
           refine .cons (lop M M fun S hA=>(aD M M (lb M) (svaI hA M M))) ?_
           refine .cons (lop M M fun S hA=>(aD M M (lb M) (sv (d:=.osl _ _ _) (agr hA M M)))) ?_
           refine .cons (lop M M fun S hA=>(aD M M (lb M) (svaI hA M M))) ?_
           refine .cons (lop M M fun S hA=>(aX aC.toEnc0 M M (lb M) underlying28 ti40 (sv (d:=.osl _ _ _) (agr hA M M)) M (svaI hA M M) hx232)) ?_
           refine .cons (lop M M fun S hA=>(bW aC.toEnc0 (cs:=q9) M M (lb M) underlying40 ag40 ti40 (by decide) (svaR hA M M) (agi hA M M) hx233 (nle M) M)) ?_
           refine .cons (lop M M fun S hA=>(aD M M (lb M) (sv (d:=.osl _ _ _) (agr hA M M)))) ?_
           refine .cons (lop M M fun S hA=>(aD M M (lb M) (svaI hA M M))) ?_
           refine .cons (lop M M fun S hA=>(aX aC.toEnc0 M M (lb M) underlying28 ti40 (sv (d:=.osl _ _ _) (agr hA M M)) M (svaI hA M M) hx234)) ?_
           refine .cons (lop M M fun S hA=>(bW aC.toEnc0 (cs:=q9) M M (lb M) underlying40 ag40 ti40 (by decide) (svaR hA M M) (agi hA M M) hx235 (nle M) M)) ?_
           refine .cons (lop M M fun S hA=>(aX aC.toEnc0 M M (lb M) underlying28 ti40 (sv (d:=.osl _ _ _) (agr hA M M)) M (svaI hA M M) hx236)) ?_
           refine .cons (lop M M fun S hA=>(bR aC.toEnc0 (a':=x233) M M ti40 (svaR hA M M) (agi hA M M) (svaA q9 hA M M) M M M hx237 (nle M) M hx238)) ?_
           refine .cons (lop M M fun S hA=>(aX aC.toEnc0 M M (lb M) underlying28 ti40 (sv (d:=.osl _ _ _) (agr hA M M)) (bV hx238 M) (svaI hA M M) hx239)) ?_
           refine .cons (lop M M fun S hA=>(bR aC.toEnc0 (a':=x235) M M ti40 (svaR hA M M) (agi hA M M) (svaA q9 hA M M) M M M hx240 (nle M) M hx241)) ?_
           exact .nil
          obtain ⟨x242,hx242,h⟩:=aK h
          refine aF (aA M (mvI M M M M)<|aA M (aQ M M (lb M) (svI M) (sv (d:=.int _ 1) M) M hx242)<|aA M (asI M M M M)<|aE ?_)
          obtain ⟨x243,hx243,h⟩:=aK h
          refine aS (aA M (mvI M M M M)<|aA M (aQ M M (lb M) (svI M) (sv (d:=.int _ 1) M) M hx243)<|aA M (asI M M M M)<|bE ?_)
          refine bI ?_
          refine aJ ⟨(n0,x241,x242,x243),(fun i=>i),⟨(.cons (.same (congrArg (D.osl _ _) (bV hx241 (bV hx238 M)).symm) M) (.sames M M)),(.cons (EntW.lst M) .nil),aY [1000] M (by decide),fun _ _=>M⟩,?_,?_⟩
          exact h
          exact Nat.lt_succ_self _

theorem lD (a0 : Int) (a1:Int) (a2:Int) (a3:(List aG)) (r:(Int × Bool × (List aG))) (h:fU a0 a1 a2 a3=some r):FnH prog 64 [.osl 1000 aC.sz a3.length,.int .i64 a0,.int .i64 a1,.int .i64 a2,.fn 27 []] [(1000,.blk 40 (D.flat (a3.map aC.d)))] (retD [.int .i64 r.1,.bool r.2.1]) [(1000,.blk 40 (D.flat (r.2.2.map aC.d)))]:=by
 refine cF (rs:=[.int .i64 r.1,.bool r.2.1]) func64 M ntmps64 (nle M) fun O hO=>?_
 show IWP _ _ _ _ ⟨[(0,.osl 1000 aC.sz a3.length),(1,.int .i64 a0),(2,.int .i64 a1),(3,.int .i64 a2),(4,.fn 27 [])],[(1000,.blk 40 (D.flat (a3.map aC.d)))]⟩ _
 unfold fU at h
 refine aF (aA M (aI M M (lb M) (sv (d:=.int _ 0) M))<|aA M (aI M M (lb M) (sv (d:=.bool false) M))<|aE ?_)
 obtain ⟨x1,hx1,h⟩:=aL h
 obtain ⟨x2,hx2,h⟩:=aL h
 obtain ⟨x3,hx3,h⟩:=aL h
 obtain ⟨x4,hx4,h⟩:=aL h
 obtain ⟨x5,hx5,h⟩:=aL h
 obtain ⟨x6,hx6,h⟩:=aL h
 obtain ⟨x7,hx7,h⟩:=aK h
 obtain ⟨x8,hx8,h⟩:=aL h
 obtain ⟨x9,hx9,h⟩:=aL h
 obtain ⟨x10,hx10,h⟩:=aK h
 refine dN M [⟨[0],[],[(14,.osl 1000 aC.sz a3.length)],[]⟩,
  ⟨[1],[],[(15,.int .i64 a0)],[]⟩,
  ⟨[0],[],[(16,.osl 1000 aC.sz a3.length)],[]⟩,
  ⟨[3],[],[(17,.int .i64 a2)],[]⟩,
  ⟨[0],[],[(18,.osl 1000 aC.sz a3.length)],[]⟩,
  ⟨[3],[],[(19,.int .i64 a2)],[]⟩,
  ⟨[18,19],[],[(20,.ref 1000 (((a2:Int).toNat) * aC.sz + 0))],[]⟩,
  ⟨[20],[1000],[(21,.agg (v2 x2))],[]⟩,
  ⟨[0],[],[(22,.osl 1000 aC.sz a3.length)],[]⟩,
  ⟨[1],[],[(23,.int .i64 a0)],[]⟩,
  ⟨[22,23],[],[(24,.ref 1000 (((a0:Int).toNat) * aC.sz + 0))],[]⟩,
  ⟨[24],[1000],[(25,.agg (v2 x4))],[]⟩,
  ⟨[14,15],[],[(26,.ref 1000 (((a0:Int).toNat) * aC.sz + 0))],[]⟩,
  ⟨[21,26],[1000],[],[(1000,.blk 40 (D.flat (x7.map aC.d)))]⟩,
  ⟨[16,17],[],[(27,.ref 1000 (((a2:Int).toNat) * aC.sz + 0))],[]⟩,
  ⟨[25,27],[1000],[],[(1000,.blk 40 (D.flat (x10.map aC.d)))]⟩] M ?_ (by kernel_rfl) ?_
 ·refine .cons (lop M M fun S hA=>(aD M M (lb M) (sv (d:=.osl _ _ _) (agr hA M M)))) ?_
  refine .cons (lop M M fun S hA=>(aD M M (lb M) (svaI hA M M))) ?_
  refine .cons (lop M M fun S hA=>(aD M M (lb M) (sv (d:=.osl _ _ _) (agr hA M M)))) ?_
  refine .cons (lop M M fun S hA=>(aD M M (lb M) (svaI hA M M))) ?_
  refine .cons (lop M M fun S hA=>(aD M M (lb M) (sv (d:=.osl _ _ _) (agr hA M M)))) ?_
  refine .cons (lop M M fun S hA=>(aD M M (lb M) (svaI hA M M))) ?_
  refine .cons (lop M M fun S hA=>(aX aC.toEnc0 M M (lb M) underlying28 ti40 (sv (d:=.osl _ _ _) (agr hA M M)) M (svaI hA M M) hx1)) ?_
  refine .cons (lop M M fun S hA=>(bW aC.toEnc0 (cs:=q9) M M (lb M) underlying40 ag40 ti40 (by decide) (svaR hA M M) (agi hA M M) hx2 (nle M) M)) ?_
  refine .cons (lop M M fun S hA=>(aD M M (lb M) (sv (d:=.osl _ _ _) (agr hA M M)))) ?_
  refine .cons (lop M M fun S hA=>(aD M M (lb M) (svaI hA M M))) ?_
  refine .cons (lop M M fun S hA=>(aX aC.toEnc0 M M (lb M) underlying28 ti40 (sv (d:=.osl _ _ _) (agr hA M M)) M (svaI hA M M) hx3)) ?_
  refine .cons (lop M M fun S hA=>(bW aC.toEnc0 (cs:=q9) M M (lb M) underlying40 ag40 ti40 (by decide) (svaR hA M M) (agi hA M M) hx4 (nle M) M)) ?_
  refine .cons (lop M M fun S hA=>(aX aC.toEnc0 M M (lb M) underlying28 ti40 (sv (d:=.osl _ _ _) (agr hA M M)) M (svaI hA M M) hx5)) ?_
  refine .cons (lop M M fun S hA=>(bR aC.toEnc0 (a':=x2) M M ti40 (svaR hA M M) (agi hA M M) (svaA q9 hA M M) M M M hx6 (nle M) M hx7)) ?_
  refine .cons (lop M M fun S hA=>(aX aC.toEnc0 M M (lb M) underlying28 ti40 (sv (d:=.osl _ _ _) (agr hA M M)) (bV hx7 M) (svaI hA M M) hx8)) ?_
  refine .cons (lop M M fun S hA=>(bR aC.toEnc0 (a':=x4) M M ti40 (svaR hA M M) (agi hA M M) (svaA q9 hA M M) M M M hx9 (nle M) M hx10)) ?_
  exact .nil
 obtain ⟨x11,hx11,h⟩:=aK h
 obtain ⟨x12,hx12,h⟩:=aK h
 refine aF (aA M (mvI M M M M)<|aA M (aQ M M (lb M) (svI M) (sv (d:=.int _ 1) M) M hx11)<|aA M (mvI M M M M)<|aA M (aQ M M (lb M) (svI M) (sv (d:=.int _ 1) M) M hx12)<|aA M (asI M M M M)<|aA M (asI M M M M)<|aE ?_)
 refine aU ?_
 refine aV ?_
 refine bS (α:=Nat × Int) (fun z=>⟨[(0,.osl 1000 aC.sz x10.length),(1,.int .i64 a0),(4,.fn 27 []),(12,.int .i64 z.2),(13,.int .i64 x12)],[(1000,.blk 40 (D.flat (x10.map aC.d)))]⟩) (fun z=>dL a0 x10 x12 z.1 z.2=some r) (fun z=>z.1) (fuel,x11) (fun i=>i) ⟨(.cons (.same (congrArg (D.osl _ _) (bV hx10 (bV hx7 M)).symm) M) (.sames M M)),(.cons (EntW.lst M) .nil),aY [1000] M (by decide),fun _ _=>M⟩ ?_ ?_
 ·exact h
 ·
  rintro ⟨n0,v23⟩ h
  cases n0 with
  | zero=>exact absurd h (by unfold dL; exact nofun)
  | succ n0 =>
   unfold dL at h
   refine aU ?_
   obtain ⟨x34,hx34,h⟩:=aK h
   obtain ⟨x35,hx35,h⟩:=aL h
   obtain ⟨x36,hx36,h⟩:=aL h
   obtain ⟨x37,hx37,h⟩:=aL h
   obtain ⟨x38,hx38,h⟩:=aL h
   obtain ⟨x39,hx39,h⟩:=aL h
   obtain ⟨x40,hx40,h⟩:=aK h
   obtain ⟨x41,hx41,h⟩:=aK h
   refine dN M [⟨[12],[],[(32,.int .i64 v23)],[]⟩,
    ⟨[13],[],[(33,.int .i64 x12)],[]⟩,
    ⟨[32,33],[],[(34,.bool x34)],[]⟩,
    ⟨[34],[],[(35,.bool x34)],[]⟩,
    ⟨[4,35],[],[(36,.cnd (x34 == true) (.fn 27 []))],[]⟩,
    ⟨[0,35],[],[(37,.cnd (x34 == true) (.osl 1000 aC.sz x10.length))],[]⟩,
    ⟨[12,35],[],[(38,.cnd (x34 == true) (.int .i64 v23))],[]⟩,
    ⟨[35,37,38],[],[(39,.cnd (x34 == true) (.ref 1000 (((v23:Int).toNat) * aC.sz + 0)))],[]⟩,
    ⟨[35,39],[1000],[(40,.cnd (x34 == true) (.agg (v2 x36)))],[]⟩,
    ⟨[0,35],[],[(41,.cnd (x34 == true) (.osl 1000 aC.sz x10.length))],[]⟩,
    ⟨[1,35],[],[(42,.cnd (x34 == true) (.int .i64 a0))],[]⟩,
    ⟨[35,41,42],[],[(43,.cnd (x34 == true) (.ref 1000 (((a0:Int).toNat) * aC.sz + 0)))],[]⟩,
    ⟨[35,43],[1000],[(44,.cnd (x34 == true) (.agg (v2 x38)))],[]⟩,
    ⟨[35,36,40,44],[],[(45,.cnd (x34 == true) (.int .i64 x39))],[]⟩,
    ⟨[35,45],[],[(46,.cnd (x34 == true) (.bool x40))],[]⟩,
    ⟨[35,46],[],[(47,.bool x41)],[]⟩] M ?_ (by kernel_rfl) ?_
   ·refine .cons (lop M M fun S hA=>(aD M M (lb M) (svaI hA M M))) ?_
    refine .cons (lop M M fun S hA=>(aD M M (lb M) (svaI hA M M))) ?_
    refine .cons (lop M M fun S hA=>(aO M M (lb M) (svaI hA M M) (svaI hA M M) M hx34)) ?_
    refine .cons (lop M M fun S hA=>(aD M M (lb M) (svaB hA M M))) ?_
    refine .cons (lopg M M M M (by decide) (fun S hA=>grd1 hA M M) (fun S hA hb=>(aD M M (lb M) (sv (d:=.fn 27 []) (agr hA M M))))) ?_
    refine .cons (lopg M M M M (by decide) (fun S hA=>grd1 hA M M) (fun S hA hb=>(aD M M (lb M) (sv (d:=.osl _ _ _) (agr hA M M))))) ?_
    refine .cons (lopg M M M M (by decide) (fun S hA=>grd1 hA M M) (fun S hA hb=>(aD M M (lb M) (svaI hA M M)))) ?_
    refine .cons (lopg M M M M (by decide) (fun S hA=>grd1 hA M M) (fun S hA hb=>(aX aC.toEnc0 M M (lb M) underlying28 ti40 (svc (d:=.osl _ _ _) (agr hA M M) hb) M (svc (d:=.int _ _) (agr hA M M) hb) (gd_t hx35 hb)))) ?_
    refine .cons (lopg M M M M (by decide) (fun S hA=>grd1 hA M M) (fun S hA hb=>(bW aC.toEnc0 (cs:=q9) M M (lb M) underlying40 ag40 ti40 (by decide) (svc (d:=.ref _ _) (agr hA M M) hb) (agi hA M M) (gd_t hx36 hb) (nle M) M))) ?_
    refine .cons (lopg M M M M (by decide) (fun S hA=>grd1 hA M M) (fun S hA hb=>(aD M M (lb M) (sv (d:=.osl _ _ _) (agr hA M M))))) ?_
    refine .cons (lopg M M M M (by decide) (fun S hA=>grd1 hA M M) (fun S hA hb=>(aD M M (lb M) (svaI hA M M)))) ?_
    refine .cons (lopg M M M M (by decide) (fun S hA=>grd1 hA M M) (fun S hA hb=>(aX aC.toEnc0 M M (lb M) underlying28 ti40 (svc (d:=.osl _ _ _) (agr hA M M) hb) M (svc (d:=.int _ _) (agr hA M M) hb) (gd_t hx37 hb)))) ?_
    refine .cons (lopg M M M M (by decide) (fun S hA=>grd1 hA M M) (fun S hA hb=>(bW aC.toEnc0 (cs:=q9) M M (lb M) underlying40 ag40 ti40 (by decide) (svc (d:=.ref _ _) (agr hA M M) hb) (agi hA M M) (gd_t hx38 hb) (nle M) M))) ?_
    refine .cons (lopg M M M M (by decide) (fun S hA=>grd1 hA M M) (fun S hA hb=>(jO (r:=.int _ _) M M (lb M) cl27 (svc (d:=.fn 27 []) (agr hA M M) hb) (.cons (svc (d:=.agg (v2 x36)) (agr hA M M) hb) (.cons (svc (d:=.agg (v2 x38)) (agr hA M M) hb) .nil)) M (dS _ _ _ (gd_t hx39 hb))))) ?_
    refine .cons (lopg M M M M (by decide) (fun S hA=>grd1 hA M M) (fun S hA hb=>(aO M M (lb M) (svc (d:=.int _ _) (agr hA M M) hb) (sv (d:=.int _ 0) M) M hx40))) ?_
    refine .cons (lop M M fun S hA=>(bC M M (lb M) (svaB hA M M) (agr hA M M) M hx41)) ?_
    exact .nil
   refine aW (b:=_) M (fun hc42=>?_) (fun hc42=>?_)
   ·
    replace h:=bX h hc42
    refine aT ?_
    refine aJ ?_
    refine aV ?_
    obtain ⟨x43,hx43,h⟩:=aK h
    refine aS (aA M (mvI M M M M)<|aA M (aQ M M (lb M) (svI M) (sv (d:=.int _ 1) M) M hx43)<|aA M (asI M M M M)<|bE ?_)
    refine bI ?_
    refine aJ ⟨(n0,x43),(fun i=>i),⟨(.sames M M),(.cons (EntW.lst M) .nil),aY [1000] M (by decide),fun _ _=>M⟩,?_,?_⟩
    exact h
    exact Nat.lt_succ_self _
   ·
    replace h:=bY h hc42
    refine cA ?_
    refine bD ?_
    refine bD ?_
    refine cC ?_
    refine aJ ?_
    refine aU ?_
    refine aV ?_
    refine bS (α:=Nat × Int) (fun z=>⟨[(0,.osl 1000 aC.sz x10.length),(1,.int .i64 a0),(4,.fn 27 []),(12,.int .i64 v23),(13,.int .i64 z.2)],[(1000,.blk 40 (D.flat (x10.map aC.d)))]⟩) (fun z=>dK a0 x10 v23 z.1 z.2=some r) (fun z=>z.1) (fuel,x12) (fun i=>i) ⟨(.sames M M),(.cons (EntW.lst M) .nil),aY [1000] M (by decide),fun _ _=>M⟩ ?_ ?_
    ·exact h
    ·
     rintro ⟨n1,v54⟩ h
     cases n1 with
     | zero=>exact absurd h (by unfold dK; exact nofun)
     | succ n1 =>
      unfold dK at h
      refine aU ?_
      obtain ⟨x65,hx65,h⟩:=aK h
      obtain ⟨x66,hx66,h⟩:=aL h
      obtain ⟨x67,hx67,h⟩:=aL h
      obtain ⟨x68,hx68,h⟩:=aL h
      obtain ⟨x69,hx69,h⟩:=aL h
      obtain ⟨x70,hx70,h⟩:=aL h
      obtain ⟨x71,hx71,h⟩:=aK h
      obtain ⟨x72,hx72,h⟩:=aK h
      refine dN M [⟨[12],[],[(50,.int .i64 v23)],[]⟩,
       ⟨[13],[],[(51,.int .i64 v54)],[]⟩,
       ⟨[50,51],[],[(52,.bool x65)],[]⟩,
       ⟨[52],[],[(53,.bool x65)],[]⟩,
       ⟨[4,53],[],[(54,.cnd (x65 == true) (.fn 27 []))],[]⟩,
       ⟨[0,53],[],[(55,.cnd (x65 == true) (.osl 1000 aC.sz x10.length))],[]⟩,
       ⟨[13,53],[],[(56,.cnd (x65 == true) (.int .i64 v54))],[]⟩,
       ⟨[53,55,56],[],[(57,.cnd (x65 == true) (.ref 1000 (((v54:Int).toNat) * aC.sz + 0)))],[]⟩,
       ⟨[53,57],[1000],[(58,.cnd (x65 == true) (.agg (v2 x67)))],[]⟩,
       ⟨[0,53],[],[(59,.cnd (x65 == true) (.osl 1000 aC.sz x10.length))],[]⟩,
       ⟨[1,53],[],[(60,.cnd (x65 == true) (.int .i64 a0))],[]⟩,
       ⟨[53,59,60],[],[(61,.cnd (x65 == true) (.ref 1000 (((a0:Int).toNat) * aC.sz + 0)))],[]⟩,
       ⟨[53,61],[1000],[(62,.cnd (x65 == true) (.agg (v2 x69)))],[]⟩,
       ⟨[53,54,58,62],[],[(63,.cnd (x65 == true) (.int .i64 x70))],[]⟩,
       ⟨[53,63],[],[(64,.cnd (x65 == true) (.bool x71))],[]⟩,
       ⟨[53,64],[],[(65,.cnd (x65 == true) (.bool (!x71)))],[]⟩,
       ⟨[53,65],[],[(66,.bool x72)],[]⟩] M ?_ (by kernel_rfl) ?_
      ·refine .cons (lop M M fun S hA=>(aD M M (lb M) (svaI hA M M))) ?_
       refine .cons (lop M M fun S hA=>(aD M M (lb M) (svaI hA M M))) ?_
       refine .cons (lop M M fun S hA=>(aO M M (lb M) (svaI hA M M) (svaI hA M M) M hx65)) ?_
       refine .cons (lop M M fun S hA=>(aD M M (lb M) (svaB hA M M))) ?_
       refine .cons (lopg M M M M (by decide) (fun S hA=>grd1 hA M M) (fun S hA hb=>(aD M M (lb M) (sv (d:=.fn 27 []) (agr hA M M))))) ?_
       refine .cons (lopg M M M M (by decide) (fun S hA=>grd1 hA M M) (fun S hA hb=>(aD M M (lb M) (sv (d:=.osl _ _ _) (agr hA M M))))) ?_
       refine .cons (lopg M M M M (by decide) (fun S hA=>grd1 hA M M) (fun S hA hb=>(aD M M (lb M) (svaI hA M M)))) ?_
       refine .cons (lopg M M M M (by decide) (fun S hA=>grd1 hA M M) (fun S hA hb=>(aX aC.toEnc0 M M (lb M) underlying28 ti40 (svc (d:=.osl _ _ _) (agr hA M M) hb) M (svc (d:=.int _ _) (agr hA M M) hb) (gd_t hx66 hb)))) ?_
       refine .cons (lopg M M M M (by decide) (fun S hA=>grd1 hA M M) (fun S hA hb=>(bW aC.toEnc0 (cs:=q9) M M (lb M) underlying40 ag40 ti40 (by decide) (svc (d:=.ref _ _) (agr hA M M) hb) (agi hA M M) (gd_t hx67 hb) (nle M) M))) ?_
       refine .cons (lopg M M M M (by decide) (fun S hA=>grd1 hA M M) (fun S hA hb=>(aD M M (lb M) (sv (d:=.osl _ _ _) (agr hA M M))))) ?_
       refine .cons (lopg M M M M (by decide) (fun S hA=>grd1 hA M M) (fun S hA hb=>(aD M M (lb M) (svaI hA M M)))) ?_
       refine .cons (lopg M M M M (by decide) (fun S hA=>grd1 hA M M) (fun S hA hb=>(aX aC.toEnc0 M M (lb M) underlying28 ti40 (svc (d:=.osl _ _ _) (agr hA M M) hb) M (svc (d:=.int _ _) (agr hA M M) hb) (gd_t hx68 hb)))) ?_
       refine .cons (lopg M M M M (by decide) (fun S hA=>grd1 hA M M) (fun S hA hb=>(bW aC.toEnc0 (cs:=q9) M M (lb M) underlying40 ag40 ti40 (by decide) (svc (d:=.ref _ _) (agr hA M M) hb) (agi hA M M) (gd_t hx69 hb) (nle M) M))) ?_
       refine .cons (lopg M M M M (by decide) (fun S hA=>grd1 hA M M) (fun S hA hb=>(jO (r:=.int _ _) M M (lb M) cl27 (svc (d:=.fn 27 []) (agr hA M M) hb) (.cons (svc (d:=.agg (v2 x67)) (agr hA M M) hb) (.cons (svc (d:=.agg (v2 x69)) (agr hA M M) hb) .nil)) M (dS _ _ _ (gd_t hx70 hb))))) ?_
       refine .cons (lopg M M M M (by decide) (fun S hA=>grd1 hA M M) (fun S hA hb=>(aO M M (lb M) (svc (d:=.int _ _) (agr hA M M) hb) (sv (d:=.int _ 0) M) M hx71))) ?_
       refine .cons (lopg M M M M (by decide) (fun S hA=>grd1 hA M M) (fun S hA hb=>(eX M M (lb M) (svc (d:=.bool _) (agr hA M M) hb)))) ?_
       refine .cons (lop M M fun S hA=>(bC M M (lb M) (svaB hA M M) (agr hA M M) M hx72)) ?_
       exact .nil
      refine aW (b:=_) M (fun hc73=>?_) (fun hc73=>?_)
      ·
       replace h:=bX h hc73
       refine aT ?_
       refine aJ ?_
       refine aV ?_
       obtain ⟨x74,hx74,h⟩:=aK h
       refine aS (aA M (mvI M M M M)<|aA M (aQ M M (lb M) (svI M) (sv (d:=.int _ 1) M) M hx74)<|aA M (asI M M M M)<|bE ?_)
       refine bI ?_
       refine aJ ⟨(n1,x74),(fun i=>i),⟨(.sames M M),(.cons (EntW.lst M) .nil),aY [1000] M (by decide),fun _ _=>M⟩,?_,?_⟩
       exact h
       exact Nat.lt_succ_self _
      ·
       replace h:=bY h hc73
       refine cA ?_
       refine bD ?_
       refine bD ?_
       refine cC ?_
       refine aJ ?_
       refine aU ?_
       obtain ⟨x75,hx75,h⟩:=aK h
       refine aF (aA M (mvI M M M M)<|aA M (mvI M M M M)<|aA M (aO M M (lb M) (svI M) (svI M) M hx75)<|aE ?_)
       refine aW (b:=_) M (fun hc76=>?_) (fun hc76=>?_)
       ·
        replace h:=bX h hc76
        obtain ⟨x77,hx77,h⟩:=aL h
        obtain ⟨x78,hx78,h⟩:=aL h
        obtain ⟨x79,hx79,h⟩:=aL h
        obtain ⟨x80,hx80,h⟩:=aL h
        obtain ⟨x81,hx81,h⟩:=aL h
        obtain ⟨x82,hx82,h⟩:=aL h
        obtain ⟨x83,hx83,h⟩:=aK h
        obtain ⟨x84,hx84,h⟩:=aL h
        obtain ⟨x85,hx85,h⟩:=aL h
        obtain ⟨x86,hx86,h⟩:=aK h
        refine dN M [⟨[0],[],[(72,.osl 1000 aC.sz x10.length)],[]⟩,
         ⟨[13],[],[(73,.int .i64 v54)],[]⟩,
         ⟨[0],[],[(74,.osl 1000 aC.sz x10.length)],[]⟩,
         ⟨[1],[],[(75,.int .i64 a0)],[]⟩,
         ⟨[0],[],[(76,.osl 1000 aC.sz x10.length)],[]⟩,
         ⟨[1],[],[(77,.int .i64 a0)],[]⟩,
         ⟨[76,77],[],[(78,.ref 1000 (((a0:Int).toNat) * aC.sz + 0))],[]⟩,
         ⟨[78],[1000],[(79,.agg (v2 x78))],[]⟩,
         ⟨[0],[],[(80,.osl 1000 aC.sz x10.length)],[]⟩,
         ⟨[13],[],[(81,.int .i64 v54)],[]⟩,
         ⟨[80,81],[],[(82,.ref 1000 (((v54:Int).toNat) * aC.sz + 0))],[]⟩,
         ⟨[82],[1000],[(83,.agg (v2 x80))],[]⟩,
         ⟨[72,73],[],[(84,.ref 1000 (((v54:Int).toNat) * aC.sz + 0))],[]⟩,
         ⟨[79,84],[1000],[],[(1000,.blk 40 (D.flat (x83.map aC.d)))]⟩,
         ⟨[74,75],[],[(85,.ref 1000 (((a0:Int).toNat) * aC.sz + 0))],[]⟩,
         ⟨[83,85],[1000],[],[(1000,.blk 40 (D.flat (x86.map aC.d)))]⟩] M ?_ (by kernel_rfl) ?_
        ·refine .cons (lop M M fun S hA=>(aD M M (lb M) (sv (d:=.osl _ _ _) (agr hA M M)))) ?_
         refine .cons (lop M M fun S hA=>(aD M M (lb M) (svaI hA M M))) ?_
         refine .cons (lop M M fun S hA=>(aD M M (lb M) (sv (d:=.osl _ _ _) (agr hA M M)))) ?_
         refine .cons (lop M M fun S hA=>(aD M M (lb M) (svaI hA M M))) ?_
         refine .cons (lop M M fun S hA=>(aD M M (lb M) (sv (d:=.osl _ _ _) (agr hA M M)))) ?_
         refine .cons (lop M M fun S hA=>(aD M M (lb M) (svaI hA M M))) ?_
         refine .cons (lop M M fun S hA=>(aX aC.toEnc0 M M (lb M) underlying28 ti40 (sv (d:=.osl _ _ _) (agr hA M M)) M (svaI hA M M) hx77)) ?_
         refine .cons (lop M M fun S hA=>(bW aC.toEnc0 (cs:=q9) M M (lb M) underlying40 ag40 ti40 (by decide) (svaR hA M M) (agi hA M M) hx78 (nle M) M)) ?_
         refine .cons (lop M M fun S hA=>(aD M M (lb M) (sv (d:=.osl _ _ _) (agr hA M M)))) ?_
         refine .cons (lop M M fun S hA=>(aD M M (lb M) (svaI hA M M))) ?_
         refine .cons (lop M M fun S hA=>(aX aC.toEnc0 M M (lb M) underlying28 ti40 (sv (d:=.osl _ _ _) (agr hA M M)) M (svaI hA M M) hx79)) ?_
         refine .cons (lop M M fun S hA=>(bW aC.toEnc0 (cs:=q9) M M (lb M) underlying40 ag40 ti40 (by decide) (svaR hA M M) (agi hA M M) hx80 (nle M) M)) ?_
         refine .cons (lop M M fun S hA=>(aX aC.toEnc0 M M (lb M) underlying28 ti40 (sv (d:=.osl _ _ _) (agr hA M M)) M (svaI hA M M) hx81)) ?_
         refine .cons (lop M M fun S hA=>(bR aC.toEnc0 (a':=x78) M M ti40 (svaR hA M M) (agi hA M M) (svaA q9 hA M M) M M M hx82 (nle M) M hx83)) ?_
         refine .cons (lop M M fun S hA=>(aX aC.toEnc0 M M (lb M) underlying28 ti40 (sv (d:=.osl _ _ _) (agr hA M M)) (bV hx83 M) (svaI hA M M) hx84)) ?_
         refine .cons (lop M M fun S hA=>(bR aC.toEnc0 (a':=x80) M M ti40 (svaR hA M M) (agi hA M M) (svaA q9 hA M M) M M M hx85 (nle M) M hx86)) ?_
         exact .nil
        refine aF (aA M (mvI M M M M)<|aA M (asI M M M M)<|aA M (aI M M (lb M) (sv (d:=.bool true) M))<|aE ?_)
        refine bB ?_
        refine bP ?_
        obtain rfl:=sj_ h
        refine ⟨.inr M,(fun i=>i),⟨.nil,(.cons (EntW.lst M) .nil),aY [1000] M (by decide),fun _ _=>M⟩,(.cons (sv M) (.cons (sv M) .nil)),M⟩
       ·
        replace h:=bY h hc76
        refine aT ?_
        refine aJ ?_
        obtain ⟨x87,hx87,h⟩:=aL h
        obtain ⟨x88,hx88,h⟩:=aL h
        obtain ⟨x89,hx89,h⟩:=aL h
        obtain ⟨x90,hx90,h⟩:=aL h
        obtain ⟨x91,hx91,h⟩:=aL h
        obtain ⟨x92,hx92,h⟩:=aL h
        obtain ⟨x93,hx93,h⟩:=aK h
        obtain ⟨x94,hx94,h⟩:=aL h
        obtain ⟨x95,hx95,h⟩:=aL h
        obtain ⟨x96,hx96,h⟩:=aK h
        refine dN M [⟨[0],[],[(87,.osl 1000 aC.sz x10.length)],[]⟩,
         ⟨[12],[],[(88,.int .i64 v23)],[]⟩,
         ⟨[0],[],[(89,.osl 1000 aC.sz x10.length)],[]⟩,
         ⟨[13],[],[(90,.int .i64 v54)],[]⟩,
         ⟨[0],[],[(91,.osl 1000 aC.sz x10.length)],[]⟩,
         ⟨[13],[],[(92,.int .i64 v54)],[]⟩,
         ⟨[91,92],[],[(93,.ref 1000 (((v54:Int).toNat) * aC.sz + 0))],[]⟩,
         ⟨[93],[1000],[(94,.agg (v2 x88))],[]⟩,
         ⟨[0],[],[(95,.osl 1000 aC.sz x10.length)],[]⟩,
         ⟨[12],[],[(96,.int .i64 v23)],[]⟩,
         ⟨[95,96],[],[(97,.ref 1000 (((v23:Int).toNat) * aC.sz + 0))],[]⟩,
         ⟨[97],[1000],[(98,.agg (v2 x90))],[]⟩,
         ⟨[87,88],[],[(99,.ref 1000 (((v23:Int).toNat) * aC.sz + 0))],[]⟩,
         ⟨[94,99],[1000],[],[(1000,.blk 40 (D.flat (x93.map aC.d)))]⟩,
         ⟨[89,90],[],[(100,.ref 1000 (((v54:Int).toNat) * aC.sz + 0))],[]⟩,
         ⟨[98,100],[1000],[],[(1000,.blk 40 (D.flat (x96.map aC.d)))]⟩] M ?_ (by kernel_rfl) ?_
        ·refine .cons (lop M M fun S hA=>(aD M M (lb M) (sv (d:=.osl _ _ _) (agr hA M M)))) ?_
         refine .cons (lop M M fun S hA=>(aD M M (lb M) (svaI hA M M))) ?_
         refine .cons (lop M M fun S hA=>(aD M M (lb M) (sv (d:=.osl _ _ _) (agr hA M M)))) ?_
         refine .cons (lop M M fun S hA=>(aD M M (lb M) (svaI hA M M))) ?_
         refine .cons (lop M M fun S hA=>(aD M M (lb M) (sv (d:=.osl _ _ _) (agr hA M M)))) ?_
         refine .cons (lop M M fun S hA=>(aD M M (lb M) (svaI hA M M))) ?_
         refine .cons (lop M M fun S hA=>(aX aC.toEnc0 M M (lb M) underlying28 ti40 (sv (d:=.osl _ _ _) (agr hA M M)) M (svaI hA M M) hx87)) ?_
         refine .cons (lop M M fun S hA=>(bW aC.toEnc0 (cs:=q9) M M (lb M) underlying40 ag40 ti40 (by decide) (svaR hA M M) (agi hA M M) hx88 (nle M) M)) ?_
         refine .cons (lop M M fun S hA=>(aD M M (lb M) (sv (d:=.osl _ _ _) (agr hA M M)))) ?_
         refine .cons (lop M M fun S hA=>(aD M M (lb M) (svaI hA M M))) ?_
         refine .cons (lop M M fun S hA=>(aX aC.toEnc0 M M (lb M) underlying28 ti40 (sv (d:=.osl _ _ _) (agr hA M M)) M (svaI hA M M) hx89)) ?_
         refine .cons (lop M M fun S hA=>(bW aC.toEnc0 (cs:=q9) M M (lb M) underlying40 ag40 ti40 (by decide) (svaR hA M M) (agi hA M M) hx90 (nle M) M)) ?_
         refine .cons (lop M M fun S hA=>(aX aC.toEnc0 M M (lb M) underlying28 ti40 (sv (d:=.osl _ _ _) (agr hA M M)) M (svaI hA M M) hx91)) ?_
         refine .cons (lop M M fun S hA=>(bR aC.toEnc0 (a':=x88) M M ti40 (svaR hA M M) (agi hA M M) (svaA q9 hA M M) M M M hx92 (nle M) M hx93)) ?_
         refine .cons (lop M M fun S hA=>(aX aC.toEnc0 M M (lb M) underlying28 ti40 (sv (d:=.osl _ _ _) (agr hA M M)) (bV hx93 M) (svaI hA M M) hx94)) ?_
         refine .cons (lop M M fun S hA=>(bR aC.toEnc0 (a':=x90) M M ti40 (svaR hA M M) (agi hA M M) (svaA q9 hA M M) M M M hx95 (nle M) M hx96)) ?_
         exact .nil
        obtain ⟨x97,hx97,h⟩:=aK h
        refine aF (aA M (mvI M M M M)<|aA M (aQ M M (lb M) (svI M) (sv (d:=.int _ 1) M) M hx97)<|aA M (asI M M M M)<|aE ?_)
        obtain ⟨x98,hx98,h⟩:=aK h
        refine aF (aA M (mvI M M M M)<|aA M (aQ M M (lb M) (svI M) (sv (d:=.int _ 1) M) M hx98)<|aA M (asI M M M M)<|aE ?_)
        refine aU ?_
        refine aV ?_
        refine bS (α:=Nat × (List aG) × Int × Int) (fun z=>⟨[(0,.osl 1000 aC.sz z.2.1.length),(1,.int .i64 a0),(4,.fn 27 []),(12,.int .i64 z.2.2.1),(13,.int .i64 z.2.2.2)],[(1000,.blk 40 (D.flat (z.2.1.map aC.d)))]⟩) (fun z=>cG a0 z.1 z.2.1 z.2.2.1 z.2.2.2=some r) (fun z=>z.1) (fuel,x96,x97,x98) (fun i=>i) ⟨(.cons (.same (congrArg (D.osl _ _) (bV hx96 (bV hx93 M)).symm) M) (.sames M M)),(.cons (EntW.lst M) .nil),aY [1000] M (by decide),fun _ _=>M⟩ ?_ ?_
        ·exact h
        ·
         rintro ⟨n2,v175,v176,v177⟩ h
         cases n2 with
         | zero=>exact absurd h (by unfold cG; exact nofun)
         | succ n2 =>
          unfold cG at h
          refine aV ?_
          refine aU ?_
          refine aV ?_
          refine bS (α:=Nat × Int) (fun z=>⟨[(0,.osl 1000 aC.sz v175.length),(1,.int .i64 a0),(4,.fn 27 []),(12,.int .i64 z.2),(13,.int .i64 v177)],[(1000,.blk 40 (D.flat (v175.map aC.d)))]⟩) (fun z=>dJ a0 v175 v177 (cG a0 n2) z.1 z.2=some r) (fun z=>z.1) (fuel,v176) (fun i=>i) ⟨(.sames M M),(.cons (EntW.lst M) .nil),aY [1000] M (by decide),fun _ _=>M⟩ ?_ ?_
          ·exact h
          ·
           rintro ⟨n3,v264⟩ h
           cases n3 with
           | zero=>exact absurd h (by unfold dJ; exact nofun)
           | succ n3 =>
            unfold dJ at h
            refine aU ?_
            obtain ⟨x275,hx275,h⟩:=aK h
            obtain ⟨x276,hx276,h⟩:=aL h
            obtain ⟨x277,hx277,h⟩:=aL h
            obtain ⟨x278,hx278,h⟩:=aL h
            obtain ⟨x279,hx279,h⟩:=aL h
            obtain ⟨x280,hx280,h⟩:=aL h
            obtain ⟨x281,hx281,h⟩:=aK h
            obtain ⟨x282,hx282,h⟩:=aK h
            refine dN M [⟨[12],[],[(105,.int .i64 v264)],[]⟩,
             ⟨[13],[],[(106,.int .i64 v177)],[]⟩,
             ⟨[105,106],[],[(107,.bool x275)],[]⟩,
             ⟨[107],[],[(108,.bool x275)],[]⟩,
             ⟨[4,108],[],[(109,.cnd (x275 == true) (.fn 27 []))],[]⟩,
             ⟨[0,108],[],[(110,.cnd (x275 == true) (.osl 1000 aC.sz v175.length))],[]⟩,
             ⟨[12,108],[],[(111,.cnd (x275 == true) (.int .i64 v264))],[]⟩,
             ⟨[108,110,111],[],[(112,.cnd (x275 == true) (.ref 1000 (((v264:Int).toNat) * aC.sz + 0)))],[]⟩,
             ⟨[108,112],[1000],[(113,.cnd (x275 == true) (.agg (v2 x277)))],[]⟩,
             ⟨[0,108],[],[(114,.cnd (x275 == true) (.osl 1000 aC.sz v175.length))],[]⟩,
             ⟨[1,108],[],[(115,.cnd (x275 == true) (.int .i64 a0))],[]⟩,
             ⟨[108,114,115],[],[(116,.cnd (x275 == true) (.ref 1000 (((a0:Int).toNat) * aC.sz + 0)))],[]⟩,
             ⟨[108,116],[1000],[(117,.cnd (x275 == true) (.agg (v2 x279)))],[]⟩,
             ⟨[108,109,113,117],[],[(118,.cnd (x275 == true) (.int .i64 x280))],[]⟩,
             ⟨[108,118],[],[(119,.cnd (x275 == true) (.bool x281))],[]⟩,
             ⟨[108,119],[],[(120,.bool x282)],[]⟩] M ?_ (by kernel_rfl) ?_
            ·refine .cons (lop M M fun S hA=>(aD M M (lb M) (svaI hA M M))) ?_
             refine .cons (lop M M fun S hA=>(aD M M (lb M) (svaI hA M M))) ?_
             refine .cons (lop M M fun S hA=>(aO M M (lb M) (svaI hA M M) (svaI hA M M) M hx275)) ?_
             refine .cons (lop M M fun S hA=>(aD M M (lb M) (svaB hA M M))) ?_
             refine .cons (lopg M M M M (by decide) (fun S hA=>grd1 hA M M) (fun S hA hb=>(aD M M (lb M) (sv (d:=.fn 27 []) (agr hA M M))))) ?_
             refine .cons (lopg M M M M (by decide) (fun S hA=>grd1 hA M M) (fun S hA hb=>(aD M M (lb M) (sv (d:=.osl _ _ _) (agr hA M M))))) ?_
             refine .cons (lopg M M M M (by decide) (fun S hA=>grd1 hA M M) (fun S hA hb=>(aD M M (lb M) (svaI hA M M)))) ?_
             refine .cons (lopg M M M M (by decide) (fun S hA=>grd1 hA M M) (fun S hA hb=>(aX aC.toEnc0 M M (lb M) underlying28 ti40 (svc (d:=.osl _ _ _) (agr hA M M) hb) M (svc (d:=.int _ _) (agr hA M M) hb) (gd_t hx276 hb)))) ?_
             refine .cons (lopg M M M M (by decide) (fun S hA=>grd1 hA M M) (fun S hA hb=>(bW aC.toEnc0 (cs:=q9) M M (lb M) underlying40 ag40 ti40 (by decide) (svc (d:=.ref _ _) (agr hA M M) hb) (agi hA M M) (gd_t hx277 hb) (nle M) M))) ?_
             refine .cons (lopg M M M M (by decide) (fun S hA=>grd1 hA M M) (fun S hA hb=>(aD M M (lb M) (sv (d:=.osl _ _ _) (agr hA M M))))) ?_
             refine .cons (lopg M M M M (by decide) (fun S hA=>grd1 hA M M) (fun S hA hb=>(aD M M (lb M) (svaI hA M M)))) ?_
             refine .cons (lopg M M M M (by decide) (fun S hA=>grd1 hA M M) (fun S hA hb=>(aX aC.toEnc0 M M (lb M) underlying28 ti40 (svc (d:=.osl _ _ _) (agr hA M M) hb) M (svc (d:=.int _ _) (agr hA M M) hb) (gd_t hx278 hb)))) ?_
             refine .cons (lopg M M M M (by decide) (fun S hA=>grd1 hA M M) (fun S hA hb=>(bW aC.toEnc0 (cs:=q9) M M (lb M) underlying40 ag40 ti40 (by decide) (svc (d:=.ref _ _) (agr hA M M) hb) (agi hA M M) (gd_t hx279 hb) (nle M) M))) ?_
             refine .cons (lopg M M M M (by decide) (fun S hA=>grd1 hA M M) (fun S hA hb=>(jO (r:=.int _ _) M M (lb M) cl27 (svc (d:=.fn 27 []) (agr hA M M) hb) (.cons (svc (d:=.agg (v2 x277)) (agr hA M M) hb) (.cons (svc (d:=.agg (v2 x279)) (agr hA M M) hb) .nil)) M (dS _ _ _ (gd_t hx280 hb))))) ?_
             refine .cons (lopg M M M M (by decide) (fun S hA=>grd1 hA M M) (fun S hA hb=>(aO M M (lb M) (svc (d:=.int _ _) (agr hA M M) hb) (sv (d:=.int _ 0) M) M hx281))) ?_
             refine .cons (lop M M fun S hA=>(bC M M (lb M) (svaB hA M M) (agr hA M M) M hx282)) ?_
             exact .nil
            refine aW (b:=_) M (fun hc283=>?_) (fun hc283=>?_)
            ·
             replace h:=bX h hc283
             refine aT ?_
             refine aJ ?_
             refine aV ?_
             obtain ⟨x284,hx284,h⟩:=aK h
             refine aS (aA M (mvI M M M M)<|aA M (aQ M M (lb M) (svI M) (sv (d:=.int _ 1) M) M hx284)<|aA M (asI M M M M)<|bE ?_)
             refine bI ?_
             refine aJ ⟨(n3,x284),(fun i=>i),⟨(.sames M M),(.cons (EntW.lst M) .nil),aY [1000] M (by decide),fun _ _=>M⟩,?_,?_⟩
             exact h
             exact Nat.lt_succ_self _
            ·
             replace h:=bY h hc283
             refine cA ?_
             refine bD ?_
             refine bD ?_
             refine cC ?_
             refine aJ ?_
             refine aU ?_
             refine aV ?_
             refine bS (α:=Nat × Int) (fun z=>⟨[(0,.osl 1000 aC.sz v175.length),(1,.int .i64 a0),(4,.fn 27 []),(12,.int .i64 v264),(13,.int .i64 z.2)],[(1000,.blk 40 (D.flat (v175.map aC.d)))]⟩) (fun z=>dI a0 v175 (cG a0 n2) v264 z.1 z.2=some r) (fun z=>z.1) (fuel,v177) (fun i=>i) ⟨(.sames M M),(.cons (EntW.lst M) .nil),aY [1000] M (by decide),fun _ _=>M⟩ ?_ ?_
             ·exact h
             ·
              rintro ⟨n4,v295⟩ h
              cases n4 with
              | zero=>exact absurd h (by unfold dI; exact nofun)
              | succ n4 =>
               unfold dI at h
               refine aU ?_
               obtain ⟨x306,hx306,h⟩:=aK h
               obtain ⟨x307,hx307,h⟩:=aL h
               obtain ⟨x308,hx308,h⟩:=aL h
               obtain ⟨x309,hx309,h⟩:=aL h
               obtain ⟨x310,hx310,h⟩:=aL h
               obtain ⟨x311,hx311,h⟩:=aL h
               obtain ⟨x312,hx312,h⟩:=aK h
               obtain ⟨x313,hx313,h⟩:=aK h
               refine dN M [⟨[12],[],[(123,.int .i64 v264)],[]⟩,
                ⟨[13],[],[(124,.int .i64 v295)],[]⟩,
                ⟨[123,124],[],[(125,.bool x306)],[]⟩,
                ⟨[125],[],[(126,.bool x306)],[]⟩,
                ⟨[4,126],[],[(127,.cnd (x306 == true) (.fn 27 []))],[]⟩,
                ⟨[0,126],[],[(128,.cnd (x306 == true) (.osl 1000 aC.sz v175.length))],[]⟩,
                ⟨[13,126],[],[(129,.cnd (x306 == true) (.int .i64 v295))],[]⟩,
                ⟨[126,128,129],[],[(130,.cnd (x306 == true) (.ref 1000 (((v295:Int).toNat) * aC.sz + 0)))],[]⟩,
                ⟨[126,130],[1000],[(131,.cnd (x306 == true) (.agg (v2 x308)))],[]⟩,
                ⟨[0,126],[],[(132,.cnd (x306 == true) (.osl 1000 aC.sz v175.length))],[]⟩,
                ⟨[1,126],[],[(133,.cnd (x306 == true) (.int .i64 a0))],[]⟩,
                ⟨[126,132,133],[],[(134,.cnd (x306 == true) (.ref 1000 (((a0:Int).toNat) * aC.sz + 0)))],[]⟩,
                ⟨[126,134],[1000],[(135,.cnd (x306 == true) (.agg (v2 x310)))],[]⟩,
                ⟨[126,127,131,135],[],[(136,.cnd (x306 == true) (.int .i64 x311))],[]⟩,
                ⟨[126,136],[],[(137,.cnd (x306 == true) (.bool x312))],[]⟩,
                ⟨[126,137],[],[(138,.cnd (x306 == true) (.bool (!x312)))],[]⟩,
                ⟨[126,138],[],[(139,.bool x313)],[]⟩] M ?_ (by kernel_rfl) ?_
               ·refine .cons (lop M M fun S hA=>(aD M M (lb M) (svaI hA M M))) ?_
                refine .cons (lop M M fun S hA=>(aD M M (lb M) (svaI hA M M))) ?_
                refine .cons (lop M M fun S hA=>(aO M M (lb M) (svaI hA M M) (svaI hA M M) M hx306)) ?_
                refine .cons (lop M M fun S hA=>(aD M M (lb M) (svaB hA M M))) ?_
                refine .cons (lopg M M M M (by decide) (fun S hA=>grd1 hA M M) (fun S hA hb=>(aD M M (lb M) (sv (d:=.fn 27 []) (agr hA M M))))) ?_
                refine .cons (lopg M M M M (by decide) (fun S hA=>grd1 hA M M) (fun S hA hb=>(aD M M (lb M) (sv (d:=.osl _ _ _) (agr hA M M))))) ?_
                refine .cons (lopg M M M M (by decide) (fun S hA=>grd1 hA M M) (fun S hA hb=>(aD M M (lb M) (svaI hA M M)))) ?_
                refine .cons (lopg M M M M (by decide) (fun S hA=>grd1 hA M M) (fun S hA hb=>(aX aC.toEnc0 M M (lb M) underlying28 ti40 (svc (d:=.osl _ _ _) (agr hA M M) hb) M (svc (d:=.int _ _) (agr hA M M) hb) (gd_t hx307 hb)))) ?_
                refine .cons (lopg M M M M (by decide) (fun S hA=>grd1 hA M M) (fun S hA hb=>(bW aC.toEnc0 (cs:=q9) M M (lb M) underlying40 ag40 ti40 (by decide) (svc (d:=.ref _ _) (agr hA M M) hb) (agi hA M M) (gd_t hx308 hb) (nle M) M))) ?_
                refine .cons (lopg M M M M (by decide) (fun S hA=>grd1 hA M M) (fun S hA hb=>(aD M M (lb M) (sv (d:=.osl _ _ _) (agr hA M M))))) ?_
                refine .cons (lopg M M M M (by decide) (fun S hA=>grd1 hA M M) (fun S hA hb=>(aD M M (lb M) (svaI hA M M)))) ?_
                refine .cons (lopg M M M M (by decide) (fun S hA=>grd1 hA M M) (fun S hA hb=>(aX aC.toEnc0 M M (lb M) underlying28 ti40 (svc (d:=.osl _ _ _) (agr hA M M) hb) M (svc (d:=.int _ _) (agr hA M M) hb) (gd_t hx309 hb)))) ?_
                refine .cons (lopg M M M M (by decide) (fun S hA=>grd1 hA M M) (fun S hA hb=>(bW aC.toEnc0 (cs:=q9) M M (lb M) underlying40 ag40 ti40 (by decide) (svc (d:=.ref _ _) (agr hA M M) hb) (agi hA M M) (gd_t hx310 hb) (nle M) M))) ?_
                refine .cons (lopg M M M M (by decide) (fun S hA=>grd1 hA M M) (fun S hA hb=>(jO (r:=.int _ _) M M (lb M) cl27 (svc (d:=.fn 27 []) (agr hA M M) hb) (.cons (svc (d:=.agg (v2 x308)) (agr hA M M) hb) (.cons (svc (d:=.agg (v2 x310)) (agr hA M M) hb) .nil)) M (dS _ _ _ (gd_t hx311 hb))))) ?_
                refine .cons (lopg M M M M (by decide) (fun S hA=>grd1 hA M M) (fun S hA hb=>(aO M M (lb M) (svc (d:=.int _ _) (agr hA M M) hb) (sv (d:=.int _ 0) M) M hx312))) ?_
                refine .cons (lopg M M M M (by decide) (fun S hA=>grd1 hA M M) (fun S hA hb=>(eX M M (lb M) (svc (d:=.bool _) (agr hA M M) hb)))) ?_
                refine .cons (lop M M fun S hA=>(bC M M (lb M) (svaB hA M M) (agr hA M M) M hx313)) ?_
                exact .nil
               refine aW (b:=_) M (fun hc314=>?_) (fun hc314=>?_)
               ·
                replace h:=bX h hc314
                refine aT ?_
                refine aJ ?_
                refine aV ?_
                obtain ⟨x315,hx315,h⟩:=aK h
                refine aS (aA M (mvI M M M M)<|aA M (aQ M M (lb M) (svI M) (sv (d:=.int _ 1) M) M hx315)<|aA M (asI M M M M)<|bE ?_)
                refine bI ?_
                refine aJ ⟨(n4,x315),(fun i=>i),⟨(.sames M M),(.cons (EntW.lst M) .nil),aY [1000] M (by decide),fun _ _=>M⟩,?_,?_⟩
                exact h
                exact Nat.lt_succ_self _
               ·
                replace h:=bY h hc314
                refine cA ?_
                refine bD ?_
                refine bD ?_
                refine cC ?_
                refine aJ ?_
                refine aU ?_
                obtain ⟨x316,hx316,h⟩:=aK h
                refine aF (aA M (mvI M M M M)<|aA M (mvI M M M M)<|aA M (aO M M (lb M) (svI M) (svI M) M hx316)<|aE ?_)
                refine aW (b:=_) M (fun hc317=>?_) (fun hc317=>?_)
                ·
                 replace h:=bX h hc317
                 refine cA ?_
                 refine bD ?_
                 refine oV M ?_
                 refine bD ?_
                 refine cC ?_
                 refine aJ ?_
                 obtain ⟨x318,hx318,h⟩:=aL h
                 obtain ⟨x319,hx319,h⟩:=aL h
                 obtain ⟨x320,hx320,h⟩:=aL h
                 obtain ⟨x321,hx321,h⟩:=aL h
                 obtain ⟨x322,hx322,h⟩:=aL h
                 obtain ⟨x323,hx323,h⟩:=aL h
                 obtain ⟨x324,hx324,h⟩:=aK h
                 obtain ⟨x325,hx325,h⟩:=aL h
                 obtain ⟨x326,hx326,h⟩:=aL h
                 obtain ⟨x327,hx327,h⟩:=aK h
                 refine dN M [⟨[0],[],[(163,.osl 1000 aC.sz v175.length)],[]⟩,
                  ⟨[13],[],[(164,.int .i64 v295)],[]⟩,
                  ⟨[0],[],[(165,.osl 1000 aC.sz v175.length)],[]⟩,
                  ⟨[1],[],[(166,.int .i64 a0)],[]⟩,
                  ⟨[0],[],[(167,.osl 1000 aC.sz v175.length)],[]⟩,
                  ⟨[1],[],[(168,.int .i64 a0)],[]⟩,
                  ⟨[167,168],[],[(169,.ref 1000 (((a0:Int).toNat) * aC.sz + 0))],[]⟩,
                  ⟨[169],[1000],[(170,.agg (v2 x319))],[]⟩,
                  ⟨[0],[],[(171,.osl 1000 aC.sz v175.length)],[]⟩,
                  ⟨[13],[],[(172,.int .i64 v295)],[]⟩,
                  ⟨[171,172],[],[(173,.ref 1000 (((v295:Int).toNat) * aC.sz + 0))],[]⟩,
                  ⟨[173],[1000],[(174,.agg (v2 x321))],[]⟩,
                  ⟨[163,164],[],[(175,.ref 1000 (((v295:Int).toNat) * aC.sz + 0))],[]⟩,
                  ⟨[170,175],[1000],[],[(1000,.blk 40 (D.flat (x324.map aC.d)))]⟩,
                  ⟨[165,166],[],[(176,.ref 1000 (((a0:Int).toNat) * aC.sz + 0))],[]⟩,
                  ⟨[174,176],[1000],[],[(1000,.blk 40 (D.flat (x327.map aC.d)))]⟩] M ?_ (by kernel_rfl) ?_
                 ·refine .cons (lop M M fun S hA=>(aD M M (lb M) (sv (d:=.osl _ _ _) (agr hA M M)))) ?_
                  refine .cons (lop M M fun S hA=>(aD M M (lb M) (svaI hA M M))) ?_
                  refine .cons (lop M M fun S hA=>(aD M M (lb M) (sv (d:=.osl _ _ _) (agr hA M M)))) ?_
                  refine .cons (lop M M fun S hA=>(aD M M (lb M) (svaI hA M M))) ?_
                  refine .cons (lop M M fun S hA=>(aD M M (lb M) (sv (d:=.osl _ _ _) (agr hA M M)))) ?_
                  refine .cons (lop M M fun S hA=>(aD M M (lb M) (svaI hA M M))) ?_
                  refine .cons (lop M M fun S hA=>(aX aC.toEnc0 M M (lb M) underlying28 ti40 (sv (d:=.osl _ _ _) (agr hA M M)) M (svaI hA M M) hx318)) ?_
                  refine .cons (lop M M fun S hA=>(bW aC.toEnc0 (cs:=q9) M M (lb M) underlying40 ag40 ti40 (by decide) (svaR hA M M) (agi hA M M) hx319 (nle M) M)) ?_
                  refine .cons (lop M M fun S hA=>(aD M M (lb M) (sv (d:=.osl _ _ _) (agr hA M M)))) ?_
                  refine .cons (lop M M fun S hA=>(aD M M (lb M) (svaI hA M M))) ?_
                  refine .cons (lop M M fun S hA=>(aX aC.toEnc0 M M (lb M) underlying28 ti40 (sv (d:=.osl _ _ _) (agr hA M M)) M (svaI hA M M) hx320)) ?_
                  refine .cons (lop M M fun S hA=>(bW aC.toEnc0 (cs:=q9) M M (lb M) underlying40 ag40 ti40 (by decide) (svaR hA M M) (agi hA M M) hx321 (nle M) M)) ?_
                  refine .cons (lop M M fun S hA=>(aX aC.toEnc0 M M (lb M) underlying28 ti40 (sv (d:=.osl _ _ _) (agr hA M M)) M (svaI hA M M) hx322)) ?_
                  refine .cons (lop M M fun S hA=>(bR aC.toEnc0 (a':=x319) M M ti40 (svaR hA M M) (agi hA M M) (svaA q9 hA M M) M M M hx323 (nle M) M hx324)) ?_
                  refine .cons (lop M M fun S hA=>(aX aC.toEnc0 M M (lb M) underlying28 ti40 (sv (d:=.osl _ _ _) (agr hA M M)) (bV hx324 M) (svaI hA M M) hx325)) ?_
                  refine .cons (lop M M fun S hA=>(bR aC.toEnc0 (a':=x321) M M ti40 (svaR hA M M) (agi hA M M) (svaA q9 hA M M) M M M hx326 (nle M) M hx327)) ?_
                  exact .nil
                 refine aF (aA M (mvI M M M M)<|aA M (asI M M M M)<|aA M (aI M M (lb M) (sv (d:=.bool false) M))<|aE ?_)
                 refine bB ?_
                 obtain rfl:=sj_ h
                 refine ⟨.inr M,(fun i=>i),⟨.nil,(.cons (EntW.lst M) .nil),aY [1000] M (by decide),fun _ _=>M⟩,(.cons (sv M) (.cons (sv M) .nil)),M⟩
                ·
                 replace h:=bY h hc317
                 refine aT ?_
                 refine aJ ?_
                 obtain ⟨x328,hx328,h⟩:=aL h
                 obtain ⟨x329,hx329,h⟩:=aL h
                 obtain ⟨x330,hx330,h⟩:=aL h
                 obtain ⟨x331,hx331,h⟩:=aL h
                 obtain ⟨x332,hx332,h⟩:=aL h
                 obtain ⟨x333,hx333,h⟩:=aL h
                 obtain ⟨x334,hx334,h⟩:=aK h
                 obtain ⟨x335,hx335,h⟩:=aL h
                 obtain ⟨x336,hx336,h⟩:=aL h
                 obtain ⟨x337,hx337,h⟩:=aK h
                 refine dN M [⟨[0],[],[(145,.osl 1000 aC.sz v175.length)],[]⟩,
                  ⟨[12],[],[(146,.int .i64 v264)],[]⟩,
                  ⟨[0],[],[(147,.osl 1000 aC.sz v175.length)],[]⟩,
                  ⟨[13],[],[(148,.int .i64 v295)],[]⟩,
                  ⟨[0],[],[(149,.osl 1000 aC.sz v175.length)],[]⟩,
                  ⟨[13],[],[(150,.int .i64 v295)],[]⟩,
                  ⟨[149,150],[],[(151,.ref 1000 (((v295:Int).toNat) * aC.sz + 0))],[]⟩,
                  ⟨[151],[1000],[(152,.agg (v2 x329))],[]⟩,
                  ⟨[0],[],[(153,.osl 1000 aC.sz v175.length)],[]⟩,
                  ⟨[12],[],[(154,.int .i64 v264)],[]⟩,
                  ⟨[153,154],[],[(155,.ref 1000 (((v264:Int).toNat) * aC.sz + 0))],[]⟩,
                  ⟨[155],[1000],[(156,.agg (v2 x331))],[]⟩,
                  ⟨[145,146],[],[(157,.ref 1000 (((v264:Int).toNat) * aC.sz + 0))],[]⟩,
                  ⟨[152,157],[1000],[],[(1000,.blk 40 (D.flat (x334.map aC.d)))]⟩,
                  ⟨[147,148],[],[(158,.ref 1000 (((v295:Int).toNat) * aC.sz + 0))],[]⟩,
                  ⟨[156,158],[1000],[],[(1000,.blk 40 (D.flat (x337.map aC.d)))]⟩] M ?_ (by kernel_rfl) ?_
                 ·refine .cons (lop M M fun S hA=>(aD M M (lb M) (sv (d:=.osl _ _ _) (agr hA M M)))) ?_
                  refine .cons (lop M M fun S hA=>(aD M M (lb M) (svaI hA M M))) ?_
                  refine .cons (lop M M fun S hA=>(aD M M (lb M) (sv (d:=.osl _ _ _) (agr hA M M)))) ?_
                  refine .cons (lop M M fun S hA=>(aD M M (lb M) (svaI hA M M))) ?_
                  refine .cons (lop M M fun S hA=>(aD M M (lb M) (sv (d:=.osl _ _ _) (agr hA M M)))) ?_
                  refine .cons (lop M M fun S hA=>(aD M M (lb M) (svaI hA M M))) ?_
                  refine .cons (lop M M fun S hA=>(aX aC.toEnc0 M M (lb M) underlying28 ti40 (sv (d:=.osl _ _ _) (agr hA M M)) M (svaI hA M M) hx328)) ?_
                  refine .cons (lop M M fun S hA=>(bW aC.toEnc0 (cs:=q9) M M (lb M) underlying40 ag40 ti40 (by decide) (svaR hA M M) (agi hA M M) hx329 (nle M) M)) ?_
                  refine .cons (lop M M fun S hA=>(aD M M (lb M) (sv (d:=.osl _ _ _) (agr hA M M)))) ?_
                  refine .cons (lop M M fun S hA=>(aD M M (lb M) (svaI hA M M))) ?_
                  refine .cons (lop M M fun S hA=>(aX aC.toEnc0 M M (lb M) underlying28 ti40 (sv (d:=.osl _ _ _) (agr hA M M)) M (svaI hA M M) hx330)) ?_
                  refine .cons (lop M M fun S hA=>(bW aC.toEnc0 (cs:=q9) M M (lb M) underlying40 ag40 ti40 (by decide) (svaR hA M M) (agi hA M M) hx331 (nle M) M)) ?_
                  refine .cons (lop M M fun S hA=>(aX aC.toEnc0 M M (lb M) underlying28 ti40 (sv (d:=.osl _ _ _) (agr hA M M)) M (svaI hA M M) hx332)) ?_
                  refine .cons (lop M M fun S hA=>(bR aC.toEnc0 (a':=x329) M M ti40 (svaR hA M M) (agi hA M M) (svaA q9 hA M M) M M M hx333 (nle M) M hx334)) ?_
                  refine .cons (lop M M fun S hA=>(aX aC.toEnc0 M M (lb M) underlying28 ti40 (sv (d:=.osl _ _ _) (agr hA M M)) (bV hx334 M) (svaI hA M M) hx335)) ?_
                  refine .cons (lop M M fun S hA=>(bR aC.toEnc0 (a':=x331) M M ti40 (svaR hA M M) (agi hA M M) (svaA q9 hA M M) M M M hx336 (nle M) M hx337)) ?_
                  exact .nil
                 obtain ⟨x338,hx338,h⟩:=aK h
                 refine aF (aA M (mvI M M M M)<|aA M (aQ M M (lb M) (svI M) (sv (d:=.int _ 1) M) M hx338)<|aA M (asI M M M M)<|aE ?_)
                 obtain ⟨x339,hx339,h⟩:=aK h
                 refine aS (aA M (mvI M M M M)<|aA M (aQ M M (lb M) (svI M) (sv (d:=.int _ 1) M) M hx339)<|aA M (asI M M M M)<|bE ?_)
                 refine bI ?_
                 refine aJ ⟨(n2,x337,x338,x339),(fun i=>i),⟨(.cons (.same (congrArg (D.osl _ _) (bV hx337 (bV hx334 M)).symm) M) (.sames M M)),(.cons (EntW.lst M) .nil),aY [1000] M (by decide),fun _ _=>M⟩,?_,?_⟩
                 exact h
                 exact Nat.lt_succ_self _

theorem nZ (a0:Int) (r:Int) (h:kR a0=some r):fS prog 83 [.int .i64 a0] (.int .u64 r):=by
 refine cR (rs:=[.int .u64 r]) func83 M ntmps83 (nle M) M fun O hO=>?_
 show IWP _ _ _ _ ⟨[(0,.int .i64 a0)],[]⟩ _
 unfold kR at h
 refine aF (aA M (aI M M (lb M) (sv (d:=.int _ 0) M))<|aE ?_)
 obtain ⟨x1,hx1,h⟩:=aK h
 obtain ⟨x2,hx2,h⟩:=aL h
 obtain ⟨x3,hx3,h⟩:=aL h
 refine aF (aA M (mvI M M M M)<|aA M (kX M M (lb M) ⟨_,underlying3⟩ underlying81 (svI M) hx1)<|aA M (bJ (r:=.int _ _) M M (lb M) cl39 (.cons (svI M) .nil) M (pN _ _ hx2))<|aA M (uQ M M (lb M) (sv (d:=.int _ 1) M) (svI M) hx3)<|aA M (asI M M M M)<|aE ?_)
 refine bB ?_
 obtain rfl:=sj_ h
 refine ⟨.inr M,(.cons (sv M) .nil)⟩

theorem nO (a0:Int) (r:(Int × Int)) (h:kK a0=some r):FnH prog 84 [.ref 1000 0] [(1000,.blk 118 [.int .u64 a0])] (.int .u64 r.1) [(1000,.blk 118 [.int .u64 r.2])]:=by
 refine cF (rs:=[.int .u64 r.1]) func84 M ntmps84 (nle M) fun O hO=>?_
 show IWP _ _ _ _ ⟨[(0,.ref 1000 0)],[(1000,.blk 118 [.int .u64 a0])]⟩ _
 unfold kK at h
 refine aF (aA M (aI M M (lb M) (sv (d:=.int _ 0) M))<|aE ?_)
 obtain ⟨x1,hx1,h⟩:=aL h
 obtain ⟨x2,hx2,h⟩:=aK h
 refine dN M [⟨[0],[],[(3,.ref 1000 0)],[]⟩,
  ⟨[3],[],[(4,.ref 1000 0)],[]⟩,
  ⟨[4],[1000],[(5,.int .u64 a0)],[]⟩,
  ⟨[0],[],[(6,.ref 1000 0)],[]⟩,
  ⟨[6],[],[(7,.ref 1000 0)],[]⟩,
  ⟨[7],[1000],[(8,.int .u64 a0)],[]⟩,
  ⟨[8],[],[(9,.int .u64 x1)],[]⟩,
  ⟨[5,9],[],[(10,.int .u64 x2)],[]⟩,
  ⟨[3],[],[(11,.ref 1000 0)],[]⟩,
  ⟨[10,11],[1000],[],[(1000,.blk 118 [.int .u64 x2])]⟩] M ?_ (by kernel_rfl) ?_
 ·refine .cons (lop M M fun S hA=>(aD M M (lb M) (svaR hA M M))) ?_
  refine .cons (lop M M fun S hA=>(aN M M (lb M) (svaR hA M M))) ?_
  refine .cons (lop M M fun S hA=>(aR (d:=.int _ _) M M (lb M) underlying118 wC rP (by decide) (svaR hA M M) (agi hA M M) (nle M) M)) ?_
  refine .cons (lop M M fun S hA=>(aD M M (lb M) (svaR hA M M))) ?_
  refine .cons (lop M M fun S hA=>(aN M M (lb M) (svaR hA M M))) ?_
  refine .cons (lop M M fun S hA=>(aR (d:=.int _ _) M M (lb M) underlying118 wC rP (by decide) (svaR hA M M) (agi hA M M) (nle M) M)) ?_
  refine .cons (lop M M fun S hA=>(uQ M M (lb M) (svaI hA M M) (sv (d:=.int _ 13) M) hx1)) ?_
  refine .cons (lop M M fun S hA=>(aQ M M (lb M) (svaI hA M M) (svaI hA M M) M hx2)) ?_
  refine .cons (lop M M fun S hA=>(aN M M (lb M) (svaR hA M M))) ?_
  refine .cons (lop M M fun S hA=>(fD (ds':=[.int _ _]) M M rP (svaR hA M M) (agi hA M M) (svaI hA M M) M M M (nle M) M)) ?_
  exact .nil
 obtain ⟨x3,hx3,h⟩:=aL h
 obtain ⟨x4,hx4,h⟩:=aK h
 refine dN M [⟨[0],[],[(12,.ref 1000 0)],[]⟩,
  ⟨[12],[],[(13,.ref 1000 0)],[]⟩,
  ⟨[13],[1000],[(14,.int .u64 x2)],[]⟩,
  ⟨[0],[],[(15,.ref 1000 0)],[]⟩,
  ⟨[15],[],[(16,.ref 1000 0)],[]⟩,
  ⟨[16],[1000],[(17,.int .u64 x2)],[]⟩,
  ⟨[17],[],[(18,.int .u64 x3)],[]⟩,
  ⟨[14,18],[],[(19,.int .u64 x4)],[]⟩,
  ⟨[12],[],[(20,.ref 1000 0)],[]⟩,
  ⟨[19,20],[1000],[],[(1000,.blk 118 [.int .u64 x4])]⟩] M ?_ (by kernel_rfl) ?_
 ·refine .cons (lop M M fun S hA=>(aD M M (lb M) (svaR hA M M))) ?_
  refine .cons (lop M M fun S hA=>(aN M M (lb M) (svaR hA M M))) ?_
  refine .cons (lop M M fun S hA=>(aR (d:=.int _ _) M M (lb M) underlying118 wC rP (by decide) (svaR hA M M) (agi hA M M) (nle M) M)) ?_
  refine .cons (lop M M fun S hA=>(aD M M (lb M) (svaR hA M M))) ?_
  refine .cons (lop M M fun S hA=>(aN M M (lb M) (svaR hA M M))) ?_
  refine .cons (lop M M fun S hA=>(aR (d:=.int _ _) M M (lb M) underlying118 wC rP (by decide) (svaR hA M M) (agi hA M M) (nle M) M)) ?_
  refine .cons (lop M M fun S hA=>(tA M M (lb M) (svaI hA M M) (sv (d:=.int _ 7) M) hx3)) ?_
  refine .cons (lop M M fun S hA=>(aQ M M (lb M) (svaI hA M M) (svaI hA M M) M hx4)) ?_
  refine .cons (lop M M fun S hA=>(aN M M (lb M) (svaR hA M M))) ?_
  refine .cons (lop M M fun S hA=>(fD (ds':=[.int _ _]) M M rP (svaR hA M M) (agi hA M M) (svaI hA M M) M M M (nle M) M)) ?_
  exact .nil
 obtain ⟨x5,hx5,h⟩:=aL h
 obtain ⟨x6,hx6,h⟩:=aK h
 refine dN M [⟨[0],[],[(21,.ref 1000 0)],[]⟩,
  ⟨[21],[],[(22,.ref 1000 0)],[]⟩,
  ⟨[22],[1000],[(23,.int .u64 x4)],[]⟩,
  ⟨[0],[],[(24,.ref 1000 0)],[]⟩,
  ⟨[24],[],[(25,.ref 1000 0)],[]⟩,
  ⟨[25],[1000],[(26,.int .u64 x4)],[]⟩,
  ⟨[26],[],[(27,.int .u64 x5)],[]⟩,
  ⟨[23,27],[],[(28,.int .u64 x6)],[]⟩,
  ⟨[21],[],[(29,.ref 1000 0)],[]⟩,
  ⟨[28,29],[1000],[],[(1000,.blk 118 [.int .u64 x6])]⟩] M ?_ (by kernel_rfl) ?_
 ·refine .cons (lop M M fun S hA=>(aD M M (lb M) (svaR hA M M))) ?_
  refine .cons (lop M M fun S hA=>(aN M M (lb M) (svaR hA M M))) ?_
  refine .cons (lop M M fun S hA=>(aR (d:=.int _ _) M M (lb M) underlying118 wC rP (by decide) (svaR hA M M) (agi hA M M) (nle M) M)) ?_
  refine .cons (lop M M fun S hA=>(aD M M (lb M) (svaR hA M M))) ?_
  refine .cons (lop M M fun S hA=>(aN M M (lb M) (svaR hA M M))) ?_
  refine .cons (lop M M fun S hA=>(aR (d:=.int _ _) M M (lb M) underlying118 wC rP (by decide) (svaR hA M M) (agi hA M M) (nle M) M)) ?_
  refine .cons (lop M M fun S hA=>(uQ M M (lb M) (svaI hA M M) (sv (d:=.int _ 17) M) hx5)) ?_
  refine .cons (lop M M fun S hA=>(aQ M M (lb M) (svaI hA M M) (svaI hA M M) M hx6)) ?_
  refine .cons (lop M M fun S hA=>(aN M M (lb M) (svaR hA M M))) ?_
  refine .cons (lop M M fun S hA=>(fD (ds':=[.int _ _]) M M rP (svaR hA M M) (agi hA M M) (svaI hA M M) M M M (nle M) M)) ?_
  exact .nil
 refine aF (aA M (mvR M M M M)<|aA M (aN M M (lb M) (svR M))<|aA M (aR (d:=.int _ _) M M (lb M) underlying118 wC rP (by decide) (svR M) M (nle M) M)<|aA M (asI M M M M)<|aE ?_)
 refine bB ?_
 obtain rfl:=sj_ h
 refine ⟨.inr M,(fun i=>i),⟨.nil,(.cons (.blk M M M) .nil),aY [1000] M (by decide),fun _ _=>M⟩,(.cons (sv M) .nil),M⟩

theorem kN (a0:Int) (a1:Int) (a2:(List aG)) (r:(List aG)) (h:fA a0 a1 a2=some r):FnH prog 59 [.osl 1000 aC.sz a2.length,.int .i64 a0,.int .i64 a1,.fn 27 []] [(1000,.blk 40 (D.flat (a2.map aC.d)))] (retD []) [(1000,.blk 40 (D.flat (r.map aC.d)))]:=by
 refine cF (rs:=[]) func59 M ntmps59 (nle M) fun O hO=>?_
 show IWP _ _ _ _ ⟨[(0,.osl 1000 aC.sz a2.length),(1,.int .i64 a0),(2,.int .i64 a1),(3,.fn 27 [])],[(1000,.blk 40 (D.flat (a2.map aC.d)))]⟩ _
 unfold fA at h
 obtain ⟨x1,hx1,h⟩:=aK h
 refine aF (aA M (mvI M M M M)<|aA M (mvI M M M M)<|aA M (aQ M M (lb M) (svI M) (svI M) M hx1)<|aA M (asI M M M M)<|aE ?_)
 obtain ⟨x2,hx2,h⟩:=aK h
 refine aF (aA M (mvI M M M M)<|aA M (aO M M (lb M) (svI M) (sv (d:=.int _ 8) M) M hx2)<|aE ?_)
 refine aW (b:=_) M (fun hc3=>?_) (fun hc3=>?_)
 ·
  replace h:=bX h hc3
  obtain ⟨x4,hx4,h⟩:=aK h
  refine aF (aA M (mvI M M M M)<|aA M (kX M M (lb M) ⟨_,underlying3⟩ underlying118 (svI M) hx4)<|aA M (gN (cs:=[.int _ _]) (cs':=[.int .u64 0]) 0 M M (lb M) M rP M M (.all _))<|aA M (fD (ds':=[.int _ _]) M M rP (svR M) M (svI M) M M M (nle M) M)<|aE ?_)
  obtain ⟨x5,hx5,h⟩:=aL h
  refine aF (aA M (mvI M M M M)<|aA M (bJ (r:=.int _ _) M M (lb M) cl83 (.cons (svI M) .nil) M (nZ _ _ hx5))<|aA M (asI M M M M)<|aE ?_)
  obtain ⟨x6,hx6,h⟩:=aL h
  obtain ⟨x7,hx7,h⟩:=aK h
  obtain ⟨x8,hx8,h⟩:=aK h
  obtain ⟨x9,hx9,h⟩:=aK h
  refine aF (aA M (mvI M M M M)<|aA M (mvI M M M M)<|aA M (lK M M (lb M) (svI M) (sv (d:=.int _ 4) M) hx6)<|aA M (aQ M M (lb M) (svI M) (sv (d:=.int _ 2) M) M hx7)<|aA M (aQ M M (lb M) (svI M) (svI M) M hx8)<|aA M (aQ M M (lb M) (svI M) (sv (d:=.int _ 1) M) M hx9)<|aA M (asI M M M M)<|aE ?_)
  refine aV ?_
  refine bS (α:=Nat × (List aG) × Int × Int) (fun z=>⟨[(0,.osl 1000 aC.sz z.2.1.length),(1,.int .i64 a0),(8,.int .i64 x1),(9,.ref 0 0),(10,.int .u64 x5),(11,.int .i64 z.2.2.1)],[(1000,.blk 40 (D.flat (z.2.1.map aC.d))),(0,.blk 118 [.int .u64 z.2.2.2])]⟩) (fun z=>cE a0 x1 x5 z.1 z.2.1 z.2.2.1 z.2.2.2=some r) (fun z=>z.1) (fuel,a2,x9,x4) (fun i=>i) ⟨(.sames M M),(.cons (EntW.lst M) (.cons (.blk M M M) .nil)),aY [1000,0] M (by decide),fun _ _=>M⟩ ?_ ?_
  ·exact h
  ·
   rintro ⟨n0,v40,v41,v42⟩ h
   cases n0 with
   | zero=>exact absurd h (by unfold cE; exact nofun)
   | succ n0 =>
    unfold cE at h
    refine aU ?_
    obtain ⟨x73,hx73,h⟩:=aL h
    obtain ⟨x74,hx74,h⟩:=aK h
    obtain ⟨x75,hx75,h⟩:=aK h
    obtain ⟨x76,hx76,h⟩:=aK h
    obtain ⟨x77,hx77,h⟩:=aK h
    refine aF (aA M (mvI M M M M)<|aA M (mvI M M M M)<|aA M (mvI M M M M)<|aA M (lK M M (lb M) (svI M) (sv (d:=.int _ 4) M) hx73)<|aA M (aQ M M (lb M) (svI M) (sv (d:=.int _ 2) M) M hx74)<|aA M (aQ M M (lb M) (svI M) (svI M) M hx75)<|aA M (aQ M M (lb M) (svI M) (sv (d:=.int _ 1) M) M hx76)<|aA M (aO M M (lb M) (svI M) (svI M) M hx77)<|aE ?_)
    refine aW (b:=_) M (fun hc78=>?_) (fun hc78=>?_)
    ·
     replace h:=bX h hc78
     refine aT ?_
     refine aJ ?_
     refine aU ?_
     refine aV ?_
     obtain ⟨x79,hx79,h⟩:=aL h
     obtain ⟨x80,hx80,h⟩:=aK h
     obtain ⟨x81,hx81,h⟩:=aK h
     obtain ⟨x82,hx82,h⟩:=aK h
     refine aF (aA M (bG (r':=.int .u64 x79.1) (H1':=[(0,.blk 118 [.int .u64 x79.2])]) 1 [0] M M (lb M) cl84 (.cons (svR M) .nil) M M ⟨M,M,by decide,M,List.forall_mem_cons.2 ⟨⟨M,M,M,M⟩,List.forall_mem_nil _⟩⟩ (nO _ _ hx79) M M (List.forall_mem_cons.2 ⟨⟨M,M⟩,List.forall_mem_nil _⟩) M)<|aA M (mvI M M M M)<|aA M (aQ M M (lb M) (svI M) (sv (d:=.int _ 1) M) M hx80)<|aA M (aQ M M (lb M) (svI M) (svI M) M hx81)<|aA M (kX M M (lb M) ⟨_,underlying81⟩ underlying3 (svI M) hx82)<|aA M (asI M M M M)<|aE ?_)
     refine fL (α:=Int) (fun z=>⟨[(0,.osl 1000 aC.sz v40.length),(1,.int .i64 a0),(8,.int .i64 x1),(9,.ref 0 0),(10,.int .u64 x5),(11,.int .i64 v41),(12,.int .i64 z)],[(1000,.blk 40 (D.flat (v40.map aC.d))),(0,.blk 118 [.int .u64 x79.2])]⟩) (fun z=>dZ a0 v40 v41 (cE a0 x1 x5 n0) x79 z=some r) ?_ ?_
     ·
      obtain ⟨x100,hx100,h⟩:=aK h
      refine aF (aA M (mvI M M M M)<|aA M (mvI M M M M)<|aA M (aO M M (lb M) (svI M) (svI M) M hx100)<|aE ?_)
      refine aW (b:=_) M (fun hc101=>?_) (fun hc101=>?_)
      ·
       replace h:=bX h hc101
       obtain ⟨x102,hx102,h⟩:=aK h
       refine aS (aA M (mvI M M M M)<|aA M (mvI M M M M)<|aA M (aQ M M (lb M) (svI M) (svI M) M hx102)<|aA M (asI M M M M)<|bE ?_)
       refine aJ ⟨x102,(fun i=>i),⟨(.sames M M),(.cons (EntW.lst M) (.cons (.blk M M M) .nil)),aY [1000,0] M (by decide),fun _ _=>M⟩,?_⟩
       exact h
      ·
       replace h:=bY h hc101
       refine aT ?_
       refine aJ ⟨x82,(fun i=>i),⟨(.sames M M),(.cons (EntW.lst M) (.cons (.blk M M M) .nil)),aY [1000,0] M (by decide),fun _ _=>M⟩,?_⟩
       exact h
     ·
      rintro v86 h
      unfold dZ at h
      obtain ⟨x87,hx87,h⟩:=aK h
      obtain ⟨x88,hx88,h⟩:=aK h
      obtain ⟨x89,hx89,h⟩:=aL h
      obtain ⟨x90,hx90,h⟩:=aL h
      obtain ⟨x91,hx91,h⟩:=aL h
      obtain ⟨x92,hx92,h⟩:=aL h
      obtain ⟨x93,hx93,h⟩:=aL h
      obtain ⟨x94,hx94,h⟩:=aL h
      obtain ⟨x95,hx95,h⟩:=aK h
      obtain ⟨x96,hx96,h⟩:=aL h
      obtain ⟨x97,hx97,h⟩:=aL h
      obtain ⟨x98,hx98,h⟩:=aK h
      refine iM M [⟨[0],[],[(49,.osl 1000 aC.sz v40.length)],[]⟩,
       ⟨[11],[],[(50,.int .i64 v41)],[]⟩,
       ⟨[0],[],[(51,.osl 1000 aC.sz v40.length)],[]⟩,
       ⟨[1],[],[(52,.int .i64 a0)],[]⟩,
       ⟨[12],[],[(53,.int .i64 v86)],[]⟩,
       ⟨[52,53],[],[(54,.int .i64 x87)],[]⟩,
       ⟨[0],[],[(55,.osl 1000 aC.sz v40.length)],[]⟩,
       ⟨[1],[],[(56,.int .i64 a0)],[]⟩,
       ⟨[12],[],[(57,.int .i64 v86)],[]⟩,
       ⟨[56,57],[],[(58,.int .i64 x88)],[]⟩,
       ⟨[55,58],[],[(59,.ref 1000 (((x88:Int).toNat) * aC.sz + 0))],[]⟩,
       ⟨[59],[1000],[(60,.agg (v2 x90))],[]⟩,
       ⟨[0],[],[(61,.osl 1000 aC.sz v40.length)],[]⟩,
       ⟨[11],[],[(62,.int .i64 v41)],[]⟩,
       ⟨[61,62],[],[(63,.ref 1000 (((v41:Int).toNat) * aC.sz + 0))],[]⟩,
       ⟨[63],[1000],[(64,.agg (v2 x92))],[]⟩,
       ⟨[49,50],[],[(65,.ref 1000 (((v41:Int).toNat) * aC.sz + 0))],[]⟩,
       ⟨[60,65],[1000],[],[(1000,.blk 40 (D.flat (x95.map aC.d)))]⟩,
       ⟨[51,54],[],[(66,.ref 1000 (((x87:Int).toNat) * aC.sz + 0))],[]⟩,
       ⟨[64,66],[1000],[],[(1000,.blk 40 (D.flat (x98.map aC.d)))]⟩] M ?_ (by kernel_rfl) ?_
      ·refine .cons (lop M M fun S hA=>(aD M M (lb M) (sv (d:=.osl _ _ _) (agr hA M M)))) ?_
       refine .cons (lop M M fun S hA=>(aD M M (lb M) (svaI hA M M))) ?_
       refine .cons (lop M M fun S hA=>(aD M M (lb M) (sv (d:=.osl _ _ _) (agr hA M M)))) ?_
       refine .cons (lop M M fun S hA=>(aD M M (lb M) (svaI hA M M))) ?_
       refine .cons (lop M M fun S hA=>(aD M M (lb M) (svaI hA M M))) ?_
       refine .cons (lop M M fun S hA=>(aQ M M (lb M) (svaI hA M M) (svaI hA M M) M hx87)) ?_
       refine .cons (lop M M fun S hA=>(aD M M (lb M) (sv (d:=.osl _ _ _) (agr hA M M)))) ?_
       refine .cons (lop M M fun S hA=>(aD M M (lb M) (svaI hA M M))) ?_
       refine .cons (lop M M fun S hA=>(aD M M (lb M) (svaI hA M M))) ?_
       refine .cons (lop M M fun S hA=>(aQ M M (lb M) (svaI hA M M) (svaI hA M M) M hx88)) ?_
       refine .cons (lop M M fun S hA=>(aX aC.toEnc0 M M (lb M) underlying28 ti40 (sv (d:=.osl _ _ _) (agr hA M M)) M (svaI hA M M) hx89)) ?_
       refine .cons (lop M M fun S hA=>(bW aC.toEnc0 (cs:=q9) M M (lb M) underlying40 ag40 ti40 (by decide) (svaR hA M M) (agi hA M M) hx90 (nle M) M)) ?_
       refine .cons (lop M M fun S hA=>(aD M M (lb M) (sv (d:=.osl _ _ _) (agr hA M M)))) ?_
       refine .cons (lop M M fun S hA=>(aD M M (lb M) (svaI hA M M))) ?_
       refine .cons (lop M M fun S hA=>(aX aC.toEnc0 M M (lb M) underlying28 ti40 (sv (d:=.osl _ _ _) (agr hA M M)) M (svaI hA M M) hx91)) ?_
       refine .cons (lop M M fun S hA=>(bW aC.toEnc0 (cs:=q9) M M (lb M) underlying40 ag40 ti40 (by decide) (svaR hA M M) (agi hA M M) hx92 (nle M) M)) ?_
       refine .cons (lop M M fun S hA=>(aX aC.toEnc0 M M (lb M) underlying28 ti40 (sv (d:=.osl _ _ _) (agr hA M M)) M (svaI hA M M) hx93)) ?_
       refine .cons (lop M M fun S hA=>(bR aC.toEnc0 (a':=x90) M M ti40 (svaR hA M M) (agi hA M M) (svaA q9 hA M M) M M M hx94 (nle M) M hx95)) ?_
       refine .cons (lop M M fun S hA=>(aX aC.toEnc0 M M (lb M) underlying28 ti40 (sv (d:=.osl _ _ _) (agr hA M M)) (bV hx95 M) (svaI hA M M) hx96)) ?_
       refine .cons (lop M M fun S hA=>(bR aC.toEnc0 (a':=x92) M M ti40 (svaR hA M M) (agi hA M M) (svaA q9 hA M M) M M M hx97 (nle M) M hx98)) ?_
       exact .nil
      refine bI ?_
      refine aJ ?_
      obtain ⟨x99,hx99,h⟩:=aK h
      refine aS (aA M (mvI M M M M)<|aA M (aQ M M (lb M) (svI M) (sv (d:=.int _ 1) M) M hx99)<|aA M (asI M M M M)<|bE ?_)
      refine aJ ⟨(n0,x98,x99,x79.2),(fun i=>i),⟨(.cons (.same (congrArg (D.osl _ _) (bV hx98 (bV hx95 M)).symm) M) (.sames M M)),(.cons (EntW.lst M) (.cons (.blk M M M) .nil)),aY [1000,0] M (by decide),fun _ _=>M⟩,?_,?_⟩
      exact h
      exact Nat.lt_succ_self _
    ·
     replace h:=bY h hc78
     refine cA ?_
     refine bD ?_
     refine bD ?_
     refine cC ?_
     obtain rfl:=sj_ h
     refine ⟨.inl M,(fun i=>i),⟨.nil,(.cons (EntW.lst M) .nil),aY [1000] M (by decide),fun _ _=>M⟩,.nil,M⟩
 ·
  replace h:=bY h hc3
  refine aT ?_
  obtain rfl:=sj_ h
  refine ⟨.inl M,(fun i=>i),⟨.nil,(.cons (EntW.lst M) .nil),aY [1000] M (by decide),fun _ _=>M⟩,.nil,M⟩
end Go.Proofs.Ytdnjagkihgjpcaa
