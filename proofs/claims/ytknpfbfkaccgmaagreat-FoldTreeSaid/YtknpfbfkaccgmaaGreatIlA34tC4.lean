/-
  A part of the proof: rules and plain facts. No condition.
-/
import Derived.Test.YtknpfbfkaccgmaaGreatProg
import Derived.KernelRfl
import Derived.Test.YtknpfbfkaccgmaaGreatIlPn
import Derived.Test.YtknpfbfkaccgmaaGreatIlA34tD
import Derived.Test.YtknpfbfkaccgmaaGreatIlIt34t
import Derived.Test.YtknpfbfkaccgmaaGreatIlA34tC3
set_option linter.all false
set_option maxRecDepth 8000
set_option maxHeartbeats 2000000
open Go Go.IL Go.Fn Go.Proofs
open Go.Proofs.Tryz
namespace Go.Proofs.YtknpfbfkaccgmaaGreat
theorem ti34:TI prog 34 (some (.agg #[.int .u8 0,.int .i64 0,.int .i64 0,.int .i64 0,.bool false])) 5 40:=by unfold TI; kernel_rfl
theorem ti67:TI prog 67 (some (.agg #[.int .i64 0,.int .i64 0,.slice none 0 0,.int .i64 0,.int .i64 0,.int .i64 0,.int .i64 0,.int .i64 0,.int .i64 0,.int .i64 0,.bool false,.int .i64 0,.int .i64 0,.int .i64 0,.int .i64 0,.int .i64 0,.bool false,.int .i64 0,.int .i64 0,.int .i64 0,.int .i64 0,.int .i64 0,.bool false,.int .i64 0,.int .i64 0,.int .i64 0,.int .i64 0,.int .i64 0,.bool false,.int .i64 0,.int .i64 0,.int .i64 0,.int .i64 0,.int .i64 0,.bool false,.int .i64 0,.int .i64 0,.int .i64 0,.int .i64 0,.int .i64 0,.bool false,.int .i64 0,.int .i64 0,.int .i64 0,.int .i64 0,.int .i64 0,.bool false,.int .i64 0,.int .i64 0,.int .i64 0,.int .i64 0,.int .i64 0,.bool false,.int .i64 0,.int .i64 0,.int .i64 0,.int .i64 0,.int .i64 0,.bool false,.int .i64 0,.int .i64 0,.int .i64 0,.int .i64 0,.int .i64 0,.bool false,.int .i64 0,.int .i64 0,.int .i64 0,.int .i64 0,.int .i64 0,.bool false,.int .i64 0,.int .i64 0,.int .i64 0,.int .i64 0,.int .i64 0,.bool false,.int .i64 0,.int .i64 0,.int .i64 0,.int .i64 0,.int .i64 0,.bool false,.int .i64 0,.int .i64 0,.int .i64 0,.int .i64 0,.int .i64 0,.bool false,.int .i64 0,.int .i64 0,.int .i64 0,.int .i64 0,.int .i64 0,.bool false,.int .i64 0,.int .i64 0,.int .i64 0,.int .i64 0,.int .i64 0,.bool false,.int .i64 0,.int .i64 0,.int .i64 0,.int .i64 0,.int .i64 0,.bool false,.int .i64 0,.int .i64 0,.int .i64 0,.int .i64 0,.int .i64 0,.bool false,.int .i64 0,.int .i64 0,.int .i64 0,.int .i64 0,.int .i64 0,.bool false,.int .i64 0,.int .i64 0,.int .i64 0,.int .i64 0,.int .i64 0,.bool false,.int .i64 0,.int .i64 0,.int .i64 0,.int .i64 0,.int .i64 0,.bool false,.int .i64 0,.int .i64 0,.int .i64 0,.int .i64 0,.int .i64 0,.bool false,.int .i64 0,.int .i64 0,.int .i64 0,.int .i64 0,.int .i64 0,.bool false,.int .i64 0,.int .i64 0,.int .i64 0,.int .i64 0,.int .i64 0,.bool false,.int .i64 0,.int .i64 0,.int .i64 0,.int .i64 0,.int .i64 0,.bool false,.int .i64 0,.int .i64 0,.int .i64 0,.int .i64 0,.int .i64 0,.bool false,.int .i64 0,.int .i64 0,.int .i64 0,.int .i64 0,.int .i64 0,.bool false,.int .i64 0,.int .i64 0,.int .i64 0,.int .i64 0,.int .i64 0,.bool false,.int .i64 0,.int .i64 0,.int .i64 0,.int .i64 0,.int .i64 0,.bool false,.int .i64 0,.int .i64 0,.int .i64 0,.int .i64 0,.int .i64 0,.bool false,.int .i64 0,.int .i64 0,.int .i64 0,.int .i64 0,.int .i64 0,.bool false,.int .i64 0,.int .i64 0,.int .i64 0,.int .i64 0,.int .i64 0,.bool false,.int .i64 0,.int .i64 0,.int .i64 0,.int .i64 0,.int .i64 0,.bool false,.int .i64 0,.int .i64 0,.int .i64 0,.int .i64 0,.int .i64 0,.bool false,.int .i64 0,.int .i64 0,.int .i64 0,.int .i64 0,.int .i64 0,.bool false,.int .i64 0,.int .i64 0,.int .i64 0,.int .i64 0,.int .i64 0,.bool false,.int .i64 0,.int .i64 0,.int .i64 0,.int .i64 0,.int .i64 0,.bool false,.int .i64 0,.int .i64 0,.int .i64 0,.int .i64 0,.int .i64 0,.bool false,.int .i64 0,.int .i64 0,.int .i64 0,.int .i64 0,.int .i64 0,.bool false,.int .i64 0,.int .i64 0,.int .i64 0,.int .i64 0,.int .i64 0,.bool false,.int .i64 0,.int .i64 0,.int .i64 0,.int .i64 0,.int .i64 0,.bool false,.int .i64 0,.int .i64 0,.int .i64 0,.int .i64 0,.int .i64 0,.bool false,.int .i64 0,.int .i64 0,.int .i64 0,.int .i64 0,.int .i64 0,.bool false,.int .i64 0,.int .i64 0,.int .i64 0,.int .i64 0,.int .i64 0,.bool false,.int .i64 0,.int .i64 0,.int .i64 0,.int .i64 0,.int .i64 0,.bool false,.int .i64 0,.int .i64 0,.int .i64 0,.int .i64 0,.int .i64 0,.bool false,.int .i64 0,.int .i64 0,.int .i64 0,.int .i64 0,.int .i64 0,.bool false,.int .i64 0,.int .i64 0,.int .i64 0,.int .i64 0,.int .i64 0,.bool false,.int .i64 0,.int .i64 0,.int .i64 0,.int .i64 0,.int .i64 0,.bool false,.int .i64 0,.int .i64 0,.int .i64 0,.int .i64 0,.int .i64 0,.bool false,.int .i64 0,.int .i64 0,.int .i64 0,.int .i64 0,.int .i64 0,.bool false,.int .i64 0,.int .i64 0,.int .i64 0,.int .i64 0,.int .i64 0,.bool false,.int .i64 0,.int .i64 0,.int .i64 0,.int .i64 0,.int .i64 0,.bool false,.int .i64 0,.int .i64 0,.int .i64 0,.int .i64 0,.int .i64 0,.bool false,.int .i64 0,.int .i64 0,.int .i64 0,.int .i64 0,.int .i64 0,.bool false,.int .i64 0,.int .i64 0,.int .i64 0,.int .i64 0,.int .i64 0,.bool false,.int .i64 0,.int .i64 0,.int .i64 0,.int .i64 0,.int .i64 0,.bool false,.int .i64 0,.int .i64 0,.int .i64 0,.int .i64 0,.int .i64 0,.bool false,.int .i64 0,.int .i64 0,.int .i64 0,.int .i64 0,.int .i64 0,.bool false,.int .i64 0,.int .i64 0,.int .i64 0,.int .i64 0,.int .i64 0,.bool false,.int .i64 0,.int .i64 0,.int .i64 0,.int .i64 0,.int .i64 0,.bool false,.int .i64 0,.int .i64 0,.int .i64 0,.int .i64 0,.int .i64 0,.bool false,.int .i64 0,.int .i64 0,.int .i64 0,.int .i64 0,.int .i64 0,.bool false,.int .i64 0,.int .i64 0,.int .i64 0,.int .i64 0,.int .i64 0,.bool false,.int .i64 0,.slice none 0 0])) 391 3160:=by unfold TI; kernel_rfl
theorem ti82:TI prog 82 (some (.agg #[.int .i64 0,.int .i64 0,.int .i64 0,.bool false])) 4 32:=by unfold TI; kernel_rfl
theorem ag34:kM prog 34=true:=by kernel_rfl
theorem ag64:kM prog 64=true:=by kernel_rfl
theorem ag75:kM prog 75=true:=by kernel_rfl
theorem ag82:kM prog 82=true:=by kernel_rfl
theorem pl64:∀ w,(Array.mapM (m:=Sem) (fun (f:Field)=>Functor.map (Prod.mk f.offset) (sizeOf f.type)) (fieldsOf prog 64)).run prog w = .ok #[(0,1),(1,1),(2,1),(3,1),(4,1),(5,1)] w:=fun w=>by kernel_rfl
theorem pl67:∀ w,(Array.mapM (m:=Sem) (fun (f:Field)=>Functor.map (Prod.mk f.offset) (sizeOf f.type)) (fieldsOf prog 67)).run prog w = .ok #[(0,1),(1,1),(2,3),(5,384),(389,1),(390,1)] w:=fun w=>by kernel_rfl
theorem st82:prog.stoodInHeld 82=false ∧ prog.eqGuardType prog.depth 82=false:=⟨by kernel_rfl,by kernel_rfl⟩
theorem cl4:bI prog 4:=⟨f4,func4,rfl,rfl⟩
theorem cl5:bI prog 5:=⟨f5,func5,rfl,rfl⟩
theorem cl7:bI prog 7:=⟨f7,func7,rfl,rfl⟩
theorem cl8:bI prog 8:=⟨f8,func8,rfl,rfl⟩
theorem cl9:bI prog 9:=⟨f9,func9,rfl,rfl⟩
theorem cl10:bI prog 10:=⟨f10,func10,rfl,rfl⟩
theorem cl12:bI prog 12:=⟨f12,func12,rfl,rfl⟩
theorem cl13:bI prog 13:=⟨f13,func13,rfl,rfl⟩
theorem cl14:bI prog 14:=⟨f14,func14,rfl,rfl⟩
theorem cl16:bI prog 16:=⟨f16,func16,rfl,rfl⟩
theorem cl24:bI prog 24:=⟨f24,func24,rfl,rfl⟩
theorem cl30:bI prog 30:=⟨f30,func30,rfl,rfl⟩
theorem cl32:bI prog 32:=⟨f32,func32,rfl,rfl⟩
theorem cl33:bI prog 33:=⟨f33,func33,rfl,rfl⟩
theorem cl34:bI prog 34:=⟨f34,func34,rfl,rfl⟩
theorem cl41:bI prog 41:=⟨f41,func41,rfl,rfl⟩
theorem cl42:bI prog 42:=⟨f42,func42,rfl,rfl⟩
theorem cl61:bI prog 61:=⟨f61,func61,rfl,rfl⟩
theorem cl62:bI prog 62:=⟨f62,func62,rfl,rfl⟩
def la34:=LA.mk underlying34 ag34 ti34 (by decide)
def la75:=LA.mk underlying75 ag75 ti75 (by decide)


theorem oC (a0:Int) (a1:gE) (a2:Int) (a3:Int) (a4:(List aK)) (a5:Int) (a6:Int) (a7:(List aJ)) (a8:Int) (a9:(List Int)) (r:(Int × Int × Int × (List aK) × Int × Int × (List aJ) × Int × (List Int))) (h:iO a0 a1 a2 a3 a4 a5 a6 a7 a8 a9=some r):FnH prog 32 [.ref 1000 0,.int .i64 a0,.agg (v5 a1)] [(1000,.blk 67 (mixD aB.toEnc0 (w26 a2 a3 a4 a5 a6) a7 [.int .i64 a8,.osl 1001 (eInt .i64).sz a9.length])),(1001,.blk 3 (D.flat (a9.map (eInt .i64).d)))] (.int .i64 r.1) [(1000,.blk 67 (mixD aB.toEnc0 (w26 r.2.1 r.2.2.1 r.2.2.2.1 r.2.2.2.2.1 r.2.2.2.2.2.1) r.2.2.2.2.2.2.1 [.int .i64 r.2.2.2.2.2.2.2.1,.osl 0 (eInt .i64).sz r.2.2.2.2.2.2.2.2.length])),(0,.blk 3 (D.flat (r.2.2.2.2.2.2.2.2.map (eInt .i64).d)))]:=by
 refine dB (rs:=[.int .i64 r.1]) func32 M ntmps32 (nle M) fun O hO=>?_
 show IWP _ _ _ _ ⟨[(0,.ref 1000 0),(1,.int .i64 a0),(2,.agg (v5 a1))],[(1000,.blk 67 (mixD aB.toEnc0 (w26 a2 a3 a4 a5 a6) a7 [.int .i64 a8,.osl 1001 (eInt .i64).sz a9.length])),(1001,.blk 3 (D.flat (a9.map (eInt .i64).d)))]⟩ _
 unfold iO at h
 refine aF (aA M (cK (cs:=q16) 0 M M (lb M) M (svA q16 M) M M)<|aA M (aG M M (lb M) (sv (d:=.int _ 0) M))<|aD ?_)
 refine mN (α:=Int × Int × (List aK) × Int × Int × (List aJ) × Int × (List Int)) (fun z=>⟨[(0,.ref 1000 0),(1,.int .i64 a0),(5,.ref 0 0)],[(1000,.blk 67 (mixD aB.toEnc0 (w26 z.1 z.2.1 z.2.2.1 z.2.2.2.1 z.2.2.2.2.1) z.2.2.2.2.2.1 [.int .i64 z.2.2.2.2.2.2.1,.osl 1 (eInt .i64).sz z.2.2.2.2.2.2.2.length])),(0,.blk 75 (v5 a1)),(1,.blk 3 (D.flat (z.2.2.2.2.2.2.2.map (eInt .i64).d)))]⟩) (fun z=>fV a0 a1 z.1 z.2.1 z.2.2.1 z.2.2.2.1 z.2.2.2.2.1 z.2.2.2.2.2.1 z.2.2.2.2.2.2.1 z.2.2.2.2.2.2.2=some r) ?_ ?_
 ·
  obtain ⟨x27,hx27,h⟩:=aX h
  obtain ⟨x28,hx28,h⟩:=bC h
  refine iR M [⟨[0],[],[(10,.ref 1000 0)],[]⟩,
   ⟨[10],[1000,1001],[(11,.int .i64 x27)],[]⟩,
   ⟨[0],[],[(12,.ref 1000 0)],[]⟩,
   ⟨[12],[],[(13,.ref 1000 0)],[]⟩,
   ⟨[13],[],[(14,.ref 1000 0)],[]⟩,
   ⟨[14],[1000],[(15,.int .i64 a2)],[]⟩,
   ⟨[11,15],[],[(16,.bool x28)],[]⟩] M ?_ (by kernel_rfl) ?_
  ·refine .cons (lop M M fun S hA=>(aO M M (lb M) (svaR hA M M))) ?_
   refine .cons (lop M M fun S hA=>(mH (r':=.int .i64 x27) (V:=[(1000,.blk 67 (mixD aB.toEnc0 (w26 a2 a3 a4 a5 a6) a7 [.int .i64 a8,.osl 1001 (eInt .i64).sz a9.length])),(1001,.blk 3 (D.flat (a9.map (eInt .i64).d)))]) 1 [1000,1001] M M (lb M) cl61 (.cons (svaR hA M M) .nil) M M M ⟨by decide,M,List.forall_mem_cons.2 ⟨⟨M,M,(mT aB (agi hA M M) M M),(eA aB M M)⟩,List.forall_mem_cons.2 ⟨⟨M,M,(iF (eInt .i64) (agi hA M M)),(bP (eInt .i64))⟩,List.forall_mem_nil _⟩⟩⟩ (sM _ _ _ _ _ _ _ _ _ hx27) M M (List.forall_mem_cons.2 ⟨⟨M,(eA aB M M)⟩,List.forall_mem_cons.2 ⟨⟨M,(bP (eInt .i64))⟩,List.forall_mem_nil _⟩⟩) (by simp only [List.map_cons,List.map_nil,Ent.ren,bT,cE,eL]; rfl) (List.forall_mem_cons.2 ⟨(agi hA M M),List.forall_mem_cons.2 ⟨(agi hA M M),List.forall_mem_nil _⟩⟩) M)) ?_
   refine .cons (lop M M fun S hA=>(aO M M (lb M) (svaR hA M M))) ?_
   refine .cons (lop M M fun S hA=>(aL M M (lb M) (svaR hA M M))) ?_
   refine .cons (lop M M fun S hA=>(aP M M (lb M) underlying67 M ti3 (by decide) (svaR hA M M) (off':=0) M)) ?_
   refine .cons (lop M M fun S hA=>(sB aB.toEnc0 (d:=.int _ _) M M (lb M) underlying3 ag3 ti3 (by decide) (svaR hA M M) (agi hA M M) (nle M) (by rfl))) ?_
   refine .cons (lop M M fun S hA=>(aQ M M (lb M) (svaI hA M M) (svaI hA M M) M hx28)) ?_
   exact .nil
  refine aR (b:=_) M (fun hc29=>?_) (fun hc29=>?_)
  ·
   replace h:=cA h hc29
   refine aT ?_
   obtain ⟨hk30,h⟩:=oZ h
   obtain ⟨x31,hx31,h⟩:=bC h
   refine aF (aA M (mvR M M M M)<|aA M (aL M M (lb M) (svR M))<|aA M (faR 390 M M M underlying67 M ti30 (lb M) M M)<|aA M (iD aB.toEnc0 (d:=.osl _ _ _) (n:=64) (k:=1) M M (lb M) underlying30 ag30 ti30 (by decide) (svR M) M hk30 (by rfl) (nle M) (by rfl))<|aA M (kV M M (lb M) underlying30 (sv (d:=.osl _ _ _) M))<|aA M (aQ M M (lb M) (svI M) (sv (d:=.int _ 0) M) M hx31)<|aD ?_)
   refine aR (b:=_) M (fun hc32=>?_) (fun hc32=>?_)
   ·
    replace h:=cA h hc32
    refine aF (aA M (aG M M (lb M) (sv (d:=.int _ 7) M))<|aD ?_)
    refine aY ?_
    refine bG ?_
    refine bG ?_
    obtain rfl:=sj_ h
    refine ⟨.inr M,(fun i=>if i=0 then 1001 else i),⟨.nil,(.cons (EntW.mix aB M (SubC.of_eq M) (SubC.of_eq M) M M) (.cons (EntW.lst M) .nil)),bE [1000,1001] M (by decide),(fun i hi=>by first | rfl | (show (if _ then _ else _)=_; (repeat' split) <;> omega))⟩,(.cons (sv M) .nil),M⟩
   ·
    replace h:=cB h hc32
    refine aS ?_
    refine aM ?_
    obtain ⟨x33,hx33,h⟩:=aX h
    obtain ⟨x34,hx34,h⟩:=aX h
    obtain ⟨x35,hx35,h⟩:=aX h
    refine bA (aA M (mvR M M M M)<|aA M (mvR M M M M)<|aA M (aL M M (lb M) (svR M))<|aA M (faR 390 M M M underlying67 M ti30 (lb M) M M)<|aA M (iD aB.toEnc0 (d:=.osl _ _ _) (n:=64) (k:=1) M M (lb M) underlying30 ag30 ti30 (by decide) (svR M) M hk30 (by rfl) (nle M) (by rfl))<|aA M (fY (eInt .i64).toEnc0 M M (lb M) underlying30 ti3 (sv (d:=.osl _ _ _) M) M (sv (d:=.int _ 0) M) hx33)<|aA M (fP (eInt .i64).toEnc0 (d:=.int _ _) M M (lb M) underlying3 ag3 ti3 (by decide) (svR M) M hx34 (nle M) M)<|aA M (cQ (r':=.tuple []) (H1':=[(1000,.blk 67 (mixD aB.toEnc0 (w26 x35.1 x35.2.1 x35.2.2.1 x35.2.2.2.1 x35.2.2.2.2.1) x35.2.2.2.2.2.1 [.int .i64 x35.2.2.2.2.2.2.1,.osl 1 (eInt .i64).sz x35.2.2.2.2.2.2.2.length])),(1,.blk 3 (D.flat (x35.2.2.2.2.2.2.2.map (eInt .i64).d)))]) 1 [1000,1001] M M (lb M) cl34 (.cons (svR M) (.cons (svI M) .nil)) M M ⟨M,M,by decide,M,List.forall_mem_cons.2 ⟨⟨M,M,(mT aB M M M),(eA aB M M)⟩,List.forall_mem_cons.2 ⟨⟨M,M,(iF (eInt .i64) M),(bP (eInt .i64))⟩,List.forall_mem_nil _⟩⟩⟩ (nM _ _ _ _ _ _ _ _ _ _ hx35) M M (List.forall_mem_cons.2 ⟨⟨M,(eA aB M M)⟩,List.forall_mem_cons.2 ⟨⟨M,(bP (eInt .i64))⟩,List.forall_mem_nil _⟩⟩) (by simp only [List.map_cons,List.map_nil,Ent.ren,bT,cE,eL]; rfl))<|bL ?_)
    refine aM ⟨(x35.1,x35.2.1,x35.2.2.1,x35.2.2.2.1,x35.2.2.2.2.1,x35.2.2.2.2.2.1,x35.2.2.2.2.2.2.1,x35.2.2.2.2.2.2.2),(fun i=>i),⟨(.sames M M),(.cons (EntW.mix aB M (SubC.of_eq M) (SubC.of_eq M) M M) (.cons (.blk M M M) (.cons (EntW.lst M) .nil))),bE [1000,0,1] M (by decide),fun _ _=>M⟩,?_⟩
    exact h
  ·
   replace h:=cB h hc29
   refine aS ?_
   refine aM ⟨(a2,a3,a4,a5,a6,a7,a8,a9),(fun i=>if i=1 then 1001 else i),⟨(.sames M M),(.cons (EntW.mix aB M (SubC.of_eq M) (SubC.of_eq M) M M) (.cons (.blk M M M) (.cons (EntW.lst M) .nil))),bE [1000,0,1001] M (by decide),(fun i hi=>by first | rfl | (show (if _ then _ else _)=_; (repeat' split) <;> omega))⟩,?_⟩
   exact h
 ·
  rintro ⟨v10,v11,v12,v13,v14,v15,v16,v17⟩ h
  unfold fV at h
  obtain ⟨x18,hx18,h⟩:=aX h
  refine aF (aA M (mvR M M M M)<|aA M (aL M M (lb M) (svR M))<|aA M (faR 2 M M M underlying67 M ti61 (lb M) M M)<|aA M (oW aB.toEnc0 (cs:=q13) M M (lb M) underlying61 ag61 ti61 (by decide) (svR M) M (nle M) (by rfl))<|aA M (mvI M M M M)<|aA M (bU (r:=.tuple q22) M M (lb M) cl62 (.cons (svA q13 M) (.cons (svI M) .nil)) M (zV _ _ _ hx18))<|aA M (aO M M (lb M) (sv (d:=.tuple q22) M))<|aA M (bQ (d:=.agg q13) M M (lb M) (sv (d:=.tuple q22) M) M)<|aA M (bQ (d:=.int _ _) M M (lb M) (sv (d:=.tuple q22) M) M)<|aA M (bQ (d:=.int _ _) M M (lb M) (sv (d:=.tuple q22) M) M)<|aA M (cT (cs:=q18) (cs':=[.slice false (([]:List aK).map aZ.d),.int .i64 0,.int .i64 0]) 2 M M (lb M) M ti61 M M (.cons (.nils _) (.all _)))<|aA M (stA q13 q13 ti61 M M M M M M M M (nle M) M)<|aA M (asI M M M M)<|aA M (asI M M M M)<|aD ?_)
  refine aT ?_
  obtain ⟨x19,hx19,h⟩:=bC h
  refine aF (aA M (mvI M M M M)<|aA M (aQ M M (lb M) (svI M) (sv (d:=.int _ 0) M) M hx19)<|aD ?_)
  refine aR (b:=_) M (fun hc20=>?_) (fun hc20=>?_)
  ·
   replace h:=cA h hc20
   refine aF (aA M (mvI M M M M)<|aA M (asI M M M M)<|aD ?_)
   refine aY ?_
   refine bG ?_
   obtain rfl:=sj_ h
   refine ⟨.inr M,(fun i=>if i=0 then 1 else i),⟨.nil,(.cons (EntW.mix aB M (SubC.of_eq M) (SubC.of_eq M) M M) (.cons (EntW.lst M) .nil)),bE [1000,1] M (by decide),(fun i hi=>by first | rfl | (show (if _ then _ else _)=_; (repeat' split) <;> omega))⟩,(.cons (sv M) .nil),M⟩
  ·
   replace h:=cB h hc20
   refine aS ?_
   refine aM ?_
   refine aF (aA M (mvR M M M M)<|aA M (lra q13 la61 M M M M M (nle M) M)<|aA M (aL M M (lb M) (svR M))<|aA M (faR 2 M M M underlying67 M ti61 (lb M) M M)<|aA M (tS aB.toEnc0 (pre:=q7) (pre':=q7) M M ti61 (svR M) M (svA q13 M) M M M (nle M) M)<|aD ?_)
   obtain ⟨x21,hx21,h⟩:=aX h
   obtain ⟨hk22,h⟩:=oZ h
   obtain ⟨x23,hx23,h⟩:=aX h
   obtain ⟨x24,hx24,h⟩:=bC h
   refine aF (aA M (mvR M M M M)<|aA M (mvI M M M M)<|aA M (mvI M M M M)<|aA M (cJ (cs:=q6) M M (lb M) underlying64 ti64 pl64 M (.cons (svI M) (.cons (sv (d:=.int _ (-1)) M) (.cons (sv (d:=.int _ (-1)) M) (.cons (sv (d:=.int _ 16) M) .nil)))) M)<|aA M (aL M M (lb M) (svR M))<|aA M (faR 5 M M M underlying67 M ti65 (lb M) M M)<|aA M (dO aB.toEnc0 M M (lb M) underlying65 ti64 (svR M) hk22 (svI M) hx21)<|aA M (jQ aB.toEnc0 (b:=5) (k:=0) (a':=(⟨a0,0,(-1),(-1),16,false⟩:aJ)) M M ti64 (svR M) M (svA q6 M) M M M M hx23 (nle M) M hx24)<|aD ?_)
   obtain ⟨x25,hx25,h⟩:=aX h
   refine aF (aA M (mvR M M M M)<|aA M (mvI M M M M)<|aA M (cQ (r':=.tuple []) (H1':=[(1000,.blk 67 (mixD aB.toEnc0 (w26 x25.1 x25.2.1 x25.2.2.1 x25.2.2.2.1 x25.2.2.2.2.1) x25.2.2.2.2.2.1 [.int .i64 x25.2.2.2.2.2.2.1,.osl 3 (eInt .i64).sz x25.2.2.2.2.2.2.2.length])),(3,.blk 3 (D.flat (x25.2.2.2.2.2.2.2.map (eInt .i64).d)))]) 3 [1000,1] M M (lb M) cl63 (.cons (svR M) (.cons (svI M) (.cons (sv (d:=.int _ (-1)) M) .nil))) M M ⟨M,M,by decide,M,List.forall_mem_cons.2 ⟨⟨M,M,(mT aB M M M),(eA aB M M)⟩,List.forall_mem_cons.2 ⟨⟨M,M,(iF (eInt .i64) M),(bP (eInt .i64))⟩,List.forall_mem_nil _⟩⟩⟩ (oO _ _ _ _ _ _ _ _ _ _ _ hx25) M M (List.forall_mem_cons.2 ⟨⟨M,(eA aB M M)⟩,List.forall_mem_cons.2 ⟨⟨M,(bP (eInt .i64))⟩,List.forall_mem_nil _⟩⟩) (by simp only [List.map_cons,List.map_nil,Ent.ren,bT,cE,eL]; rfl))<|aD ?_)
   obtain ⟨x26,hx26,h⟩:=aX h
   refine aF (aA M (mvR M M M M)<|aA M (mvI M M M M)<|aA M (lra q16 la75 M M M M M (nle M) M)<|aA M (cQ (r':=.tuple []) (H1':=[(1000,.blk 67 (mixD aB.toEnc0 (w26 x26.1 x26.2.1 x26.2.2.1 x26.2.2.2.1 x26.2.2.2.2.1) x26.2.2.2.2.2.1 [.int .i64 x26.2.2.2.2.2.2.1,.osl 4 (eInt .i64).sz x26.2.2.2.2.2.2.2.length])),(4,.blk 3 (D.flat (x26.2.2.2.2.2.2.2.map (eInt .i64).d)))]) 4 [1000,3] M M (lb M) cl33 (.cons (svR M) (.cons (svI M) (.cons (svA q16 M) .nil))) M M ⟨M,M,by decide,M,List.forall_mem_cons.2 ⟨⟨M,M,(mT aB M M M),(eA aB M M)⟩,List.forall_mem_cons.2 ⟨⟨M,M,(iF (eInt .i64) M),(bP (eInt .i64))⟩,List.forall_mem_nil _⟩⟩⟩ (oF _ _ _ _ _ _ _ _ _ _ _ hx26) M M (List.forall_mem_cons.2 ⟨⟨M,(eA aB M M)⟩,List.forall_mem_cons.2 ⟨⟨M,(bP (eInt .i64))⟩,List.forall_mem_nil _⟩⟩) (by simp only [List.map_cons,List.map_nil,Ent.ren,bT,cE,eL]; rfl))<|aD ?_)
   refine aF (aA M (aG M M (lb M) (sv (d:=.int _ 0) M))<|aD ?_)
   refine aY ?_
   obtain rfl:=sj_ h
   refine ⟨.inr M,(fun i=>if i=0 then 4 else i),⟨.nil,(.cons (EntW.mix aB M (SubC.of_eq M) (SubC.of_eq M) M M) (.cons (EntW.lst M) .nil)),bE [1000,4] M (by decide),(fun i hi=>by first | rfl | (show (if _ then _ else _)=_; (repeat' split) <;> omega))⟩,(.cons (sv M) .nil),M⟩

theorem qY (a0:Int) (a1:Int) (a2:Int) (a3:Bool) (a4:Int) (a5:Int) (a6:(List aK)) (a7:Int) (a8:Int) (a9:(List aJ)) (a10:Int) (a11:(List Int)) (r:(Int × Int × Int × (List aK) × Int × Int × (List aJ) × Int × (List Int))) (h:kB a0 a1 a2 a3 a4 a5 a6 a7 a8 a9 a10 a11=some r):FnH prog 7 [.ref 1000 0,.int .i64 a0,.int .i64 a1,.int .i64 a2,.bool a3] [(1000,.blk 67 (mixD aB.toEnc0 (w26 a4 a5 a6 a7 a8) a9 [.int .i64 a10,.osl 1001 (eInt .i64).sz a11.length])),(1001,.blk 3 (D.flat (a11.map (eInt .i64).d)))] (.int .i64 r.1) [(1000,.blk 67 (mixD aB.toEnc0 (w26 r.2.1 r.2.2.1 r.2.2.2.1 r.2.2.2.2.1 r.2.2.2.2.2.1) r.2.2.2.2.2.2.1 [.int .i64 r.2.2.2.2.2.2.2.1,.osl 0 (eInt .i64).sz r.2.2.2.2.2.2.2.2.length])),(0,.blk 3 (D.flat (r.2.2.2.2.2.2.2.2.map (eInt .i64).d)))]:=by
 refine dB (rs:=[.int .i64 r.1]) func7 M ntmps7 (nle M) fun O hO=>?_
 show IWP _ _ _ _ ⟨[(0,.ref 1000 0),(1,.int .i64 a0),(2,.int .i64 a1),(3,.int .i64 a2),(4,.bool a3)],[(1000,.blk 67 (mixD aB.toEnc0 (w26 a4 a5 a6 a7 a8) a9 [.int .i64 a10,.osl 1001 (eInt .i64).sz a11.length])),(1001,.blk 3 (D.flat (a11.map (eInt .i64).d)))]⟩ _
 unfold kB at h
 refine aF (aA M (aG M M (lb M) (sv (d:=.int _ 0) M))<|aD ?_)
 refine aT ?_
 refine aF (aA M (mvR M M M M)<|aA M (rD M M (lb M) underlying25 (svR M) (sv (d:=.nilp) M))<|aD ?_)
 refine jD M M ?_
 refine aS ?_
 refine aM ?_
 refine aF (aA M (mvI M M M M)<|aA M (mvI M M M M)<|aA M (mvB M M M M)<|aA M (cJ (cs:=q16) M M (lb M) underlying75 ti75 pl75 M (.cons (svI M) (.cons (svI M) (.cons (svB M) .nil))) M)<|aA M (cT (cs:=q16) (cs':=[.int .i64 0,.int .i64 0,.bool false]) 0 M M (lb M) M ti75 M M (.all _))<|aA M (stA q16 q16 ti75 M M M M M M M M (nle M) M)<|aD ?_)
 refine aT ?_
 obtain ⟨x1,hx1,h⟩:=aX h
 refine aF (aA M (lra q16 la75 M M M M M (nle M) M)<|aA M (mvI M M M M)<|aA M (bU (r:=.int _ _) M M (lb M) cl30 (.cons (svA q16 M) (.cons (svI M) .nil)) M (pB _ _ _ hx1))<|aA M (asI M M M M)<|aD ?_)
 obtain ⟨x2,hx2,h⟩:=bC h
 refine aF (aA M (mvI M M M M)<|aA M (aQ M M (lb M) (svI M) (sv (d:=.int _ 0) M) M hx2)<|aD ?_)
 refine aR (b:=_) M (fun hc3=>?_) (fun hc3=>?_)
 ·
  replace h:=cA h hc3
  refine aF (aA M (mvI M M M M)<|aA M (asI M M M M)<|aD ?_)
  refine aY ?_
  refine bG ?_
  obtain rfl:=sj_ h
  refine ⟨.inr M,(fun i=>if i=0 then 1001 else i),⟨.nil,(.cons (EntW.mix aB M (SubC.of_eq M) (SubC.of_eq M) M M) (.cons (EntW.lst M) .nil)),bE [1000,1001] M (by decide),(fun i hi=>by first | rfl | (show (if _ then _ else _)=_; (repeat' split) <;> omega))⟩,(.cons (sv M) .nil),M⟩
 ·
  replace h:=cB h hc3
  refine aS ?_
  refine aM ?_
  refine aT ?_
  obtain ⟨x4,hx4,h⟩:=aX h
  obtain ⟨x5,hx5,h⟩:=bC h
  refine aF (aA M (mvR M M M M)<|aA M (mvI M M M M)<|aA M (mH (r':=.int .i64 x4) (V:=[(1000,.blk 67 (mixD aB.toEnc0 (w26 a4 a5 a6 a7 a8) a9 [.int .i64 a10,.osl 1001 (eInt .i64).sz a11.length])),(1001,.blk 3 (D.flat (a11.map (eInt .i64).d)))]) 1 [1000,1001] M M (lb M) cl31 (.cons (svR M) (.cons (svI M) .nil)) M M M ⟨by decide,M,List.forall_mem_cons.2 ⟨⟨M,M,(mT aB M M M),(eA aB M M)⟩,List.forall_mem_cons.2 ⟨⟨M,M,(iF (eInt .i64) M),(bP (eInt .i64))⟩,List.forall_mem_nil _⟩⟩⟩ (kD _ _ _ _ _ _ _ _ _ _ hx4) M M (List.forall_mem_cons.2 ⟨⟨M,(eA aB M M)⟩,List.forall_mem_cons.2 ⟨⟨M,(bP (eInt .i64))⟩,List.forall_mem_nil _⟩⟩) (by simp only [List.map_cons,List.map_nil,Ent.ren,bT,cE,eL]; rfl) (List.forall_mem_cons.2 ⟨M,List.forall_mem_cons.2 ⟨M,List.forall_mem_nil _⟩⟩) M)<|aA M (aQ M M (lb M) (svI M) (sv (d:=.int _ (-1)) M) M hx5)<|aD ?_)
  refine aR (b:=_) M (fun hc6=>?_) (fun hc6=>?_)
  ·
   replace h:=cA h hc6
   refine aF (aA M (aG M M (lb M) (sv (d:=.int _ 13) M))<|aD ?_)
   refine aY ?_
   refine bG ?_
   obtain rfl:=sj_ h
   refine ⟨.inr M,(fun i=>if i=0 then 1001 else i),⟨.nil,(.cons (EntW.mix aB M (SubC.of_eq M) (SubC.of_eq M) M M) (.cons (EntW.lst M) .nil)),bE [1000,1001] M (by decide),(fun i hi=>by first | rfl | (show (if _ then _ else _)=_; (repeat' split) <;> omega))⟩,(.cons (sv M) .nil),M⟩
  ·
   replace h:=cB h hc6
   refine aS ?_
   refine aM ?_
   obtain ⟨x7,hx7,h⟩:=aX h
   refine aF (aA M (mvR M M M M)<|aA M (mvI M M M M)<|aA M (lra q16 la75 M M M M M (nle M) M)<|aA M (cQ (r':=.int .i64 x7.1) (H1':=[(1000,.blk 67 (mixD aB.toEnc0 (w26 x7.2.1 x7.2.2.1 x7.2.2.2.1 x7.2.2.2.2.1 x7.2.2.2.2.2.1) x7.2.2.2.2.2.2.1 [.int .i64 x7.2.2.2.2.2.2.2.1,.osl 1 (eInt .i64).sz x7.2.2.2.2.2.2.2.2.length])),(1,.blk 3 (D.flat (x7.2.2.2.2.2.2.2.2.map (eInt .i64).d)))]) 1 [1000,1001] M M (lb M) cl32 (.cons (svR M) (.cons (svI M) (.cons (svA q16 M) .nil))) M M ⟨M,M,by decide,M,List.forall_mem_cons.2 ⟨⟨M,M,(mT aB M M M),(eA aB M M)⟩,List.forall_mem_cons.2 ⟨⟨M,M,(iF (eInt .i64) M),(bP (eInt .i64))⟩,List.forall_mem_nil _⟩⟩⟩ (oC _ _ _ _ _ _ _ _ _ _ _ hx7) M M (List.forall_mem_cons.2 ⟨⟨M,(eA aB M M)⟩,List.forall_mem_cons.2 ⟨⟨M,(bP (eInt .i64))⟩,List.forall_mem_nil _⟩⟩) (by simp only [List.map_cons,List.map_nil,Ent.ren,bT,cE,eL]; rfl))<|aA M (asI M M M M)<|aD ?_)
   refine aY ?_
   obtain rfl:=sj_ h
   refine ⟨.inr M,(fun i=>if i=0 then 1 else i),⟨.nil,(.cons (EntW.mix aB M (SubC.of_eq M) (SubC.of_eq M) M M) (.cons (EntW.lst M) .nil)),bE [1000,1] M (by decide),(fun i hi=>by first | rfl | (show (if _ then _ else _)=_; (repeat' split) <;> omega))⟩,(.cons (sv M) .nil),M⟩

theorem rW (a0:Int) (a1:Int) (a2:Int) (a3:Bool) (a4:Int) (a5:Int) (a6:(List aK)) (a7:Int) (a8:Int) (a9:(List aJ)) (a10:Int) (a11:(List Int)) (r:(Int × Int × Int × (List aK) × Int × Int × (List aJ) × Int × (List Int))) (h:lL a0 a1 a2 a3 a4 a5 a6 a7 a8 a9 a10 a11=some r):FnH prog 8 [.ref 1000 0,.int .i64 a0,.int .i64 a1,.int .i64 a2,.bool a3] [(1000,.blk 67 (mixD aB.toEnc0 (w26 a4 a5 a6 a7 a8) a9 [.int .i64 a10,.osl 1001 (eInt .i64).sz a11.length])),(1001,.blk 3 (D.flat (a11.map (eInt .i64).d)))] (.int .i64 r.1) [(1000,.blk 67 (mixD aB.toEnc0 (w26 r.2.1 r.2.2.1 r.2.2.2.1 r.2.2.2.2.1 r.2.2.2.2.2.1) r.2.2.2.2.2.2.1 [.int .i64 r.2.2.2.2.2.2.2.1,.osl 0 (eInt .i64).sz r.2.2.2.2.2.2.2.2.length])),(0,.blk 3 (D.flat (r.2.2.2.2.2.2.2.2.map (eInt .i64).d)))]:=by
 refine dB (rs:=[.int .i64 r.1]) func8 M ntmps8 (nle M) fun O hO=>?_
 show IWP _ _ _ _ ⟨[(0,.ref 1000 0),(1,.int .i64 a0),(2,.int .i64 a1),(3,.int .i64 a2),(4,.bool a3)],[(1000,.blk 67 (mixD aB.toEnc0 (w26 a4 a5 a6 a7 a8) a9 [.int .i64 a10,.osl 1001 (eInt .i64).sz a11.length])),(1001,.blk 3 (D.flat (a11.map (eInt .i64).d)))]⟩ _
 unfold lL at h
 refine aF (aA M (aG M M (lb M) (sv (d:=.int _ 0) M))<|aD ?_)
 refine aT ?_
 refine aF (aA M (mvR M M M M)<|aA M (rD M M (lb M) underlying25 (svR M) (sv (d:=.nilp) M))<|aD ?_)
 refine jD M M ?_
 refine aS ?_
 refine aM ?_
 refine aF (aA M (mvI M M M M)<|aA M (mvI M M M M)<|aA M (mvB M M M M)<|aA M (cJ (cs:=q16) M M (lb M) underlying75 ti75 pl75 M (.cons (svI M) (.cons (svI M) (.cons (svB M) .nil))) M)<|aA M (cT (cs:=q16) (cs':=[.int .i64 0,.int .i64 0,.bool false]) 0 M M (lb M) M ti75 M M (.all _))<|aA M (stA q16 q16 ti75 M M M M M M M M (nle M) M)<|aD ?_)
 refine aT ?_
 obtain ⟨x1,hx1,h⟩:=aX h
 refine aF (aA M (lra q16 la75 M M M M M (nle M) M)<|aA M (mvI M M M M)<|aA M (bU (r:=.int _ _) M M (lb M) cl30 (.cons (svA q16 M) (.cons (svI M) .nil)) M (pB _ _ _ hx1))<|aA M (asI M M M M)<|aD ?_)
 obtain ⟨x2,hx2,h⟩:=bC h
 refine aF (aA M (mvI M M M M)<|aA M (aQ M M (lb M) (svI M) (sv (d:=.int _ 0) M) M hx2)<|aD ?_)
 refine aR (b:=_) M (fun hc3=>?_) (fun hc3=>?_)
 ·
  replace h:=cA h hc3
  refine aF (aA M (mvI M M M M)<|aA M (asI M M M M)<|aD ?_)
  refine aY ?_
  refine bG ?_
  obtain rfl:=sj_ h
  refine ⟨.inr M,(fun i=>if i=0 then 1001 else i),⟨.nil,(.cons (EntW.mix aB M (SubC.of_eq M) (SubC.of_eq M) M M) (.cons (EntW.lst M) .nil)),bE [1000,1001] M (by decide),(fun i hi=>by first | rfl | (show (if _ then _ else _)=_; (repeat' split) <;> omega))⟩,(.cons (sv M) .nil),M⟩
 ·
  replace h:=cB h hc3
  refine aS ?_
  refine aM ?_
  obtain ⟨x4,hx4,h⟩:=aX h
  refine aF (aA M (mvR M M M M)<|aA M (mvI M M M M)<|aA M (mH (r':=.int .i64 x4) (V:=[(1000,.blk 67 (mixD aB.toEnc0 (w26 a4 a5 a6 a7 a8) a9 [.int .i64 a10,.osl 1001 (eInt .i64).sz a11.length])),(1001,.blk 3 (D.flat (a11.map (eInt .i64).d)))]) 1 [1000,1001] M M (lb M) cl31 (.cons (svR M) (.cons (svI M) .nil)) M M M ⟨by decide,M,List.forall_mem_cons.2 ⟨⟨M,M,(mT aB M M M),(eA aB M M)⟩,List.forall_mem_cons.2 ⟨⟨M,M,(iF (eInt .i64) M),(bP (eInt .i64))⟩,List.forall_mem_nil _⟩⟩⟩ (kD _ _ _ _ _ _ _ _ _ _ hx4) M M (List.forall_mem_cons.2 ⟨⟨M,(eA aB M M)⟩,List.forall_mem_cons.2 ⟨⟨M,(bP (eInt .i64))⟩,List.forall_mem_nil _⟩⟩) (by simp only [List.map_cons,List.map_nil,Ent.ren,bT,cE,eL]; rfl) (List.forall_mem_cons.2 ⟨M,List.forall_mem_cons.2 ⟨M,List.forall_mem_nil _⟩⟩) M)<|aA M (asI M M M M)<|aD ?_)
  refine aT ?_
  obtain ⟨x5,hx5,h⟩:=bC h
  refine aF (aA M (mvI M M M M)<|aA M (aQ M M (lb M) (svI M) (sv (d:=.int _ (-1)) M) M hx5)<|aD ?_)
  refine aR (b:=_) M (fun hc6=>?_) (fun hc6=>?_)
  ·
   replace h:=cA h hc6
   obtain ⟨x7,hx7,h⟩:=aX h
   refine aF (aA M (mvR M M M M)<|aA M (mvI M M M M)<|aA M (lra q16 la75 M M M M M (nle M) M)<|aA M (cQ (r':=.int .i64 x7.1) (H1':=[(1000,.blk 67 (mixD aB.toEnc0 (w26 x7.2.1 x7.2.2.1 x7.2.2.2.1 x7.2.2.2.2.1 x7.2.2.2.2.2.1) x7.2.2.2.2.2.2.1 [.int .i64 x7.2.2.2.2.2.2.2.1,.osl 1 (eInt .i64).sz x7.2.2.2.2.2.2.2.2.length])),(1,.blk 3 (D.flat (x7.2.2.2.2.2.2.2.2.map (eInt .i64).d)))]) 1 [1000,1001] M M (lb M) cl32 (.cons (svR M) (.cons (svI M) (.cons (svA q16 M) .nil))) M M ⟨M,M,by decide,M,List.forall_mem_cons.2 ⟨⟨M,M,(mT aB M M M),(eA aB M M)⟩,List.forall_mem_cons.2 ⟨⟨M,M,(iF (eInt .i64) M),(bP (eInt .i64))⟩,List.forall_mem_nil _⟩⟩⟩ (oC _ _ _ _ _ _ _ _ _ _ _ hx7) M M (List.forall_mem_cons.2 ⟨⟨M,(eA aB M M)⟩,List.forall_mem_cons.2 ⟨⟨M,(bP (eInt .i64))⟩,List.forall_mem_nil _⟩⟩) (by simp only [List.map_cons,List.map_nil,Ent.ren,bT,cE,eL]; rfl))<|aA M (asI M M M M)<|aD ?_)
   refine aY ?_
   refine bG ?_
   obtain rfl:=sj_ h
   refine ⟨.inr M,(fun i=>if i=0 then 1 else i),⟨.nil,(.cons (EntW.mix aB M (SubC.of_eq M) (SubC.of_eq M) M M) (.cons (EntW.lst M) .nil)),bE [1000,1] M (by decide),(fun i hi=>by first | rfl | (show (if _ then _ else _)=_; (repeat' split) <;> omega))⟩,(.cons (sv M) .nil),M⟩
  ·
   replace h:=cB h hc6
   refine aS ?_
   refine aM ?_
   obtain ⟨x8,hx8,h⟩:=aX h
   refine aF (aA M (mvR M M M M)<|aA M (mvI M M M M)<|aA M (lra q16 la75 M M M M M (nle M) M)<|aA M (cQ (r':=.tuple []) (H1':=[(1000,.blk 67 (mixD aB.toEnc0 (w26 x8.1 x8.2.1 x8.2.2.1 x8.2.2.2.1 x8.2.2.2.2.1) x8.2.2.2.2.2.1 [.int .i64 x8.2.2.2.2.2.2.1,.osl 1 (eInt .i64).sz x8.2.2.2.2.2.2.2.length])),(1,.blk 3 (D.flat (x8.2.2.2.2.2.2.2.map (eInt .i64).d)))]) 1 [1000,1001] M M (lb M) cl33 (.cons (svR M) (.cons (svI M) (.cons (svA q16 M) .nil))) M M ⟨M,M,by decide,M,List.forall_mem_cons.2 ⟨⟨M,M,(mT aB M M M),(eA aB M M)⟩,List.forall_mem_cons.2 ⟨⟨M,M,(iF (eInt .i64) M),(bP (eInt .i64))⟩,List.forall_mem_nil _⟩⟩⟩ (oF _ _ _ _ _ _ _ _ _ _ _ hx8) M M (List.forall_mem_cons.2 ⟨⟨M,(eA aB M M)⟩,List.forall_mem_cons.2 ⟨⟨M,(bP (eInt .i64))⟩,List.forall_mem_nil _⟩⟩) (by simp only [List.map_cons,List.map_nil,Ent.ren,bT,cE,eL]; rfl))<|aD ?_)
   refine aF (aA M (aG M M (lb M) (sv (d:=.int _ 0) M))<|aD ?_)
   refine aY ?_
   obtain rfl:=sj_ h
   refine ⟨.inr M,(fun i=>if i=0 then 1 else i),⟨.nil,(.cons (EntW.mix aB M (SubC.of_eq M) (SubC.of_eq M) M M) (.cons (EntW.lst M) .nil)),bE [1000,1] M (by decide),(fun i hi=>by first | rfl | (show (if _ then _ else _)=_; (repeat' split) <;> omega))⟩,(.cons (sv M) .nil),M⟩

theorem rM (a0:Int) (a1:Int) (a2:Int) (a3:(List aK)) (a4:Int) (a5:Int) (a6:(List aJ)) (a7:Int) (a8:(List Int)) (r:(Int × Int × Int × (List aK) × Int × Int × (List aJ) × Int × (List Int))) (h:kS a0 a1 a2 a3 a4 a5 a6 a7 a8=some r):FnH prog 9 [.ref 1000 0,.int .i64 a0] [(1000,.blk 67 (mixD aB.toEnc0 (w26 a1 a2 a3 a4 a5) a6 [.int .i64 a7,.osl 1001 (eInt .i64).sz a8.length])),(1001,.blk 3 (D.flat (a8.map (eInt .i64).d)))] (.int .i64 r.1) [(1000,.blk 67 (mixD aB.toEnc0 (w26 r.2.1 r.2.2.1 r.2.2.2.1 r.2.2.2.2.1 r.2.2.2.2.2.1) r.2.2.2.2.2.2.1 [.int .i64 r.2.2.2.2.2.2.2.1,.osl 0 (eInt .i64).sz r.2.2.2.2.2.2.2.2.length])),(0,.blk 3 (D.flat (r.2.2.2.2.2.2.2.2.map (eInt .i64).d)))]:=by
 refine dB (rs:=[.int .i64 r.1]) func9 M ntmps9 (nle M) fun O hO=>?_
 show IWP _ _ _ _ ⟨[(0,.ref 1000 0),(1,.int .i64 a0)],[(1000,.blk 67 (mixD aB.toEnc0 (w26 a1 a2 a3 a4 a5) a6 [.int .i64 a7,.osl 1001 (eInt .i64).sz a8.length])),(1001,.blk 3 (D.flat (a8.map (eInt .i64).d)))]⟩ _
 unfold kS at h
 refine aF (aA M (aG M M (lb M) (sv (d:=.int _ 0) M))<|aD ?_)
 refine aT ?_
 refine aF (aA M (mvR M M M M)<|aA M (rD M M (lb M) underlying25 (svR M) (sv (d:=.nilp) M))<|aD ?_)
 refine jD M M ?_
 refine aS ?_
 refine aM ?_
 obtain ⟨x1,hx1,h⟩:=aX h
 refine aF (aA M (mvR M M M M)<|aA M (mvI M M M M)<|aA M (mH (r':=.int .i64 x1) (V:=[(1000,.blk 67 (mixD aB.toEnc0 (w26 a1 a2 a3 a4 a5) a6 [.int .i64 a7,.osl 1001 (eInt .i64).sz a8.length])),(1001,.blk 3 (D.flat (a8.map (eInt .i64).d)))]) 0 [1000,1001] M M (lb M) cl31 (.cons (svR M) (.cons (svI M) .nil)) M M M ⟨by decide,M,List.forall_mem_cons.2 ⟨⟨M,M,(mT aB M M M),(eA aB M M)⟩,List.forall_mem_cons.2 ⟨⟨M,M,(iF (eInt .i64) M),(bP (eInt .i64))⟩,List.forall_mem_nil _⟩⟩⟩ (kD _ _ _ _ _ _ _ _ _ _ hx1) M M (List.forall_mem_cons.2 ⟨⟨M,(eA aB M M)⟩,List.forall_mem_cons.2 ⟨⟨M,(bP (eInt .i64))⟩,List.forall_mem_nil _⟩⟩) (by simp only [List.map_cons,List.map_nil,Ent.ren,bT,cE,eL]; rfl) (List.forall_mem_cons.2 ⟨M,List.forall_mem_cons.2 ⟨M,List.forall_mem_nil _⟩⟩) M)<|aA M (asI M M M M)<|aD ?_)
 refine aT ?_
 refine bB ?_
 obtain ⟨x2,hx2,h⟩:=bC h
 refine aF (aA M (mvI M M M M)<|aA M (aQ M M (lb M) (svI M) (sv (d:=.int _ (-1)) M) M hx2)<|aA M (asB M M M M)<|aD ?_)
 refine aR (b:=_) M (fun hc3=>?_) (fun hc3=>?_)
 ·
  replace h:=cA h hc3
  refine aF (aA M (aG M M (lb M) (sv (d:=.int _ 6) M))<|aD ?_)
  refine aY ?_
  refine cO ?_
  refine bG ?_
  obtain rfl:=sj_ h
  refine ⟨.inr M,(fun i=>if i=0 then 1001 else i),⟨.nil,(.cons (EntW.mix aB M (SubC.of_eq M) (SubC.of_eq M) M M) (.cons (EntW.lst M) .nil)),bE [1000,1001] M (by decide),(fun i hi=>by first | rfl | (show (if _ then _ else _)=_; (repeat' split) <;> omega))⟩,(.cons (sv M) .nil),M⟩
 ·
  replace h:=cB h hc3
  obtain ⟨x4,hx4,h⟩:=aX h
  obtain ⟨hk5,h⟩:=oZ h
  obtain ⟨x6,hx6,h⟩:=aX h
  refine aF (aA M (mvR M M M M)<|aA M (mvI M M M M)<|aA M (aL M M (lb M) (svR M))<|aA M (faR 5 M M M underlying67 M ti65 (lb M) M M)<|aA M (dO aB.toEnc0 M M (lb M) underlying65 ti64 (svR M) hk5 (svI M) hx4)<|aA M (bZ M M (lb M) underlying64 M ti4 (by decide) (svR M) (k':=5) M)<|aA M (cM aB.toEnc0 (b:=5) (k:=5) (d:=.bool _) M M (lb M) underlying4 ag4 ti4 (by decide) (svR M) M M hx6 (nle M) M)<|aA M (asB M M M M)<|aD ?_)
  refine aR (b:=_) M (fun hc7=>?_) (fun hc7=>?_)
  ·
   replace h:=cA h hc7
   refine aF (aA M (aG M M (lb M) (sv (d:=.int _ 9) M))<|aD ?_)
   refine aY ?_
   refine cO ?_
   refine bG ?_
   obtain rfl:=sj_ h
   refine ⟨.inr M,(fun i=>if i=0 then 1001 else i),⟨.nil,(.cons (EntW.mix aB M (SubC.of_eq M) (SubC.of_eq M) M M) (.cons (EntW.lst M) .nil)),bE [1000,1001] M (by decide),(fun i hi=>by first | rfl | (show (if _ then _ else _)=_; (repeat' split) <;> omega))⟩,(.cons (sv M) .nil),M⟩
  ·
   replace h:=cB h hc7
   refine aS ?_
   refine bJ ?_
   refine aM ?_
   obtain ⟨x8,hx8,h⟩:=aX h
   obtain ⟨x9,hx9,h⟩:=aX h
   obtain ⟨x10,hx10,h⟩:=bC h
   refine aF (aA M (mvR M M M M)<|aA M (mvI M M M M)<|aA M (aL M M (lb M) (svR M))<|aA M (faR 5 M M M underlying67 M ti65 (lb M) M M)<|aA M (dO aB.toEnc0 M M (lb M) underlying65 ti64 (svR M) hk5 (svI M) hx8)<|aA M (bZ M M (lb M) underlying64 M ti4 (by decide) (svR M) (k':=5) M)<|aA M (jQ aB.toEnc0 (b:=5) (k:=5) (a':=(⟨x9.id,x9.up,x9.first,x9.next,x9.weight,true⟩:aJ)) M M ti4 (svR M) M (sv (d:=.bool true) M) M M M M hx9 (nle M) M hx10)<|aD ?_)
   obtain ⟨x11,hx11,h⟩:=aX h
   refine aF (aA M (mvR M M M M)<|aA M (mvR M M M M)<|aA M (aL M M (lb M) (svR M))<|aA M (faR 390 M M M underlying67 M ti30 (lb M) M M)<|aA M (iD aB.toEnc0 (d:=.osl _ _ _) (n:=64) (k:=1) M M (lb M) underlying30 ag30 ti30 (by decide) (svR M) M (iQ hx10 hk5) (by rfl) (nle M) (by rfl))<|aA M (mvI M M M M)<|aA M (lD (eInt .i64).toEnc0 ([x1]:(List Int)) 0 M M (lb M) underlying30 ti3 M (.cons (svI M) .nil) M M (by decide))<|aA M (iH (eInt .i64).toEnc0 1 M M (lb M) underlying30 ti3 M M M M M (qP (eInt .i64).toEnc0 M M M) hx11)<|aA M (aL M M (lb M) (svR M))<|aA M (faR 390 M M M underlying67 M ti30 (lb M) M M)<|aA M (pV aB.toEnc0 (post:=q19) (post':=q19) (n:=64) (k:=1) M M ti30 (svR M) M (sv (d:=.osl _ _ _) M) M M M (iQ hx10 hk5) (by rfl) (nle M) (by rfl))<|aD ?_)
   refine aT ?_
   obtain ⟨x12,hx12,h⟩:=bC h
   refine iR M [⟨[0],[],[(38,.ref 1000 0)],[]⟩,
    ⟨[38],[],[(39,.ref 1000 0)],[]⟩,
    ⟨[39],[],[(40,.ref 1000 390)],[]⟩,
    ⟨[40],[1000],[(41,.osl 1 (eInt .i64).sz x11.length)],[]⟩,
    ⟨[41],[],[(42,.int .i64 (x11.length:Int))],[]⟩,
    ⟨[0],[],[(43,.ref 1000 0)],[]⟩,
    ⟨[43],[],[(44,.ref 1000 0)],[]⟩,
    ⟨[44],[],[(45,.ref 1000 1)],[]⟩,
    ⟨[45],[1000],[(46,.int .i64 a2)],[]⟩,
    ⟨[42,46],[],[(47,.bool x12)],[]⟩] M ?_ (by kernel_rfl) ?_
   ·refine .cons (lop M M fun S hA=>(aO M M (lb M) (svaR hA M M))) ?_
    refine .cons (lop M M fun S hA=>(aL M M (lb M) (svaR hA M M))) ?_
    refine .cons (lop M M fun S hA=>(aP M M (lb M) underlying67 M ti30 (by decide) (svaR hA M M) (off':=390) M)) ?_
    refine .cons (lop M M fun S hA=>(iD aB.toEnc0 (d:=.osl _ _ _) (n:=64) (k:=1) M M (lb M) underlying30 ag30 ti30 (by decide) (svaR hA M M) (agi hA M M) (iQ hx10 hk5) (by rfl) (nle M) (by rfl))) ?_
    refine .cons (lop M M fun S hA=>(kV M M (lb M) underlying30 (sv (d:=.osl _ _ _) (agr hA M M)))) ?_
    refine .cons (lop M M fun S hA=>(aO M M (lb M) (svaR hA M M))) ?_
    refine .cons (lop M M fun S hA=>(aL M M (lb M) (svaR hA M M))) ?_
    refine .cons (lop M M fun S hA=>(aP M M (lb M) underlying67 M ti3 (by decide) (svaR hA M M) (off':=1) M)) ?_
    refine .cons (lop M M fun S hA=>(sB aB.toEnc0 (d:=.int _ _) M M (lb M) underlying3 ag3 ti3 (by decide) (svaR hA M M) (agi hA M M) (nle M) (by rfl))) ?_
    refine .cons (lop M M fun S hA=>(aQ M M (lb M) (svaI hA M M) (svaI hA M M) M hx12)) ?_
    exact .nil
   refine aR (b:=_) M (fun hc13=>?_) (fun hc13=>?_)
   ·
    replace h:=cA h hc13
    obtain ⟨x14,hx14,h⟩:=aX h
    obtain ⟨x15,hx15,h⟩:=aX h
    obtain ⟨x16,hx16,h⟩:=aX h
    refine bA (aA M (mvR M M M M)<|aA M (mvR M M M M)<|aA M (aL M M (lb M) (svR M))<|aA M (faR 390 M M M underlying67 M ti30 (lb M) M M)<|aA M (iD aB.toEnc0 (d:=.osl _ _ _) (n:=64) (k:=1) M M (lb M) underlying30 ag30 ti30 (by decide) (svR M) M (iQ hx10 hk5) (by rfl) (nle M) (by rfl))<|aA M (fY (eInt .i64).toEnc0 M M (lb M) underlying30 ti3 (sv (d:=.osl _ _ _) M) M (sv (d:=.int _ 0) M) hx14)<|aA M (fP (eInt .i64).toEnc0 (d:=.int _ _) M M (lb M) underlying3 ag3 ti3 (by decide) (svR M) M hx15 (nle M) M)<|aA M (cQ (r':=.tuple []) (H1':=[(1000,.blk 67 (mixD aB.toEnc0 (w26 x16.1 x16.2.1 x16.2.2.1 x16.2.2.2.1 x16.2.2.2.2.1) x16.2.2.2.2.2.1 [.int .i64 x16.2.2.2.2.2.2.1,.osl 2 (eInt .i64).sz x16.2.2.2.2.2.2.2.length])),(2,.blk 3 (D.flat (x16.2.2.2.2.2.2.2.map (eInt .i64).d)))]) 2 [1000,1] M M (lb M) cl34 (.cons (svR M) (.cons (svI M) .nil)) M M ⟨M,M,by decide,M,List.forall_mem_cons.2 ⟨⟨M,M,(mT aB M M M),(eA aB M M)⟩,List.forall_mem_cons.2 ⟨⟨M,M,(iF (eInt .i64) M),(bP (eInt .i64))⟩,List.forall_mem_nil _⟩⟩⟩ (nM _ _ _ _ _ _ _ _ _ _ hx16) M M (List.forall_mem_cons.2 ⟨⟨M,(eA aB M M)⟩,List.forall_mem_cons.2 ⟨⟨M,(bP (eInt .i64))⟩,List.forall_mem_nil _⟩⟩) (by simp only [List.map_cons,List.map_nil,Ent.ren,bT,cE,eL]; rfl))<|bL ?_)
    refine aM ?_
    refine aF (aA M (aG M M (lb M) (sv (d:=.int _ 0) M))<|aD ?_)
    refine aY ?_
    obtain rfl:=sj_ h
    refine ⟨.inr M,(fun i=>if i=0 then 2 else i),⟨.nil,(.cons (EntW.mix aB M (SubC.of_eq M) (SubC.of_eq M) M M) (.cons (EntW.lst M) .nil)),bE [1000,2] M (by decide),(fun i hi=>by first | rfl | (show (if _ then _ else _)=_; (repeat' split) <;> omega))⟩,(.cons (sv M) .nil),M⟩
   ·
    replace h:=cB h hc13
    refine aS ?_
    refine aM ?_
    refine aF (aA M (aG M M (lb M) (sv (d:=.int _ 0) M))<|aD ?_)
    refine aY ?_
    obtain rfl:=sj_ h
    refine ⟨.inr M,(fun i=>if i=0 then 1 else i),⟨.nil,(.cons (EntW.mix aB M (SubC.of_eq M) (SubC.of_eq M) M M) (.cons (EntW.lst M) .nil)),bE [1000,1] M (by decide),(fun i hi=>by first | rfl | (show (if _ then _ else _)=_; (repeat' split) <;> omega))⟩,(.cons (sv M) .nil),M⟩

theorem qX (a0:Int) (a1:Int) (a2:Int) (a3:(List aK)) (a4:Int) (a5:Int) (a6:(List aJ)) (a7:Int) (a8:(List Int)) (r:(Int × Int × Int × (List aK) × Int × Int × (List aJ) × Int × (List Int))) (h:jZ a0 a1 a2 a3 a4 a5 a6 a7 a8=some r):FnH prog 10 [.ref 1000 0,.int .i64 a0] [(1000,.blk 67 (mixD aB.toEnc0 (w26 a1 a2 a3 a4 a5) a6 [.int .i64 a7,.osl 1001 (eInt .i64).sz a8.length])),(1001,.blk 3 (D.flat (a8.map (eInt .i64).d)))] (.int .i64 r.1) [(1000,.blk 67 (mixD aB.toEnc0 (w26 r.2.1 r.2.2.1 r.2.2.2.1 r.2.2.2.2.1 r.2.2.2.2.2.1) r.2.2.2.2.2.2.1 [.int .i64 r.2.2.2.2.2.2.2.1,.osl 0 (eInt .i64).sz r.2.2.2.2.2.2.2.2.length])),(0,.blk 3 (D.flat (r.2.2.2.2.2.2.2.2.map (eInt .i64).d)))]:=by
 refine dB (rs:=[.int .i64 r.1]) func10 M ntmps10 (nle M) fun O hO=>?_
 show IWP _ _ _ _ ⟨[(0,.ref 1000 0),(1,.int .i64 a0)],[(1000,.blk 67 (mixD aB.toEnc0 (w26 a1 a2 a3 a4 a5) a6 [.int .i64 a7,.osl 1001 (eInt .i64).sz a8.length])),(1001,.blk 3 (D.flat (a8.map (eInt .i64).d)))]⟩ _
 unfold jZ at h
 refine aF (aA M (aG M M (lb M) (sv (d:=.int _ 0) M))<|aD ?_)
 refine aT ?_
 refine aF (aA M (mvR M M M M)<|aA M (rD M M (lb M) underlying25 (svR M) (sv (d:=.nilp) M))<|aD ?_)
 refine jD M M ?_
 refine aS ?_
 refine aM ?_
 obtain ⟨x1,hx1,h⟩:=aX h
 refine aF (aA M (mvR M M M M)<|aA M (mvI M M M M)<|aA M (mH (r':=.int .i64 x1) (V:=[(1000,.blk 67 (mixD aB.toEnc0 (w26 a1 a2 a3 a4 a5) a6 [.int .i64 a7,.osl 1001 (eInt .i64).sz a8.length])),(1001,.blk 3 (D.flat (a8.map (eInt .i64).d)))]) 0 [1000,1001] M M (lb M) cl31 (.cons (svR M) (.cons (svI M) .nil)) M M M ⟨by decide,M,List.forall_mem_cons.2 ⟨⟨M,M,(mT aB M M M),(eA aB M M)⟩,List.forall_mem_cons.2 ⟨⟨M,M,(iF (eInt .i64) M),(bP (eInt .i64))⟩,List.forall_mem_nil _⟩⟩⟩ (kD _ _ _ _ _ _ _ _ _ _ hx1) M M (List.forall_mem_cons.2 ⟨⟨M,(eA aB M M)⟩,List.forall_mem_cons.2 ⟨⟨M,(bP (eInt .i64))⟩,List.forall_mem_nil _⟩⟩) (by simp only [List.map_cons,List.map_nil,Ent.ren,bT,cE,eL]; rfl) (List.forall_mem_cons.2 ⟨M,List.forall_mem_cons.2 ⟨M,List.forall_mem_nil _⟩⟩) M)<|aA M (asI M M M M)<|aD ?_)
 refine aT ?_
 obtain ⟨x2,hx2,h⟩:=bC h
 refine aF (aA M (mvI M M M M)<|aA M (aQ M M (lb M) (svI M) (sv (d:=.int _ (-1)) M) M hx2)<|aD ?_)
 refine aR (b:=_) M (fun hc3=>?_) (fun hc3=>?_)
 ·
  replace h:=cA h hc3
  refine aF (aA M (aG M M (lb M) (sv (d:=.int _ 6) M))<|aD ?_)
  refine aY ?_
  refine bG ?_
  obtain rfl:=sj_ h
  refine ⟨.inr M,(fun i=>if i=0 then 1001 else i),⟨.nil,(.cons (EntW.mix aB M (SubC.of_eq M) (SubC.of_eq M) M M) (.cons (EntW.lst M) .nil)),bE [1000,1001] M (by decide),(fun i hi=>by first | rfl | (show (if _ then _ else _)=_; (repeat' split) <;> omega))⟩,(.cons (sv M) .nil),M⟩
 ·
  replace h:=cB h hc3
  refine aS ?_
  refine aM ?_
  obtain ⟨x4,hx4,h⟩:=aX h
  refine aF (aA M (mvR M M M M)<|aA M (mvI M M M M)<|aA M (cQ (r':=.tuple []) (H1':=[(1000,.blk 67 (mixD aB.toEnc0 (w26 x4.1 x4.2.1 x4.2.2.1 x4.2.2.2.1 x4.2.2.2.2.1) x4.2.2.2.2.2.1 [.int .i64 x4.2.2.2.2.2.2.1,.osl 0 (eInt .i64).sz x4.2.2.2.2.2.2.2.length])),(0,.blk 3 (D.flat (x4.2.2.2.2.2.2.2.map (eInt .i64).d)))]) 0 [1000,1001] M M (lb M) cl34 (.cons (svR M) (.cons (svI M) .nil)) M M ⟨M,M,by decide,M,List.forall_mem_cons.2 ⟨⟨M,M,(mT aB M M M),(eA aB M M)⟩,List.forall_mem_cons.2 ⟨⟨M,M,(iF (eInt .i64) M),(bP (eInt .i64))⟩,List.forall_mem_nil _⟩⟩⟩ (nM _ _ _ _ _ _ _ _ _ _ hx4) M M (List.forall_mem_cons.2 ⟨⟨M,(eA aB M M)⟩,List.forall_mem_cons.2 ⟨⟨M,(bP (eInt .i64))⟩,List.forall_mem_nil _⟩⟩) (by simp only [List.map_cons,List.map_nil,Ent.ren,bT,cE,eL]; rfl))<|aD ?_)
  refine aF (aA M (aG M M (lb M) (sv (d:=.int _ 0) M))<|aD ?_)
  refine aY ?_
  obtain rfl:=sj_ h
  refine ⟨.inr M,(fun i=>i),⟨.nil,(.cons (EntW.mix aB M (SubC.of_eq M) (SubC.of_eq M) M M) (.cons (EntW.lst M) .nil)),bE [1000,0] M (by decide),fun _ _=>M⟩,(.cons (sv M) .nil),M⟩

theorem oN (a0:(List aH)) (r:(List aH)) (h:lK a0=some r):eK prog 13 [.slice false (a0.map aC.d)] (.slice false (r.map aC.d)):=by
 refine bW (rs:=[.slice false (r.map aC.d)]) func13 M ntmps13 (nle M) M fun O hO=>?_
 show IWP _ _ _ _ ⟨[(0,.slice false (a0.map aC.d))],[]⟩ _
 unfold lK at h
 refine aF (aA M (aG M M (lb M) (sv (d:=.nils) M))<|aD ?_)
 refine aF (aA M (aG M M (lb M) (sv (d:=.nils) M))<|aD ?_)
 refine aT ?_
 refine aF (aA M (aG M M (lb M) (sv (d:=.int _ 0) M))<|aD ?_)
 refine bB ?_
 refine cP (α:=Nat × (List aH) × Int) (fun z=>⟨[(0,.slice false (a0.map aC.d)),(3,.gsl 21 aC.sz (z.2.1.map aC.d)),(4,.int .i64 z.2.2)],[(21,.tail 82 aC.sz z.2.1.length)]⟩) (fun z=>fQ a0 z.1 z.2.1 z.2.2=some r) (fun z=>z.1) (fuel,([]:(List aH)),0) (fun i=>if i=21 then 71 else i) ⟨(.s M M (.cons (.nils M) (.sames M M))),(.cons (.nils M) .nil),bE [71] M (by decide),(fun i hi=>by first | rfl | (show (if _ then _ else _)=_; (repeat' split) <;> omega))⟩ ?_ ?_
 ·exact h
 ·
  rintro ⟨n0,v6,v7⟩ h
  cases n0 with
  | zero=>exact absurd h (by unfold fQ; exact nofun)
  | succ n0 =>
   unfold fQ at h
   refine aT ?_
   obtain ⟨x13,hx13,h⟩:=bC h
   refine aF (aA M (mvI M M M M)<|aA M (mvL M M M M)<|aA M (cV aC (l:=a0) M M (lb M) underlying29 (svL M))<|aA M (aQ M M (lb M) (svI M) (svI M) M hx13)<|aD ?_)
   refine aR (b:=_) M (fun hc14=>?_) (fun hc14=>?_)
   ·
    replace h:=cA h hc14
    refine aS ?_
    refine aM ?_
    refine aT ?_
    refine bB ?_
    obtain ⟨x15,hx15,h⟩:=aX h
    obtain ⟨x16,hx16,h⟩:=aX h
    refine bA (aA M (aO M M (lb M) (sv (d:=.gsl _ _ _) M))<|aA M (mvL M M M M)<|aA M (mvI M M M M)<|aA M (dW aC (cs:=q11) M M (lb M) underlying29 ti53 (svL M) (svI M) hx15 M M)<|aA M (fD (cs:=q11) M M (lb M) underlying53 ag53 ti53 (by decide) (sv (d:=.fptr q11) M) (nle M) M)<|aA M (aAp aC ([x15]:(List aH)) 22 M M (lb M) underlying42 ti82 M (.cons (svA q11 M) .nil) M M (by decide))<|aA M (aDd aC 23 M M (lb M) underlying42 ti82 M M M M (svg M) hx16)<|aA M (aG M M (lb M) (sv (d:=.gsl _ _ _) M))<|bL ?_)
    refine bJ ?_
    refine aM ?_
    obtain ⟨x17,hx17,h⟩:=bC h
    refine bA (aA M (mvI M M M M)<|aA M (bO M M (lb M) (svI M) (sv (d:=.int _ 1) M) M hx17)<|aA M (asI M M M M)<|bL ?_)
    refine aM ⟨(n0,x16,x17),(fun i=>if i=21 then 23 else i),⟨(.sames M M),(.cons (.tail M) .nil),bE [23] M (by decide),(fun i hi=>by first | rfl | (show (if _ then _ else _)=_; (repeat' split) <;> omega))⟩,?_,?_⟩
    exact h
    exact Nat.lt_succ_self _
   ·
    replace h:=cB h hc14
    refine cU ?_
    refine bK ?_
    refine bK ?_
    refine cW ?_
    refine aM ?_
    refine aF (aA M (aO M M (lb M) (sv (d:=.gsl _ _ _) M))<|aA M (aG M M (lb M) (sv (d:=.gsl _ _ _) M))<|aD ?_)
    refine aY ?_
    obtain rfl:=sj_ h
    refine ⟨.inr M,(.cons (svg_of M M) .nil)⟩

theorem pU (a0:Int) (a1:Int) (a2:Int) (a3:(List aK)) (a4:Int) (a5:Int) (a6:(List aJ)) (a7:Int) (a8:(List Int)) (r:Int) (h:jY a0 a1 a2 a3 a4 a5 a6 a7 a8=some r):FnH prog 41 [.ref 1000 0,.int .i64 a0] [(1000,.blk 67 (mixD aB.toEnc0 (w26 a1 a2 a3 a4 a5) a6 [.int .i64 a7,.osl 1001 (eInt .i64).sz a8.length])),(1001,.blk 3 (D.flat (a8.map (eInt .i64).d)))] (.int .i64 r) [(1000,.blk 67 (mixD aB.toEnc0 (w26 a1 a2 a3 a4 a5) a6 [.int .i64 a7,.osl 1001 (eInt .i64).sz a8.length])),(1001,.blk 3 (D.flat (a8.map (eInt .i64).d)))]:=by
 refine dB (rs:=[.int .i64 r]) func41 M ntmps41 (nle M) fun O hO=>?_
 show IWP _ _ _ _ ⟨[(0,.ref 1000 0),(1,.int .i64 a0)],[(1000,.blk 67 (mixD aB.toEnc0 (w26 a1 a2 a3 a4 a5) a6 [.int .i64 a7,.osl 1001 (eInt .i64).sz a8.length])),(1001,.blk 3 (D.flat (a8.map (eInt .i64).d)))]⟩ _
 unfold jY at h
 refine aF (aA M (aG M M (lb M) (sv (d:=.int _ 0) M))<|aD ?_)
 refine aT ?_
 obtain ⟨x1,hx1,h⟩:=bC h
 refine aF (aA M (mvI M M M M)<|aA M (aQ M M (lb M) (svI M) (sv (d:=.int _ (-1)) M) M hx1)<|aD ?_)
 refine aR (b:=_) M (fun hc2=>?_) (fun hc2=>?_)
 ·
  replace h:=cA h hc2
  refine aF (aA M (aG M M (lb M) (sv (d:=.int _ 0) M))<|aD ?_)
  refine aY ?_
  refine bG ?_
  obtain rfl:=sj_ h
  refine ⟨.inr M,(fun i=>i),⟨.nil,(.cons (EntW.mix aB M (SubC.of_eq M) (SubC.of_eq M) M M) (.cons (EntW.lst M) .nil)),bE [1000,1001] M (by decide),fun _ _=>M⟩,(.cons (sv M) .nil),M⟩
 ·
  replace h:=cB h hc2
  refine aS ?_
  refine aM ?_
  obtain ⟨x3,hx3,h⟩:=aX h
  obtain ⟨hk4,h⟩:=oZ h
  obtain ⟨x5,hx5,h⟩:=aX h
  refine aF (aA M (mvR M M M M)<|aA M (mvI M M M M)<|aA M (aL M M (lb M) (svR M))<|aA M (faR 5 M M M underlying67 M ti65 (lb M) M M)<|aA M (dO aB.toEnc0 M M (lb M) underlying65 ti64 (svR M) hk4 (svI M) hx3)<|aA M (bZ M M (lb M) underlying64 M ti3 (by decide) (svR M) (k':=0) M)<|aA M (cM aB.toEnc0 (b:=5) (k:=0) (d:=.int _ _) M M (lb M) underlying3 ag3 ti3 (by decide) (svR M) M M hx5 (nle M) M)<|aA M (asI M M M M)<|aD ?_)
  refine aY ?_
  obtain rfl:=sj_ h
  refine ⟨.inr M,(fun i=>i),⟨.nil,(.cons (EntW.mix aB M (SubC.of_eq M) (SubC.of_eq M) M M) (.cons (EntW.lst M) .nil)),bE [1000,1001] M (by decide),fun _ _=>M⟩,(.cons (sv M) .nil),M⟩

theorem kI (a0:(List aH)) (r:(List aH)) (h:dK a0=some r):FnH prog 42 [.osl 1000 aC.sz a0.length,.fn 43 []] [(1000,.blk 53 (D.flat (a0.map aC.d)))] (retD []) [(1000,.blk 53 (D.flat (r.map aC.d)))]:=p_sortN a0 r h

theorem rL (a0:Int) (a1:Int) (a2:(List aK)) (a3:Int) (a4:Int) (a5:(List aJ)) (a6:Int) (a7:(List Int)) (r:(List aH)) (h:kR a0 a1 a2 a3 a4 a5 a6 a7=some r):FnH prog 14 [.ref 1000 0] [(1000,.blk 67 (mixD aB.toEnc0 (w26 a0 a1 a2 a3 a4) a5 [.int .i64 a6,.osl 1001 (eInt .i64).sz a7.length])),(1001,.blk 3 (D.flat (a7.map (eInt .i64).d)))] (.slice false (r.map aC.d)) [(1000,.blk 67 (mixD aB.toEnc0 (w26 a0 a1 a2 a3 a4) a5 [.int .i64 a6,.osl 1001 (eInt .i64).sz a7.length])),(1001,.blk 3 (D.flat (a7.map (eInt .i64).d)))]:=by
 refine dB (rs:=[.slice false (r.map aC.d)]) func14 M ntmps14 (nle M) fun O hO=>?_
 show IWP _ _ _ _ ⟨[(0,.ref 1000 0)],[(1000,.blk 67 (mixD aB.toEnc0 (w26 a0 a1 a2 a3 a4) a5 [.int .i64 a6,.osl 1001 (eInt .i64).sz a7.length])),(1001,.blk 3 (D.flat (a7.map (eInt .i64).d)))]⟩ _
 unfold kR at h
 refine aF (aA M (aG M M (lb M) (sv (d:=.nils) M))<|aD ?_)
 refine aT ?_
 refine aF (aA M (mvR M M M M)<|aA M (rD M M (lb M) underlying25 (svR M) (sv (d:=.nilp) M))<|aD ?_)
 refine jD M M ?_
 refine aS ?_
 refine aM ?_
 refine aF (aA M (aG M M (lb M) (sv (d:=.nils) M))<|aD ?_)
 refine aT ?_
 obtain ⟨x1,hx1,h⟩:=aX h
 refine aF (aA M (mvR M M M M)<|aA M (aL M M (lb M) (svR M))<|aA M (faR 2 M M M underlying67 M ti61 (lb M) M M)<|aA M (oW aB.toEnc0 (cs:=q13) M M (lb M) underlying61 ag61 ti61 (by decide) (svR M) M (nle M) (by rfl))<|aA M (bU (r:=.slice _ _) M M (lb M) cl40 (.cons (svA q13 M) .nil) M (uE _ _ hx1))<|aA M (cV (eInt .i64) (l:=x1) M M (lb M) underlying30 (svL M))<|aA M (aO M M (lb M) (sv (d:=.int _ 0) M))<|aD ?_)
 refine bB ?_
 refine cP (α:=Nat × (List aH) × Int) (fun z=>⟨[(0,.ref 1000 0),(3,.osl 21 aC.sz z.2.1.length),(13,.slice false (x1.map (eInt .i64).d)),(14,.int .i64 (x1.length:Int)),(15,.int .i64 z.2.2)],[(1000,.blk 67 (mixD aB.toEnc0 (w26 a0 a1 a2 a3 a4) a5 [.int .i64 a6,.osl 1001 (eInt .i64).sz a7.length])),(21,.blk 53 (D.flat (z.2.1.map aC.d))),(1001,.blk 3 (D.flat (a7.map (eInt .i64).d)))]⟩) (fun z=>fI a0 a1 a2 a3 a4 a5 a6 a7 x1 z.1 z.2.1 z.2.2=some r) (fun z=>z.1) (fuel,([]:(List aH)),0) (fun i=>if i=21 then 71 else i) ⟨(.s M M (.cons (.nilo M) (.sames M M))),(.cons (EntW.mix aB M (SubC.of_eq M) (SubC.of_eq M) M M) (.cons (.nilb M) (.cons (EntW.lst M) .nil))),bE [1000,71,1001] M (by decide),(fun i hi=>by first | rfl | (show (if _ then _ else _)=_; (repeat' split) <;> omega))⟩ ?_ ?_
 ·exact h
 ·
  rintro ⟨n0,v11,v12⟩ h
  cases n0 with
  | zero=>exact absurd h (by unfold fI; exact nofun)
  | succ n0 =>
   unfold fI at h
   obtain ⟨x22,hx22,h⟩:=bC h
   refine aF (aA M (aQ M M (lb M) (svI M) (svI M) M hx22)<|aD ?_)
   refine aT ?_
   refine aR (b:=_) M (fun hc23=>?_) (fun hc23=>?_)
   ·
    replace h:=cA h hc23
    refine aS ?_
    refine aM ?_
    refine aT ?_
    refine bB ?_
    obtain ⟨x24,hx24,h⟩:=aX h
    refine aF (aA M (dW (eInt .i64) (cs:=[.int _ _]) M M (lb M) underlying30 ti3 (svL M) (svI M) hx24 M M)<|aA M (eM M M (lb M) underlying3 ag3 ti3 (by decide) (sv (d:=.fptr [.int _ _]) M) (nle M))<|aA M (asI M M M M)<|aD ?_)
    obtain ⟨x25,hx25,h⟩:=aX h
    obtain ⟨hk26,h⟩:=oZ h
    obtain ⟨x27,hx27,h⟩:=aX h
    refine aF (aA M (mvR M M M M)<|aA M (mvI M M M M)<|aA M (aL M M (lb M) (svR M))<|aA M (faR 5 M M M underlying67 M ti65 (lb M) M M)<|aA M (dO aB.toEnc0 M M (lb M) underlying65 ti64 (svR M) hk26 (svI M) hx25)<|aA M (aAl aB.toEnc0 (b:=5) (k:=0) (cs:=q6) M M (lb M) underlying64 ag64 ti64 (by decide) (svR M) M M hx27 (nle M) M)<|aA M (cT (cs:=q6) (cs':=[.int .i64 0,.int .i64 0,.int .i64 0,.int .i64 0,.int .i64 0,.bool false]) 22 M M (lb M) M ti64 M M (.all _))<|aA M (stA q6 q6 ti64 M M M M M M M M (nle M) M)<|aD ?_)
    obtain ⟨x28,hx28,h⟩:=aX h
    obtain ⟨x29,hx29,h⟩:=aX h
    refine lH M [⟨[3],[],[(25,.osl 21 aC.sz v11.length)],[]⟩,
     ⟨[6],[],[(26,.ref 22 0)],[]⟩,
     ⟨[26],[22],[(27,.int .i64 x27.id)],[]⟩,
     ⟨[0],[],[(28,.ref 1000 0)],[]⟩,
     ⟨[6],[],[(29,.ref 22 1)],[]⟩,
     ⟨[29],[22],[(30,.int .i64 x27.up)],[]⟩,
     ⟨[28,30],[1000,1001],[(31,.int .i64 x28)],[]⟩,
     ⟨[6],[],[(32,.ref 22 4)],[]⟩,
     ⟨[32],[22],[(33,.int .i64 x27.weight)],[]⟩,
     ⟨[6],[],[(34,.ref 22 5)],[]⟩,
     ⟨[34],[22],[(35,.bool x27.closed)],[]⟩,
     ⟨[27,31,33,35],[],[(36,.agg (w28 x27.id x28 x27.weight x27.closed))],[]⟩,
     ⟨[36],[23],[(37,.osl 23 aC.sz (([(⟨x27.id,x28,x27.weight,x27.closed⟩:aH)]:(List aH)).length))],[(23,.blk 53 (D.flat ((([(⟨x27.id,x28,x27.weight,x27.closed⟩:aH)]:(List aH))).map aC.d)))]⟩,
     ⟨[25,37],[21,23,24],[(38,.osl 24 aC.sz x29.length)],[(24,.blk 53 (D.flat (x29.map aC.d))),(21,.none)]⟩,
     ⟨[38],[],[(3,.osl 24 aC.sz x29.length)],[]⟩] M ?_ (by kernel_rfl) ?_
    ·refine .cons (lop M M fun S hA=>(aO M M (lb M) (sv (d:=.osl _ _ _) (agr hA M M)))) ?_
     refine .cons (lop M M fun S hA=>(aP M M (lb M) underlying64 M ti3 (by decide) (svaR hA M M) (off':=0) M)) ?_
     refine .cons (lop M M fun S hA=>(aI (d:=.int _ _) M M (lb M) underlying3 ag3 ti3 (by decide) (svaR hA M M) (agi hA M M) (nle M) M)) ?_
     refine .cons (lop M M fun S hA=>(aO M M (lb M) (svaR hA M M))) ?_
     refine .cons (lop M M fun S hA=>(aP M M (lb M) underlying64 M ti3 (by decide) (svaR hA M M) (off':=1) M)) ?_
     refine .cons (lop M M fun S hA=>(aI (d:=.int _ _) M M (lb M) underlying3 ag3 ti3 (by decide) (svaR hA M M) (agi hA M M) (nle M) M)) ?_
     refine .cons (lop M M fun S hA=>(mH (r':=.int .i64 x28) (V:=[(1000,.blk 67 (mixD aB.toEnc0 (w26 a0 a1 a2 a3 a4) a5 [.int .i64 a6,.osl 1001 (eInt .i64).sz a7.length])),(1001,.blk 3 (D.flat (a7.map (eInt .i64).d)))]) 23 [1000,1001] M M (lb M) cl41 (.cons (svaR hA M M) (.cons (svaI hA M M) .nil)) M M M ⟨by decide,M,List.forall_mem_cons.2 ⟨⟨M,M,(mT aB (agi hA M M) M M),(eA aB M M)⟩,List.forall_mem_cons.2 ⟨⟨M,M,(iF (eInt .i64) (agi hA M M)),(bP (eInt .i64))⟩,List.forall_mem_nil _⟩⟩⟩ (pU _ _ _ _ _ _ _ _ _ _ hx28) M M (List.forall_mem_cons.2 ⟨⟨M,(eA aB M M)⟩,List.forall_mem_cons.2 ⟨⟨M,(bP (eInt .i64))⟩,List.forall_mem_nil _⟩⟩) (by simp only [List.map_cons,List.map_nil,Ent.ren,bT,cE,eL]; rfl) (List.forall_mem_cons.2 ⟨(agi hA M M),List.forall_mem_cons.2 ⟨(agi hA M M),List.forall_mem_nil _⟩⟩) M)) ?_
     refine .cons (lop M M fun S hA=>(aP M M (lb M) underlying64 M ti3 (by decide) (svaR hA M M) (off':=4) M)) ?_
     refine .cons (lop M M fun S hA=>(aI (d:=.int _ _) M M (lb M) underlying3 ag3 ti3 (by decide) (svaR hA M M) (agi hA M M) (nle M) M)) ?_
     refine .cons (lop M M fun S hA=>(aP M M (lb M) underlying64 M ti4 (by decide) (svaR hA M M) (off':=5) M)) ?_
     refine .cons (lop M M fun S hA=>(aI (d:=.bool _) M M (lb M) underlying4 ag4 ti4 (by decide) (svaR hA M M) (agi hA M M) (nle M) M)) ?_
     refine .cons (lop M M fun S hA=>(cJ (cs:=q11) M M (lb M) underlying53 ti53 pl53 M (.cons (svaI hA M M) (.cons (svaI hA M M) (.cons (svaI hA M M) (.cons (svaB hA M M) .nil)))) M)) ?_
     refine .cons (lop M M fun S hA=>(lD aC.toEnc0 ([(⟨x27.id,x28,x27.weight,x27.closed⟩:aH)]:(List aH)) 23 M M (lb M) underlying29 ti53 (agi hA M M) (.cons (svaA q11 hA M M) .nil) M M (by decide))) ?_
     refine .cons (lop M M fun S hA=>(iH aC.toEnc0 24 M M (lb M) underlying29 ti53 M (agr hA M M) M (agi hA M M) (agi hA M M) (qP aC.toEnc0 (agr hA M M) M (agi hA M M)) hx29)) ?_
     refine .cons (lop M M fun S hA=>(aG M M (lb M) (sv (d:=.osl _ _ _) (agr hA M M)))) ?_
     exact .nil
    refine bJ ?_
    refine aM ?_
    obtain ⟨x30,hx30,h⟩:=bC h
    refine bA (aA M (bO M M (lb M) (svI M) (sv (d:=.int _ 1) M) M hx30)<|aA M (mvI M M M M)<|bL ?_)
    refine aM ⟨(n0,x29,x30),(fun i=>if i=21 then 24 else i),⟨(.sames M M),(.cons (EntW.mix aB M (SubC.of_eq M) (SubC.of_eq M) M M) (.cons (EntW.lst M) (.cons (EntW.lst M) .nil))),bE [1000,24,1001] M (by decide),(fun i hi=>by first | rfl | (show (if _ then _ else _)=_; (repeat' split) <;> omega))⟩,?_,?_⟩
    exact h
    exact Nat.lt_succ_self _
   ·
    replace h:=cB h hc23
    refine cU ?_
    refine bK ?_
    refine bK ?_
    refine cW ?_
    refine aM ?_
    obtain ⟨x31,hx31,h⟩:=aX h
    obtain ⟨hk32,h⟩:=oZ h
    refine aF (aA M (aO M M (lb M) (sv (d:=.osl _ _ _) M))<|aA M (cQ (r':=.tuple []) (H1':=[(21,.blk 53 (D.flat (x31.map aC.d)))]) 22 [21] M M (lb M) cl42 (.cons (sv (d:=.osl _ _ _) M) (.cons (sv (d:=.fn 43 []) M) .nil)) M M ⟨M,M,by decide,M,List.forall_mem_cons.2 ⟨⟨M,M,(iF aC M),(bP aC)⟩,List.forall_mem_nil _⟩⟩ (kI _ _ hx31) M M (List.forall_mem_cons.2 ⟨⟨M,(bP aC)⟩,List.forall_mem_nil _⟩) (by simp only [List.map_cons,List.map_nil,Ent.ren,bT,cE]; rfl))<|aD ?_)
    refine aF (aA M (aO M M (lb M) (sv (d:=.osl _ _ _) M))<|aA M (aG M M (lb M) (sv (d:=.osl _ _ _) M))<|aD ?_)
    refine xL 2 (id:=21) (l:=x31.map aC.d) ⟨_,M⟩ M M (by rw [List.length_map]; exact hk32) (aC.toEnc0.len _) aC.pos (aC.noRef _) ?_
    refine aY ?_
    obtain rfl:=sj_ h
    refine ⟨.inr M,(fun i=>i),⟨.nil,(.cons (EntW.mix aB M (SubC.of_eq M) (SubC.of_eq M) M M) (.cons (EntW.lst M) .nil)),bE [1000,1001] M (by decide),fun _ _=>M⟩,(.cons (sv M) .nil),M⟩

theorem qD (a0:(List aH)) (a1:(List aH)) (r:Bool) (h:jB a0 a1=some r):eK prog 12 [.slice false (a0.map aC.d),.slice false (a1.map aC.d)] (.bool r):=by
 refine bW (rs:=[.bool r]) func12 M ntmps12 (nle M) M fun O hO=>?_
 show IWP _ _ _ _ ⟨[(0,.slice false (a0.map aC.d)),(1,.slice false (a1.map aC.d))],[]⟩ _
 unfold jB at h
 refine aF (aA M (aG M M (lb M) (sv (d:=.bool false) M))<|aD ?_)
 refine aT ?_
 obtain ⟨x1,hx1,h⟩:=bC h
 refine aF (aA M (mvL M M M M)<|aA M (cV aC (l:=a0) M M (lb M) underlying42 (svL M))<|aA M (mvL M M M M)<|aA M (cV aC (l:=a1) M M (lb M) underlying42 (svL M))<|aA M (aQ M M (lb M) (svI M) (svI M) M hx1)<|aD ?_)
 refine aR (b:=_) M (fun hc2=>?_) (fun hc2=>?_)
 ·
  replace h:=cA h hc2
  refine aF (aA M (aG M M (lb M) (sv (d:=.bool false) M))<|aD ?_)
  refine aY ?_
  refine bG ?_
  obtain rfl:=sj_ h
  refine ⟨.inr M,(.cons (sv M) .nil)⟩
 ·
  replace h:=cB h hc2
  refine aS ?_
  refine aM ?_
  refine aT ?_
  refine aF (aA M (aG M M (lb M) (sv (d:=.int _ 0) M))<|aD ?_)
  refine bB ?_
  refine cP (α:=Nat × Int) (fun z=>⟨[(0,.slice false (a0.map aC.d)),(1,.slice false (a1.map aC.d)),(5,.int .i64 z.2)],[]⟩) (fun z=>eJ a0 a1 z.1 z.2=some r) (fun z=>z.1) (fuel,0) (fun i=>i) ⟨(.sames M M),.nil,bE [] M (by decide),fun _ _=>M⟩ ?_ ?_
  ·exact h
  ·
   rintro ⟨n0,v10⟩ h
   cases n0 with
   | zero=>exact absurd h (by unfold eJ; exact nofun)
   | succ n0 =>
    unfold eJ at h
    refine aT ?_
    obtain ⟨x18,hx18,h⟩:=bC h
    refine aF (aA M (mvI M M M M)<|aA M (mvL M M M M)<|aA M (cV aC (l:=a0) M M (lb M) underlying42 (svL M))<|aA M (aQ M M (lb M) (svI M) (svI M) M hx18)<|aD ?_)
    refine aR (b:=_) M (fun hc19=>?_) (fun hc19=>?_)
    ·
     replace h:=cA h hc19
     refine aS ?_
     refine aM ?_
     refine aT ?_
     refine bB ?_
     obtain ⟨x20,hx20,h⟩:=aX h
     obtain ⟨x21,hx21,h⟩:=aX h
     obtain ⟨x22,hx22,h⟩:=bC h
     refine iR M [⟨[0],[],[(17,.slice false (a0.map aC.d))],[]⟩,
      ⟨[5],[],[(18,.int .i64 v10)],[]⟩,
      ⟨[17,18],[],[(19,.fptr (v3 x20))],[]⟩,
      ⟨[19],[],[(20,.agg (v3 x20))],[]⟩,
      ⟨[1],[],[(21,.slice false (a1.map aC.d))],[]⟩,
      ⟨[5],[],[(22,.int .i64 v10)],[]⟩,
      ⟨[21,22],[],[(23,.fptr (v3 x21))],[]⟩,
      ⟨[23],[],[(24,.agg (v3 x21))],[]⟩,
      ⟨[20,24],[],[(25,.bool (!x22))],[]⟩] M ?_ (by kernel_rfl) ?_
     ·refine .cons (lop M M fun S hA=>(aO M M (lb M) (svaL hA M M))) ?_
      refine .cons (lop M M fun S hA=>(aO M M (lb M) (svaI hA M M))) ?_
      refine .cons (lop M M fun S hA=>(dW aC (cs:=q11) M M (lb M) underlying42 ti82 (svaL hA M M) (svaI hA M M) hx20 M M)) ?_
      refine .cons (lop M M fun S hA=>(fD (cs:=q11) M M (lb M) underlying82 ag82 ti82 (by decide) (sv (d:=.fptr q11) (agr hA M M)) (nle M) M)) ?_
      refine .cons (lop M M fun S hA=>(aO M M (lb M) (svaL hA M M))) ?_
      refine .cons (lop M M fun S hA=>(aO M M (lb M) (svaI hA M M))) ?_
      refine .cons (lop M M fun S hA=>(dW aC (cs:=q11) M M (lb M) underlying42 ti82 (svaL hA M M) (svaI hA M M) hx21 M M)) ?_
      refine .cons (lop M M fun S hA=>(fD (cs:=q11) M M (lb M) underlying82 ag82 ti82 (by decide) (sv (d:=.fptr q11) (agr hA M M)) (nle M) M)) ?_
      refine .cons (lop M M fun S hA=>(aCi M M (lb M) underlying82 st82.1 st82.2 (svaA q11 hA M M) (svaA q11 hA M M) (congrArg some hx22))) ?_
      exact .nil
     refine aR (b:=_) M (fun hc23=>?_) (fun hc23=>?_)
     ·
      replace h:=cA h hc23
      refine aF (aA M (aG M M (lb M) (sv (d:=.bool false) M))<|aD ?_)
      refine aY ?_
      refine cO ?_
      refine bG ?_
      refine bG ?_
      refine cO ?_
      refine bG ?_
      obtain rfl:=sj_ h
      refine ⟨.inr M,(.cons (sv M) .nil)⟩
     ·
      replace h:=cB h hc23
      refine aS ?_
      refine bJ ?_
      refine aM ?_
      obtain ⟨x24,hx24,h⟩:=bC h
      refine bA (aA M (mvI M M M M)<|aA M (bO M M (lb M) (svI M) (sv (d:=.int _ 1) M) M hx24)<|aA M (asI M M M M)<|bL ?_)
      refine aM ⟨(n0,x24),(fun i=>i),⟨(.sames M M),.nil,bE [] M (by decide),fun _ _=>M⟩,?_,?_⟩
      exact h
      exact Nat.lt_succ_self _
    ·
     replace h:=cB h hc19
     refine cU ?_
     refine bK ?_
     refine bK ?_
     refine cW ?_
     refine aM ?_
     refine aF (aA M (aG M M (lb M) (sv (d:=.bool true) M))<|aD ?_)
     refine aY ?_
     obtain rfl:=sj_ h
     refine ⟨.inr M,(.cons (sv M) .nil)⟩

theorem qZ (a0:Int) (a1:Int) (a2:(List aK)) (a3:Int) (a4:Int) (a5:(List aJ)) (a6:Int) (a7:(List Int)) (r:(List Int)) (h:kC a0 a1 a2 a3 a4 a5 a6 a7=some r):FnH prog 16 [.ref 1000 0] [(1000,.blk 67 (mixD aB.toEnc0 (w26 a0 a1 a2 a3 a4) a5 [.int .i64 a6,.osl 1001 (eInt .i64).sz a7.length])),(1001,.blk 3 (D.flat (a7.map (eInt .i64).d)))] (.slice false (r.map (eInt .i64).d)) [(1000,.blk 67 (mixD aB.toEnc0 (w26 a0 a1 a2 a3 a4) a5 [.int .i64 a6,.osl 1001 (eInt .i64).sz a7.length])),(1001,.blk 3 (D.flat (a7.map (eInt .i64).d)))]:=by
 refine dB (rs:=[.slice false (r.map (eInt .i64).d)]) func16 M ntmps16 (nle M) fun O hO=>?_
 show IWP _ _ _ _ ⟨[(0,.ref 1000 0)],[(1000,.blk 67 (mixD aB.toEnc0 (w26 a0 a1 a2 a3 a4) a5 [.int .i64 a6,.osl 1001 (eInt .i64).sz a7.length])),(1001,.blk 3 (D.flat (a7.map (eInt .i64).d)))]⟩ _
 unfold kC at h
 refine aF (aA M (aG M M (lb M) (sv (d:=.nils) M))<|aD ?_)
 refine aT ?_
 refine aF (aA M (mvR M M M M)<|aA M (rD M M (lb M) underlying25 (svR M) (sv (d:=.nilp) M))<|aD ?_)
 refine jD M M ?_
 refine aS ?_
 refine aM ?_
 refine aF (aA M (aG M M (lb M) (sv (d:=.nils) M))<|aD ?_)
 refine aT ?_
 obtain ⟨hk1,h⟩:=oZ h
 refine aF (aA M (mvR M M M M)<|aA M (aL M M (lb M) (svR M))<|aA M (faR 390 M M M underlying67 M ti30 (lb M) M M)<|aA M (iD aB.toEnc0 (d:=.osl _ _ _) (n:=64) (k:=1) M M (lb M) underlying30 ag30 ti30 (by decide) (svR M) M hk1 (by rfl) (nle M) (by rfl))<|aA M (kV M M (lb M) underlying30 (sv (d:=.osl _ _ _) M))<|aA M (aO M M (lb M) (sv (d:=.int _ 0) M))<|aD ?_)
 refine bB ?_
 refine cP (α:=Nat × (List Int) × Int) (fun z=>⟨[(0,.ref 1000 0),(3,.osl 21 (eInt .i64).sz z.2.1.length),(11,.osl 1001 (eInt .i64).sz a7.length),(12,.int .i64 (a7.length:Int)),(13,.int .i64 z.2.2)],[(1000,.blk 67 (mixD aB.toEnc0 (w26 a0 a1 a2 a3 a4) a5 [.int .i64 a6,.osl 1001 (eInt .i64).sz a7.length])),(21,.blk 3 (D.flat (z.2.1.map (eInt .i64).d))),(1001,.blk 3 (D.flat (a7.map (eInt .i64).d)))]⟩) (fun z=>eX a0 a1 a2 a3 a4 a5 a6 a7 z.1 z.2.1 z.2.2=some r) (fun z=>z.1) (fuel,([]:(List Int)),0) (fun i=>if i=21 then 71 else i) ⟨(.s M M (.cons (.nilo M) (.sames M M))),(.cons (EntW.mix aB M (SubC.of_eq M) (SubC.of_eq M) M M) (.cons (.nilb M) (.cons (EntW.lst M) .nil))),bE [1000,71,1001] M (by decide),(fun i hi=>by first | rfl | (show (if _ then _ else _)=_; (repeat' split) <;> omega))⟩ ?_ ?_
 ·exact h
 ·
  rintro ⟨n0,v9,v10⟩ h
  cases n0 with
  | zero=>exact absurd h (by unfold eX; exact nofun)
  | succ n0 =>
   unfold eX at h
   obtain ⟨x18,hx18,h⟩:=bC h
   refine aF (aA M (aQ M M (lb M) (svI M) (svI M) M hx18)<|aD ?_)
   refine aT ?_
   refine aR (b:=_) M (fun hc19=>?_) (fun hc19=>?_)
   ·
    replace h:=cA h hc19
    refine aS ?_
    refine aM ?_
    refine aT ?_
    refine bB ?_
    obtain ⟨x20,hx20,h⟩:=aX h
    obtain ⟨x21,hx21,h⟩:=aX h
    refine aF (aA M (fY (eInt .i64).toEnc0 M M (lb M) underlying30 ti3 (sv (d:=.osl _ _ _) M) M (svI M) hx20)<|aA M (fP (eInt .i64).toEnc0 (d:=.int _ _) M M (lb M) underlying3 ag3 ti3 (by decide) (svR M) M hx21 (nle M) M)<|aA M (asI M M M M)<|aD ?_)
    obtain ⟨x22,hx22,h⟩:=aX h
    obtain ⟨x23,hx23,h⟩:=aX h
    refine bA (aA M (aO M M (lb M) (sv (d:=.osl _ _ _) M))<|aA M (mvR M M M M)<|aA M (mvI M M M M)<|aA M (mH (r':=.int .i64 x22) (V:=[(1000,.blk 67 (mixD aB.toEnc0 (w26 a0 a1 a2 a3 a4) a5 [.int .i64 a6,.osl 1001 (eInt .i64).sz a7.length])),(1001,.blk 3 (D.flat (a7.map (eInt .i64).d)))]) 22 [1000,1001] M M (lb M) cl41 (.cons (svR M) (.cons (svI M) .nil)) M M M ⟨by decide,M,List.forall_mem_cons.2 ⟨⟨M,M,(mT aB M M M),(eA aB M M)⟩,List.forall_mem_cons.2 ⟨⟨M,M,(iF (eInt .i64) M),(bP (eInt .i64))⟩,List.forall_mem_nil _⟩⟩⟩ (pU _ _ _ _ _ _ _ _ _ _ hx22) M M (List.forall_mem_cons.2 ⟨⟨M,(eA aB M M)⟩,List.forall_mem_cons.2 ⟨⟨M,(bP (eInt .i64))⟩,List.forall_mem_nil _⟩⟩) (by simp only [List.map_cons,List.map_nil,Ent.ren,bT,cE,eL]; rfl) (List.forall_mem_cons.2 ⟨M,List.forall_mem_cons.2 ⟨M,List.forall_mem_nil _⟩⟩) M)<|aA M (lD (eInt .i64).toEnc0 ([x22]:(List Int)) 22 M M (lb M) underlying30 ti3 M (.cons (svI M) .nil) M M (by decide))<|aA M (iH (eInt .i64).toEnc0 23 M M (lb M) underlying30 ti3 M M M M M (qP (eInt .i64).toEnc0 M M M) hx23)<|aA M (aG M M (lb M) (sv (d:=.osl _ _ _) M))<|bL ?_)
    refine bJ ?_
    refine aM ?_
    obtain ⟨x24,hx24,h⟩:=bC h
    refine bA (aA M (bO M M (lb M) (svI M) (sv (d:=.int _ 1) M) M hx24)<|aA M (mvI M M M M)<|bL ?_)
    refine aM ⟨(n0,x23,x24),(fun i=>if i=21 then 23 else i),⟨(.sames M M),(.cons (EntW.mix aB M (SubC.of_eq M) (SubC.of_eq M) M M) (.cons (EntW.lst M) (.cons (EntW.lst M) .nil))),bE [1000,23,1001] M (by decide),(fun i hi=>by first | rfl | (show (if _ then _ else _)=_; (repeat' split) <;> omega))⟩,?_,?_⟩
    exact h
    exact Nat.lt_succ_self _
   ·
    replace h:=cB h hc19
    refine cU ?_
    refine bK ?_
    refine bK ?_
    refine cW ?_
    refine aM ?_
    refine aF (aA M (aO M M (lb M) (sv (d:=.osl _ _ _) M))<|aA M (aG M M (lb M) (sv (d:=.osl _ _ _) M))<|aD ?_)
    refine xL 2 (id:=21) (l:=v9.map (eInt .i64).d) ⟨_,M⟩ M M (List.length_map ..) ((eInt .i64).toEnc0.len _) (eInt .i64).pos ((eInt .i64).noRef _) ?_
    refine aY ?_
    obtain rfl:=sj_ h
    refine ⟨.inr M,(fun i=>i),⟨.nil,(.cons (EntW.mix aB M (SubC.of_eq M) (SubC.of_eq M) M M) (.cons (EntW.lst M) .nil)),bE [1000,1001] M (by decide),fun _ _=>M⟩,(.cons (sv M) .nil),M⟩

theorem qS (a0:pY) (a1:(List dD)) (r:Bool) (h:jH a0 a1=some r):eK prog 3 [.agg [.int .u8 a0.c0,.int .u8 a0.c1],.slice false (a1.map hG.d)] (.bool r):=by
 refine bW (rs:=[.bool r]) func3 M ntmps3 (nle M) M fun O hO=>?_
 show IWP _ _ _ _ ⟨[(0,.agg [.int .u8 a0.c0,.int .u8 a0.c1]),(1,.slice false (a1.map hG.d))],[]⟩ _
 unfold jH at h
 refine aF (aA M (cK (cs:=[.int _ _,.int _ _]) 0 M M (lb M) M (sv (d:=.agg [.int _ _,.int _ _]) M) M M)<|aA M (aG M M (lb M) (sv (d:=.bool false) M))<|aD ?_)
 refine aT ?_
 obtain ⟨x1,hx1,h⟩:=bC h
 refine aF (aA M (mvL M M M M)<|aA M (cV hG (l:=a1) M M (lb M) underlying23 (svL M))<|aA M (aQ M M (lb M) (svI M) (sv (d:=.int _ 60) M) M hx1)<|aD ?_)
 refine aR (b:=_) M (fun hc2=>?_) (fun hc2=>?_)
 ·
  replace h:=cA h hc2
  obtain ⟨x3,hx3,h⟩:=aX h
  refine aF (aA M (bU (r:=.bool _) M M (lb M) cl4 .nil M (oB  _ hx3))<|aA M (asB M M M M)<|aD ?_)
  refine aY ?_
  refine bG ?_
  obtain rfl:=sj_ h
  refine ⟨.inr M,(.cons (sv M) .nil)⟩
 ·
  replace h:=cB h hc2
  refine aS ?_
  refine aM ?_
  obtain ⟨x4,hx4,h⟩:=aX h
  obtain ⟨x5,hx5,h⟩:=bC h
  obtain ⟨x6,hx6,h⟩:=bC h
  refine aF (aA M (qI M M (lb M) underlying22 ti5 (svR M) (sv (d:=.int _ 0) M) (by decide) (by decide) (off':=0) M)<|aA M (aI (d:=.int _ _) M M (lb M) underlying5 ag5 ti5 (by decide) (svR M) M (nle M) M)<|aA M (yP M M (lb M) (svI M) (sv (d:=.int _ 24) M) hx4)<|aA M (pE M M (lb M) ⟨_,underlying5⟩ underlying3 (svI M) hx5)<|aA M (bO M M (lb M) (sv (d:=.int _ 1) M) (svI M) M hx6)<|aA M (asI M M M M)<|aD ?_)
  obtain ⟨x7,hx7,h⟩:=bC h
  obtain ⟨x8,hx8,h⟩:=bC h
  obtain ⟨x9,hx9,h⟩:=aX h
  refine aF (aA M (qI M M (lb M) underlying22 ti5 (svR M) (sv (d:=.int _ 1) M) (by decide) (by decide) (off':=1) M)<|aA M (aI (d:=.int _ _) M M (lb M) underlying5 ag5 ti5 (by decide) (svR M) M (nle M) M)<|aA M (pE M M (lb M) ⟨_,underlying5⟩ underlying3 (svI M) hx7)<|aA M (mvI M M M M)<|aA M (bO M M (lb M) (svI M) (sv (d:=.int _ 1) M) M hx8)<|aA M (yP M M (lb M) (svI M) (svI M) hx9)<|aA M (asI M M M M)<|aD ?_)
  refine aF (aA M (mvI M M M M)<|aA M (mvI M M M M) <|?_)
  refine jE (S':=⟨[(1,.slice false (a1.map hG.d)),(5,.int .i64 x6),(6,.int .i64 x9),(31,.int .i64 x6),(32,.int .i64 x9)],[]⟩) (fun i=>i) ⟨(.sames M M),.nil,bE [] M (by decide),fun _ _=>M⟩ ?_
  refine mO 1 1 M M M (by decide) cl5 func5 M (.cons (svI M) (.cons (svI M) .nil)) ntmps5 (nle M) M hO.semiL fun O1 hO1=>?_
  show IWP _ _ _ _ ⟨[(0,.int .i64 x6),(1,.int .i64 x9)],[(1,.kept 1 (.dead::(.slice false (a1.map hG.d)::(.dead::(.dead::(.dead::(.int .i64 x6::(.int .i64 x9::(dd_ 24 (.int .i64 x6::(.int .i64 x9::(dd_ 96 []))))))))))))]⟩ _
  refine aF (aA M (aG M M (lb M) (sv (d:=.nilp) M))<|aA M (aG M M (lb M) (sv (d:=.int _ 0) M))<|aD ?_)
  refine aT ?_
  obtain ⟨x10,hx10,h⟩:=aX h
  obtain ⟨x11,hx11,h⟩:=aX h
  obtain ⟨x12,hx12,h⟩:=bC h
  refine aF (aA M (mvI M M M M)<|aA M (bU (r:=.bool _) M M (lb M) cl23 (.cons (svI M) (.cons (sv (d:=.int _ 1) M) (.cons (sv (d:=.int _ 24) M) .nil))) M (pT _ _ _ _ hx10))<|aA M (gD M M (lb M) (svB M))<|aA M (mvB M M M M)<|aN M M (.one M) M (by decide) (fun hb=>(mvI M M M M))<|aN M M (.one M) M (by decide) (fun hb=>(mvI M M M M))<|aN M M (.one M) M (by decide) (fun hb=>(bU (r:=.bool _) M M (lb M) cl23 (.cons (svcI M hb) (.cons (sv (d:=.int _ 0) M) (.cons (svcI M hb) .nil))) M (pT _ _ _ _ (gd_t hx11 hb))))<|aN M M (.one M) M (by decide) (fun hb=>(gD M M (lb M) (svcB M hb)))<|aA M (kL M M (lb M) (svB M) M M hx12)<|aD ?_)
  refine aR (b:=_) M (fun hc13=>?_) (fun hc13=>?_)
  ·
   replace h:=cA h hc13
   refine aF (aA M (aG M M (lb M) (sv (d:=.nilp) M))<|aA M (aG M M (lb M) (sv (d:=.int _ 8) M))<|aD ?_)
   refine aY ?_
   refine bG ?_
   refine ⟨.inr M,1,_,[.nilp,.int .i64 8],(.cons (sv M) (.cons (sv M) .nil)),M,M,⟨[(1,.slice false (a1.map hG.d)),(5,.int .i64 x6),(6,.int .i64 x9),(33,.tuple [.nilp,.int .i64 8])],[]⟩,(fun i=>i),⟨(.sames M M),.nil,bE [] M (by decide),fun _ _=>M⟩,?_⟩
   refine aA M (aO M M (lb M) (sv (d:=.tuple [.nilp,.int _ _]) M))<|aA M (bQ (d:=.nilp) M M (lb M) (sv (d:=.tuple [.nilp,.int _ _]) M) M)<|aA M (bQ (d:=.int _ _) M M (lb M) (sv (d:=.tuple [.nilp,.int _ _]) M) M)<|aA M (aG M M (lb M) (sv (d:=.nilp) M))<|aA M (asI M M M M)<|aD ?_
   refine aT ?_
   obtain ⟨x14,hx14,h⟩:=bC h
   obtain ⟨x15,hx15,h⟩:=bC h
   refine aF (aA M (mvI M M M M)<|aA M (aQ M M (lb M) (svI M) (sv (d:=.int _ 0) M) M hx14)<|aA M (mvB M M M M)<|aN M M (.one M) M (by decide) (fun hb=>(aO M M (lb M) (sv (d:=.nilp) M)))<|aN M M (.one M) M (by decide) (fun hb=>(aDb M M (lb M) underlying25 (svc (d:=.nilp) M hb) (sv (d:=.nilp) M)))<|aA M (kL M M (lb M) (svB M) M M hx15)<|aD ?_)
   refine rH M (or_tt hx15) ?_
   refine aF (aA M (aG M M (lb M) (sv (d:=.bool false) M))<|aD ?_)
   refine aY ?_
   refine bG ?_
   obtain rfl:=sj_ h
   refine ⟨.inr M,(.cons (sv M) .nil)⟩
  ·
   replace h:=cB h hc13
   refine aS ?_
   refine aM ?_
   obtain ⟨x16,hx16,h⟩:=aX h
   refine aF (aA M (mvI M M M M)<|aA M (mvI M M M M)<|aA M (bU (r:=.agg q13) M M (lb M) cl24 .nil M (aAg  _ hx16))<|aA M (cJ (cs:=(mixD aB.toEnc0 q7 (List.replicate 64 (⟨0,0,0,0,0,false⟩:aJ):(List aJ)) [.int _ _,.nils])) M M (lb M) underlying67 ti67 pl67 M (.cons (svI M) (.cons (svI M) (.cons (svA q13 M) (.cons (sv (d:=.int _ (-1)) M) .nil)))) (by kernel_rfl))<|aA M (cK (cs:=(mixD aB.toEnc0 q7 (List.replicate 64 (⟨0,0,0,0,0,false⟩:aJ):(List aJ)) [.int _ _,.nils])) 2 M M (lb M) M (sv (d:=.agg (mixD aB.toEnc0 q7 (List.replicate 64 (⟨0,0,0,0,0,false⟩:aJ):(List aJ)) [.int _ _,.nils])) M) M M)<|jE (S':=⟨[(0,.int .i64 x6),(1,.int .i64 x9),(4,.nilp),(5,.int .i64 0),(6,.int .i64 x6),(7,.bool x10),(8,.bool (!x10)),(9,.bool (!x10)),(14,.bool x12),(15,.int .i64 x6),(16,.int .i64 x9),(17,.agg (v2 x16)),(18,.agg (mixD aB.toEnc0 (w26 x6 x9 x16.Cells x16.Free x16.Used) (List.replicate 64 (⟨0,0,0,0,0,false⟩:aJ):(List aJ)) [.int .i64 (-1),.nils])),(19,.ref 2 0)],[(3,.blk 3 (D.flat (([]:(List Int)).map (eInt .i64).d))),(1,.kept 1 (.dead::(.slice false (a1.map hG.d)::(.dead::(.dead::(.dead::(.int .i64 x6::(.int .i64 x9::(dd_ 24 (.int .i64 x6::(.int .i64 x9::(dd_ 96 [])))))))))))),(2,.blk 67 (mixD aB.toEnc0 (w26 x6 x9 x16.Cells x16.Free x16.Used) (List.replicate 64 (⟨0,0,0,0,0,false⟩:aJ):(List aJ)) [.int .i64 (-1),.osl 3 (eInt .i64).sz 0]))]⟩) (fun i=>if i=3 then 56 else i) ⟨(.sames M M),(.cons (.nilb M) (.cons (.kept M M M) (.cons (EntW.mix aB M (SubC.of_eq M) (.same (.nilo .nil)) M M) .nil))),bE [56,1,2] M (by decide),(fun i hi=>by first | rfl | (show (if _ then _ else _)=_; (repeat' split) <;> omega))⟩<|aA M (aG M M (lb M) (svR M))<|aA M (aG M M (lb M) (sv (d:=.int _ 0) M))<|aD ?_)
   refine aY ?_
   refine ⟨.inr M,1,_,[.ref 2 0,.int .i64 0],(.cons (sv M) (.cons (sv M) .nil)),M,M,⟨[(1,.slice false (a1.map hG.d)),(5,.int .i64 x6),(6,.int .i64 x9),(33,.tuple [.ref 2 0,.int .i64 0])],[(2,.blk 67 (mixD aB.toEnc0 (w26 x6 x9 x16.Cells x16.Free x16.Used) (List.replicate 64 (⟨0,0,0,0,0,false⟩:aJ):(List aJ)) [.int .i64 (-1),.osl 3 (eInt .i64).sz 0])),(3,.blk 3 (D.flat (([]:(List Int)).map (eInt .i64).d)))]⟩,(fun i=>i),⟨(.sames M M),(.cons (EntW.mix aB M (SubC.of_eq M) (SubC.of_eq M) M M) (.cons (EntW.lst M) .nil)),bE [2,3] M (by decide),fun _ _=>M⟩,?_⟩
   refine aA M (aO M M (lb M) (sv (d:=.tuple [.ref _ _,.int _ _]) M))<|aA M (bQ (d:=.ref _ _) M M (lb M) (sv (d:=.tuple [.ref _ _,.int _ _]) M) M)<|aA M (bQ (d:=.int _ _) M M (lb M) (sv (d:=.tuple [.ref _ _,.int _ _]) M) M)<|aA M (aG M M (lb M) (svR M))<|aA M (asI M M M M)<|aD ?_
   refine aT ?_
   obtain ⟨x17,hx17,h⟩:=bC h
   obtain ⟨x18,hx18,h⟩:=bC h
   refine aF (aA M (mvI M M M M)<|aA M (aQ M M (lb M) (svI M) (sv (d:=.int _ 0) M) M hx17)<|aA M (mvB M M M M)<|aN M M (.one M) M (by decide) (fun hb=>(mvR M M M M))<|aN M M (.one M) M (by decide) (fun hb=>(rD M M (lb M) underlying25 (svcR M hb) (sv (d:=.nilp) M)))<|aA M (kL M M (lb M) (svB M) M M hx18)<|aD ?_)
   refine aR (b:=_) M (fun hc19=>?_) (fun hc19=>?_)
   ·
    replace h:=cA h hc19
    refine aF (aA M (aG M M (lb M) (sv (d:=.bool false) M))<|aD ?_)
    refine aY ?_
    refine bG ?_
    obtain rfl:=sj_ h
    refine ⟨.inr M,(.cons (sv M) .nil)⟩
   ·
    replace h:=cB h hc19
    refine aS ?_
    refine aM ?_
    refine aF (aA M (mvI M M M M)<|aA M (mvI M M M M)<|aA M (vY (d':=.agg (w25 x6 x9 ([]:List aH) ([]:List Int))) (cJ (cs:=q12) M M (lb M) underlying32 ti32 pl32 M (.cons (svI M) (.cons (svI M) .nil)) M) (.agg (.k (.k (.cons (.nils _) (.cons (.nils _) .nil))))))<|aA M (cT (cs:=q12) (cs':=(w25 0 0 ([]:List aH) ([]:List Int))) 4 M M (lb M) M ti32 M M (.k (.k (.cons (.nils _) (.cons (.nils _) .nil)))))<|aA M (dZ (ds':=[.int _ _,.int _ _,.slice false (([]:List aH).map aC.d),.slice false (([]:List Int).map (eInt .i64).d)]) M M ti32 (svR M) M (svA q9 M) M M M (nle M) M)<|aD ?_)
    refine aT ?_
    refine aF (aA M (aG M M (lb M) (sv (d:=.int _ 0) M))<|aD ?_)
    refine bB ?_
    refine cP (α:=Nat × Int × Int × Int × (List aK) × Int × Int × (List aJ) × Int × (List Int) × Int × Int × (List aH) × (List Int)) (fun z=>⟨[(1,.slice false (a1.map hG.d)),(7,.ref 2 0),(9,.ref 4 0),(10,.int .i64 z.2.1)],[(2,.blk 67 (mixD aB.toEnc0 (w26 z.2.2.1 z.2.2.2.1 z.2.2.2.2.1 z.2.2.2.2.2.1 z.2.2.2.2.2.2.1) z.2.2.2.2.2.2.2.1 [.int .i64 z.2.2.2.2.2.2.2.2.1,.osl 3 (eInt .i64).sz z.2.2.2.2.2.2.2.2.2.1.length])),(4,.blk 32 (w25 z.2.2.2.2.2.2.2.2.2.2.1 z.2.2.2.2.2.2.2.2.2.2.2.1 z.2.2.2.2.2.2.2.2.2.2.2.2.1 z.2.2.2.2.2.2.2.2.2.2.2.2.2)),(3,.blk 3 (D.flat (z.2.2.2.2.2.2.2.2.2.1.map (eInt .i64).d)))]⟩) (fun z=>cS a1 z.1 z.2.1 z.2.2.1 z.2.2.2.1 z.2.2.2.2.1 z.2.2.2.2.2.1 z.2.2.2.2.2.2.1 z.2.2.2.2.2.2.2.1 z.2.2.2.2.2.2.2.2.1 z.2.2.2.2.2.2.2.2.2.1 z.2.2.2.2.2.2.2.2.2.2.1 z.2.2.2.2.2.2.2.2.2.2.2.1 z.2.2.2.2.2.2.2.2.2.2.2.2.1 z.2.2.2.2.2.2.2.2.2.2.2.2.2=some r) (fun z=>z.1) (fuel,0,x6,x9,x16.Cells,x16.Free,x16.Used,(List.replicate 64 (⟨0,0,0,0,0,false⟩:aJ):(List aJ)),(-1),([]:(List Int)),x6,x9,([]:(List aH)),([]:(List Int))) (fun i=>i) ⟨(.sames M M),(.cons (EntW.mix aB M (SubC.of_eq M) (SubC.of_eq M) M M) (.cons (.blk M M M) (.cons (EntW.lst M) .nil))),bE [2,4,3] M (by decide),fun _ _=>M⟩ ?_ ?_
    ·exact h
    ·
     rintro ⟨n0,v68,v69,v70,v71,v72,v73,v74,v75,v76,v77,v78,v79,v80⟩ h
     cases n0 with
     | zero=>exact absurd h (by unfold cS; exact nofun)
     | succ n0 =>
      unfold cS at h
      refine aT ?_
      obtain ⟨x129,hx129,h⟩:=bC h
      refine aF (aA M (mvI M M M M)<|aA M (mvL M M M M)<|aA M (cV hG (l:=a1) M M (lb M) underlying23 (svL M))<|aA M (aQ M M (lb M) (svI M) (svI M) M hx129)<|aD ?_)
      refine aR (b:=_) M (fun hc130=>?_) (fun hc130=>?_)
      ·
       replace h:=cA h hc130
       refine aS ?_
       refine aM ?_
       refine aT ?_
       refine bB ?_
       obtain ⟨x131,hx131,h⟩:=aX h
       refine aF (aA M (mvL M M M M)<|aA M (mvI M M M M)<|aA M (dW hG (cs:=q8) M M (lb M) underlying23 ti34 (svL M) (svI M) hx131 M M)<|aA M (fD (cs:=q8) M M (lb M) underlying34 ag34 ti34 (by decide) (sv (d:=.fptr q8) M) (nle M) M)<|aA M (cT (cs:=q8) (cs':=(w27 0 0 0 0 false)) 5 M M (lb M) M ti34 M M (.all _))<|aA M (stA q8 q8 ti34 M M M M M M M M (nle M) M)<|aD ?_)
       obtain ⟨x132,hx132,h⟩:=aX h
       refine aF (aA M (faR 0 M M M underlying34 M ti5 (lb M) M M)<|aA M (aI (d:=.int _ _) M M (lb M) underlying5 ag5 ti5 (by decide) (svR M) M (nle M) M)<|aA M (yP M M (lb M) (svI M) (sv (d:=.int _ 4) M) hx132)<|aA M (faR 0 M M M underlying34 M ti5 (lb M) M M)<|aA M (dZ (ds':=q8) M M ti5 (svR M) M (svI M) M M M (nle M) M)<|aD ?_)
       obtain ⟨x133,hx133,h⟩:=aX h
       refine aF (aA M (lra q9 la32 M M M M M (nle M) M)<|aA M (lra q8 la34 M M M M M (nle M) M)<|aA M (bU (r:=.tuple q24) M M (lb M) cl6 (.cons (svA q9 M) (.cons (svA q8 M) .nil)) M (zU _ _ _ hx133))<|aA M (aO M M (lb M) (sv (d:=.tuple q24) M))<|aA M (bQ (d:=.agg q9) M M (lb M) (sv (d:=.tuple q24) M) M)<|aA M (bQ (d:=.int _ _) M M (lb M) (sv (d:=.tuple q24) M) M)<|aA M (cT (cs:=q12) (cs':=(w25 0 0 ([]:List aH) ([]:List Int))) 6 M M (lb M) M ti32 M M (.k (.k (.cons (.nils _) (.cons (.nils _) .nil)))))<|aA M (stA q9 q9 ti32 M M M M M M M M (nle M) M)<|aA M (asI M M M M)<|aD ?_)
       refine aF (aA M (lra q9 la32 M M M M M (nle M) M)<|aA M (stA q9 q9 ti32 M M M M M M M M (nle M) M)<|aD ?_)
       refine aF (aA M (aG M M (lb M) (sv (d:=.int _ 0) M))<|aD ?_)
       refine mN (α:=Int × Int × Int × (List aK) × Int × Int × (List aJ) × Int × (List Int)) (fun z=>⟨[(1,.slice false (a1.map hG.d)),(7,.ref 2 0),(9,.ref 4 0),(10,.int .i64 v68),(13,.int .i64 x133.2),(14,.int .i64 z.1)],[(2,.blk 67 (mixD aB.toEnc0 (w26 z.2.1 z.2.2.1 z.2.2.2.1 z.2.2.2.2.1 z.2.2.2.2.2.1) z.2.2.2.2.2.2.1 [.int .i64 z.2.2.2.2.2.2.2.1,.osl 7 (eInt .i64).sz z.2.2.2.2.2.2.2.2.length])),(4,.blk 32 (v0 x133.1)),(7,.blk 3 (D.flat (z.2.2.2.2.2.2.2.2.map (eInt .i64).d)))]⟩) (fun z=>eQ v68 (cS a1 n0) x133 z.1 z.2.1 z.2.2.1 z.2.2.2.1 z.2.2.2.2.1 z.2.2.2.2.2.1 z.2.2.2.2.2.2.1 z.2.2.2.2.2.2.2.1 z.2.2.2.2.2.2.2.2=some r) ?_ ?_
       ·
        refine aF (aA M (faR 0 M M M underlying34 M ti5 (lb M) M M)<|aA M (aI (d:=.int _ _) M M (lb M) underlying5 ag5 ti5 (by decide) (svR M) M (nle M) M)<|aD ?_)
        refine bB ?_
        obtain ⟨x167,hx167,h⟩:=bC h
        refine aF (aA M (aQ M M (lb M) (svI M) (sv (d:=.int _ 0) M) M hx167)<|aA M (asB M M M M)<|aD ?_)
        refine aR (b:=_) M (fun hc168=>?_) (fun hc168=>?_)
        ·
         replace h:=cA h hc168
         obtain ⟨x169,hx169,h⟩:=aX h
         refine bA (aA M (mvR M M M M)<|aA M (faR 1 M M M underlying34 M ti3 (lb M) M M)<|aA M (aI (d:=.int _ _) M M (lb M) underlying3 ag3 ti3 (by decide) (svR M) M (nle M) M)<|aA M (faR 2 M M M underlying34 M ti3 (lb M) M M)<|aA M (aI (d:=.int _ _) M M (lb M) underlying3 ag3 ti3 (by decide) (svR M) M (nle M) M)<|aA M (faR 3 M M M underlying34 M ti3 (lb M) M M)<|aA M (aI (d:=.int _ _) M M (lb M) underlying3 ag3 ti3 (by decide) (svR M) M (nle M) M)<|aA M (faR 4 M M M underlying34 M ti4 (lb M) M M)<|aA M (aI (d:=.bool _) M M (lb M) underlying4 ag4 ti4 (by decide) (svR M) M (nle M) M)<|aA M (cQ (r':=.int .i64 x169.1) (H1':=[(2,.blk 67 (mixD aB.toEnc0 (w26 x169.2.1 x169.2.2.1 x169.2.2.2.1 x169.2.2.2.2.1 x169.2.2.2.2.2.1) x169.2.2.2.2.2.2.1 [.int .i64 x169.2.2.2.2.2.2.2.1,.osl 7 (eInt .i64).sz x169.2.2.2.2.2.2.2.2.length])),(7,.blk 3 (D.flat (x169.2.2.2.2.2.2.2.2.map (eInt .i64).d)))]) 7 [2,3] M M (lb M) cl7 (.cons (svR M) (.cons (svI M) (.cons (svI M) (.cons (svI M) (.cons (svB M) .nil))))) M M ⟨M,M,by decide,M,List.forall_mem_cons.2 ⟨⟨M,M,(mT aB M M M),(eA aB M M)⟩,List.forall_mem_cons.2 ⟨⟨M,M,(iF (eInt .i64) M),(bP (eInt .i64))⟩,List.forall_mem_nil _⟩⟩⟩ (qY _ _ _ _ _ _ _ _ _ _ _ _ _ hx169) M M (List.forall_mem_cons.2 ⟨⟨M,(eA aB M M)⟩,List.forall_mem_cons.2 ⟨⟨M,(bP (eInt .i64))⟩,List.forall_mem_nil _⟩⟩) (by simp only [List.map_cons,List.map_nil,Ent.ren,bT,cE,eL]; rfl))<|aA M (asI M M M M)<|bL ?_)
         refine bJ ?_
         refine aM ⟨(x169.1,x169.2.1,x169.2.2.1,x169.2.2.2.1,x169.2.2.2.2.1,x169.2.2.2.2.2.1,x169.2.2.2.2.2.2.1,x169.2.2.2.2.2.2.2.1,x169.2.2.2.2.2.2.2.2),(fun i=>i),⟨(.sames M M),(.cons (EntW.mix aB M (SubC.of_eq M) (SubC.of_eq M) M M) (.cons (.blk M M M) (.cons (EntW.lst M) .nil))),bE [2,4,7] M (by decide),fun _ _=>M⟩,?_⟩
         exact h
        ·
         replace h:=cB h hc168
         obtain ⟨x170,hx170,h⟩:=bC h
         refine aF (aA M (aQ M M (lb M) (svI M) (sv (d:=.int _ 1) M) M hx170)<|aA M (asB M M M M)<|aD ?_)
         refine aR (b:=_) M (fun hc171=>?_) (fun hc171=>?_)
         ·
          replace h:=cA h hc171
          obtain ⟨x172,hx172,h⟩:=aX h
          refine bA (aA M (mvR M M M M)<|aA M (faR 1 M M M underlying34 M ti3 (lb M) M M)<|aA M (aI (d:=.int _ _) M M (lb M) underlying3 ag3 ti3 (by decide) (svR M) M (nle M) M)<|aA M (faR 2 M M M underlying34 M ti3 (lb M) M M)<|aA M (aI (d:=.int _ _) M M (lb M) underlying3 ag3 ti3 (by decide) (svR M) M (nle M) M)<|aA M (faR 3 M M M underlying34 M ti3 (lb M) M M)<|aA M (aI (d:=.int _ _) M M (lb M) underlying3 ag3 ti3 (by decide) (svR M) M (nle M) M)<|aA M (faR 4 M M M underlying34 M ti4 (lb M) M M)<|aA M (aI (d:=.bool _) M M (lb M) underlying4 ag4 ti4 (by decide) (svR M) M (nle M) M)<|aA M (cQ (r':=.int .i64 x172.1) (H1':=[(2,.blk 67 (mixD aB.toEnc0 (w26 x172.2.1 x172.2.2.1 x172.2.2.2.1 x172.2.2.2.2.1 x172.2.2.2.2.2.1) x172.2.2.2.2.2.2.1 [.int .i64 x172.2.2.2.2.2.2.2.1,.osl 7 (eInt .i64).sz x172.2.2.2.2.2.2.2.2.length])),(7,.blk 3 (D.flat (x172.2.2.2.2.2.2.2.2.map (eInt .i64).d)))]) 7 [2,3] M M (lb M) cl8 (.cons (svR M) (.cons (svI M) (.cons (svI M) (.cons (svI M) (.cons (svB M) .nil))))) M M ⟨M,M,by decide,M,List.forall_mem_cons.2 ⟨⟨M,M,(mT aB M M M),(eA aB M M)⟩,List.forall_mem_cons.2 ⟨⟨M,M,(iF (eInt .i64) M),(bP (eInt .i64))⟩,List.forall_mem_nil _⟩⟩⟩ (rW _ _ _ _ _ _ _ _ _ _ _ _ _ hx172) M M (List.forall_mem_cons.2 ⟨⟨M,(eA aB M M)⟩,List.forall_mem_cons.2 ⟨⟨M,(bP (eInt .i64))⟩,List.forall_mem_nil _⟩⟩) (by simp only [List.map_cons,List.map_nil,Ent.ren,bT,cE,eL]; rfl))<|aA M (asI M M M M)<|bL ?_)
          refine bJ ?_
          refine aM ⟨(x172.1,x172.2.1,x172.2.2.1,x172.2.2.2.1,x172.2.2.2.2.1,x172.2.2.2.2.2.1,x172.2.2.2.2.2.2.1,x172.2.2.2.2.2.2.2.1,x172.2.2.2.2.2.2.2.2),(fun i=>i),⟨(.sames M M),(.cons (EntW.mix aB M (SubC.of_eq M) (SubC.of_eq M) M M) (.cons (.blk M M M) (.cons (EntW.lst M) .nil))),bE [2,4,7] M (by decide),fun _ _=>M⟩,?_⟩
          exact h
         ·
          replace h:=cB h hc171
          obtain ⟨x173,hx173,h⟩:=bC h
          refine aF (aA M (aQ M M (lb M) (svI M) (sv (d:=.int _ 2) M) M hx173)<|aA M (asB M M M M)<|aD ?_)
          refine aR (b:=_) M (fun hc174=>?_) (fun hc174=>?_)
          ·
           replace h:=cA h hc174
           obtain ⟨x175,hx175,h⟩:=aX h
           refine bA (aA M (mvR M M M M)<|aA M (faR 1 M M M underlying34 M ti3 (lb M) M M)<|aA M (aI (d:=.int _ _) M M (lb M) underlying3 ag3 ti3 (by decide) (svR M) M (nle M) M)<|aA M (cQ (r':=.int .i64 x175.1) (H1':=[(2,.blk 67 (mixD aB.toEnc0 (w26 x175.2.1 x175.2.2.1 x175.2.2.2.1 x175.2.2.2.2.1 x175.2.2.2.2.2.1) x175.2.2.2.2.2.2.1 [.int .i64 x175.2.2.2.2.2.2.2.1,.osl 7 (eInt .i64).sz x175.2.2.2.2.2.2.2.2.length])),(7,.blk 3 (D.flat (x175.2.2.2.2.2.2.2.2.map (eInt .i64).d)))]) 7 [2,3] M M (lb M) cl9 (.cons (svR M) (.cons (svI M) .nil)) M M ⟨M,M,by decide,M,List.forall_mem_cons.2 ⟨⟨M,M,(mT aB M M M),(eA aB M M)⟩,List.forall_mem_cons.2 ⟨⟨M,M,(iF (eInt .i64) M),(bP (eInt .i64))⟩,List.forall_mem_nil _⟩⟩⟩ (rM _ _ _ _ _ _ _ _ _ _ hx175) M M (List.forall_mem_cons.2 ⟨⟨M,(eA aB M M)⟩,List.forall_mem_cons.2 ⟨⟨M,(bP (eInt .i64))⟩,List.forall_mem_nil _⟩⟩) (by simp only [List.map_cons,List.map_nil,Ent.ren,bT,cE,eL]; rfl))<|aA M (asI M M M M)<|bL ?_)
           refine bJ ?_
           refine aM ⟨(x175.1,x175.2.1,x175.2.2.1,x175.2.2.2.1,x175.2.2.2.2.1,x175.2.2.2.2.2.1,x175.2.2.2.2.2.2.1,x175.2.2.2.2.2.2.2.1,x175.2.2.2.2.2.2.2.2),(fun i=>i),⟨(.sames M M),(.cons (EntW.mix aB M (SubC.of_eq M) (SubC.of_eq M) M M) (.cons (.blk M M M) (.cons (EntW.lst M) .nil))),bE [2,4,7] M (by decide),fun _ _=>M⟩,?_⟩
           exact h
          ·
           replace h:=cB h hc174
           obtain ⟨x176,hx176,h⟩:=aX h
           refine bA (aA M (mvR M M M M)<|aA M (faR 1 M M M underlying34 M ti3 (lb M) M M)<|aA M (aI (d:=.int _ _) M M (lb M) underlying3 ag3 ti3 (by decide) (svR M) M (nle M) M)<|aA M (cQ (r':=.int .i64 x176.1) (H1':=[(2,.blk 67 (mixD aB.toEnc0 (w26 x176.2.1 x176.2.2.1 x176.2.2.2.1 x176.2.2.2.2.1 x176.2.2.2.2.2.1) x176.2.2.2.2.2.2.1 [.int .i64 x176.2.2.2.2.2.2.2.1,.osl 7 (eInt .i64).sz x176.2.2.2.2.2.2.2.2.length])),(7,.blk 3 (D.flat (x176.2.2.2.2.2.2.2.2.map (eInt .i64).d)))]) 7 [2,3] M M (lb M) cl10 (.cons (svR M) (.cons (svI M) .nil)) M M ⟨M,M,by decide,M,List.forall_mem_cons.2 ⟨⟨M,M,(mT aB M M M),(eA aB M M)⟩,List.forall_mem_cons.2 ⟨⟨M,M,(iF (eInt .i64) M),(bP (eInt .i64))⟩,List.forall_mem_nil _⟩⟩⟩ (qX _ _ _ _ _ _ _ _ _ _ hx176) M M (List.forall_mem_cons.2 ⟨⟨M,(eA aB M M)⟩,List.forall_mem_cons.2 ⟨⟨M,(bP (eInt .i64))⟩,List.forall_mem_nil _⟩⟩) (by simp only [List.map_cons,List.map_nil,Ent.ren,bT,cE,eL]; rfl))<|aA M (asI M M M M)<|bL ?_)
           refine bJ ?_
           refine aM ⟨(x176.1,x176.2.1,x176.2.2.1,x176.2.2.2.1,x176.2.2.2.2.1,x176.2.2.2.2.2.1,x176.2.2.2.2.2.2.1,x176.2.2.2.2.2.2.2.1,x176.2.2.2.2.2.2.2.2),(fun i=>i),⟨(.sames M M),(.cons (EntW.mix aB M (SubC.of_eq M) (SubC.of_eq M) M M) (.cons (.blk M M M) (.cons (EntW.lst M) .nil))),bE [2,4,7] M (by decide),fun _ _=>M⟩,?_⟩
           exact h
       ·
        rintro ⟨v144,v145,v146,v147,v148,v149,v150,v151,v152⟩ h
        unfold eQ at h
        obtain ⟨x153,hx153,h⟩:=bC h
        obtain ⟨x154,hx154,h⟩:=aX h
        obtain ⟨x155,hx155,h⟩:=bC h
        obtain ⟨x156,hx156,h⟩:=bC h
        obtain ⟨x157,hx157,h⟩:=aX h
        obtain ⟨x158,hx158,h⟩:=aX h
        obtain ⟨x159,hx159,h⟩:=aX h
        obtain ⟨x160,hx160,h⟩:=aX h
        obtain ⟨x161,hx161,h⟩:=bC h
        obtain ⟨x162,hx162,h⟩:=aX h
        obtain ⟨x163,hx163,h⟩:=aX h
        obtain ⟨x164,hx164,h⟩:=bC h
        refine iR M [⟨[13],[],[(102,.int .i64 x133.2)],[]⟩,
         ⟨[14],[],[(103,.int .i64 v144)],[]⟩,
         ⟨[102,103],[],[(104,.bool x153)],[]⟩,
         ⟨[104],[],[(105,.bool x153)],[]⟩,
         ⟨[9,105],[4],[(106,.cnd (x153 == false) (.agg (v0 x133.1)))],[]⟩,
         ⟨[105,106],[],[(107,.cnd (x153 == false) (.int .i64 x154))],[]⟩,
         ⟨[105,107],[],[(108,.cnd (x153 == false) (.bool x155))],[]⟩,
         ⟨[105,108],[],[(109,.bool x156)],[]⟩,
         ⟨[109],[],[(110,.bool x156)],[]⟩,
         ⟨[9,110],[],[(111,.cnd (x156 == false) (.ref 4 2))],[]⟩,
         ⟨[110,111],[4],[(112,.cnd (x156 == false) (.slice false (x133.1.Nodes.map aC.d)))],[]⟩,
         ⟨[110,112],[],[(113,.cnd (x156 == false) (.slice false (x157.map aC.d)))],[]⟩,
         ⟨[7,110],[],[(114,.cnd (x156 == false) (.ref 2 0))],[]⟩,
         ⟨[110,114],[2,7],[(115,.cnd (x156 == false) (.slice false (x158.map aC.d)))],[]⟩,
         ⟨[110,115],[],[(116,.cnd (x156 == false) (.slice false (x159.map aC.d)))],[]⟩,
         ⟨[110,113,116],[],[(117,.cnd (x156 == false) (.bool x160))],[]⟩,
         ⟨[110,117],[],[(118,.cnd (x156 == false) (.bool (!x160)))],[]⟩,
         ⟨[110,118],[],[(119,.bool x161)],[]⟩,
         ⟨[119],[],[(120,.bool x161)],[]⟩,
         ⟨[9,120],[],[(121,.cnd (x161 == false) (.ref 4 3))],[]⟩,
         ⟨[120,121],[4],[(122,.cnd (x161 == false) (.slice false (x133.1.Ended.map (eInt .i64).d)))],[]⟩,
         ⟨[7,120],[],[(123,.cnd (x161 == false) (.ref 2 0))],[]⟩,
         ⟨[120,123],[2,7],[(124,.cnd (x161 == false) (.slice false (x162.map (eInt .i64).d)))],[]⟩,
         ⟨[120,122,124],[],[(125,.cnd (x161 == false) (.bool x163))],[]⟩,
         ⟨[120,125],[],[(126,.cnd (x161 == false) (.bool (!x163)))],[]⟩,
         ⟨[120,126],[],[(127,.bool x164)],[]⟩] M ?_ (by kernel_rfl) ?_
        ·refine .cons (lop M M fun S hA=>(aO M M (lb M) (svaI hA M M))) ?_
         refine .cons (lop M M fun S hA=>(aO M M (lb M) (svaI hA M M))) ?_
         refine .cons (lop M M fun S hA=>(aQ M M (lb M) (svaI hA M M) (svaI hA M M) M hx153)) ?_
         refine .cons (lop M M fun S hA=>(aO M M (lb M) (svaB hA M M))) ?_
         refine .cons (lopg M M M M (by decide) (fun S hA=>grd1 hA M M) (fun S hA hb=>(lC (cs:=q9) M M (lb M) underlying32 ag32 ti32 (by decide) (svaR hA M M) (agi hA M M) (nle M) M))) ?_
         refine .cons (lopg M M M M (by decide) (fun S hA=>grd1 hA M M) (fun S hA hb=>(bU (r:=.int _ _) M M (lb M) cl11 (.cons (svc (d:=.agg (v0 x133.1)) (agr hA M M) hb) .nil) M (mF _ _ (gd_t hx154 hb))))) ?_
         refine .cons (lopg M M M M (by decide) (fun S hA=>grd1 hA M M) (fun S hA hb=>(aQ M M (lb M) (svc (d:=.int _ _) (agr hA M M) hb) (sv (d:=.int _ 0) M) M hx155))) ?_
         refine .cons (lop M M fun S hA=>(kL M M (lb M) (svaB hA M M) M (agr hA M M) hx156)) ?_
         refine .cons (lop M M fun S hA=>(aO M M (lb M) (svaB hA M M))) ?_
         refine .cons (lopg M M M M (by decide) (fun S hA=>grd1 hA M M) (fun S hA hb=>(aP M M (lb M) underlying32 M ti29 (by decide) (svaR hA M M) (off':=2) M))) ?_
         refine .cons (lopg M M M M (by decide) (fun S hA=>grd1 hA M M) (fun S hA hb=>(aI (d:=.slice _ _) M M (lb M) underlying29 ag29 ti29 (by decide) (svc (d:=.ref _ _) (agr hA M M) hb) (agi hA M M) (nle M) M))) ?_
         refine .cons (lopg M M M M (by decide) (fun S hA=>grd1 hA M M) (fun S hA hb=>(bU (r:=.slice _ _) M M (lb M) cl13 (.cons (svc (d:=.slice _ _) (agr hA M M) hb) .nil) M (oN _ _ (gd_t hx157 hb))))) ?_
         refine .cons (lopg M M M M (by decide) (fun S hA=>grd1 hA M M) (fun S hA hb=>(aO M M (lb M) (svaR hA M M)))) ?_
         refine .cons (lopg M M M M (by decide) (fun S hA=>grd1 hA M M) (fun S hA hb=>(mH (r':=.slice false (x158.map aC.d)) (V:=[(2,.blk 67 (mixD aB.toEnc0 (w26 v145 v146 v147 v148 v149) v150 [.int .i64 v151,.osl 7 (eInt .i64).sz v152.length])),(7,.blk 3 (D.flat (v152.map (eInt .i64).d)))]) 8 [2,7] M M (lb M) cl14 (.cons (svc (d:=.ref _ _) (agr hA M M) hb) .nil) M M M ⟨by decide,M,List.forall_mem_cons.2 ⟨⟨M,M,(mT aB (agi hA M M) M M),(eA aB M M)⟩,List.forall_mem_cons.2 ⟨⟨M,M,(iF (eInt .i64) (agi hA M M)),(bP (eInt .i64))⟩,List.forall_mem_nil _⟩⟩⟩ (rL _ _ _ _ _ _ _ _ _ (gd_t hx158 hb)) M M (List.forall_mem_cons.2 ⟨⟨M,(eA aB M M)⟩,List.forall_mem_cons.2 ⟨⟨M,(bP (eInt .i64))⟩,List.forall_mem_nil _⟩⟩) (by simp only [List.map_cons,List.map_nil,Ent.ren,bT,cE,eL]; rfl) (List.forall_mem_cons.2 ⟨(agi hA M M),List.forall_mem_cons.2 ⟨(agi hA M M),List.forall_mem_nil _⟩⟩) M))) ?_
         refine .cons (lopg M M M M (by decide) (fun S hA=>grd1 hA M M) (fun S hA hb=>(bU (r:=.slice _ _) M M (lb M) cl13 (.cons (svc (d:=.slice _ _) (agr hA M M) hb) .nil) M (oN _ _ (gd_t hx159 hb))))) ?_
         refine .cons (lopg M M M M (by decide) (fun S hA=>grd1 hA M M) (fun S hA hb=>(bU (r:=.bool _) M M (lb M) cl12 (.cons (svc (d:=.slice _ _) (agr hA M M) hb) (.cons (svc (d:=.slice _ _) (agr hA M M) hb) .nil)) M (qD _ _ _ (gd_t hx160 hb))))) ?_
         refine .cons (lopg M M M M (by decide) (fun S hA=>grd1 hA M M) (fun S hA hb=>(gD M M (lb M) (svc (d:=.bool _) (agr hA M M) hb)))) ?_
         refine .cons (lop M M fun S hA=>(kL M M (lb M) (svaB hA M M) M (agr hA M M) hx161)) ?_
         refine .cons (lop M M fun S hA=>(aO M M (lb M) (svaB hA M M))) ?_
         refine .cons (lopg M M M M (by decide) (fun S hA=>grd1 hA M M) (fun S hA hb=>(aP M M (lb M) underlying32 M ti30 (by decide) (svaR hA M M) (off':=3) M))) ?_
         refine .cons (lopg M M M M (by decide) (fun S hA=>grd1 hA M M) (fun S hA hb=>(aI (d:=.slice _ _) M M (lb M) underlying30 ag30 ti30 (by decide) (svc (d:=.ref _ _) (agr hA M M) hb) (agi hA M M) (nle M) M))) ?_
         refine .cons (lopg M M M M (by decide) (fun S hA=>grd1 hA M M) (fun S hA hb=>(aO M M (lb M) (svaR hA M M)))) ?_
         refine .cons (lopg M M M M (by decide) (fun S hA=>grd1 hA M M) (fun S hA hb=>(mH (r':=.slice false (x162.map (eInt .i64).d)) (V:=[(2,.blk 67 (mixD aB.toEnc0 (w26 v145 v146 v147 v148 v149) v150 [.int .i64 v151,.osl 7 (eInt .i64).sz v152.length])),(7,.blk 3 (D.flat (v152.map (eInt .i64).d)))]) 8 [2,7] M M (lb M) cl16 (.cons (svc (d:=.ref _ _) (agr hA M M) hb) .nil) M M M ⟨by decide,M,List.forall_mem_cons.2 ⟨⟨M,M,(mT aB (agi hA M M) M M),(eA aB M M)⟩,List.forall_mem_cons.2 ⟨⟨M,M,(iF (eInt .i64) (agi hA M M)),(bP (eInt .i64))⟩,List.forall_mem_nil _⟩⟩⟩ (qZ _ _ _ _ _ _ _ _ _ (gd_t hx162 hb)) M M (List.forall_mem_cons.2 ⟨⟨M,(eA aB M M)⟩,List.forall_mem_cons.2 ⟨⟨M,(bP (eInt .i64))⟩,List.forall_mem_nil _⟩⟩) (by simp only [List.map_cons,List.map_nil,Ent.ren,bT,cE,eL]; rfl) (List.forall_mem_cons.2 ⟨(agi hA M M),List.forall_mem_cons.2 ⟨(agi hA M M),List.forall_mem_nil _⟩⟩) M))) ?_
         refine .cons (lopg M M M M (by decide) (fun S hA=>grd1 hA M M) (fun S hA hb=>(bU (r:=.bool _) M M (lb M) cl15 (.cons (svc (d:=.slice _ _) (agr hA M M) hb) (.cons (svc (d:=.slice _ _) (agr hA M M) hb) .nil)) M (lX _ _ _ (gd_t hx163 hb))))) ?_
         refine .cons (lopg M M M M (by decide) (fun S hA=>grd1 hA M M) (fun S hA hb=>(gD M M (lb M) (svc (d:=.bool _) (agr hA M M) hb)))) ?_
         refine .cons (lop M M fun S hA=>(kL M M (lb M) (svaB hA M M) M (agr hA M M) hx164)) ?_
         exact .nil
        refine aR (b:=_) M (fun hc165=>?_) (fun hc165=>?_)
        ·
         replace h:=cA h hc165
         refine aF (aA M (aG M M (lb M) (sv (d:=.bool false) M))<|aD ?_)
         refine aY ?_
         refine cO ?_
         refine bG ?_
         refine bG ?_
         refine cO ?_
         refine bG ?_
         obtain rfl:=sj_ h
         refine ⟨.inr M,(.cons (sv M) .nil)⟩
        ·
         replace h:=cB h hc165
         refine aS ?_
         refine bJ ?_
         refine aM ?_
         obtain ⟨x166,hx166,h⟩:=bC h
         refine bA (aA M (mvI M M M M)<|aA M (bO M M (lb M) (svI M) (sv (d:=.int _ 1) M) M hx166)<|aA M (asI M M M M)<|bL ?_)
         refine aM ⟨(n0,x166,v145,v146,v147,v148,v149,v150,v151,v152,x133.1.Room,x133.1.Keep,x133.1.Nodes,x133.1.Ended),(fun i=>if i=3 then 7 else i),⟨(.sames M M),(.cons (EntW.mix aB M (SubC.of_eq M) (SubC.of_eq M) M M) (.cons (.blk M M M) (.cons (EntW.lst M) .nil))),bE [2,4,7] M (by decide),(fun i hi=>by first | rfl | (show (if _ then _ else _)=_; (repeat' split) <;> omega))⟩,?_,?_⟩
         exact h
         exact Nat.lt_succ_self _
      ·
       replace h:=cB h hc130
       refine cU ?_
       refine bK ?_
       refine bK ?_
       refine cW ?_
       refine aM ?_
       obtain ⟨x177,hx177,h⟩:=aX h
       refine aF (aA M (bU (r:=.bool _) M M (lb M) cl4 .nil M (oB  _ hx177))<|aA M (asB M M M M)<|aD ?_)
       refine aY ?_
       obtain rfl:=sj_ h
       refine ⟨.inr M,(.cons (sv M) .nil)⟩
end Go.Proofs.YtknpfbfkaccgmaaGreat
