/-
  A part of the proof: rules and plain facts. No condition.
-/
import Derived.Test.YtdnjagkihgjpcaaProg
import Derived.KernelRfl
import Derived.Test.YtdnjagkihgjpcaaIlMb
import Derived.Test.YtdnjagkihgjpcaaIlA19C1
set_option linter.all false
set_option maxRecDepth 8000
set_option maxHeartbeats 2000000
open Go Go.IL Go.Fn Go.Proofs
open Go.Proofs.Try
namespace Go.Proofs.Ytdnjagkihgjpcaa
theorem ti24:TI prog 24 (some (.slice none 0 0)) 1 24:=by unfold TI; kernel_rfl
theorem ti72:TI prog 72 (some (.agg #[.int .i64 0,.int .i64 0,.bool false])) 3 24:=by unfold TI; kernel_rfl
theorem ag24:kJ prog 24=false:=by kernel_rfl
theorem pl72:∀ w,(Array.mapM (m:=Sem) (fun (f:Field)=>Functor.map (Prod.mk f.offset) (sizeOf f.type)) (fieldsOf prog 72)).run prog w = .ok #[(0,1),(1,1),(2,1)] w:=fun w=>by kernel_rfl
theorem cl28:bM prog 28:=⟨f28,func28,rfl,rfl⟩
theorem cl29:bM prog 29:=⟨f29,func29,rfl,rfl⟩
theorem cl40:bM prog 40:=⟨f40,func40,rfl,rfl⟩
theorem cl45:bM prog 45:=⟨f45,func45,rfl,rfl⟩
theorem cl46:bM prog 46:=⟨f46,func46,rfl,rfl⟩
theorem cl47:bM prog 47:=⟨f47,func47,rfl,rfl⟩
theorem cl49:bM prog 49:=⟨f49,func49,rfl,rfl⟩
theorem cl50:bM prog 50:=⟨f50,func50,rfl,rfl⟩
theorem cl77:bM prog 77:=⟨f77,func77,rfl,rfl⟩
def la78:=LA.mk underlying78 ag78 ti78 (by decide)


theorem oB (a0:Int) (a1:Int) (a2:Int) (a3:(List aP)) (a4:Int) (a5:Int) (a6:(List aM)) (a7:Int) (a8:(List Int)) (r:(Int × Int × (List aP) × Int × Int × (List aM) × Int × (List Int))) (h:mB a0 a1 a2 a3 a4 a5 a6 a7 a8=some r):FnH prog 36 [.ref 1000 0,.int .i64 a0] [(1000,.blk 60 (mixD aB.toEnc0 (w22 a1 a2 a3 a4 a5) a6 [.int .i64 a7,.osl 1001 (eInt .i64).sz a8.length])),(1001,.blk 3 (D.flat (a8.map (eInt .i64).d)))] (retD []) [(1000,.blk 60 (mixD aB.toEnc0 (w22 r.1 r.2.1 r.2.2.1 r.2.2.2.1 r.2.2.2.2.1) r.2.2.2.2.2.1 [.int .i64 r.2.2.2.2.2.2.1,.osl 0 (eInt .i64).sz r.2.2.2.2.2.2.2.length])),(0,.blk 3 (D.flat (r.2.2.2.2.2.2.2.map (eInt .i64).d)))]:=by
 refine cF (rs:=[]) func36 M ntmps36 (nle M) fun O hO=>?_
 show IWP _ _ _ _ ⟨[(0,.ref 1000 0),(1,.int .i64 a0)],[(1000,.blk 60 (mixD aB.toEnc0 (w22 a1 a2 a3 a4 a5) a6 [.int .i64 a7,.osl 1001 (eInt .i64).sz a8.length])),(1001,.blk 3 (D.flat (a8.map (eInt .i64).d)))]⟩ _
 unfold mB at h
 refine aF (aA M (fE (cs:=[.ref _ _]) 0 M M (lb M) M (svR M) M M)<|aA M (fE (cs:=[.int _ _]) 1 M M (lb M) M (svI M) M M)<|aE ?_)
 refine aF (aA M (gN (cs:=[.int _ _]) (cs':=[.int .i64 0]) 2 M M (lb M) M ti3 M M (.all _))<|aA M (fD (ds':=[.int _ _]) M M ti3 (svR M) M (sv (d:=.int _ 0) M) M M M (nle M) M)<|aE ?_)
 refine fL (α:=Int) (fun z=>⟨[(2,.ref 0 0),(3,.ref 1 0),(4,.ref 2 0)],[(0,.blk 26 [.ref 1000 0]),(1,.blk 3 [.int .i64 a0]),(2,.blk 3 [.int .i64 z]),(1000,.blk 60 (mixD aB.toEnc0 (w22 a1 a2 a3 a4 a5) a6 [.int .i64 a7,.osl 1001 (eInt .i64).sz a8.length])),(1001,.blk 3 (D.flat (a8.map (eInt .i64).d)))]⟩) (fun z=>lV a0 a1 a2 a3 a4 a5 a6 a7 a8 z=some r) ?_ ?_
 ·
  refine aF (aA M (aR (d:=.ref _ _) M M (lb M) underlying26 ag26 ti26 (by decide) (svR M) M (nle M) M)<|aA M (aR (d:=.int _ _) M M (lb M) underlying3 ag3 ti3 (by decide) (svR M) M (nle M) M) <|?_)
  refine gI (S':=⟨[(2,.ref 0 0),(3,.ref 1 0),(4,.ref 2 0),(9,.ref 1000 0),(10,.int .i64 a0)],[(0,.blk 26 [.ref 1000 0]),(1,.blk 3 [.int .i64 a0]),(2,.blk 3 [.int .i64 0]),(1000,.blk 60 (mixD aB.toEnc0 (w22 a1 a2 a3 a4 a5) a6 [.int .i64 a7,.osl 1001 (eInt .i64).sz a8.length])),(1001,.blk 3 (D.flat (a8.map (eInt .i64).d)))]⟩) (fun i=>i) ⟨(.sames M M),(.cons (.blk M M M) (.cons (.blk M M M) (.cons (.blk M M M) (.cons (EntW.mix aB M (SubC.of_eq M) (SubC.of_eq M) M M) (.cons (EntW.lst M) .nil))))),aY [0,1,2,1000,1001] M (by decide),fun _ _=>M⟩ ?_
  refine kZ 1 3 M M M (by decide) cl29 func29 M (.cons (svR M) (.cons (svI M) .nil)) ntmps29 (nle M) M hO.semiL fun O1 hO1=>?_
  show IWP _ _ _ _ ⟨[(0,.ref 1000 0),(1,.int .i64 a0)],[(3,.kept 1 [.dead,.dead,.ref 0 0,.ref 1 0,.ref 2 0,.dead,.dead,.dead,.dead,.ref 1000 0,.int .i64 a0,.dead,.dead,.dead,.dead,.dead,.dead,.dead,.dead,.dead,.dead,.dead,.dead,.dead,.dead,.dead,.dead,.dead,.dead,.dead,.dead,.dead,.dead,.dead,.dead,.dead,.dead,.dead,.dead,.dead,.dead,.dead,.dead,.dead,.dead,.dead,.dead,.dead,.dead,.dead,.dead,.dead,.dead,.dead,.dead,.dead,.dead,.dead,.dead,.dead,.dead,.dead,.dead,.dead,.dead,.dead,.dead,.dead,.dead,.dead,.dead,.dead,.dead,.dead,.dead,.dead,.dead,.dead,.dead,.dead,.dead,.dead,.dead,.dead,.dead,.dead,.dead,.dead,.dead,.dead,.dead]),(0,.blk 26 [.ref 1000 0]),(1,.blk 3 [.int .i64 a0]),(2,.blk 3 [.int .i64 0]),(1000,.blk 60 (mixD aB.toEnc0 (w22 a1 a2 a3 a4 a5) a6 [.int .i64 a7,.osl 1001 (eInt .i64).sz a8.length])),(1001,.blk 3 (D.flat (a8.map (eInt .i64).d)))]⟩ _
  refine aF (aA M (fE (cs:=[.ref _ _]) 4 M M (lb M) M (svR M) M M)<|aA M (fE (cs:=[.int _ _]) 5 M M (lb M) M (svI M) M M)<|aA M (aI M M (lb M) (sv (d:=.nilf) M))<|aE ?_)
  refine aF (aA M (nP M M (lb M) (.cons (svR M) (.cons (svR M) .nil)))<|aA M (aI M M (lb M) (sv (d:=.fn 40 q16) M))<|aE ?_)
  refine bB ?_
  refine ⟨.inr M,3,_,[.fn 40 [.ref 4 0,.ref 5 0]],(.cons (sv M) .nil),M,M,⟨[(2,.ref 0 0),(3,.ref 1 0),(4,.ref 2 0),(11,.fn 40 [.ref 4 0,.ref 5 0])],[(0,.blk 26 [.ref 1000 0]),(1,.blk 3 [.int .i64 a0]),(2,.blk 3 [.int .i64 0]),(4,.blk 26 [.ref 1000 0]),(5,.blk 3 [.int .i64 a0]),(1000,.blk 60 (mixD aB.toEnc0 (w22 a1 a2 a3 a4 a5) a6 [.int .i64 a7,.osl 1001 (eInt .i64).sz a8.length])),(1001,.blk 3 (D.flat (a8.map (eInt .i64).d)))]⟩,(fun i=>i),⟨(.sames M M),(.cons (.blk M M M) (.cons (.blk M M M) (.cons (.blk M M M) (.cons (.blk M M M) (.cons (.blk M M M) (.cons (EntW.mix aB M (SubC.of_eq M) (SubC.of_eq M) M M) (.cons (EntW.lst M) .nil))))))),aY [0,1,2,4,5,1000,1001] M (by decide),fun _ _=>M⟩,?_⟩
  refine aE ?_
  refine aV ?_
  refine qM (S':=⟨[(2,.ref 0 0),(3,.ref 1 0),(4,.ref 2 0),(11,.fn 40 [.ref 4 0,.ref 5 0])],[(0,.blk 26 [.ref 1000 0]),(1,.blk 3 [.int .i64 a0]),(2,.blk 3 [.int .i64 0]),(4,.blk 26 [.ref 1000 0]),(5,.blk 3 [.int .i64 a0]),(1000,.blk 60 (mixD aB.toEnc0 (w22 a1 a2 a3 a4 a5) a6 [.int .i64 a7,.osl 1001 (eInt .i64).sz a8.length])),(1001,.blk 3 (D.flat (a8.map (eInt .i64).d)))]⟩) (fun i=>i) ⟨(.sames M M),(.cons (.blk M M M) (.cons (.blk M M M) (.cons (.blk M M M) (.cons (.blk M M M) (.cons (.blk M M M) (.cons (EntW.mix aB M (SubC.of_eq M) (SubC.of_eq M) M M) (.cons (EntW.lst M) .nil))))))),aY [0,1,2,4,5,1000,1001] M (by decide),fun _ _=>M⟩ ?_
  refine qY 1 6 7 (sv (d:=.fn 40 q16) M) cl40 func40 M M ntmps40 (nle M) M M hO.semiL (List.forall_mem_nil _) fun O1 hO1 hlc1=>?_
  show IWP _ _ _ _ ⟨[(0,.yld 6),(1,.ref 4 0),(2,.ref 5 0)],[(7,.kept 1 [.dead,.dead,.ref 0 0,.ref 1 0,.ref 2 0,.dead,.dead,.dead,.dead,.dead,.dead,.fn 40 [.ref 4 0,.ref 5 0],.dead,.dead,.dead,.dead,.dead,.dead,.dead,.dead,.dead,.dead,.dead,.dead,.dead,.dead,.dead,.dead,.dead,.dead,.dead,.dead,.dead,.dead,.dead,.dead,.dead,.dead,.dead,.dead,.dead,.dead,.dead,.dead,.dead,.dead,.dead,.dead,.dead,.dead,.dead,.dead,.dead,.dead,.dead,.dead,.dead,.dead,.dead,.dead,.dead,.dead,.dead,.dead,.dead,.dead,.dead,.dead,.dead,.dead,.dead,.dead,.dead,.dead,.dead,.dead,.dead,.dead,.dead,.dead,.dead,.dead,.dead,.dead,.dead,.dead,.dead,.dead,.dead,.dead,.dead]),(6,.loop 1 [.dead,.dead,.ref 0 0,.ref 1 0,.ref 2 0,.dead,.dead,.dead,.dead,.dead,.dead,.fn 40 [.ref 4 0,.ref 5 0],.dead,.dead,.dead,.dead,.dead,.dead,.dead,.dead,.dead,.dead,.dead,.dead,.dead,.dead,.dead,.dead,.dead,.dead,.dead,.dead,.dead,.dead,.dead,.dead,.dead,.dead,.dead,.dead,.dead,.dead,.dead,.dead,.dead,.dead,.dead,.dead,.dead,.dead,.dead,.dead,.dead,.dead,.dead,.dead,.dead,.dead,.dead,.dead,.dead,.dead,.dead,.dead,.dead,.dead,.dead,.dead,.dead,.dead,.dead,.dead,.dead,.dead,.dead,.dead,.dead,.dead,.dead,.dead,.dead,.dead,.dead,.dead,.dead,.dead,.dead,.dead,.dead,.dead,.dead] .ready none),(0,.blk 26 [.ref 1000 0]),(1,.blk 3 [.int .i64 a0]),(2,.blk 3 [.int .i64 0]),(4,.blk 26 [.ref 1000 0]),(5,.blk 3 [.int .i64 a0]),(1000,.blk 60 (mixD aB.toEnc0 (w22 a1 a2 a3 a4 a5) a6 [.int .i64 a7,.osl 1001 (eInt .i64).sz a8.length])),(1001,.blk 3 (D.flat (a8.map (eInt .i64).d)))]⟩ _
  refine aF (aA M (aR (d:=.ref _ _) M M (lb M) underlying26 ag26 ti26 (by decide) (svR M) M (nle M) M)<|aA M (aR (d:=.int _ _) M M (lb M) underlying3 ag3 ti3 (by decide) (svR M) M (nle M) M) <|?_)
  refine gI (S':=⟨[(0,.yld 6),(1,.ref 4 0),(6,.ref 1000 0),(7,.int .i64 a0)],[(0,.blk 26 [.ref 1000 0]),(1,.blk 3 [.int .i64 a0]),(2,.blk 3 [.int .i64 0]),(4,.blk 26 [.ref 1000 0]),(5,.blk 3 [.int .i64 a0]),(6,.loop 1 [.dead,.dead,.ref 0 0,.ref 1 0,.ref 2 0,.dead,.dead,.dead,.dead,.dead,.dead,.fn 40 [.ref 4 0,.ref 5 0],.dead,.dead,.dead,.dead,.dead,.dead,.dead,.dead,.dead,.dead,.dead,.dead,.dead,.dead,.dead,.dead,.dead,.dead,.dead,.dead,.dead,.dead,.dead,.dead,.dead,.dead,.dead,.dead,.dead,.dead,.dead,.dead,.dead,.dead,.dead,.dead,.dead,.dead,.dead,.dead,.dead,.dead,.dead,.dead,.dead,.dead,.dead,.dead,.dead,.dead,.dead,.dead,.dead,.dead,.dead,.dead,.dead,.dead,.dead,.dead,.dead,.dead,.dead,.dead,.dead,.dead,.dead,.dead,.dead,.dead,.dead,.dead,.dead,.dead,.dead,.dead,.dead,.dead,.dead] .ready none),(7,.kept 1 [.dead,.dead,.ref 0 0,.ref 1 0,.ref 2 0,.dead,.dead,.dead,.dead,.dead,.dead,.fn 40 [.ref 4 0,.ref 5 0],.dead,.dead,.dead,.dead,.dead,.dead,.dead,.dead,.dead,.dead,.dead,.dead,.dead,.dead,.dead,.dead,.dead,.dead,.dead,.dead,.dead,.dead,.dead,.dead,.dead,.dead,.dead,.dead,.dead,.dead,.dead,.dead,.dead,.dead,.dead,.dead,.dead,.dead,.dead,.dead,.dead,.dead,.dead,.dead,.dead,.dead,.dead,.dead,.dead,.dead,.dead,.dead,.dead,.dead,.dead,.dead,.dead,.dead,.dead,.dead,.dead,.dead,.dead,.dead,.dead,.dead,.dead,.dead,.dead,.dead,.dead,.dead,.dead,.dead,.dead,.dead,.dead,.dead,.dead]),(1000,.blk 60 (mixD aB.toEnc0 (w22 a1 a2 a3 a4 a5) a6 [.int .i64 a7,.osl 1001 (eInt .i64).sz a8.length])),(1001,.blk 3 (D.flat (a8.map (eInt .i64).d)))]⟩) (fun i=>i) ⟨(.sames M M),(.cons (.blk M M M) (.cons (.blk M M M) (.cons (.blk M M M) (.cons (.blk M M M) (.cons (.blk M M M) (.cons (.loop M M M) (.cons (.kept M M M) (.cons (EntW.mix aB M (SubC.of_eq M) (SubC.of_eq M) M M) (.cons (EntW.lst M) .nil))))))))),aY [0,1,2,4,5,6,7,1000,1001] M (by decide),fun _ _=>M⟩ ?_
  refine kZ 2 8 M M M (by decide) cl41 func41 M (.cons (svR M) (.cons (svI M) .nil)) ntmps41 (nle M) M hO1 fun O2 hO2=>?_
  show IWP _ _ _ _ ⟨[(0,.ref 1000 0),(1,.int .i64 a0)],[(8,.kept 2 [.yld 6,.ref 4 0,.dead,.dead,.dead,.dead,.ref 1000 0,.int .i64 a0,.dead,.dead,.dead,.dead,.dead,.dead,.dead,.dead,.dead,.dead,.dead,.dead,.dead,.dead,.dead,.dead,.dead]),(0,.blk 26 [.ref 1000 0]),(1,.blk 3 [.int .i64 a0]),(2,.blk 3 [.int .i64 0]),(4,.blk 26 [.ref 1000 0]),(5,.blk 3 [.int .i64 a0]),(6,.loop 1 [.dead,.dead,.ref 0 0,.ref 1 0,.ref 2 0,.dead,.dead,.dead,.dead,.dead,.dead,.fn 40 [.ref 4 0,.ref 5 0],.dead,.dead,.dead,.dead,.dead,.dead,.dead,.dead,.dead,.dead,.dead,.dead,.dead,.dead,.dead,.dead,.dead,.dead,.dead,.dead,.dead,.dead,.dead,.dead,.dead,.dead,.dead,.dead,.dead,.dead,.dead,.dead,.dead,.dead,.dead,.dead,.dead,.dead,.dead,.dead,.dead,.dead,.dead,.dead,.dead,.dead,.dead,.dead,.dead,.dead,.dead,.dead,.dead,.dead,.dead,.dead,.dead,.dead,.dead,.dead,.dead,.dead,.dead,.dead,.dead,.dead,.dead,.dead,.dead,.dead,.dead,.dead,.dead,.dead,.dead,.dead,.dead,.dead,.dead] .ready none),(7,.kept 1 [.dead,.dead,.ref 0 0,.ref 1 0,.ref 2 0,.dead,.dead,.dead,.dead,.dead,.dead,.fn 40 [.ref 4 0,.ref 5 0],.dead,.dead,.dead,.dead,.dead,.dead,.dead,.dead,.dead,.dead,.dead,.dead,.dead,.dead,.dead,.dead,.dead,.dead,.dead,.dead,.dead,.dead,.dead,.dead,.dead,.dead,.dead,.dead,.dead,.dead,.dead,.dead,.dead,.dead,.dead,.dead,.dead,.dead,.dead,.dead,.dead,.dead,.dead,.dead,.dead,.dead,.dead,.dead,.dead,.dead,.dead,.dead,.dead,.dead,.dead,.dead,.dead,.dead,.dead,.dead,.dead,.dead,.dead,.dead,.dead,.dead,.dead,.dead,.dead,.dead,.dead,.dead,.dead,.dead,.dead,.dead,.dead,.dead,.dead]),(1000,.blk 60 (mixD aB.toEnc0 (w22 a1 a2 a3 a4 a5) a6 [.int .i64 a7,.osl 1001 (eInt .i64).sz a8.length])),(1001,.blk 3 (D.flat (a8.map (eInt .i64).d)))]⟩ _
  refine aF (aA M (aI M M (lb M) (sv (d:=.nilp) M))<|aE ?_)
  refine aU ?_
  obtain ⟨x232,hx232,h⟩:=aK h
  refine aF (aA M (mvI M M M M)<|aA M (aO M M (lb M) (svI M) (sv (d:=.int _ (-1)) M) M hx232)<|aE ?_)
  refine aW (b:=_) M (fun hc233=>?_) (fun hc233=>?_)
  ·
   replace h:=bX h hc233
   refine aF (aA M (mvR M M M M)<|aA M (aN M M (lb M) (svR M))<|aA M (faR 389 M M M underlying60 M ti3 (lb M) M M)<|aA M (aI M M (lb M) (svR M))<|aE ?_)
   refine bB ?_
   refine bP ?_
   refine ⟨.inr M,8,_,[.ref 1000 389],(.cons (sv M) .nil),M,M,⟨[(0,.yld 6),(1,.ref 4 0),(8,.ref 1000 389)],[(0,.blk 26 [.ref 1000 0]),(1,.blk 3 [.int .i64 a0]),(2,.blk 3 [.int .i64 0]),(4,.blk 26 [.ref 1000 0]),(5,.blk 3 [.int .i64 a0]),(6,.loop 1 [.dead,.dead,.ref 0 0,.ref 1 0,.ref 2 0,.dead,.dead,.dead,.dead,.dead,.dead,.fn 40 [.ref 4 0,.ref 5 0],.dead,.dead,.dead,.dead,.dead,.dead,.dead,.dead,.dead,.dead,.dead,.dead,.dead,.dead,.dead,.dead,.dead,.dead,.dead,.dead,.dead,.dead,.dead,.dead,.dead,.dead,.dead,.dead,.dead,.dead,.dead,.dead,.dead,.dead,.dead,.dead,.dead,.dead,.dead,.dead,.dead,.dead,.dead,.dead,.dead,.dead,.dead,.dead,.dead,.dead,.dead,.dead,.dead,.dead,.dead,.dead,.dead,.dead,.dead,.dead,.dead,.dead,.dead,.dead,.dead,.dead,.dead,.dead,.dead,.dead,.dead,.dead,.dead,.dead,.dead,.dead,.dead,.dead,.dead] .ready none),(7,.kept 1 [.dead,.dead,.ref 0 0,.ref 1 0,.ref 2 0,.dead,.dead,.dead,.dead,.dead,.dead,.fn 40 [.ref 4 0,.ref 5 0],.dead,.dead,.dead,.dead,.dead,.dead,.dead,.dead,.dead,.dead,.dead,.dead,.dead,.dead,.dead,.dead,.dead,.dead,.dead,.dead,.dead,.dead,.dead,.dead,.dead,.dead,.dead,.dead,.dead,.dead,.dead,.dead,.dead,.dead,.dead,.dead,.dead,.dead,.dead,.dead,.dead,.dead,.dead,.dead,.dead,.dead,.dead,.dead,.dead,.dead,.dead,.dead,.dead,.dead,.dead,.dead,.dead,.dead,.dead,.dead,.dead,.dead,.dead,.dead,.dead,.dead,.dead,.dead,.dead,.dead,.dead,.dead,.dead,.dead,.dead,.dead,.dead,.dead,.dead]),(1000,.blk 60 (mixD aB.toEnc0 (w22 a1 a2 a3 a4 a5) a6 [.int .i64 a7,.osl 1001 (eInt .i64).sz a8.length])),(1001,.blk 3 (D.flat (a8.map (eInt .i64).d)))]⟩,(fun i=>i),⟨(.sames M M),(.cons (.blk M M M) (.cons (.blk M M M) (.cons (.blk M M M) (.cons (.blk M M M) (.cons (.blk M M M) (.cons (.loop M M M) (.cons (.kept M M M) (.cons (EntW.mix aB M (SubC.of_eq M) (SubC.of_eq M) M M) (.cons (EntW.lst M) .nil))))))))),aY [0,1,2,4,5,6,7,1000,1001] M (by decide),fun _ _=>M⟩,?_⟩
   obtain ⟨hk234,h⟩:=iG h
   refine aA M (aN M M (lb M) (svR M))<|aA M (gW aB.toEnc0 (d:=.int _ _) (n:=64) (k:=0) M M (lb M) underlying3 ag3 ti3 (by decide) (svR M) M hk234 (by rfl) (nle M) (by rfl))<|aA M (asI M M M M)<|aE ?_
   refine aV ?_
   refine bS (α:=Nat × Int × Int) (fun z=>⟨[(0,.yld 6),(1,.ref 4 0),(4,.int .i64 z.2.1)],[(6,.loop 1 [.dead,.dead,.ref 0 0,.ref 1 0,.ref 2 0,.dead,.dead,.dead,.dead,.dead,.dead,.fn 40 [.ref 4 0,.ref 5 0],.dead,.dead,.dead,.dead,.dead,.dead,.dead,.dead,.dead,.dead,.dead,.dead,.dead,.dead,.dead,.dead,.dead,.dead,.dead,.dead,.dead,.dead,.dead,.dead,.dead,.dead,.dead,.dead,.dead,.dead,.dead,.dead,.dead,.dead,.dead,.dead,.dead,.dead,.dead,.dead,.dead,.dead,.dead,.dead,.dead,.dead,.dead,.dead,.dead,.dead,.dead,.dead,.dead,.dead,.dead,.dead,.dead,.dead,.dead,.dead,.dead,.dead,.dead,.dead,.dead,.dead,.dead,.dead,.dead,.dead,.dead,.dead,.dead,.dead,.dead,.dead,.dead,.dead,.dead] .ready none),(4,.blk 26 [.ref 1000 0]),(7,.kept 1 [.dead,.dead,.ref 0 0,.ref 1 0,.ref 2 0,.dead,.dead,.dead,.dead,.dead,.dead,.fn 40 [.ref 4 0,.ref 5 0],.dead,.dead,.dead,.dead,.dead,.dead,.dead,.dead,.dead,.dead,.dead,.dead,.dead,.dead,.dead,.dead,.dead,.dead,.dead,.dead,.dead,.dead,.dead,.dead,.dead,.dead,.dead,.dead,.dead,.dead,.dead,.dead,.dead,.dead,.dead,.dead,.dead,.dead,.dead,.dead,.dead,.dead,.dead,.dead,.dead,.dead,.dead,.dead,.dead,.dead,.dead,.dead,.dead,.dead,.dead,.dead,.dead,.dead,.dead,.dead,.dead,.dead,.dead,.dead,.dead,.dead,.dead,.dead,.dead,.dead,.dead,.dead,.dead,.dead,.dead,.dead,.dead,.dead,.dead]),(1000,.blk 60 (mixD aB.toEnc0 (w22 a1 a2 a3 a4 a5) a6 [.int .i64 a7,.osl 1001 (eInt .i64).sz a8.length])),(1001,.blk 3 (D.flat (a8.map (eInt .i64).d))),(0,.blk 26 [.ref 1000 0]),(1,.blk 3 [.int .i64 a0]),(2,.blk 3 [.int .i64 z.2.2]),(5,.blk 3 [.int .i64 a0])]⟩) (fun z=>kB a0 a1 a2 a3 a4 a5 a6 a7 a8 z.1 z.2.1 z.2.2=some r) (fun z=>z.1) (fuel,a7,0) (fun i=>i) ⟨(.sames M M),(.cons (.loop M M M) (.cons (.blk M M M) (.cons (.kept M M M) (.cons (EntW.mix aB M (SubC.of_eq M) (SubC.of_eq M) M M) (.cons (EntW.lst M) (.cons (.blk M M M) (.cons (.blk M M M) (.cons (.blk M M M) (.cons (.blk M M M) .nil))))))))),aY [6,4,7,1000,1001,0,1,2,5] M (by decide),fun _ _=>M⟩ ?_ ?_
   ·exact h
   ·
    rintro ⟨n7,v242,v243⟩ h
    cases n7 with
    | zero=>exact absurd h (by unfold kB; exact nofun)
    | succ n7 =>
     unfold kB at h
     refine aU ?_
     obtain ⟨x251,hx251,h⟩:=aK h
     refine aF (aA M (mvI M M M M)<|aA M (aO M M (lb M) (svI M) (sv (d:=.int _ (-1)) M) M hx251)<|aE ?_)
     refine aW (b:=_) M (fun hc252=>?_) (fun hc252=>?_)
     ·
      replace h:=bX h hc252
      refine aT ?_
      refine aJ ?_
      refine aV ?_
      obtain ⟨x253,hx253,h⟩:=aL h
      obtain ⟨x254,hx254,h⟩:=aL h
      refine aF (aA M (aR (d:=.ref _ _) M M (lb M) underlying26 ag26 ti26 (by decide) (svR M) M (nle M) M)<|aA M (mvI M M M M)<|aA M (aN M M (lb M) (svR M))<|aA M (faR 5 M M M underlying60 M ti58 (lb M) M M)<|aA M (dO aB.toEnc0 M M (lb M) underlying58 ti57 (svR M) hk234 (svI M) hx253)<|aA M (cB M M (lb M) underlying57 M ti3 (by decide) (svR M) (k':=3) M)<|aA M (cI aB.toEnc0 (b:=5) (k:=3) (d:=.int _ _) M M (lb M) underlying3 ag3 ti3 (by decide) (svR M) M M hx254 (nle M) M)<|aA M (asI M M M M)<|aE ?_)
      refine aU ?_
      refine aF (aA M (aD M M (lb M) (sv (d:=.yld _) M))<|aA M (mvI M M M M) <|?_)
      refine gI (S':=⟨[(0,.yld 6),(1,.ref 4 0),(5,.int .i64 x254.next),(20,.yld 6),(21,.int .i64 v242)],[(0,.blk 26 [.ref 1000 0]),(1,.blk 3 [.int .i64 a0]),(2,.blk 3 [.int .i64 v243]),(4,.blk 26 [.ref 1000 0]),(5,.blk 3 [.int .i64 a0]),(6,.loop 1 [.dead,.dead,.ref 0 0,.ref 1 0,.ref 2 0,.dead,.dead,.dead,.dead,.dead,.dead,.fn 40 [.ref 4 0,.ref 5 0],.dead,.dead,.dead,.dead,.dead,.dead,.dead,.dead,.dead,.dead,.dead,.dead,.dead,.dead,.dead,.dead,.dead,.dead,.dead,.dead,.dead,.dead,.dead,.dead,.dead,.dead,.dead,.dead,.dead,.dead,.dead,.dead,.dead,.dead,.dead,.dead,.dead,.dead,.dead,.dead,.dead,.dead,.dead,.dead,.dead,.dead,.dead,.dead,.dead,.dead,.dead,.dead,.dead,.dead,.dead,.dead,.dead,.dead,.dead,.dead,.dead,.dead,.dead,.dead,.dead,.dead,.dead,.dead,.dead,.dead,.dead,.dead,.dead,.dead,.dead,.dead,.dead,.dead,.dead] .ready none),(7,.kept 1 [.dead,.dead,.ref 0 0,.ref 1 0,.ref 2 0,.dead,.dead,.dead,.dead,.dead,.dead,.fn 40 [.ref 4 0,.ref 5 0],.dead,.dead,.dead,.dead,.dead,.dead,.dead,.dead,.dead,.dead,.dead,.dead,.dead,.dead,.dead,.dead,.dead,.dead,.dead,.dead,.dead,.dead,.dead,.dead,.dead,.dead,.dead,.dead,.dead,.dead,.dead,.dead,.dead,.dead,.dead,.dead,.dead,.dead,.dead,.dead,.dead,.dead,.dead,.dead,.dead,.dead,.dead,.dead,.dead,.dead,.dead,.dead,.dead,.dead,.dead,.dead,.dead,.dead,.dead,.dead,.dead,.dead,.dead,.dead,.dead,.dead,.dead,.dead,.dead,.dead,.dead,.dead,.dead,.dead,.dead,.dead,.dead,.dead,.dead]),(1000,.blk 60 (mixD aB.toEnc0 (w22 a1 a2 a3 a4 a5) a6 [.int .i64 a7,.osl 1001 (eInt .i64).sz a8.length])),(1001,.blk 3 (D.flat (a8.map (eInt .i64).d)))]⟩) (fun i=>i) ⟨(.sames M M),(.cons (.blk M M M) (.cons (.blk M M M) (.cons (.blk M M M) (.cons (.blk M M M) (.cons (.blk M M M) (.cons (.loop M M M) (.cons (.kept M M M) (.cons (EntW.mix aB M (SubC.of_eq M) (SubC.of_eq M) M M) (.cons (EntW.lst M) .nil))))))))),aY [0,1,2,4,5,6,7,1000,1001] M (by decide),fun _ _=>M⟩ ?_
      refine pC 2 6 8 M M M (by decide) M (.cons (svI M) .nil) M M M M M M hO1.round hlc1 ⟨[(12,.int .i64 v242),(2,.ref 0 0),(4,.ref 2 0)],[(0,.blk 26 [.ref 1000 0]),(1,.blk 3 [.int .i64 a0]),(2,.blk 3 [.int .i64 v243]),(4,.blk 26 [.ref 1000 0]),(5,.blk 3 [.int .i64 a0]),(6,.loop 1 [.dead,.dead,.ref 0 0,.ref 1 0,.ref 2 0,.dead,.dead,.dead,.dead,.dead,.dead,.fn 40 [.ref 4 0,.ref 5 0],.dead,.dead,.dead,.dead,.dead,.dead,.dead,.dead,.dead,.dead,.dead,.dead,.dead,.dead,.dead,.dead,.dead,.dead,.dead,.dead,.dead,.dead,.dead,.dead,.dead,.dead,.dead,.dead,.dead,.dead,.dead,.dead,.dead,.dead,.dead,.dead,.dead,.dead,.dead,.dead,.dead,.dead,.dead,.dead,.dead,.dead,.dead,.dead,.dead,.dead,.dead,.dead,.dead,.dead,.dead,.dead,.dead,.dead,.dead,.dead,.dead,.dead,.dead,.dead,.dead,.dead,.dead,.dead,.dead,.dead,.dead,.dead,.dead,.dead,.dead,.dead,.dead,.dead,.dead] .ready none),(7,.kept 1 [.dead,.dead,.ref 0 0,.ref 1 0,.ref 2 0,.dead,.dead,.dead,.dead,.dead,.dead,.fn 40 [.ref 4 0,.ref 5 0],.dead,.dead,.dead,.dead,.dead,.dead,.dead,.dead,.dead,.dead,.dead,.dead,.dead,.dead,.dead,.dead,.dead,.dead,.dead,.dead,.dead,.dead,.dead,.dead,.dead,.dead,.dead,.dead,.dead,.dead,.dead,.dead,.dead,.dead,.dead,.dead,.dead,.dead,.dead,.dead,.dead,.dead,.dead,.dead,.dead,.dead,.dead,.dead,.dead,.dead,.dead,.dead,.dead,.dead,.dead,.dead,.dead,.dead,.dead,.dead,.dead,.dead,.dead,.dead,.dead,.dead,.dead,.dead,.dead,.dead,.dead,.dead,.dead,.dead,.dead,.dead,.dead,.dead,.dead]),(8,.kept 2 [.yld 6,.ref 4 0,.dead,.dead,.dead,.int .i64 x254.next,.dead,.dead,.dead,.dead,.dead,.dead,.dead,.dead,.dead,.dead,.dead,.dead,.dead,.dead,.yld 6,.int .i64 v242,.dead,.dead,.dead]),(1000,.blk 60 (mixD aB.toEnc0 (w22 a1 a2 a3 a4 a5) a6 [.int .i64 a7,.osl 1001 (eInt .i64).sz a8.length])),(1001,.blk 3 (D.flat (a8.map (eInt .i64).d)))]⟩ (fun i=>i) ⟨(.sames M M),(.cons (.blk M M M) (.cons (.blk M M M) (.cons (.blk M M M) (.cons (.blk M M M) (.cons (.blk M M M) (.cons (.loop M M M) (.cons (.kept M M M) (.cons (.kept M M M) (.cons (EntW.mix aB M (SubC.of_eq M) (SubC.of_eq M) M M) (.cons (EntW.lst M) .nil)))))))))),aY [0,1,2,4,5,6,7,8,1000,1001] M (by decide),fun _ _=>M⟩ fun O2=>?_
      refine aS (aA M (asI M M M M)<|bE ?_)
      refine ⟨M,6,_,M,⟨[(2,.ref 0 0),(4,.ref 2 0),(5,.int .i64 v242)],[(0,.blk 26 [.ref 1000 0]),(1,.blk 3 [.int .i64 a0]),(2,.blk 3 [.int .i64 v243]),(4,.blk 26 [.ref 1000 0]),(5,.blk 3 [.int .i64 a0]),(6,.loop 1 [.dead,.dead,.ref 0 0,.ref 1 0,.ref 2 0,.dead,.dead,.dead,.dead,.dead,.dead,.fn 40 [.ref 4 0,.ref 5 0],.dead,.dead,.dead,.dead,.dead,.dead,.dead,.dead,.dead,.dead,.dead,.dead,.dead,.dead,.dead,.dead,.dead,.dead,.dead,.dead,.dead,.dead,.dead,.dead,.dead,.dead,.dead,.dead,.dead,.dead,.dead,.dead,.dead,.dead,.dead,.dead,.dead,.dead,.dead,.dead,.dead,.dead,.dead,.dead,.dead,.dead,.dead,.dead,.dead,.dead,.dead,.dead,.dead,.dead,.dead,.dead,.dead,.dead,.dead,.dead,.dead,.dead,.dead,.dead,.dead,.dead,.dead,.dead,.dead,.dead,.dead,.dead,.dead,.dead,.dead,.dead,.dead,.dead,.dead] .busy none),(7,.kept 1 [.dead,.dead,.ref 0 0,.ref 1 0,.ref 2 0,.dead,.dead,.dead,.dead,.dead,.dead,.fn 40 [.ref 4 0,.ref 5 0],.dead,.dead,.dead,.dead,.dead,.dead,.dead,.dead,.dead,.dead,.dead,.dead,.dead,.dead,.dead,.dead,.dead,.dead,.dead,.dead,.dead,.dead,.dead,.dead,.dead,.dead,.dead,.dead,.dead,.dead,.dead,.dead,.dead,.dead,.dead,.dead,.dead,.dead,.dead,.dead,.dead,.dead,.dead,.dead,.dead,.dead,.dead,.dead,.dead,.dead,.dead,.dead,.dead,.dead,.dead,.dead,.dead,.dead,.dead,.dead,.dead,.dead,.dead,.dead,.dead,.dead,.dead,.dead,.dead,.dead,.dead,.dead,.dead,.dead,.dead,.dead,.dead,.dead,.dead]),(8,.kept 2 [.yld 6,.ref 4 0,.dead,.dead,.dead,.int .i64 x254.next,.dead,.dead,.dead,.dead,.dead,.dead,.dead,.dead,.dead,.dead,.dead,.dead,.dead,.dead,.yld 6,.int .i64 v242,.dead,.dead,.dead]),(1000,.blk 60 (mixD aB.toEnc0 (w22 a1 a2 a3 a4 a5) a6 [.int .i64 a7,.osl 1001 (eInt .i64).sz a8.length])),(1001,.blk 3 (D.flat (a8.map (eInt .i64).d)))]⟩,(fun i=>i),⟨(.sames M M),(.cons (.blk M M M) (.cons (.blk M M M) (.cons (.blk M M M) (.cons (.blk M M M) (.cons (.blk M M M) (.cons (.loop M M M) (.cons (.kept M M M) (.cons (.kept M M M) (.cons (EntW.mix aB M (SubC.of_eq M) (SubC.of_eq M) M M) (.cons (EntW.lst M) .nil)))))))))),aY [0,1,2,4,5,6,7,8,1000,1001] M (by decide),fun _ _=>M⟩,?_⟩
      refine aV ?_
      obtain ⟨x255,hx255,h⟩:=aL h
      obtain ⟨x256,hx256,h⟩:=aL h
      obtain ⟨x257,hx257,h⟩:=aK h
      refine iM M [⟨[4],[2],[(13,.int .i64 v243)],[]⟩,
       ⟨[2],[0],[(14,.ref 1000 0)],[]⟩,
       ⟨[5],[],[(15,.int .i64 v242)],[]⟩,
       ⟨[14],[],[(16,.ref 1000 0)],[]⟩,
       ⟨[16],[],[(17,.ref 1000 5)],[]⟩,
       ⟨[15,17],[],[(18,.ref 1000 (5 + (((v242:Int).toNat) * aB.sz + 0)))],[]⟩,
       ⟨[18],[],[(19,.ref 1000 (5 + (((v242:Int).toNat) * aB.sz + 4)))],[]⟩,
       ⟨[19],[1000],[(20,.int .i64 x256.weight)],[]⟩,
       ⟨[13,20],[],[(21,.int .i64 x257)],[]⟩,
       ⟨[4,21],[2],[],[(2,.blk 3 [.int .i64 x257])]⟩] M ?_ (by kernel_rfl) ?_
      ·refine .cons (lop M M fun S hA=>(aR (d:=.int _ _) M M (lb M) underlying3 ag3 ti3 (by decide) (svaR hA M M) (agi hA M M) (nle M) M)) ?_
       refine .cons (lop M M fun S hA=>(aR (d:=.ref _ _) M M (lb M) underlying26 ag26 ti26 (by decide) (svaR hA M M) (agi hA M M) (nle M) M)) ?_
       refine .cons (lop M M fun S hA=>(aD M M (lb M) (svaI hA M M))) ?_
       refine .cons (lop M M fun S hA=>(aN M M (lb M) (svaR hA M M))) ?_
       refine .cons (lop M M fun S hA=>(bF M M (lb M) underlying60 M ti58 (by decide) (svaR hA M M) (off':=5) M)) ?_
       refine .cons (lop M M fun S hA=>(dO aB.toEnc0 M M (lb M) underlying58 ti57 (svaR hA M M) hk234 (svaI hA M M) hx255)) ?_
       refine .cons (lop M M fun S hA=>(cB M M (lb M) underlying57 M ti3 (by decide) (svaR hA M M) (k':=4) M)) ?_
       refine .cons (lop M M fun S hA=>(cI aB.toEnc0 (b:=5) (k:=4) (d:=.int _ _) M M (lb M) underlying3 ag3 ti3 (by decide) (svaR hA M M) (agi hA M M) M hx256 (nle M) M)) ?_
       refine .cons (lop M M fun S hA=>(aQ M M (lb M) (svaI hA M M) (svaI hA M M) M hx257)) ?_
       refine .cons (lop M M fun S hA=>(fD (ds':=[.int _ _]) M M ti3 (svaR hA M M) (agi hA M M) (svaI hA M M) M M M (nle M) M)) ?_
       exact .nil
      refine bI ?_
      refine ⟨6,8,_,_,none,M,M,M,M,(by decide),⟨[(0,.yld 6),(1,.ref 4 0),(5,.int .i64 x254.next),(22,.bool true)],[(0,.blk 26 [.ref 1000 0]),(1,.blk 3 [.int .i64 a0]),(2,.blk 3 [.int .i64 x257]),(4,.blk 26 [.ref 1000 0]),(5,.blk 3 [.int .i64 a0]),(6,.loop 1 [.dead,.dead,.ref 0 0,.ref 1 0,.ref 2 0,.dead,.dead,.dead,.dead,.dead,.dead,.fn 40 [.ref 4 0,.ref 5 0],.dead,.dead,.dead,.dead,.dead,.dead,.dead,.dead,.dead,.dead,.dead,.dead,.dead,.dead,.dead,.dead,.dead,.dead,.dead,.dead,.dead,.dead,.dead,.dead,.dead,.dead,.dead,.dead,.dead,.dead,.dead,.dead,.dead,.dead,.dead,.dead,.dead,.dead,.dead,.dead,.dead,.dead,.dead,.dead,.dead,.dead,.dead,.dead,.dead,.dead,.dead,.dead,.dead,.dead,.dead,.dead,.dead,.dead,.dead,.dead,.dead,.dead,.dead,.dead,.dead,.dead,.dead,.dead,.dead,.dead,.dead,.dead,.dead,.dead,.dead,.dead,.dead,.dead,.dead] .ready none),(7,.kept 1 [.dead,.dead,.ref 0 0,.ref 1 0,.ref 2 0,.dead,.dead,.dead,.dead,.dead,.dead,.fn 40 [.ref 4 0,.ref 5 0],.dead,.dead,.dead,.dead,.dead,.dead,.dead,.dead,.dead,.dead,.dead,.dead,.dead,.dead,.dead,.dead,.dead,.dead,.dead,.dead,.dead,.dead,.dead,.dead,.dead,.dead,.dead,.dead,.dead,.dead,.dead,.dead,.dead,.dead,.dead,.dead,.dead,.dead,.dead,.dead,.dead,.dead,.dead,.dead,.dead,.dead,.dead,.dead,.dead,.dead,.dead,.dead,.dead,.dead,.dead,.dead,.dead,.dead,.dead,.dead,.dead,.dead,.dead,.dead,.dead,.dead,.dead,.dead,.dead,.dead,.dead,.dead,.dead,.dead,.dead,.dead,.dead,.dead,.dead]),(1000,.blk 60 (mixD aB.toEnc0 (w22 a1 a2 a3 a4 a5) a6 [.int .i64 a7,.osl 1001 (eInt .i64).sz a8.length])),(1001,.blk 3 (D.flat (a8.map (eInt .i64).d)))]⟩,(fun i=>i),⟨(.sames M M),(.cons (.blk M M M) (.cons (.blk M M M) (.cons (.blk M M M) (.cons (.blk M M M) (.cons (.blk M M M) (.cons (.loop M M M) (.cons (.kept M M M) (.cons (EntW.mix aB M (SubC.of_eq M) (SubC.of_eq M) M M) (.cons (EntW.lst M) .nil))))))))),aY [0,1,2,4,5,6,7,1000,1001] M (by decide),fun _ _=>M⟩,?_⟩
      refine aA M (eX M M (lb M) (svB M))<|aE ?_
      refine gM M M ?_
      refine aT ?_
      refine aJ ?_
      refine aS (aA M (mvI M M M M)<|aA M (asI M M M M)<|bE ?_)
      refine bI ?_
      refine aJ ⟨(n7,x254.next,x257),(fun i=>i),⟨(.sames M M),(.cons (.loop M M M) (.cons (.blk M M M) (.cons (.kept M M M) (.cons (EntW.mix aB M (SubC.of_eq M) (SubC.of_eq M) M M) (.cons (EntW.lst M) (.cons (.blk M M M) (.cons (.blk M M M) (.cons (.blk M M M) (.cons (.blk M M M) .nil))))))))),aY [6,4,7,1000,1001,0,1,2,5] M (by decide),fun _ _=>M⟩,?_,?_⟩
      exact h
      exact Nat.lt_succ_self _
     ·
      replace h:=bY h hc252
      refine cA ?_
      refine bD ?_
      refine bD ?_
      refine cC ?_
      refine ⟨.inl M,6,7,_,_,_,_,M,(by simp),M,M,⟨[(2,.ref 0 0),(3,.ref 1 0),(4,.ref 2 0)],[(0,.blk 26 [.ref 1000 0]),(1,.blk 3 [.int .i64 a0]),(2,.blk 3 [.int .i64 v243]),(1000,.blk 60 (mixD aB.toEnc0 (w22 a1 a2 a3 a4 a5) a6 [.int .i64 a7,.osl 1001 (eInt .i64).sz a8.length])),(1001,.blk 3 (D.flat (a8.map (eInt .i64).d)))]⟩,(fun i=>i),⟨(.sames M M),(.cons (.blk M M M) (.cons (.blk M M M) (.cons (.blk M M M) (.cons (EntW.mix aB M (SubC.of_eq M) (SubC.of_eq M) M M) (.cons (EntW.lst M) .nil))))),aY [0,1,2,1000,1001] M (by decide),fun _ _=>M⟩,?_⟩
      refine bI ?_
      refine aJ ⟨v243,(fun i=>i),⟨(.sames M M),(.cons (.blk M M M) (.cons (.blk M M M) (.cons (.blk M M M) (.cons (EntW.mix aB M (SubC.of_eq M) (SubC.of_eq M) M M) (.cons (EntW.lst M) .nil))))),aY [0,1,2,1000,1001] M (by decide),fun _ _=>M⟩,?_⟩
      exact h
  ·
   replace h:=bY h hc233
   refine aT ?_
   refine aJ ?_
   obtain ⟨x258,hx258,h⟩:=aL h
   obtain ⟨hk259,h⟩:=iG h
   refine aF (aA M (mvR M M M M)<|aA M (mvI M M M M)<|aA M (aN M M (lb M) (svR M))<|aA M (faR 5 M M M underlying60 M ti58 (lb M) M M)<|aA M (dO aB.toEnc0 M M (lb M) underlying58 ti57 (svR M) hk259 (svI M) hx258)<|aA M (cB M M (lb M) underlying57 M ti3 (by decide) (svR M) (k':=2) M)<|aA M (aI M M (lb M) (svR M))<|aE ?_)
   refine bB ?_
   refine ⟨.inr M,8,_,[.ref 1000 (5 + (((a0:Int).toNat) * aB.sz + 2))],(.cons (sv M) .nil),M,M,⟨[(0,.yld 6),(1,.ref 4 0),(8,.ref 1000 (5 + (((a0:Int).toNat) * aB.sz + 2)))],[(0,.blk 26 [.ref 1000 0]),(1,.blk 3 [.int .i64 a0]),(2,.blk 3 [.int .i64 0]),(4,.blk 26 [.ref 1000 0]),(5,.blk 3 [.int .i64 a0]),(6,.loop 1 [.dead,.dead,.ref 0 0,.ref 1 0,.ref 2 0,.dead,.dead,.dead,.dead,.dead,.dead,.fn 40 [.ref 4 0,.ref 5 0],.dead,.dead,.dead,.dead,.dead,.dead,.dead,.dead,.dead,.dead,.dead,.dead,.dead,.dead,.dead,.dead,.dead,.dead,.dead,.dead,.dead,.dead,.dead,.dead,.dead,.dead,.dead,.dead,.dead,.dead,.dead,.dead,.dead,.dead,.dead,.dead,.dead,.dead,.dead,.dead,.dead,.dead,.dead,.dead,.dead,.dead,.dead,.dead,.dead,.dead,.dead,.dead,.dead,.dead,.dead,.dead,.dead,.dead,.dead,.dead,.dead,.dead,.dead,.dead,.dead,.dead,.dead,.dead,.dead,.dead,.dead,.dead,.dead,.dead,.dead,.dead,.dead,.dead,.dead] .ready none),(7,.kept 1 [.dead,.dead,.ref 0 0,.ref 1 0,.ref 2 0,.dead,.dead,.dead,.dead,.dead,.dead,.fn 40 [.ref 4 0,.ref 5 0],.dead,.dead,.dead,.dead,.dead,.dead,.dead,.dead,.dead,.dead,.dead,.dead,.dead,.dead,.dead,.dead,.dead,.dead,.dead,.dead,.dead,.dead,.dead,.dead,.dead,.dead,.dead,.dead,.dead,.dead,.dead,.dead,.dead,.dead,.dead,.dead,.dead,.dead,.dead,.dead,.dead,.dead,.dead,.dead,.dead,.dead,.dead,.dead,.dead,.dead,.dead,.dead,.dead,.dead,.dead,.dead,.dead,.dead,.dead,.dead,.dead,.dead,.dead,.dead,.dead,.dead,.dead,.dead,.dead,.dead,.dead,.dead,.dead,.dead,.dead,.dead,.dead,.dead,.dead]),(1000,.blk 60 (mixD aB.toEnc0 (w22 a1 a2 a3 a4 a5) a6 [.int .i64 a7,.osl 1001 (eInt .i64).sz a8.length])),(1001,.blk 3 (D.flat (a8.map (eInt .i64).d)))]⟩,(fun i=>i),⟨(.sames M M),(.cons (.blk M M M) (.cons (.blk M M M) (.cons (.blk M M M) (.cons (.blk M M M) (.cons (.blk M M M) (.cons (.loop M M M) (.cons (.kept M M M) (.cons (EntW.mix aB M (SubC.of_eq M) (SubC.of_eq M) M M) (.cons (EntW.lst M) .nil))))))))),aY [0,1,2,4,5,6,7,1000,1001] M (by decide),fun _ _=>M⟩,?_⟩
   obtain ⟨x260,hx260,h⟩:=aL h
   refine aA M (aN M M (lb M) (svR M))<|aA M (cI aB.toEnc0 (b:=5) (k:=2) (d:=.int _ _) M M (lb M) underlying3 ag3 ti3 (by decide) (svR M) M M hx260 (nle M) M)<|aA M (asI M M M M)<|aE ?_
   refine aV ?_
   refine bS (α:=Nat × Int × Int) (fun z=>⟨[(0,.yld 6),(1,.ref 4 0),(4,.int .i64 z.2.1)],[(6,.loop 1 [.dead,.dead,.ref 0 0,.ref 1 0,.ref 2 0,.dead,.dead,.dead,.dead,.dead,.dead,.fn 40 [.ref 4 0,.ref 5 0],.dead,.dead,.dead,.dead,.dead,.dead,.dead,.dead,.dead,.dead,.dead,.dead,.dead,.dead,.dead,.dead,.dead,.dead,.dead,.dead,.dead,.dead,.dead,.dead,.dead,.dead,.dead,.dead,.dead,.dead,.dead,.dead,.dead,.dead,.dead,.dead,.dead,.dead,.dead,.dead,.dead,.dead,.dead,.dead,.dead,.dead,.dead,.dead,.dead,.dead,.dead,.dead,.dead,.dead,.dead,.dead,.dead,.dead,.dead,.dead,.dead,.dead,.dead,.dead,.dead,.dead,.dead,.dead,.dead,.dead,.dead,.dead,.dead,.dead,.dead,.dead,.dead,.dead,.dead] .ready none),(4,.blk 26 [.ref 1000 0]),(7,.kept 1 [.dead,.dead,.ref 0 0,.ref 1 0,.ref 2 0,.dead,.dead,.dead,.dead,.dead,.dead,.fn 40 [.ref 4 0,.ref 5 0],.dead,.dead,.dead,.dead,.dead,.dead,.dead,.dead,.dead,.dead,.dead,.dead,.dead,.dead,.dead,.dead,.dead,.dead,.dead,.dead,.dead,.dead,.dead,.dead,.dead,.dead,.dead,.dead,.dead,.dead,.dead,.dead,.dead,.dead,.dead,.dead,.dead,.dead,.dead,.dead,.dead,.dead,.dead,.dead,.dead,.dead,.dead,.dead,.dead,.dead,.dead,.dead,.dead,.dead,.dead,.dead,.dead,.dead,.dead,.dead,.dead,.dead,.dead,.dead,.dead,.dead,.dead,.dead,.dead,.dead,.dead,.dead,.dead,.dead,.dead,.dead,.dead,.dead,.dead]),(1000,.blk 60 (mixD aB.toEnc0 (w22 a1 a2 a3 a4 a5) a6 [.int .i64 a7,.osl 1001 (eInt .i64).sz a8.length])),(1001,.blk 3 (D.flat (a8.map (eInt .i64).d))),(0,.blk 26 [.ref 1000 0]),(1,.blk 3 [.int .i64 a0]),(2,.blk 3 [.int .i64 z.2.2]),(5,.blk 3 [.int .i64 a0])]⟩) (fun z=>jZ a0 a1 a2 a3 a4 a5 a6 a7 a8 z.1 z.2.1 z.2.2=some r) (fun z=>z.1) (fuel,x260.first,0) (fun i=>i) ⟨(.sames M M),(.cons (.loop M M M) (.cons (.blk M M M) (.cons (.kept M M M) (.cons (EntW.mix aB M (SubC.of_eq M) (SubC.of_eq M) M M) (.cons (EntW.lst M) (.cons (.blk M M M) (.cons (.blk M M M) (.cons (.blk M M M) (.cons (.blk M M M) .nil))))))))),aY [6,4,7,1000,1001,0,1,2,5] M (by decide),fun _ _=>M⟩ ?_ ?_
   ·exact h
   ·
    rintro ⟨n8,v268,v269⟩ h
    cases n8 with
    | zero=>exact absurd h (by unfold jZ; exact nofun)
    | succ n8 =>
     unfold jZ at h
     refine aU ?_
     obtain ⟨x277,hx277,h⟩:=aK h
     refine aF (aA M (mvI M M M M)<|aA M (aO M M (lb M) (svI M) (sv (d:=.int _ (-1)) M) M hx277)<|aE ?_)
     refine aW (b:=_) M (fun hc278=>?_) (fun hc278=>?_)
     ·
      replace h:=bX h hc278
      refine aT ?_
      refine aJ ?_
      refine aV ?_
      obtain ⟨x279,hx279,h⟩:=aL h
      obtain ⟨x280,hx280,h⟩:=aL h
      refine aF (aA M (aR (d:=.ref _ _) M M (lb M) underlying26 ag26 ti26 (by decide) (svR M) M (nle M) M)<|aA M (mvI M M M M)<|aA M (aN M M (lb M) (svR M))<|aA M (faR 5 M M M underlying60 M ti58 (lb M) M M)<|aA M (dO aB.toEnc0 M M (lb M) underlying58 ti57 (svR M) hk259 (svI M) hx279)<|aA M (cB M M (lb M) underlying57 M ti3 (by decide) (svR M) (k':=3) M)<|aA M (cI aB.toEnc0 (b:=5) (k:=3) (d:=.int _ _) M M (lb M) underlying3 ag3 ti3 (by decide) (svR M) M M hx280 (nle M) M)<|aA M (asI M M M M)<|aE ?_)
      refine aU ?_
      refine aF (aA M (aD M M (lb M) (sv (d:=.yld _) M))<|aA M (mvI M M M M) <|?_)
      refine gI (S':=⟨[(0,.yld 6),(1,.ref 4 0),(5,.int .i64 x280.next),(20,.yld 6),(21,.int .i64 v268)],[(0,.blk 26 [.ref 1000 0]),(1,.blk 3 [.int .i64 a0]),(2,.blk 3 [.int .i64 v269]),(4,.blk 26 [.ref 1000 0]),(5,.blk 3 [.int .i64 a0]),(6,.loop 1 [.dead,.dead,.ref 0 0,.ref 1 0,.ref 2 0,.dead,.dead,.dead,.dead,.dead,.dead,.fn 40 [.ref 4 0,.ref 5 0],.dead,.dead,.dead,.dead,.dead,.dead,.dead,.dead,.dead,.dead,.dead,.dead,.dead,.dead,.dead,.dead,.dead,.dead,.dead,.dead,.dead,.dead,.dead,.dead,.dead,.dead,.dead,.dead,.dead,.dead,.dead,.dead,.dead,.dead,.dead,.dead,.dead,.dead,.dead,.dead,.dead,.dead,.dead,.dead,.dead,.dead,.dead,.dead,.dead,.dead,.dead,.dead,.dead,.dead,.dead,.dead,.dead,.dead,.dead,.dead,.dead,.dead,.dead,.dead,.dead,.dead,.dead,.dead,.dead,.dead,.dead,.dead,.dead,.dead,.dead,.dead,.dead,.dead,.dead] .ready none),(7,.kept 1 [.dead,.dead,.ref 0 0,.ref 1 0,.ref 2 0,.dead,.dead,.dead,.dead,.dead,.dead,.fn 40 [.ref 4 0,.ref 5 0],.dead,.dead,.dead,.dead,.dead,.dead,.dead,.dead,.dead,.dead,.dead,.dead,.dead,.dead,.dead,.dead,.dead,.dead,.dead,.dead,.dead,.dead,.dead,.dead,.dead,.dead,.dead,.dead,.dead,.dead,.dead,.dead,.dead,.dead,.dead,.dead,.dead,.dead,.dead,.dead,.dead,.dead,.dead,.dead,.dead,.dead,.dead,.dead,.dead,.dead,.dead,.dead,.dead,.dead,.dead,.dead,.dead,.dead,.dead,.dead,.dead,.dead,.dead,.dead,.dead,.dead,.dead,.dead,.dead,.dead,.dead,.dead,.dead,.dead,.dead,.dead,.dead,.dead,.dead]),(1000,.blk 60 (mixD aB.toEnc0 (w22 a1 a2 a3 a4 a5) a6 [.int .i64 a7,.osl 1001 (eInt .i64).sz a8.length])),(1001,.blk 3 (D.flat (a8.map (eInt .i64).d)))]⟩) (fun i=>i) ⟨(.sames M M),(.cons (.blk M M M) (.cons (.blk M M M) (.cons (.blk M M M) (.cons (.blk M M M) (.cons (.blk M M M) (.cons (.loop M M M) (.cons (.kept M M M) (.cons (EntW.mix aB M (SubC.of_eq M) (SubC.of_eq M) M M) (.cons (EntW.lst M) .nil))))))))),aY [0,1,2,4,5,6,7,1000,1001] M (by decide),fun _ _=>M⟩ ?_
      refine pC 2 6 8 M M M (by decide) M (.cons (svI M) .nil) M M M M M M hO1.round hlc1 ⟨[(12,.int .i64 v268),(2,.ref 0 0),(4,.ref 2 0)],[(0,.blk 26 [.ref 1000 0]),(1,.blk 3 [.int .i64 a0]),(2,.blk 3 [.int .i64 v269]),(4,.blk 26 [.ref 1000 0]),(5,.blk 3 [.int .i64 a0]),(6,.loop 1 [.dead,.dead,.ref 0 0,.ref 1 0,.ref 2 0,.dead,.dead,.dead,.dead,.dead,.dead,.fn 40 [.ref 4 0,.ref 5 0],.dead,.dead,.dead,.dead,.dead,.dead,.dead,.dead,.dead,.dead,.dead,.dead,.dead,.dead,.dead,.dead,.dead,.dead,.dead,.dead,.dead,.dead,.dead,.dead,.dead,.dead,.dead,.dead,.dead,.dead,.dead,.dead,.dead,.dead,.dead,.dead,.dead,.dead,.dead,.dead,.dead,.dead,.dead,.dead,.dead,.dead,.dead,.dead,.dead,.dead,.dead,.dead,.dead,.dead,.dead,.dead,.dead,.dead,.dead,.dead,.dead,.dead,.dead,.dead,.dead,.dead,.dead,.dead,.dead,.dead,.dead,.dead,.dead,.dead,.dead,.dead,.dead,.dead,.dead] .ready none),(7,.kept 1 [.dead,.dead,.ref 0 0,.ref 1 0,.ref 2 0,.dead,.dead,.dead,.dead,.dead,.dead,.fn 40 [.ref 4 0,.ref 5 0],.dead,.dead,.dead,.dead,.dead,.dead,.dead,.dead,.dead,.dead,.dead,.dead,.dead,.dead,.dead,.dead,.dead,.dead,.dead,.dead,.dead,.dead,.dead,.dead,.dead,.dead,.dead,.dead,.dead,.dead,.dead,.dead,.dead,.dead,.dead,.dead,.dead,.dead,.dead,.dead,.dead,.dead,.dead,.dead,.dead,.dead,.dead,.dead,.dead,.dead,.dead,.dead,.dead,.dead,.dead,.dead,.dead,.dead,.dead,.dead,.dead,.dead,.dead,.dead,.dead,.dead,.dead,.dead,.dead,.dead,.dead,.dead,.dead,.dead,.dead,.dead,.dead,.dead,.dead]),(8,.kept 2 [.yld 6,.ref 4 0,.dead,.dead,.dead,.int .i64 x280.next,.dead,.dead,.dead,.dead,.dead,.dead,.dead,.dead,.dead,.dead,.dead,.dead,.dead,.dead,.yld 6,.int .i64 v268,.dead,.dead,.dead]),(1000,.blk 60 (mixD aB.toEnc0 (w22 a1 a2 a3 a4 a5) a6 [.int .i64 a7,.osl 1001 (eInt .i64).sz a8.length])),(1001,.blk 3 (D.flat (a8.map (eInt .i64).d)))]⟩ (fun i=>i) ⟨(.sames M M),(.cons (.blk M M M) (.cons (.blk M M M) (.cons (.blk M M M) (.cons (.blk M M M) (.cons (.blk M M M) (.cons (.loop M M M) (.cons (.kept M M M) (.cons (.kept M M M) (.cons (EntW.mix aB M (SubC.of_eq M) (SubC.of_eq M) M M) (.cons (EntW.lst M) .nil)))))))))),aY [0,1,2,4,5,6,7,8,1000,1001] M (by decide),fun _ _=>M⟩ fun O2=>?_
      refine aS (aA M (asI M M M M)<|bE ?_)
      refine ⟨M,6,_,M,⟨[(2,.ref 0 0),(4,.ref 2 0),(5,.int .i64 v268)],[(0,.blk 26 [.ref 1000 0]),(1,.blk 3 [.int .i64 a0]),(2,.blk 3 [.int .i64 v269]),(4,.blk 26 [.ref 1000 0]),(5,.blk 3 [.int .i64 a0]),(6,.loop 1 [.dead,.dead,.ref 0 0,.ref 1 0,.ref 2 0,.dead,.dead,.dead,.dead,.dead,.dead,.fn 40 [.ref 4 0,.ref 5 0],.dead,.dead,.dead,.dead,.dead,.dead,.dead,.dead,.dead,.dead,.dead,.dead,.dead,.dead,.dead,.dead,.dead,.dead,.dead,.dead,.dead,.dead,.dead,.dead,.dead,.dead,.dead,.dead,.dead,.dead,.dead,.dead,.dead,.dead,.dead,.dead,.dead,.dead,.dead,.dead,.dead,.dead,.dead,.dead,.dead,.dead,.dead,.dead,.dead,.dead,.dead,.dead,.dead,.dead,.dead,.dead,.dead,.dead,.dead,.dead,.dead,.dead,.dead,.dead,.dead,.dead,.dead,.dead,.dead,.dead,.dead,.dead,.dead,.dead,.dead,.dead,.dead,.dead,.dead] .busy none),(7,.kept 1 [.dead,.dead,.ref 0 0,.ref 1 0,.ref 2 0,.dead,.dead,.dead,.dead,.dead,.dead,.fn 40 [.ref 4 0,.ref 5 0],.dead,.dead,.dead,.dead,.dead,.dead,.dead,.dead,.dead,.dead,.dead,.dead,.dead,.dead,.dead,.dead,.dead,.dead,.dead,.dead,.dead,.dead,.dead,.dead,.dead,.dead,.dead,.dead,.dead,.dead,.dead,.dead,.dead,.dead,.dead,.dead,.dead,.dead,.dead,.dead,.dead,.dead,.dead,.dead,.dead,.dead,.dead,.dead,.dead,.dead,.dead,.dead,.dead,.dead,.dead,.dead,.dead,.dead,.dead,.dead,.dead,.dead,.dead,.dead,.dead,.dead,.dead,.dead,.dead,.dead,.dead,.dead,.dead,.dead,.dead,.dead,.dead,.dead,.dead]),(8,.kept 2 [.yld 6,.ref 4 0,.dead,.dead,.dead,.int .i64 x280.next,.dead,.dead,.dead,.dead,.dead,.dead,.dead,.dead,.dead,.dead,.dead,.dead,.dead,.dead,.yld 6,.int .i64 v268,.dead,.dead,.dead]),(1000,.blk 60 (mixD aB.toEnc0 (w22 a1 a2 a3 a4 a5) a6 [.int .i64 a7,.osl 1001 (eInt .i64).sz a8.length])),(1001,.blk 3 (D.flat (a8.map (eInt .i64).d)))]⟩,(fun i=>i),⟨(.sames M M),(.cons (.blk M M M) (.cons (.blk M M M) (.cons (.blk M M M) (.cons (.blk M M M) (.cons (.blk M M M) (.cons (.loop M M M) (.cons (.kept M M M) (.cons (.kept M M M) (.cons (EntW.mix aB M (SubC.of_eq M) (SubC.of_eq M) M M) (.cons (EntW.lst M) .nil)))))))))),aY [0,1,2,4,5,6,7,8,1000,1001] M (by decide),fun _ _=>M⟩,?_⟩
      refine aV ?_
      obtain ⟨x281,hx281,h⟩:=aL h
      obtain ⟨x282,hx282,h⟩:=aL h
      obtain ⟨x283,hx283,h⟩:=aK h
      refine iM M [⟨[4],[2],[(13,.int .i64 v269)],[]⟩,
       ⟨[2],[0],[(14,.ref 1000 0)],[]⟩,
       ⟨[5],[],[(15,.int .i64 v268)],[]⟩,
       ⟨[14],[],[(16,.ref 1000 0)],[]⟩,
       ⟨[16],[],[(17,.ref 1000 5)],[]⟩,
       ⟨[15,17],[],[(18,.ref 1000 (5 + (((v268:Int).toNat) * aB.sz + 0)))],[]⟩,
       ⟨[18],[],[(19,.ref 1000 (5 + (((v268:Int).toNat) * aB.sz + 4)))],[]⟩,
       ⟨[19],[1000],[(20,.int .i64 x282.weight)],[]⟩,
       ⟨[13,20],[],[(21,.int .i64 x283)],[]⟩,
       ⟨[4,21],[2],[],[(2,.blk 3 [.int .i64 x283])]⟩] M ?_ (by kernel_rfl) ?_
      ·refine .cons (lop M M fun S hA=>(aR (d:=.int _ _) M M (lb M) underlying3 ag3 ti3 (by decide) (svaR hA M M) (agi hA M M) (nle M) M)) ?_
       refine .cons (lop M M fun S hA=>(aR (d:=.ref _ _) M M (lb M) underlying26 ag26 ti26 (by decide) (svaR hA M M) (agi hA M M) (nle M) M)) ?_
       refine .cons (lop M M fun S hA=>(aD M M (lb M) (svaI hA M M))) ?_
       refine .cons (lop M M fun S hA=>(aN M M (lb M) (svaR hA M M))) ?_
       refine .cons (lop M M fun S hA=>(bF M M (lb M) underlying60 M ti58 (by decide) (svaR hA M M) (off':=5) M)) ?_
       refine .cons (lop M M fun S hA=>(dO aB.toEnc0 M M (lb M) underlying58 ti57 (svaR hA M M) hk259 (svaI hA M M) hx281)) ?_
       refine .cons (lop M M fun S hA=>(cB M M (lb M) underlying57 M ti3 (by decide) (svaR hA M M) (k':=4) M)) ?_
       refine .cons (lop M M fun S hA=>(cI aB.toEnc0 (b:=5) (k:=4) (d:=.int _ _) M M (lb M) underlying3 ag3 ti3 (by decide) (svaR hA M M) (agi hA M M) M hx282 (nle M) M)) ?_
       refine .cons (lop M M fun S hA=>(aQ M M (lb M) (svaI hA M M) (svaI hA M M) M hx283)) ?_
       refine .cons (lop M M fun S hA=>(fD (ds':=[.int _ _]) M M ti3 (svaR hA M M) (agi hA M M) (svaI hA M M) M M M (nle M) M)) ?_
       exact .nil
      refine bI ?_
      refine ⟨6,8,_,_,none,M,M,M,M,(by decide),⟨[(0,.yld 6),(1,.ref 4 0),(5,.int .i64 x280.next),(22,.bool true)],[(0,.blk 26 [.ref 1000 0]),(1,.blk 3 [.int .i64 a0]),(2,.blk 3 [.int .i64 x283]),(4,.blk 26 [.ref 1000 0]),(5,.blk 3 [.int .i64 a0]),(6,.loop 1 [.dead,.dead,.ref 0 0,.ref 1 0,.ref 2 0,.dead,.dead,.dead,.dead,.dead,.dead,.fn 40 [.ref 4 0,.ref 5 0],.dead,.dead,.dead,.dead,.dead,.dead,.dead,.dead,.dead,.dead,.dead,.dead,.dead,.dead,.dead,.dead,.dead,.dead,.dead,.dead,.dead,.dead,.dead,.dead,.dead,.dead,.dead,.dead,.dead,.dead,.dead,.dead,.dead,.dead,.dead,.dead,.dead,.dead,.dead,.dead,.dead,.dead,.dead,.dead,.dead,.dead,.dead,.dead,.dead,.dead,.dead,.dead,.dead,.dead,.dead,.dead,.dead,.dead,.dead,.dead,.dead,.dead,.dead,.dead,.dead,.dead,.dead,.dead,.dead,.dead,.dead,.dead,.dead,.dead,.dead,.dead,.dead,.dead,.dead] .ready none),(7,.kept 1 [.dead,.dead,.ref 0 0,.ref 1 0,.ref 2 0,.dead,.dead,.dead,.dead,.dead,.dead,.fn 40 [.ref 4 0,.ref 5 0],.dead,.dead,.dead,.dead,.dead,.dead,.dead,.dead,.dead,.dead,.dead,.dead,.dead,.dead,.dead,.dead,.dead,.dead,.dead,.dead,.dead,.dead,.dead,.dead,.dead,.dead,.dead,.dead,.dead,.dead,.dead,.dead,.dead,.dead,.dead,.dead,.dead,.dead,.dead,.dead,.dead,.dead,.dead,.dead,.dead,.dead,.dead,.dead,.dead,.dead,.dead,.dead,.dead,.dead,.dead,.dead,.dead,.dead,.dead,.dead,.dead,.dead,.dead,.dead,.dead,.dead,.dead,.dead,.dead,.dead,.dead,.dead,.dead,.dead,.dead,.dead,.dead,.dead,.dead]),(1000,.blk 60 (mixD aB.toEnc0 (w22 a1 a2 a3 a4 a5) a6 [.int .i64 a7,.osl 1001 (eInt .i64).sz a8.length])),(1001,.blk 3 (D.flat (a8.map (eInt .i64).d)))]⟩,(fun i=>i),⟨(.sames M M),(.cons (.blk M M M) (.cons (.blk M M M) (.cons (.blk M M M) (.cons (.blk M M M) (.cons (.blk M M M) (.cons (.loop M M M) (.cons (.kept M M M) (.cons (EntW.mix aB M (SubC.of_eq M) (SubC.of_eq M) M M) (.cons (EntW.lst M) .nil))))))))),aY [0,1,2,4,5,6,7,1000,1001] M (by decide),fun _ _=>M⟩,?_⟩
      refine aA M (eX M M (lb M) (svB M))<|aE ?_
      refine gM M M ?_
      refine aT ?_
      refine aJ ?_
      refine aS (aA M (mvI M M M M)<|aA M (asI M M M M)<|bE ?_)
      refine bI ?_
      refine aJ ⟨(n8,x280.next,x283),(fun i=>i),⟨(.sames M M),(.cons (.loop M M M) (.cons (.blk M M M) (.cons (.kept M M M) (.cons (EntW.mix aB M (SubC.of_eq M) (SubC.of_eq M) M M) (.cons (EntW.lst M) (.cons (.blk M M M) (.cons (.blk M M M) (.cons (.blk M M M) (.cons (.blk M M M) .nil))))))))),aY [6,4,7,1000,1001,0,1,2,5] M (by decide),fun _ _=>M⟩,?_,?_⟩
      exact h
      exact Nat.lt_succ_self _
     ·
      replace h:=bY h hc278
      refine cA ?_
      refine bD ?_
      refine bD ?_
      refine cC ?_
      refine ⟨.inl M,6,7,_,_,_,_,M,(by simp),M,M,⟨[(2,.ref 0 0),(3,.ref 1 0),(4,.ref 2 0)],[(0,.blk 26 [.ref 1000 0]),(1,.blk 3 [.int .i64 a0]),(2,.blk 3 [.int .i64 v269]),(1000,.blk 60 (mixD aB.toEnc0 (w22 a1 a2 a3 a4 a5) a6 [.int .i64 a7,.osl 1001 (eInt .i64).sz a8.length])),(1001,.blk 3 (D.flat (a8.map (eInt .i64).d)))]⟩,(fun i=>i),⟨(.sames M M),(.cons (.blk M M M) (.cons (.blk M M M) (.cons (.blk M M M) (.cons (EntW.mix aB M (SubC.of_eq M) (SubC.of_eq M) M M) (.cons (EntW.lst M) .nil))))),aY [0,1,2,1000,1001] M (by decide),fun _ _=>M⟩,?_⟩
      refine bI ?_
      refine aJ ⟨v269,(fun i=>i),⟨(.sames M M),(.cons (.blk M M M) (.cons (.blk M M M) (.cons (.blk M M M) (.cons (EntW.mix aB M (SubC.of_eq M) (SubC.of_eq M) M M) (.cons (EntW.lst M) .nil))))),aY [0,1,2,1000,1001] M (by decide),fun _ _=>M⟩,?_⟩
      exact h
 ·
  rintro v53 h
  unfold lV at h
  refine aF (aA M (aR (d:=.ref _ _) M M (lb M) underlying26 ag26 ti26 (by decide) (svR M) M (nle M) M)<|aA M (aR (d:=.int _ _) M M (lb M) underlying3 ag3 ti3 (by decide) (svR M) M (nle M) M) <|?_)
  refine gI (S':=⟨[(2,.ref 0 0),(3,.ref 1 0),(4,.ref 2 0),(22,.ref 1000 0),(23,.int .i64 a0)],[(0,.blk 26 [.ref 1000 0]),(1,.blk 3 [.int .i64 a0]),(2,.blk 3 [.int .i64 v53]),(1000,.blk 60 (mixD aB.toEnc0 (w22 a1 a2 a3 a4 a5) a6 [.int .i64 a7,.osl 1001 (eInt .i64).sz a8.length])),(1001,.blk 3 (D.flat (a8.map (eInt .i64).d)))]⟩) (fun i=>i) ⟨(.sames M M),(.cons (.blk M M M) (.cons (.blk M M M) (.cons (.blk M M M) (.cons (EntW.mix aB M (SubC.of_eq M) (SubC.of_eq M) M M) (.cons (EntW.lst M) .nil))))),aY [0,1,2,1000,1001] M (by decide),fun _ _=>M⟩ ?_
  refine kZ 1 3 M M M (by decide) cl29 func29 M (.cons (svR M) (.cons (svI M) .nil)) ntmps29 (nle M) M hO.semiL fun O1 hO1=>?_
  show IWP _ _ _ _ ⟨[(0,.ref 1000 0),(1,.int .i64 a0)],[(3,.kept 1 [.dead,.dead,.ref 0 0,.ref 1 0,.ref 2 0,.dead,.dead,.dead,.dead,.dead,.dead,.dead,.dead,.dead,.dead,.dead,.dead,.dead,.dead,.dead,.dead,.dead,.ref 1000 0,.int .i64 a0,.dead,.dead,.dead,.dead,.dead,.dead,.dead,.dead,.dead,.dead,.dead,.dead,.dead,.dead,.dead,.dead,.dead,.dead,.dead,.dead,.dead,.dead,.dead,.dead,.dead,.dead,.dead,.dead,.dead,.dead,.dead,.dead,.dead,.dead,.dead,.dead,.dead,.dead,.dead,.dead,.dead,.dead,.dead,.dead,.dead,.dead,.dead,.dead,.dead,.dead,.dead,.dead,.dead,.dead,.dead,.dead,.dead,.dead,.dead,.dead,.dead,.dead,.dead,.dead,.dead,.dead,.dead]),(0,.blk 26 [.ref 1000 0]),(1,.blk 3 [.int .i64 a0]),(2,.blk 3 [.int .i64 v53]),(1000,.blk 60 (mixD aB.toEnc0 (w22 a1 a2 a3 a4 a5) a6 [.int .i64 a7,.osl 1001 (eInt .i64).sz a8.length])),(1001,.blk 3 (D.flat (a8.map (eInt .i64).d)))]⟩ _
  refine aF (aA M (fE (cs:=[.ref _ _]) 4 M M (lb M) M (svR M) M M)<|aA M (fE (cs:=[.int _ _]) 5 M M (lb M) M (svI M) M M)<|aA M (aI M M (lb M) (sv (d:=.nilf) M))<|aE ?_)
  refine aF (aA M (nP M M (lb M) (.cons (svR M) (.cons (svR M) .nil)))<|aA M (aI M M (lb M) (sv (d:=.fn 40 q16) M))<|aE ?_)
  refine bB ?_
  refine ⟨.inr M,3,_,[.fn 40 [.ref 4 0,.ref 5 0]],(.cons (sv M) .nil),M,M,⟨[(2,.ref 0 0),(3,.ref 1 0),(4,.ref 2 0),(24,.fn 40 [.ref 4 0,.ref 5 0])],[(0,.blk 26 [.ref 1000 0]),(1,.blk 3 [.int .i64 a0]),(2,.blk 3 [.int .i64 v53]),(4,.blk 26 [.ref 1000 0]),(5,.blk 3 [.int .i64 a0]),(1000,.blk 60 (mixD aB.toEnc0 (w22 a1 a2 a3 a4 a5) a6 [.int .i64 a7,.osl 1001 (eInt .i64).sz a8.length])),(1001,.blk 3 (D.flat (a8.map (eInt .i64).d)))]⟩,(fun i=>i),⟨(.sames M M),(.cons (.blk M M M) (.cons (.blk M M M) (.cons (.blk M M M) (.cons (.blk M M M) (.cons (.blk M M M) (.cons (EntW.mix aB M (SubC.of_eq M) (SubC.of_eq M) M M) (.cons (EntW.lst M) .nil))))))),aY [0,1,2,4,5,1000,1001] M (by decide),fun _ _=>M⟩,?_⟩
  refine gI (S':=⟨[(2,.ref 0 0),(3,.ref 1 0),(4,.ref 2 0),(24,.fn 40 [.ref 4 0,.ref 5 0])],[(0,.blk 26 [.ref 1000 0]),(1,.blk 3 [.int .i64 a0]),(2,.blk 3 [.int .i64 v53]),(4,.blk 26 [.ref 1000 0]),(5,.blk 3 [.int .i64 a0]),(1000,.blk 60 (mixD aB.toEnc0 (w22 a1 a2 a3 a4 a5) a6 [.int .i64 a7,.osl 1001 (eInt .i64).sz a8.length])),(1001,.blk 3 (D.flat (a8.map (eInt .i64).d)))]⟩) (fun i=>i) ⟨(.sames M M),(.cons (.blk M M M) (.cons (.blk M M M) (.cons (.blk M M M) (.cons (.blk M M M) (.cons (.blk M M M) (.cons (EntW.mix aB M (SubC.of_eq M) (SubC.of_eq M) M M) (.cons (EntW.lst M) .nil))))))),aY [0,1,2,4,5,1000,1001] M (by decide),fun _ _=>M⟩ ?_
  refine kZ 1 6 M M M (by decide) cl47 func47 M (.cons (sv (d:=.fn 40 q16) M) .nil) ntmps47 (nle M) M hO.semiL fun O1 hO1=>?_
  show IWP _ _ _ _ ⟨[(0,.fn 40 [.ref 4 0,.ref 5 0])],[(6,.kept 1 [.dead,.dead,.ref 0 0,.ref 1 0,.ref 2 0,.dead,.dead,.dead,.dead,.dead,.dead,.dead,.dead,.dead,.dead,.dead,.dead,.dead,.dead,.dead,.dead,.dead,.dead,.dead,.fn 40 [.ref 4 0,.ref 5 0],.dead,.dead,.dead,.dead,.dead,.dead,.dead,.dead,.dead,.dead,.dead,.dead,.dead,.dead,.dead,.dead,.dead,.dead,.dead,.dead,.dead,.dead,.dead,.dead,.dead,.dead,.dead,.dead,.dead,.dead,.dead,.dead,.dead,.dead,.dead,.dead,.dead,.dead,.dead,.dead,.dead,.dead,.dead,.dead,.dead,.dead,.dead,.dead,.dead,.dead,.dead,.dead,.dead,.dead,.dead,.dead,.dead,.dead,.dead,.dead,.dead,.dead,.dead,.dead,.dead,.dead]),(0,.blk 26 [.ref 1000 0]),(1,.blk 3 [.int .i64 a0]),(2,.blk 3 [.int .i64 v53]),(4,.blk 26 [.ref 1000 0]),(5,.blk 3 [.int .i64 a0]),(1000,.blk 60 (mixD aB.toEnc0 (w22 a1 a2 a3 a4 a5) a6 [.int .i64 a7,.osl 1001 (eInt .i64).sz a8.length])),(1001,.blk 3 (D.flat (a8.map (eInt .i64).d)))]⟩ _
  refine aF (aA M (aI M M (lb M) (sv (d:=.nils) M))<|aE ?_)
  refine aF (aA M (aD M M (lb M) (sv (d:=.fn 40 q16) M)) <|?_)
  refine gI (S':=⟨[(3,.fn 40 [.ref 4 0,.ref 5 0])],[(0,.blk 26 [.ref 1000 0]),(1,.blk 3 [.int .i64 a0]),(2,.blk 3 [.int .i64 v53]),(4,.blk 26 [.ref 1000 0]),(5,.blk 3 [.int .i64 a0]),(6,.kept 1 [.dead,.dead,.ref 0 0,.ref 1 0,.ref 2 0,.dead,.dead,.dead,.dead,.dead,.dead,.dead,.dead,.dead,.dead,.dead,.dead,.dead,.dead,.dead,.dead,.dead,.dead,.dead,.fn 40 [.ref 4 0,.ref 5 0],.dead,.dead,.dead,.dead,.dead,.dead,.dead,.dead,.dead,.dead,.dead,.dead,.dead,.dead,.dead,.dead,.dead,.dead,.dead,.dead,.dead,.dead,.dead,.dead,.dead,.dead,.dead,.dead,.dead,.dead,.dead,.dead,.dead,.dead,.dead,.dead,.dead,.dead,.dead,.dead,.dead,.dead,.dead,.dead,.dead,.dead,.dead,.dead,.dead,.dead,.dead,.dead,.dead,.dead,.dead,.dead,.dead,.dead,.dead,.dead,.dead,.dead,.dead,.dead,.dead,.dead]),(1000,.blk 60 (mixD aB.toEnc0 (w22 a1 a2 a3 a4 a5) a6 [.int .i64 a7,.osl 1001 (eInt .i64).sz a8.length])),(1001,.blk 3 (D.flat (a8.map (eInt .i64).d)))]⟩) (fun i=>i) ⟨(.sames M M),(.cons (.blk M M M) (.cons (.blk M M M) (.cons (.blk M M M) (.cons (.blk M M M) (.cons (.blk M M M) (.cons (.kept M M M) (.cons (EntW.mix aB M (SubC.of_eq M) (SubC.of_eq M) M M) (.cons (EntW.lst M) .nil)))))))),aY [0,1,2,4,5,6,1000,1001] M (by decide),fun _ _=>M⟩ ?_
  refine kZ 2 7 M M M (by decide) cl77 func77 M (.cons (sv (d:=.nils) M) (.cons (sv (d:=.fn 40 q16) M) .nil)) ntmps77 (nle M) M hO1 fun O2 hO2=>?_
  show IWP _ _ _ _ ⟨[(0,.nils),(1,.fn 40 [.ref 4 0,.ref 5 0])],[(7,.kept 2 [.dead,.dead,.dead,.fn 40 [.ref 4 0,.ref 5 0],.dead]),(0,.blk 26 [.ref 1000 0]),(1,.blk 3 [.int .i64 a0]),(2,.blk 3 [.int .i64 v53]),(4,.blk 26 [.ref 1000 0]),(5,.blk 3 [.int .i64 a0]),(6,.kept 1 [.dead,.dead,.ref 0 0,.ref 1 0,.ref 2 0,.dead,.dead,.dead,.dead,.dead,.dead,.dead,.dead,.dead,.dead,.dead,.dead,.dead,.dead,.dead,.dead,.dead,.dead,.dead,.fn 40 [.ref 4 0,.ref 5 0],.dead,.dead,.dead,.dead,.dead,.dead,.dead,.dead,.dead,.dead,.dead,.dead,.dead,.dead,.dead,.dead,.dead,.dead,.dead,.dead,.dead,.dead,.dead,.dead,.dead,.dead,.dead,.dead,.dead,.dead,.dead,.dead,.dead,.dead,.dead,.dead,.dead,.dead,.dead,.dead,.dead,.dead,.dead,.dead,.dead,.dead,.dead,.dead,.dead,.dead,.dead,.dead,.dead,.dead,.dead,.dead,.dead,.dead,.dead,.dead,.dead,.dead,.dead,.dead,.dead,.dead]),(1000,.blk 60 (mixD aB.toEnc0 (w22 a1 a2 a3 a4 a5) a6 [.int .i64 a7,.osl 1001 (eInt .i64).sz a8.length])),(1001,.blk 3 (D.flat (a8.map (eInt .i64).d)))]⟩ _
  refine aF (aA M (fE (cs:=[.nils]) 8 M M (lb M) M (sv (d:=.nils) M) M M)<|aA M (aI M M (lb M) (sv (d:=.nils) M))<|aE ?_)
  refine aU ?_
  refine aF (aA M (aD M M (lb M) (sv (d:=.fn 40 q16) M))<|aE ?_)
  refine aV ?_
  refine qM (S':=⟨[(2,.ref 8 0),(6,.fn 40 [.ref 4 0,.ref 5 0])],[(0,.blk 26 [.ref 1000 0]),(1,.blk 3 [.int .i64 a0]),(2,.blk 3 [.int .i64 v53]),(4,.blk 26 [.ref 1000 0]),(5,.blk 3 [.int .i64 a0]),(6,.kept 1 [.dead,.dead,.ref 0 0,.ref 1 0,.ref 2 0,.dead,.dead,.dead,.dead,.dead,.dead,.dead,.dead,.dead,.dead,.dead,.dead,.dead,.dead,.dead,.dead,.dead,.dead,.dead,.fn 40 [.ref 4 0,.ref 5 0],.dead,.dead,.dead,.dead,.dead,.dead,.dead,.dead,.dead,.dead,.dead,.dead,.dead,.dead,.dead,.dead,.dead,.dead,.dead,.dead,.dead,.dead,.dead,.dead,.dead,.dead,.dead,.dead,.dead,.dead,.dead,.dead,.dead,.dead,.dead,.dead,.dead,.dead,.dead,.dead,.dead,.dead,.dead,.dead,.dead,.dead,.dead,.dead,.dead,.dead,.dead,.dead,.dead,.dead,.dead,.dead,.dead,.dead,.dead,.dead,.dead,.dead,.dead,.dead,.dead,.dead]),(7,.kept 2 [.dead,.dead,.dead,.fn 40 [.ref 4 0,.ref 5 0],.dead]),(8,.blk 24 [.nils]),(1000,.blk 60 (mixD aB.toEnc0 (w22 a1 a2 a3 a4 a5) a6 [.int .i64 a7,.osl 1001 (eInt .i64).sz a8.length])),(1001,.blk 3 (D.flat (a8.map (eInt .i64).d)))]⟩) (fun i=>i) ⟨(.sames M M),(.cons (.blk M M M) (.cons (.blk M M M) (.cons (.blk M M M) (.cons (.blk M M M) (.cons (.blk M M M) (.cons (.kept M M M) (.cons (.kept M M M) (.cons (.blk M M M) (.cons (EntW.mix aB M (SubC.of_eq M) (SubC.of_eq M) M M) (.cons (EntW.lst M) .nil)))))))))),aY [0,1,2,4,5,6,7,8,1000,1001] M (by decide),fun _ _=>M⟩ ?_
  refine qY 3 9 10 (sv (d:=.fn 40 q16) M) cl40 func40 M M ntmps40 (nle M) M M hO2 (List.forall_mem_cons.2 ⟨⟨7,_,M⟩,List.forall_mem_cons.2 ⟨⟨6,_,M⟩,List.forall_mem_nil _⟩⟩) fun O3 hO3 hlc3=>?_
  show IWP _ _ _ _ ⟨[(0,.yld 9),(1,.ref 4 0),(2,.ref 5 0)],[(10,.kept 3 [.dead,.dead,.ref 8 0,.dead,.dead,.dead,.fn 40 [.ref 4 0,.ref 5 0],.dead,.dead,.dead,.dead,.dead,.dead]),(9,.loop 3 [.dead,.dead,.ref 8 0,.dead,.dead,.dead,.fn 40 [.ref 4 0,.ref 5 0],.dead,.dead,.dead,.dead,.dead,.dead] .ready none),(0,.blk 26 [.ref 1000 0]),(1,.blk 3 [.int .i64 a0]),(2,.blk 3 [.int .i64 v53]),(4,.blk 26 [.ref 1000 0]),(5,.blk 3 [.int .i64 a0]),(6,.kept 1 [.dead,.dead,.ref 0 0,.ref 1 0,.ref 2 0,.dead,.dead,.dead,.dead,.dead,.dead,.dead,.dead,.dead,.dead,.dead,.dead,.dead,.dead,.dead,.dead,.dead,.dead,.dead,.fn 40 [.ref 4 0,.ref 5 0],.dead,.dead,.dead,.dead,.dead,.dead,.dead,.dead,.dead,.dead,.dead,.dead,.dead,.dead,.dead,.dead,.dead,.dead,.dead,.dead,.dead,.dead,.dead,.dead,.dead,.dead,.dead,.dead,.dead,.dead,.dead,.dead,.dead,.dead,.dead,.dead,.dead,.dead,.dead,.dead,.dead,.dead,.dead,.dead,.dead,.dead,.dead,.dead,.dead,.dead,.dead,.dead,.dead,.dead,.dead,.dead,.dead,.dead,.dead,.dead,.dead,.dead,.dead,.dead,.dead,.dead]),(7,.kept 2 [.dead,.dead,.dead,.fn 40 [.ref 4 0,.ref 5 0],.dead]),(8,.blk 24 [.nils]),(1000,.blk 60 (mixD aB.toEnc0 (w22 a1 a2 a3 a4 a5) a6 [.int .i64 a7,.osl 1001 (eInt .i64).sz a8.length])),(1001,.blk 3 (D.flat (a8.map (eInt .i64).d)))]⟩ _
  refine aF (aA M (aR (d:=.ref _ _) M M (lb M) underlying26 ag26 ti26 (by decide) (svR M) M (nle M) M)<|aA M (aR (d:=.int _ _) M M (lb M) underlying3 ag3 ti3 (by decide) (svR M) M (nle M) M) <|?_)
  refine gI (S':=⟨[(0,.yld 9),(1,.ref 4 0),(6,.ref 1000 0),(7,.int .i64 a0)],[(0,.blk 26 [.ref 1000 0]),(1,.blk 3 [.int .i64 a0]),(2,.blk 3 [.int .i64 v53]),(4,.blk 26 [.ref 1000 0]),(5,.blk 3 [.int .i64 a0]),(6,.kept 1 [.dead,.dead,.ref 0 0,.ref 1 0,.ref 2 0,.dead,.dead,.dead,.dead,.dead,.dead,.dead,.dead,.dead,.dead,.dead,.dead,.dead,.dead,.dead,.dead,.dead,.dead,.dead,.fn 40 [.ref 4 0,.ref 5 0],.dead,.dead,.dead,.dead,.dead,.dead,.dead,.dead,.dead,.dead,.dead,.dead,.dead,.dead,.dead,.dead,.dead,.dead,.dead,.dead,.dead,.dead,.dead,.dead,.dead,.dead,.dead,.dead,.dead,.dead,.dead,.dead,.dead,.dead,.dead,.dead,.dead,.dead,.dead,.dead,.dead,.dead,.dead,.dead,.dead,.dead,.dead,.dead,.dead,.dead,.dead,.dead,.dead,.dead,.dead,.dead,.dead,.dead,.dead,.dead,.dead,.dead,.dead,.dead,.dead,.dead]),(7,.kept 2 [.dead,.dead,.dead,.fn 40 [.ref 4 0,.ref 5 0],.dead]),(8,.blk 24 [.nils]),(9,.loop 3 [.dead,.dead,.ref 8 0,.dead,.dead,.dead,.fn 40 [.ref 4 0,.ref 5 0],.dead,.dead,.dead,.dead,.dead,.dead] .ready none),(10,.kept 3 [.dead,.dead,.ref 8 0,.dead,.dead,.dead,.fn 40 [.ref 4 0,.ref 5 0],.dead,.dead,.dead,.dead,.dead,.dead]),(1000,.blk 60 (mixD aB.toEnc0 (w22 a1 a2 a3 a4 a5) a6 [.int .i64 a7,.osl 1001 (eInt .i64).sz a8.length])),(1001,.blk 3 (D.flat (a8.map (eInt .i64).d)))]⟩) (fun i=>i) ⟨(.sames M M),(.cons (.blk M M M) (.cons (.blk M M M) (.cons (.blk M M M) (.cons (.blk M M M) (.cons (.blk M M M) (.cons (.kept M M M) (.cons (.kept M M M) (.cons (.blk M M M) (.cons (.loop M M M) (.cons (.kept M M M) (.cons (EntW.mix aB M (SubC.of_eq M) (SubC.of_eq M) M M) (.cons (EntW.lst M) .nil)))))))))))),aY [0,1,2,4,5,6,7,8,9,10,1000,1001] M (by decide),fun _ _=>M⟩ ?_
  refine kZ 4 11 M M M (by decide) cl41 func41 M (.cons (svR M) (.cons (svI M) .nil)) ntmps41 (nle M) M hO3 fun O4 hO4=>?_
  show IWP _ _ _ _ ⟨[(0,.ref 1000 0),(1,.int .i64 a0)],[(11,.kept 4 [.yld 9,.ref 4 0,.dead,.dead,.dead,.dead,.ref 1000 0,.int .i64 a0,.dead,.dead,.dead,.dead,.dead,.dead,.dead,.dead,.dead,.dead,.dead,.dead,.dead,.dead,.dead,.dead,.dead]),(0,.blk 26 [.ref 1000 0]),(1,.blk 3 [.int .i64 a0]),(2,.blk 3 [.int .i64 v53]),(4,.blk 26 [.ref 1000 0]),(5,.blk 3 [.int .i64 a0]),(6,.kept 1 [.dead,.dead,.ref 0 0,.ref 1 0,.ref 2 0,.dead,.dead,.dead,.dead,.dead,.dead,.dead,.dead,.dead,.dead,.dead,.dead,.dead,.dead,.dead,.dead,.dead,.dead,.dead,.fn 40 [.ref 4 0,.ref 5 0],.dead,.dead,.dead,.dead,.dead,.dead,.dead,.dead,.dead,.dead,.dead,.dead,.dead,.dead,.dead,.dead,.dead,.dead,.dead,.dead,.dead,.dead,.dead,.dead,.dead,.dead,.dead,.dead,.dead,.dead,.dead,.dead,.dead,.dead,.dead,.dead,.dead,.dead,.dead,.dead,.dead,.dead,.dead,.dead,.dead,.dead,.dead,.dead,.dead,.dead,.dead,.dead,.dead,.dead,.dead,.dead,.dead,.dead,.dead,.dead,.dead,.dead,.dead,.dead,.dead,.dead]),(7,.kept 2 [.dead,.dead,.dead,.fn 40 [.ref 4 0,.ref 5 0],.dead]),(8,.blk 24 [.nils]),(9,.loop 3 [.dead,.dead,.ref 8 0,.dead,.dead,.dead,.fn 40 [.ref 4 0,.ref 5 0],.dead,.dead,.dead,.dead,.dead,.dead] .ready none),(10,.kept 3 [.dead,.dead,.ref 8 0,.dead,.dead,.dead,.fn 40 [.ref 4 0,.ref 5 0],.dead,.dead,.dead,.dead,.dead,.dead]),(1000,.blk 60 (mixD aB.toEnc0 (w22 a1 a2 a3 a4 a5) a6 [.int .i64 a7,.osl 1001 (eInt .i64).sz a8.length])),(1001,.blk 3 (D.flat (a8.map (eInt .i64).d)))]⟩ _
  refine aF (aA M (aI M M (lb M) (sv (d:=.nilp) M))<|aE ?_)
  refine aU ?_
  obtain ⟨x54,hx54,h⟩:=aK h
  refine aF (aA M (mvI M M M M)<|aA M (aO M M (lb M) (svI M) (sv (d:=.int _ (-1)) M) M hx54)<|aE ?_)
  refine aW (b:=_) M (fun hc55=>?_) (fun hc55=>?_)
  ·
   replace h:=bX h hc55
   refine aF (aA M (mvR M M M M)<|aA M (aN M M (lb M) (svR M))<|aA M (faR 389 M M M underlying60 M ti3 (lb M) M M)<|aA M (aI M M (lb M) (svR M))<|aE ?_)
   refine bB ?_
   refine bP ?_
   refine ⟨.inr M,11,_,[.ref 1000 389],(.cons (sv M) .nil),M,M,⟨[(0,.yld 9),(1,.ref 4 0),(8,.ref 1000 389)],[(0,.blk 26 [.ref 1000 0]),(1,.blk 3 [.int .i64 a0]),(2,.blk 3 [.int .i64 v53]),(4,.blk 26 [.ref 1000 0]),(5,.blk 3 [.int .i64 a0]),(6,.kept 1 [.dead,.dead,.ref 0 0,.ref 1 0,.ref 2 0,.dead,.dead,.dead,.dead,.dead,.dead,.dead,.dead,.dead,.dead,.dead,.dead,.dead,.dead,.dead,.dead,.dead,.dead,.dead,.fn 40 [.ref 4 0,.ref 5 0],.dead,.dead,.dead,.dead,.dead,.dead,.dead,.dead,.dead,.dead,.dead,.dead,.dead,.dead,.dead,.dead,.dead,.dead,.dead,.dead,.dead,.dead,.dead,.dead,.dead,.dead,.dead,.dead,.dead,.dead,.dead,.dead,.dead,.dead,.dead,.dead,.dead,.dead,.dead,.dead,.dead,.dead,.dead,.dead,.dead,.dead,.dead,.dead,.dead,.dead,.dead,.dead,.dead,.dead,.dead,.dead,.dead,.dead,.dead,.dead,.dead,.dead,.dead,.dead,.dead,.dead]),(7,.kept 2 [.dead,.dead,.dead,.fn 40 [.ref 4 0,.ref 5 0],.dead]),(8,.blk 24 [.nils]),(9,.loop 3 [.dead,.dead,.ref 8 0,.dead,.dead,.dead,.fn 40 [.ref 4 0,.ref 5 0],.dead,.dead,.dead,.dead,.dead,.dead] .ready none),(10,.kept 3 [.dead,.dead,.ref 8 0,.dead,.dead,.dead,.fn 40 [.ref 4 0,.ref 5 0],.dead,.dead,.dead,.dead,.dead,.dead]),(1000,.blk 60 (mixD aB.toEnc0 (w22 a1 a2 a3 a4 a5) a6 [.int .i64 a7,.osl 1001 (eInt .i64).sz a8.length])),(1001,.blk 3 (D.flat (a8.map (eInt .i64).d)))]⟩,(fun i=>i),⟨(.sames M M),(.cons (.blk M M M) (.cons (.blk M M M) (.cons (.blk M M M) (.cons (.blk M M M) (.cons (.blk M M M) (.cons (.kept M M M) (.cons (.kept M M M) (.cons (.blk M M M) (.cons (.loop M M M) (.cons (.kept M M M) (.cons (EntW.mix aB M (SubC.of_eq M) (SubC.of_eq M) M M) (.cons (EntW.lst M) .nil)))))))))))),aY [0,1,2,4,5,6,7,8,9,10,1000,1001] M (by decide),fun _ _=>M⟩,?_⟩
   obtain ⟨hk56,h⟩:=iG h
   refine aA M (aN M M (lb M) (svR M))<|aA M (gW aB.toEnc0 (d:=.int _ _) (n:=64) (k:=0) M M (lb M) underlying3 ag3 ti3 (by decide) (svR M) M hk56 (by rfl) (nle M) (by rfl))<|aA M (asI M M M M)<|aE ?_
   refine aV ?_
   refine bS (α:=Nat × Int × (List Int)) (fun z=>⟨[(0,.yld 9),(1,.ref 4 0),(4,.int .i64 z.2.1)],[(9,.loop 3 [.dead,.dead,.ref 8 0,.dead,.dead,.dead,.fn 40 [.ref 4 0,.ref 5 0],.dead,.dead,.dead,.dead,.dead,.dead] .ready none),(4,.blk 26 [.ref 1000 0]),(6,.kept 1 [.dead,.dead,.ref 0 0,.ref 1 0,.ref 2 0,.dead,.dead,.dead,.dead,.dead,.dead,.dead,.dead,.dead,.dead,.dead,.dead,.dead,.dead,.dead,.dead,.dead,.dead,.dead,.fn 40 [.ref 4 0,.ref 5 0],.dead,.dead,.dead,.dead,.dead,.dead,.dead,.dead,.dead,.dead,.dead,.dead,.dead,.dead,.dead,.dead,.dead,.dead,.dead,.dead,.dead,.dead,.dead,.dead,.dead,.dead,.dead,.dead,.dead,.dead,.dead,.dead,.dead,.dead,.dead,.dead,.dead,.dead,.dead,.dead,.dead,.dead,.dead,.dead,.dead,.dead,.dead,.dead,.dead,.dead,.dead,.dead,.dead,.dead,.dead,.dead,.dead,.dead,.dead,.dead,.dead,.dead,.dead,.dead,.dead,.dead]),(7,.kept 2 [.dead,.dead,.dead,.fn 40 [.ref 4 0,.ref 5 0],.dead]),(10,.kept 3 [.dead,.dead,.ref 8 0,.dead,.dead,.dead,.fn 40 [.ref 4 0,.ref 5 0],.dead,.dead,.dead,.dead,.dead,.dead]),(1000,.blk 60 (mixD aB.toEnc0 (w22 a1 a2 a3 a4 a5) a6 [.int .i64 a7,.osl 1001 (eInt .i64).sz a8.length])),(1001,.blk 3 (D.flat (a8.map (eInt .i64).d))),(8,.blk 24 [.osl 32 (eInt .i64).sz z.2.2.length]),(5,.blk 3 [.int .i64 a0]),(0,.blk 26 [.ref 1000 0]),(1,.blk 3 [.int .i64 a0]),(2,.blk 3 [.int .i64 v53]),(32,.blk 3 (D.flat (z.2.2.map (eInt .i64).d)))]⟩) (fun z=>kF a0 a1 a2 a3 a4 a5 a6 a7 a8 v53 z.1 z.2.1 z.2.2=some r) (fun z=>z.1) (fuel,a7,([]:(List Int))) (fun i=>if i=32 then 94 else i) ⟨(.sames M M),(.cons (.loop M M M) (.cons (.blk M M M) (.cons (.kept M M M) (.cons (.kept M M M) (.cons (.kept M M M) (.cons (EntW.mix aB M (SubC.of_eq M) (SubC.of_eq M) M M) (.cons (EntW.lst M) (.cons (.sub M (.nilo .nil) M) (.cons (.blk M M M) (.cons (.blk M M M) (.cons (.blk M M M) (.cons (.blk M M M) (.cons (.nilb M) .nil))))))))))))),aY [9,4,6,7,10,1000,1001,8,5,0,1,2,94] M (by decide),(fun i hi=>by first | rfl | (show (if _ then _ else _)=_; (repeat' split) <;> omega))⟩ ?_ ?_
   ·exact h
   ·
    rintro ⟨n3,v62,v63⟩ h
    cases n3 with
    | zero=>exact absurd h (by unfold kF; exact nofun)
    | succ n3 =>
     unfold kF at h
     refine aU ?_
     obtain ⟨x69,hx69,h⟩:=aK h
     refine aF (aA M (mvI M M M M)<|aA M (aO M M (lb M) (svI M) (sv (d:=.int _ (-1)) M) M hx69)<|aE ?_)
     refine aW (b:=_) M (fun hc70=>?_) (fun hc70=>?_)
     ·
      replace h:=bX h hc70
      refine aT ?_
      refine aJ ?_
      refine aV ?_
      obtain ⟨x71,hx71,h⟩:=aL h
      obtain ⟨x72,hx72,h⟩:=aL h
      refine aF (aA M (aR (d:=.ref _ _) M M (lb M) underlying26 ag26 ti26 (by decide) (svR M) M (nle M) M)<|aA M (mvI M M M M)<|aA M (aN M M (lb M) (svR M))<|aA M (faR 5 M M M underlying60 M ti58 (lb M) M M)<|aA M (dO aB.toEnc0 M M (lb M) underlying58 ti57 (svR M) hk56 (svI M) hx71)<|aA M (cB M M (lb M) underlying57 M ti3 (by decide) (svR M) (k':=3) M)<|aA M (cI aB.toEnc0 (b:=5) (k:=3) (d:=.int _ _) M M (lb M) underlying3 ag3 ti3 (by decide) (svR M) M M hx72 (nle M) M)<|aA M (asI M M M M)<|aE ?_)
      refine aU ?_
      refine aF (aA M (aD M M (lb M) (sv (d:=.yld _) M))<|aA M (mvI M M M M) <|?_)
      refine gI (S':=⟨[(0,.yld 9),(1,.ref 4 0),(5,.int .i64 x72.next),(20,.yld 9),(21,.int .i64 v62)],[(0,.blk 26 [.ref 1000 0]),(1,.blk 3 [.int .i64 a0]),(2,.blk 3 [.int .i64 v53]),(4,.blk 26 [.ref 1000 0]),(5,.blk 3 [.int .i64 a0]),(6,.kept 1 [.dead,.dead,.ref 0 0,.ref 1 0,.ref 2 0,.dead,.dead,.dead,.dead,.dead,.dead,.dead,.dead,.dead,.dead,.dead,.dead,.dead,.dead,.dead,.dead,.dead,.dead,.dead,.fn 40 [.ref 4 0,.ref 5 0],.dead,.dead,.dead,.dead,.dead,.dead,.dead,.dead,.dead,.dead,.dead,.dead,.dead,.dead,.dead,.dead,.dead,.dead,.dead,.dead,.dead,.dead,.dead,.dead,.dead,.dead,.dead,.dead,.dead,.dead,.dead,.dead,.dead,.dead,.dead,.dead,.dead,.dead,.dead,.dead,.dead,.dead,.dead,.dead,.dead,.dead,.dead,.dead,.dead,.dead,.dead,.dead,.dead,.dead,.dead,.dead,.dead,.dead,.dead,.dead,.dead,.dead,.dead,.dead,.dead,.dead]),(7,.kept 2 [.dead,.dead,.dead,.fn 40 [.ref 4 0,.ref 5 0],.dead]),(8,.blk 24 [.osl 32 (eInt .i64).sz v63.length]),(9,.loop 3 [.dead,.dead,.ref 8 0,.dead,.dead,.dead,.fn 40 [.ref 4 0,.ref 5 0],.dead,.dead,.dead,.dead,.dead,.dead] .ready none),(10,.kept 3 [.dead,.dead,.ref 8 0,.dead,.dead,.dead,.fn 40 [.ref 4 0,.ref 5 0],.dead,.dead,.dead,.dead,.dead,.dead]),(32,.blk 3 (D.flat (v63.map (eInt .i64).d))),(1000,.blk 60 (mixD aB.toEnc0 (w22 a1 a2 a3 a4 a5) a6 [.int .i64 a7,.osl 1001 (eInt .i64).sz a8.length])),(1001,.blk 3 (D.flat (a8.map (eInt .i64).d)))]⟩) (fun i=>i) ⟨(.sames M M),(.cons (.blk M M M) (.cons (.blk M M M) (.cons (.blk M M M) (.cons (.blk M M M) (.cons (.blk M M M) (.cons (.kept M M M) (.cons (.kept M M M) (.cons (.blk M M M) (.cons (.loop M M M) (.cons (.kept M M M) (.cons (EntW.lst M) (.cons (EntW.mix aB M (SubC.of_eq M) (SubC.of_eq M) M M) (.cons (EntW.lst M) .nil))))))))))))),aY [0,1,2,4,5,6,7,8,9,10,32,1000,1001] M (by decide),fun _ _=>M⟩ ?_
      refine pC 4 9 33 M M M (by decide) M (.cons (svI M) .nil) M M M M M M hO3.round hlc3 ⟨[(7,.int .i64 v62),(2,.ref 8 0)],[(0,.blk 26 [.ref 1000 0]),(1,.blk 3 [.int .i64 a0]),(2,.blk 3 [.int .i64 v53]),(4,.blk 26 [.ref 1000 0]),(5,.blk 3 [.int .i64 a0]),(6,.kept 1 [.dead,.dead,.ref 0 0,.ref 1 0,.ref 2 0,.dead,.dead,.dead,.dead,.dead,.dead,.dead,.dead,.dead,.dead,.dead,.dead,.dead,.dead,.dead,.dead,.dead,.dead,.dead,.fn 40 [.ref 4 0,.ref 5 0],.dead,.dead,.dead,.dead,.dead,.dead,.dead,.dead,.dead,.dead,.dead,.dead,.dead,.dead,.dead,.dead,.dead,.dead,.dead,.dead,.dead,.dead,.dead,.dead,.dead,.dead,.dead,.dead,.dead,.dead,.dead,.dead,.dead,.dead,.dead,.dead,.dead,.dead,.dead,.dead,.dead,.dead,.dead,.dead,.dead,.dead,.dead,.dead,.dead,.dead,.dead,.dead,.dead,.dead,.dead,.dead,.dead,.dead,.dead,.dead,.dead,.dead,.dead,.dead,.dead,.dead]),(7,.kept 2 [.dead,.dead,.dead,.fn 40 [.ref 4 0,.ref 5 0],.dead]),(8,.blk 24 [.osl 32 (eInt .i64).sz v63.length]),(9,.loop 3 [.dead,.dead,.ref 8 0,.dead,.dead,.dead,.fn 40 [.ref 4 0,.ref 5 0],.dead,.dead,.dead,.dead,.dead,.dead] .ready none),(10,.kept 3 [.dead,.dead,.ref 8 0,.dead,.dead,.dead,.fn 40 [.ref 4 0,.ref 5 0],.dead,.dead,.dead,.dead,.dead,.dead]),(32,.blk 3 (D.flat (v63.map (eInt .i64).d))),(33,.kept 4 [.yld 9,.ref 4 0,.dead,.dead,.dead,.int .i64 x72.next,.dead,.dead,.dead,.dead,.dead,.dead,.dead,.dead,.dead,.dead,.dead,.dead,.dead,.dead,.yld 9,.int .i64 v62,.dead,.dead,.dead]),(1000,.blk 60 (mixD aB.toEnc0 (w22 a1 a2 a3 a4 a5) a6 [.int .i64 a7,.osl 1001 (eInt .i64).sz a8.length])),(1001,.blk 3 (D.flat (a8.map (eInt .i64).d)))]⟩ (fun i=>i) ⟨(.sames M M),(.cons (.blk M M M) (.cons (.blk M M M) (.cons (.blk M M M) (.cons (.blk M M M) (.cons (.blk M M M) (.cons (.kept M M M) (.cons (.kept M M M) (.cons (.blk M M M) (.cons (.loop M M M) (.cons (.kept M M M) (.cons (EntW.lst M) (.cons (.kept M M M) (.cons (EntW.mix aB M (SubC.of_eq M) (SubC.of_eq M) M M) (.cons (EntW.lst M) .nil)))))))))))))),aY [0,1,2,4,5,6,7,8,9,10,32,33,1000,1001] M (by decide),fun _ _=>M⟩ fun O4=>?_
      refine aS (aA M (asI M M M M)<|bE ?_)
      refine ⟨M,9,_,M,⟨[(2,.ref 8 0),(5,.int .i64 v62)],[(0,.blk 26 [.ref 1000 0]),(1,.blk 3 [.int .i64 a0]),(2,.blk 3 [.int .i64 v53]),(4,.blk 26 [.ref 1000 0]),(5,.blk 3 [.int .i64 a0]),(6,.kept 1 [.dead,.dead,.ref 0 0,.ref 1 0,.ref 2 0,.dead,.dead,.dead,.dead,.dead,.dead,.dead,.dead,.dead,.dead,.dead,.dead,.dead,.dead,.dead,.dead,.dead,.dead,.dead,.fn 40 [.ref 4 0,.ref 5 0],.dead,.dead,.dead,.dead,.dead,.dead,.dead,.dead,.dead,.dead,.dead,.dead,.dead,.dead,.dead,.dead,.dead,.dead,.dead,.dead,.dead,.dead,.dead,.dead,.dead,.dead,.dead,.dead,.dead,.dead,.dead,.dead,.dead,.dead,.dead,.dead,.dead,.dead,.dead,.dead,.dead,.dead,.dead,.dead,.dead,.dead,.dead,.dead,.dead,.dead,.dead,.dead,.dead,.dead,.dead,.dead,.dead,.dead,.dead,.dead,.dead,.dead,.dead,.dead,.dead,.dead]),(7,.kept 2 [.dead,.dead,.dead,.fn 40 [.ref 4 0,.ref 5 0],.dead]),(8,.blk 24 [.osl 32 (eInt .i64).sz v63.length]),(9,.loop 3 [.dead,.dead,.ref 8 0,.dead,.dead,.dead,.fn 40 [.ref 4 0,.ref 5 0],.dead,.dead,.dead,.dead,.dead,.dead] .busy none),(10,.kept 3 [.dead,.dead,.ref 8 0,.dead,.dead,.dead,.fn 40 [.ref 4 0,.ref 5 0],.dead,.dead,.dead,.dead,.dead,.dead]),(32,.blk 3 (D.flat (v63.map (eInt .i64).d))),(33,.kept 4 [.yld 9,.ref 4 0,.dead,.dead,.dead,.int .i64 x72.next,.dead,.dead,.dead,.dead,.dead,.dead,.dead,.dead,.dead,.dead,.dead,.dead,.dead,.dead,.yld 9,.int .i64 v62,.dead,.dead,.dead]),(1000,.blk 60 (mixD aB.toEnc0 (w22 a1 a2 a3 a4 a5) a6 [.int .i64 a7,.osl 1001 (eInt .i64).sz a8.length])),(1001,.blk 3 (D.flat (a8.map (eInt .i64).d)))]⟩,(fun i=>i),⟨(.sames M M),(.cons (.blk M M M) (.cons (.blk M M M) (.cons (.blk M M M) (.cons (.blk M M M) (.cons (.blk M M M) (.cons (.kept M M M) (.cons (.kept M M M) (.cons (.blk M M M) (.cons (.loop M M M) (.cons (.kept M M M) (.cons (EntW.lst M) (.cons (.kept M M M) (.cons (EntW.mix aB M (SubC.of_eq M) (SubC.of_eq M) M M) (.cons (EntW.lst M) .nil)))))))))))))),aY [0,1,2,4,5,6,7,8,9,10,32,33,1000,1001] M (by decide),fun _ _=>M⟩,?_⟩
      refine aV ?_
      obtain ⟨x73,hx73,h⟩:=aL h
      refine aS (aA M (aR (d:=.osl _ _ _) M M (lb M) underlying24 ag24 ti24 (by decide) (svR M) M (nle M) M)<|aA M (mvI M M M M)<|aA M (nM (eInt .i64).toEnc0 ([v62]:(List Int)) 34 M M (lb M) underlying24 ti3 M (.cons (svI M) .nil) M M (by decide))<|aA M (lZ (eInt .i64).toEnc0 35 M M (lb M) underlying24 ti3 M M M M M (rQ (eInt .i64).toEnc0 M M M) hx73)<|aA M (fD (ds':=[.osl _ _ _]) M M ti24 (svR M) M (sv (d:=.osl _ _ _) M) M M M (nle M) M)<|bE ?_)
      refine bI ?_
      refine ⟨9,33,_,_,none,M,M,M,M,(by decide),⟨[(0,.yld 9),(1,.ref 4 0),(5,.int .i64 x72.next),(22,.bool true)],[(0,.blk 26 [.ref 1000 0]),(1,.blk 3 [.int .i64 a0]),(2,.blk 3 [.int .i64 v53]),(4,.blk 26 [.ref 1000 0]),(5,.blk 3 [.int .i64 a0]),(6,.kept 1 [.dead,.dead,.ref 0 0,.ref 1 0,.ref 2 0,.dead,.dead,.dead,.dead,.dead,.dead,.dead,.dead,.dead,.dead,.dead,.dead,.dead,.dead,.dead,.dead,.dead,.dead,.dead,.fn 40 [.ref 4 0,.ref 5 0],.dead,.dead,.dead,.dead,.dead,.dead,.dead,.dead,.dead,.dead,.dead,.dead,.dead,.dead,.dead,.dead,.dead,.dead,.dead,.dead,.dead,.dead,.dead,.dead,.dead,.dead,.dead,.dead,.dead,.dead,.dead,.dead,.dead,.dead,.dead,.dead,.dead,.dead,.dead,.dead,.dead,.dead,.dead,.dead,.dead,.dead,.dead,.dead,.dead,.dead,.dead,.dead,.dead,.dead,.dead,.dead,.dead,.dead,.dead,.dead,.dead,.dead,.dead,.dead,.dead,.dead]),(7,.kept 2 [.dead,.dead,.dead,.fn 40 [.ref 4 0,.ref 5 0],.dead]),(8,.blk 24 [.osl 35 (eInt .i64).sz x73.length]),(9,.loop 3 [.dead,.dead,.ref 8 0,.dead,.dead,.dead,.fn 40 [.ref 4 0,.ref 5 0],.dead,.dead,.dead,.dead,.dead,.dead] .ready none),(10,.kept 3 [.dead,.dead,.ref 8 0,.dead,.dead,.dead,.fn 40 [.ref 4 0,.ref 5 0],.dead,.dead,.dead,.dead,.dead,.dead]),(35,.blk 3 (D.flat (x73.map (eInt .i64).d))),(1000,.blk 60 (mixD aB.toEnc0 (w22 a1 a2 a3 a4 a5) a6 [.int .i64 a7,.osl 1001 (eInt .i64).sz a8.length])),(1001,.blk 3 (D.flat (a8.map (eInt .i64).d)))]⟩,(fun i=>i),⟨(.sames M M),(.cons (.blk M M M) (.cons (.blk M M M) (.cons (.blk M M M) (.cons (.blk M M M) (.cons (.blk M M M) (.cons (.kept M M M) (.cons (.kept M M M) (.cons (.blk M M M) (.cons (.loop M M M) (.cons (.kept M M M) (.cons (EntW.lst M) (.cons (EntW.mix aB M (SubC.of_eq M) (SubC.of_eq M) M M) (.cons (EntW.lst M) .nil))))))))))))),aY [0,1,2,4,5,6,7,8,9,10,35,1000,1001] M (by decide),fun _ _=>M⟩,?_⟩
      refine aA M (eX M M (lb M) (svB M))<|aE ?_
      refine gM M M ?_
      refine aT ?_
      refine aJ ?_
      refine aS (aA M (mvI M M M M)<|aA M (asI M M M M)<|bE ?_)
      refine bI ?_
      refine aJ ⟨(n3,x72.next,x73),(fun i=>if i=32 then 35 else i),⟨(.sames M M),(.cons (.loop M M M) (.cons (.blk M M M) (.cons (.kept M M M) (.cons (.kept M M M) (.cons (.kept M M M) (.cons (EntW.mix aB M (SubC.of_eq M) (SubC.of_eq M) M M) (.cons (EntW.lst M) (.cons (.blk M M M) (.cons (.blk M M M) (.cons (.blk M M M) (.cons (.blk M M M) (.cons (.blk M M M) (.cons (EntW.lst M) .nil))))))))))))),aY [9,4,6,7,10,1000,1001,8,5,0,1,2,35] M (by decide),(fun i hi=>by first | rfl | (show (if _ then _ else _)=_; (repeat' split) <;> omega))⟩,?_,?_⟩
      exact h
      exact Nat.lt_succ_self _
     ·
      replace h:=bY h hc70
      refine cA ?_
      refine bD ?_
      refine bD ?_
      refine cC ?_
      refine ⟨.inl M,9,10,_,_,_,_,M,(by simp),M,M,⟨[(2,.ref 8 0)],[(0,.blk 26 [.ref 1000 0]),(1,.blk 3 [.int .i64 a0]),(2,.blk 3 [.int .i64 v53]),(4,.blk 26 [.ref 1000 0]),(5,.blk 3 [.int .i64 a0]),(6,.kept 1 [.dead,.dead,.ref 0 0,.ref 1 0,.ref 2 0,.dead,.dead,.dead,.dead,.dead,.dead,.dead,.dead,.dead,.dead,.dead,.dead,.dead,.dead,.dead,.dead,.dead,.dead,.dead,.fn 40 [.ref 4 0,.ref 5 0],.dead,.dead,.dead,.dead,.dead,.dead,.dead,.dead,.dead,.dead,.dead,.dead,.dead,.dead,.dead,.dead,.dead,.dead,.dead,.dead,.dead,.dead,.dead,.dead,.dead,.dead,.dead,.dead,.dead,.dead,.dead,.dead,.dead,.dead,.dead,.dead,.dead,.dead,.dead,.dead,.dead,.dead,.dead,.dead,.dead,.dead,.dead,.dead,.dead,.dead,.dead,.dead,.dead,.dead,.dead,.dead,.dead,.dead,.dead,.dead,.dead,.dead,.dead,.dead,.dead,.dead]),(7,.kept 2 [.dead,.dead,.dead,.fn 40 [.ref 4 0,.ref 5 0],.dead]),(8,.blk 24 [.osl 32 (eInt .i64).sz v63.length]),(32,.blk 3 (D.flat (v63.map (eInt .i64).d))),(1000,.blk 60 (mixD aB.toEnc0 (w22 a1 a2 a3 a4 a5) a6 [.int .i64 a7,.osl 1001 (eInt .i64).sz a8.length])),(1001,.blk 3 (D.flat (a8.map (eInt .i64).d)))]⟩,(fun i=>i),⟨(.sames M M),(.cons (.blk M M M) (.cons (.blk M M M) (.cons (.blk M M M) (.cons (.blk M M M) (.cons (.blk M M M) (.cons (.kept M M M) (.cons (.kept M M M) (.cons (.blk M M M) (.cons (EntW.lst M) (.cons (EntW.mix aB M (SubC.of_eq M) (SubC.of_eq M) M M) (.cons (EntW.lst M) .nil))))))))))),aY [0,1,2,4,5,6,7,8,32,1000,1001] M (by decide),fun _ _=>M⟩,?_⟩
      refine bI ?_
      refine aJ ?_
      refine aF (aA M (aR (d:=.osl _ _ _) M M (lb M) underlying24 ag24 ti24 (by decide) (svR M) M (nle M) M)<|aA M (aI M M (lb M) (sv (d:=.osl _ _ _) M))<|aE ?_)
      refine bB ?_
      refine ⟨.inr M,7,_,[.osl 32 (eInt .i64).sz v63.length],(.cons (sv M) .nil),M,M,⟨[(4,.osl 32 (eInt .i64).sz v63.length)],[(0,.blk 26 [.ref 1000 0]),(1,.blk 3 [.int .i64 a0]),(2,.blk 3 [.int .i64 v53]),(4,.blk 26 [.ref 1000 0]),(5,.blk 3 [.int .i64 a0]),(6,.kept 1 [.dead,.dead,.ref 0 0,.ref 1 0,.ref 2 0,.dead,.dead,.dead,.dead,.dead,.dead,.dead,.dead,.dead,.dead,.dead,.dead,.dead,.dead,.dead,.dead,.dead,.dead,.dead,.fn 40 [.ref 4 0,.ref 5 0],.dead,.dead,.dead,.dead,.dead,.dead,.dead,.dead,.dead,.dead,.dead,.dead,.dead,.dead,.dead,.dead,.dead,.dead,.dead,.dead,.dead,.dead,.dead,.dead,.dead,.dead,.dead,.dead,.dead,.dead,.dead,.dead,.dead,.dead,.dead,.dead,.dead,.dead,.dead,.dead,.dead,.dead,.dead,.dead,.dead,.dead,.dead,.dead,.dead,.dead,.dead,.dead,.dead,.dead,.dead,.dead,.dead,.dead,.dead,.dead,.dead,.dead,.dead,.dead,.dead,.dead]),(32,.blk 3 (D.flat (v63.map (eInt .i64).d))),(1000,.blk 60 (mixD aB.toEnc0 (w22 a1 a2 a3 a4 a5) a6 [.int .i64 a7,.osl 1001 (eInt .i64).sz a8.length])),(1001,.blk 3 (D.flat (a8.map (eInt .i64).d)))]⟩,(fun i=>i),⟨(.sames M M),(.cons (.blk M M M) (.cons (.blk M M M) (.cons (.blk M M M) (.cons (.blk M M M) (.cons (.blk M M M) (.cons (.kept M M M) (.cons (EntW.lst M) (.cons (EntW.mix aB M (SubC.of_eq M) (SubC.of_eq M) M M) (.cons (EntW.lst M) .nil))))))))),aY [0,1,2,4,5,6,32,1000,1001] M (by decide),fun _ _=>M⟩,?_⟩
      refine aA M (aI M M (lb M) (sv (d:=.osl _ _ _) M))<|aE ?_
      refine bB ?_
      refine ⟨.inr M,6,_,[.osl 32 (eInt .i64).sz v63.length],(.cons (sv M) .nil),M,M,⟨[(2,.ref 0 0),(3,.ref 1 0),(4,.ref 2 0),(25,.osl 32 (eInt .i64).sz v63.length)],[(0,.blk 26 [.ref 1000 0]),(1,.blk 3 [.int .i64 a0]),(2,.blk 3 [.int .i64 v53]),(32,.blk 3 (D.flat (v63.map (eInt .i64).d))),(1000,.blk 60 (mixD aB.toEnc0 (w22 a1 a2 a3 a4 a5) a6 [.int .i64 a7,.osl 1001 (eInt .i64).sz a8.length])),(1001,.blk 3 (D.flat (a8.map (eInt .i64).d)))]⟩,(fun i=>i),⟨(.sames M M),(.cons (.blk M M M) (.cons (.blk M M M) (.cons (.blk M M M) (.cons (EntW.lst M) (.cons (EntW.mix aB M (SubC.of_eq M) (SubC.of_eq M) M M) (.cons (EntW.lst M) .nil)))))),aY [0,1,2,32,1000,1001] M (by decide),fun _ _=>M⟩,?_⟩
      refine aA M (aI M M (lb M) (sv (d:=.osl _ _ _) M))<|aE ?_
      refine aU ?_
      refine aF (aA M (aD M M (lb M) (sv (d:=.osl _ _ _) M))<|aA M (mW M M (lb M) underlying24 (sv (d:=.osl _ _ _) M))<|aA M (aD M M (lb M) (sv (d:=.int _ 0) M))<|aE ?_)
      refine aV ?_
      refine bS (α:=Nat × Int × Int × Int × (List aP) × Int × Int × (List aM) × Int × (List Int)) (fun z=>⟨[(2,.ref 0 0),(3,.ref 1 0),(4,.ref 2 0),(26,.osl 32 (eInt .i64).sz v63.length),(27,.int .i64 (v63.length:Int)),(28,.int .i64 z.2.1)],[(0,.blk 26 [.ref 1000 0]),(1,.blk 3 [.int .i64 a0]),(2,.blk 3 [.int .i64 v53]),(32,.blk 3 (D.flat (v63.map (eInt .i64).d))),(1000,.blk 60 (mixD aB.toEnc0 (w22 z.2.2.1 z.2.2.2.1 z.2.2.2.2.1 z.2.2.2.2.2.1 z.2.2.2.2.2.2.1) z.2.2.2.2.2.2.2.1 [.int .i64 z.2.2.2.2.2.2.2.2.1,.osl 54 (eInt .i64).sz z.2.2.2.2.2.2.2.2.2.length])),(54,.blk 3 (D.flat (z.2.2.2.2.2.2.2.2.2.map (eInt .i64).d)))]⟩) (fun z=>kE a0 v53 v63 z.1 z.2.1 z.2.2.1 z.2.2.2.1 z.2.2.2.2.1 z.2.2.2.2.2.1 z.2.2.2.2.2.2.1 z.2.2.2.2.2.2.2.1 z.2.2.2.2.2.2.2.2.1 z.2.2.2.2.2.2.2.2.2=some r) (fun z=>z.1) (fuel,0,a1,a2,a3,a4,a5,a6,a7,a8) (fun i=>if i=54 then 1001 else i) ⟨(.sames M M),(.cons (.blk M M M) (.cons (.blk M M M) (.cons (.blk M M M) (.cons (EntW.lst M) (.cons (EntW.mix aB M (SubC.of_eq M) (SubC.of_eq M) M M) (.cons (EntW.lst M) .nil)))))),aY [0,1,2,32,1000,1001] M (by decide),(fun i hi=>by first | rfl | (show (if _ then _ else _)=_; (repeat' split) <;> omega))⟩ ?_ ?_
      ·exact h
      ·
       rintro ⟨n4,v92,v93,v94,v95,v96,v97,v98,v99,v100⟩ h
       cases n4 with
       | zero=>exact absurd h (by unfold kE; exact nofun)
       | succ n4 =>
        unfold kE at h
        obtain ⟨x120,hx120,h⟩:=aK h
        refine aF (aA M (aO M M (lb M) (svI M) (svI M) M hx120)<|aE ?_)
        refine aU ?_
        refine aW (b:=_) M (fun hc121=>?_) (fun hc121=>?_)
        ·
         replace h:=bX h hc121
         refine aT ?_
         refine aJ ?_
         refine aU ?_
         refine aV ?_
         obtain ⟨x122,hx122,h⟩:=aL h
         obtain ⟨x123,hx123,h⟩:=aL h
         refine aF (aA M (aX (eInt .i64).toEnc0 M M (lb M) underlying24 ti3 (sv (d:=.osl _ _ _) M) M (svI M) hx122)<|aA M (bO (eInt .i64).toEnc0 (d:=.int _ _) M M (lb M) underlying3 ag3 ti3 (by decide) (svR M) M hx123 (nle M) M)<|aA M (asI M M M M)<|aE ?_)
         obtain ⟨x124,hx124,h⟩:=aL h
         obtain ⟨hk125,h⟩:=iG h
         obtain ⟨x126,hx126,h⟩:=aL h
         obtain ⟨x127,hx127,h⟩:=aL h
         obtain ⟨x128,hx128,h⟩:=aL h
         obtain ⟨x129,hx129,h⟩:=aK h
         obtain ⟨x130,hx130,h⟩:=aL h
         obtain ⟨x131,hx131,h⟩:=aK h
         obtain ⟨x132,hx132,h⟩:=aL h
         obtain ⟨x133,hx133,h⟩:=aL h
         obtain ⟨x134,hx134,h⟩:=aK h
         refine dN M [⟨[2],[0],[(32,.ref 1000 0)],[]⟩,
          ⟨[8],[],[(33,.int .i64 x123)],[]⟩,
          ⟨[2],[0],[(34,.ref 1000 0)],[]⟩,
          ⟨[3],[1],[(35,.int .i64 a0)],[]⟩,
          ⟨[34],[],[(36,.ref 1000 0)],[]⟩,
          ⟨[36],[],[(37,.ref 1000 5)],[]⟩,
          ⟨[35,37],[],[(38,.ref 1000 (5 + (((a0:Int).toNat) * aB.sz + 0)))],[]⟩,
          ⟨[38],[],[(39,.ref 1000 (5 + (((a0:Int).toNat) * aB.sz + 4)))],[]⟩,
          ⟨[39],[1000],[(40,.int .i64 x126.weight)],[]⟩,
          ⟨[2],[0],[(41,.ref 1000 0)],[]⟩,
          ⟨[8],[],[(42,.int .i64 x123)],[]⟩,
          ⟨[41],[],[(43,.ref 1000 0)],[]⟩,
          ⟨[43],[],[(44,.ref 1000 5)],[]⟩,
          ⟨[42,44],[],[(45,.ref 1000 (5 + (((x123:Int).toNat) * aB.sz + 0)))],[]⟩,
          ⟨[45],[],[(46,.ref 1000 (5 + (((x123:Int).toNat) * aB.sz + 4)))],[]⟩,
          ⟨[46],[1000],[(47,.int .i64 x128.weight)],[]⟩,
          ⟨[40,47],[],[(48,.int .i64 x129)],[]⟩,
          ⟨[4],[2],[(49,.int .i64 v53)],[]⟩,
          ⟨[48,49],[],[(50,.int .i64 x130)],[]⟩,
          ⟨[50],[],[(51,.int .i64 x131)],[]⟩,
          ⟨[32],[],[(52,.ref 1000 0)],[]⟩,
          ⟨[52],[],[(53,.ref 1000 5)],[]⟩,
          ⟨[33,53],[],[(54,.ref 1000 (5 + (((x123:Int).toNat) * aB.sz + 0)))],[]⟩,
          ⟨[54],[],[(55,.ref 1000 (5 + (((x123:Int).toNat) * aB.sz + 4)))],[]⟩,
          ⟨[51,55],[1000],[],[(1000,.blk 60 (mixD aB.toEnc0 (w22 v93 v94 v95 v96 v97) x134 [.int .i64 v99,.osl 54 (eInt .i64).sz v100.length]))]⟩] M ?_ (by kernel_rfl) ?_
         ·refine .cons (lop M M fun S hA=>(aR (d:=.ref _ _) M M (lb M) underlying26 ag26 ti26 (by decide) (svaR hA M M) (agi hA M M) (nle M) M)) ?_
          refine .cons (lop M M fun S hA=>(aD M M (lb M) (svaI hA M M))) ?_
          refine .cons (lop M M fun S hA=>(aR (d:=.ref _ _) M M (lb M) underlying26 ag26 ti26 (by decide) (svaR hA M M) (agi hA M M) (nle M) M)) ?_
          refine .cons (lop M M fun S hA=>(aR (d:=.int _ _) M M (lb M) underlying3 ag3 ti3 (by decide) (svaR hA M M) (agi hA M M) (nle M) M)) ?_
          refine .cons (lop M M fun S hA=>(aN M M (lb M) (svaR hA M M))) ?_
          refine .cons (lop M M fun S hA=>(bF M M (lb M) underlying60 M ti58 (by decide) (svaR hA M M) (off':=5) M)) ?_
          refine .cons (lop M M fun S hA=>(dO aB.toEnc0 M M (lb M) underlying58 ti57 (svaR hA M M) hk125 (svaI hA M M) hx124)) ?_
          refine .cons (lop M M fun S hA=>(cB M M (lb M) underlying57 M ti3 (by decide) (svaR hA M M) (k':=4) M)) ?_
          refine .cons (lop M M fun S hA=>(cI aB.toEnc0 (b:=5) (k:=4) (d:=.int _ _) M M (lb M) underlying3 ag3 ti3 (by decide) (svaR hA M M) (agi hA M M) M hx126 (nle M) M)) ?_
          refine .cons (lop M M fun S hA=>(aR (d:=.ref _ _) M M (lb M) underlying26 ag26 ti26 (by decide) (svaR hA M M) (agi hA M M) (nle M) M)) ?_
          refine .cons (lop M M fun S hA=>(aD M M (lb M) (svaI hA M M))) ?_
          refine .cons (lop M M fun S hA=>(aN M M (lb M) (svaR hA M M))) ?_
          refine .cons (lop M M fun S hA=>(bF M M (lb M) underlying60 M ti58 (by decide) (svaR hA M M) (off':=5) M)) ?_
          refine .cons (lop M M fun S hA=>(dO aB.toEnc0 M M (lb M) underlying58 ti57 (svaR hA M M) hk125 (svaI hA M M) hx127)) ?_
          refine .cons (lop M M fun S hA=>(cB M M (lb M) underlying57 M ti3 (by decide) (svaR hA M M) (k':=4) M)) ?_
          refine .cons (lop M M fun S hA=>(cI aB.toEnc0 (b:=5) (k:=4) (d:=.int _ _) M M (lb M) underlying3 ag3 ti3 (by decide) (svaR hA M M) (agi hA M M) M hx128 (nle M) M)) ?_
          refine .cons (lop M M fun S hA=>(aQ M M (lb M) (svaI hA M M) (svaI hA M M) M hx129)) ?_
          refine .cons (lop M M fun S hA=>(aR (d:=.int _ _) M M (lb M) underlying3 ag3 ti3 (by decide) (svaR hA M M) (agi hA M M) (nle M) M)) ?_
          refine .cons (lop M M fun S hA=>(lK M M (lb M) (svaI hA M M) (svaI hA M M) hx130)) ?_
          refine .cons (lop M M fun S hA=>(wH M M (lb M) (svaI hA M M) (sv (d:=.int _ 1) M) hx131)) ?_
          refine .cons (lop M M fun S hA=>(aN M M (lb M) (svaR hA M M))) ?_
          refine .cons (lop M M fun S hA=>(bF M M (lb M) underlying60 M ti58 (by decide) (svaR hA M M) (off':=5) M)) ?_
          refine .cons (lop M M fun S hA=>(dO aB.toEnc0 M M (lb M) underlying58 ti57 (svaR hA M M) hk125 (svaI hA M M) hx132)) ?_
          refine .cons (lop M M fun S hA=>(cB M M (lb M) underlying57 M ti3 (by decide) (svaR hA M M) (k':=4) M)) ?_
          refine .cons (lop M M fun S hA=>(jW aB.toEnc0 (b:=5) (k:=4) (a':=(⟨x133.id,x133.up,x133.first,x133.next,x131,x133.closed⟩:aM)) M M ti3 (svaR hA M M) (agi hA M M) (svaI hA M M) M M M M hx133 (nle M) M hx134)) ?_
          exact .nil
         obtain ⟨x135,hx135,h⟩:=aL h
         obtain ⟨x136,hx136,h⟩:=aL h
         obtain ⟨x137,hx137,h⟩:=aL h
         refine iM M [⟨[2],[0],[(56,.ref 1000 0)],[]⟩,
          ⟨[8],[],[(57,.int .i64 x123)],[]⟩,
          ⟨[2],[0],[(58,.ref 1000 0)],[]⟩,
          ⟨[3],[1],[(59,.int .i64 a0)],[]⟩,
          ⟨[58],[],[(60,.ref 1000 0)],[]⟩,
          ⟨[60],[],[(61,.ref 1000 5)],[]⟩,
          ⟨[59,61],[],[(62,.ref 1000 (5 + (((a0:Int).toNat) * aB.sz + 0)))],[]⟩,
          ⟨[62],[],[(63,.ref 1000 (5 + (((a0:Int).toNat) * aB.sz + 1)))],[]⟩,
          ⟨[63],[1000],[(64,.int .i64 x136.up)],[]⟩,
          ⟨[56,57,64],[54,55,1000],[(65,.tuple [])],[(1000,.blk 60 (mixD aB.toEnc0 (w22 x137.1 x137.2.1 x137.2.2.1 x137.2.2.2.1 x137.2.2.2.2.1) x137.2.2.2.2.2.1 [.int .i64 x137.2.2.2.2.2.2.1,.osl 55 (eInt .i64).sz x137.2.2.2.2.2.2.2.length])),(55,.blk 3 (D.flat (x137.2.2.2.2.2.2.2.map (eInt .i64).d))),(1000,.none),(54,.none)]⟩] M ?_ (by kernel_rfl) ?_
         ·refine .cons (lop M M fun S hA=>(aR (d:=.ref _ _) M M (lb M) underlying26 ag26 ti26 (by decide) (svaR hA M M) (agi hA M M) (nle M) M)) ?_
          refine .cons (lop M M fun S hA=>(aD M M (lb M) (svaI hA M M))) ?_
          refine .cons (lop M M fun S hA=>(aR (d:=.ref _ _) M M (lb M) underlying26 ag26 ti26 (by decide) (svaR hA M M) (agi hA M M) (nle M) M)) ?_
          refine .cons (lop M M fun S hA=>(aR (d:=.int _ _) M M (lb M) underlying3 ag3 ti3 (by decide) (svaR hA M M) (agi hA M M) (nle M) M)) ?_
          refine .cons (lop M M fun S hA=>(aN M M (lb M) (svaR hA M M))) ?_
          refine .cons (lop M M fun S hA=>(bF M M (lb M) underlying60 M ti58 (by decide) (svaR hA M M) (off':=5) M)) ?_
          refine .cons (lop M M fun S hA=>(dO aB.toEnc0 M M (lb M) underlying58 ti57 (svaR hA M M) (bV hx134 hk125) (svaI hA M M) hx135)) ?_
          refine .cons (lop M M fun S hA=>(cB M M (lb M) underlying57 M ti3 (by decide) (svaR hA M M) (k':=1) M)) ?_
          refine .cons (lop M M fun S hA=>(cI aB.toEnc0 (b:=5) (k:=1) (d:=.int _ _) M M (lb M) underlying3 ag3 ti3 (by decide) (svaR hA M M) (agi hA M M) M hx136 (nle M) M)) ?_
          refine .cons (lop M M fun S hA=>(qV (r':=.tuple []) (U:=[(1000,.blk 60 (mixD aB.toEnc0 (w22 x137.1 x137.2.1 x137.2.2.1 x137.2.2.2.1 x137.2.2.2.2.1) x137.2.2.2.2.2.1 [.int .i64 x137.2.2.2.2.2.2.1,.osl 55 (eInt .i64).sz x137.2.2.2.2.2.2.2.length])),(55,.blk 3 (D.flat (x137.2.2.2.2.2.2.2.map (eInt .i64).d))),(1000,.none),(54,.none)]) 55 1 [1000,54] M M (lb M) cl46 (.cons (svaR hA M M) (.cons (svaI hA M M) (.cons (svaI hA M M) .nil))) M M M (List.forall_mem_cons.2 ⟨(agi hA M M),List.forall_mem_nil _⟩) ⟨by decide,M,List.forall_mem_cons.2 ⟨⟨M,M,(jI aB (agi hA M M) M M),(cW aB M M)⟩,List.forall_mem_cons.2 ⟨⟨M,M,(fW (eInt .i64) (agi hA M M)),(bK (eInt .i64))⟩,List.forall_mem_nil _⟩⟩⟩ (iT _ _ _ _ _ _ _ _ _ _ _ hx137) M M (List.forall_mem_cons.2 ⟨⟨M,(cW aB M M)⟩,List.forall_mem_cons.2 ⟨⟨M,(bK (eInt .i64))⟩,List.forall_mem_nil _⟩⟩) (by simp only [List.map_cons,List.map_nil,Ent.ren,bL,bT,dE]; rfl))) ?_
          exact .nil
         refine bI ?_
         refine aJ ?_
         obtain ⟨x138,hx138,h⟩:=aK h
         refine aS (aA M (aQ M M (lb M) (svI M) (sv (d:=.int _ 1) M) M hx138)<|aA M (mvI M M M M)<|bE ?_)
         refine aJ ⟨(n4,x138,x137.1,x137.2.1,x137.2.2.1,x137.2.2.2.1,x137.2.2.2.2.1,x137.2.2.2.2.2.1,x137.2.2.2.2.2.2.1,x137.2.2.2.2.2.2.2),(fun i=>if i=54 then 55 else i),⟨(.sames M M),(.cons (.blk M M M) (.cons (.blk M M M) (.cons (.blk M M M) (.cons (EntW.lst M) (.cons (EntW.mix aB M (SubC.of_eq M) (SubC.of_eq M) M M) (.cons (EntW.lst M) .nil)))))),aY [0,1,2,32,1000,55] M (by decide),(fun i hi=>by first | rfl | (show (if _ then _ else _)=_; (repeat' split) <;> omega))⟩,?_,?_⟩
         exact h
         exact Nat.lt_succ_self _
        ·
         replace h:=bY h hc121
         refine cA ?_
         refine bD ?_
         refine bD ?_
         refine cC ?_
         refine aJ ?_
         obtain ⟨x139,hx139,h⟩:=aL h
         refine aF (aA M (aR (d:=.ref _ _) M M (lb M) underlying26 ag26 ti26 (by decide) (svR M) M (nle M) M)<|aA M (aR (d:=.int _ _) M M (lb M) underlying3 ag3 ti3 (by decide) (svR M) M (nle M) M)<|aA M (bG (r':=.tuple []) (H1':=[(1000,.blk 60 (mixD aB.toEnc0 (w22 x139.1 x139.2.1 x139.2.2.1 x139.2.2.2.1 x139.2.2.2.2.1) x139.2.2.2.2.2.1 [.int .i64 x139.2.2.2.2.2.2.1,.osl 55 (eInt .i64).sz x139.2.2.2.2.2.2.2.length])),(55,.blk 3 (D.flat (x139.2.2.2.2.2.2.2.map (eInt .i64).d)))]) 55 [1000,54] M M (lb M) cl48 (.cons (svR M) (.cons (svI M) .nil)) M M ⟨M,M,by decide,M,List.forall_mem_cons.2 ⟨⟨M,M,(jI aB M M M),(cW aB M M)⟩,List.forall_mem_cons.2 ⟨⟨M,M,(fW (eInt .i64) M),(bK (eInt .i64))⟩,List.forall_mem_nil _⟩⟩⟩ (mR _ _ _ _ _ _ _ _ _ _ hx139) M M (List.forall_mem_cons.2 ⟨⟨M,(cW aB M M)⟩,List.forall_mem_cons.2 ⟨⟨M,(bK (eInt .i64))⟩,List.forall_mem_nil _⟩⟩) (by simp only [List.map_cons,List.map_nil,Ent.ren,bL,bT,dE]; rfl))<|aE ?_)
         obtain ⟨x140,hx140,h⟩:=aL h
         refine dN M [⟨[2],[0],[(71,.ref 1000 0)],[]⟩,
          ⟨[2],[0],[(72,.ref 1000 0)],[]⟩,
          ⟨[72],[],[(73,.ref 1000 0)],[]⟩,
          ⟨[73],[],[(74,.ref 1000 2)],[]⟩,
          ⟨[74],[1000],[(75,.agg [.slice false (x139.2.2.1.map bA.d),.int .i64 x139.2.2.2.1,.int .i64 x139.2.2.2.2.1])],[]⟩,
          ⟨[3],[1],[(76,.int .i64 a0)],[]⟩,
          ⟨[75,76],[],[(77,.tuple [.agg (v1 x140.1),.int .i64 x140.2])],[]⟩,
          ⟨[77],[],[(70,.tuple [.agg (v1 x140.1),.int .i64 x140.2])],[]⟩,
          ⟨[70],[],[(78,.agg (v1 x140.1))],[]⟩,
          ⟨[70],[],[(79,.int .i64 x140.2)],[]⟩,
          ⟨[71],[],[(80,.ref 1000 0)],[]⟩,
          ⟨[80],[],[(81,.ref 1000 2)],[]⟩,
          ⟨[78,81],[1000],[],[(1000,.blk 60 (mixD aB.toEnc0 (w22 x139.1 x139.2.1 x140.1.Cells x140.1.Free x140.1.Used) x139.2.2.2.2.2.1 [.int .i64 x139.2.2.2.2.2.2.1,.osl 55 (eInt .i64).sz x139.2.2.2.2.2.2.2.length]))]⟩] M ?_ (by kernel_rfl) ?_
         ·refine .cons (lop M M fun S hA=>(aR (d:=.ref _ _) M M (lb M) underlying26 ag26 ti26 (by decide) (svaR hA M M) (agi hA M M) (nle M) M)) ?_
          refine .cons (lop M M fun S hA=>(aR (d:=.ref _ _) M M (lb M) underlying26 ag26 ti26 (by decide) (svaR hA M M) (agi hA M M) (nle M) M)) ?_
          refine .cons (lop M M fun S hA=>(aN M M (lb M) (svaR hA M M))) ?_
          refine .cons (lop M M fun S hA=>(bF M M (lb M) underlying60 M ti55 (by decide) (svaR hA M M) (off':=2) M)) ?_
          refine .cons (lop M M fun S hA=>(pS aB.toEnc0 (cs:=q10) M M (lb M) underlying55 ag55 ti55 (by decide) (svaR hA M M) (agi hA M M) (nle M) (by rfl))) ?_
          refine .cons (lop M M fun S hA=>(aR (d:=.int _ _) M M (lb M) underlying3 ag3 ti3 (by decide) (svaR hA M M) (agi hA M M) (nle M) M)) ?_
          refine .cons (lop M M fun S hA=>(bJ (r:=.tuple q21) M M (lb M) cl49 (.cons (svaA q10 hA M M) (.cons (svaI hA M M) .nil)) M (sN _ _ _ hx140))) ?_
          refine .cons (lop M M fun S hA=>(aD M M (lb M) (sv (d:=.tuple q21) (agr hA M M)))) ?_
          refine .cons (lop M M fun S hA=>(cM (d:=.agg q10) M M (lb M) (sv (d:=.tuple q21) (agr hA M M)) M)) ?_
          refine .cons (lop M M fun S hA=>(cM (d:=.int _ _) M M (lb M) (sv (d:=.tuple q21) (agr hA M M)) M)) ?_
          refine .cons (lop M M fun S hA=>(aN M M (lb M) (svaR hA M M))) ?_
          refine .cons (lop M M fun S hA=>(bF M M (lb M) underlying60 M ti55 (by decide) (svaR hA M M) (off':=2) M)) ?_
          refine .cons (lop M M fun S hA=>(sG aB.toEnc0 (pre:=q7) (pre':=q7) M M ti55 (svaR hA M M) (agi hA M M) (svaA q10 hA M M) M M M (nle M) M)) ?_
          exact .nil
         obtain ⟨hk141,h⟩:=iG h
         obtain ⟨x142,hx142,h⟩:=aL h
         refine iM M [⟨[2],[0],[(82,.ref 1000 0)],[]⟩,
          ⟨[2],[0],[(83,.ref 1000 0)],[]⟩,
          ⟨[83],[],[(84,.ref 1000 0)],[]⟩,
          ⟨[84],[],[(85,.ref 1000 390)],[]⟩,
          ⟨[85],[1000],[(86,.osl 55 (eInt .i64).sz x139.2.2.2.2.2.2.2.length)],[]⟩,
          ⟨[3],[],[(87,.fn 51 [.ref 1 0])],[]⟩,
          ⟨[86,87],[1,55,56],[(88,.osl 56 (eInt .i64).sz x142.length)],[(1,.blk 3 [.int .i64 a0]),(56,.blk 3 (D.flat (x142.map (eInt .i64).d))),(55,.none),(1,.none)]⟩,
          ⟨[82],[],[(89,.ref 1000 0)],[]⟩,
          ⟨[89],[],[(90,.ref 1000 390)],[]⟩,
          ⟨[88,90],[1000],[],[(1000,.blk 60 (mixD aB.toEnc0 (w22 x139.1 x139.2.1 x140.1.Cells x140.1.Free x140.1.Used) x139.2.2.2.2.2.1 [.int .i64 x139.2.2.2.2.2.2.1,.osl 56 (eInt .i64).sz x142.length]))]⟩] M ?_ (by kernel_rfl) ?_
         ·refine .cons (lop M M fun S hA=>(aR (d:=.ref _ _) M M (lb M) underlying26 ag26 ti26 (by decide) (svaR hA M M) (agi hA M M) (nle M) M)) ?_
          refine .cons (lop M M fun S hA=>(aR (d:=.ref _ _) M M (lb M) underlying26 ag26 ti26 (by decide) (svaR hA M M) (agi hA M M) (nle M) M)) ?_
          refine .cons (lop M M fun S hA=>(aN M M (lb M) (svaR hA M M))) ?_
          refine .cons (lop M M fun S hA=>(bF M M (lb M) underlying60 M ti24 (by decide) (svaR hA M M) (off':=390) M)) ?_
          refine .cons (lop M M fun S hA=>(gW aB.toEnc0 (d:=.osl _ _ _) (n:=64) (k:=1) M M (lb M) underlying24 ag24 ti24 (by decide) (svaR hA M M) (agi hA M M) hk141 (by rfl) (nle M) (by rfl))) ?_
          refine .cons (lop M M fun S hA=>(nP M M (lb M) (.cons (svaR hA M M) .nil))) ?_
          refine .cons (lop M M fun S hA=>(qV (r':=.osl 56 (eInt .i64).sz x142.length) (U:=[(1,.blk 3 [.int .i64 a0]),(56,.blk 3 (D.flat (x142.map (eInt .i64).d))),(55,.none),(1,.none)]) 56 1 [55,1] M M (lb M) cl50 (.cons (sv (d:=.osl _ _ _) (agr hA M M)) (.cons (sv (d:=.fn 51 [.ref _ _]) (agr hA M M)) .nil)) M M M (List.forall_mem_cons.2 ⟨(agi hA M M),List.forall_mem_nil _⟩) ⟨by decide,M,List.forall_mem_cons.2 ⟨⟨M,M,(fW (eInt .i64) (agi hA M M)),(bK (eInt .i64))⟩,List.forall_mem_cons.2 ⟨⟨M,M,(agi hA M M),M⟩,List.forall_mem_nil _⟩⟩⟩ (kH _ _ _ hx142) M M (List.forall_mem_cons.2 ⟨⟨M,M⟩,List.forall_mem_cons.2 ⟨⟨M,(bK (eInt .i64))⟩,List.forall_mem_nil _⟩⟩) (by simp only [List.map_cons,List.map_nil,Ent.ren,bL,bT]; rfl))) ?_
          refine .cons (lop M M fun S hA=>(aN M M (lb M) (svaR hA M M))) ?_
          refine .cons (lop M M fun S hA=>(bF M M (lb M) underlying60 M ti24 (by decide) (svaR hA M M) (off':=390) M)) ?_
          refine .cons (lop M M fun S hA=>(qK aB.toEnc0 (post:=q15) (post':=q15) (n:=64) (k:=1) M M ti24 (svaR hA M M) (agi hA M M) (sv (d:=.osl _ _ _) (agr hA M M)) M M M hk141 (by rfl) (nle M) (by rfl))) ?_
          exact .nil
         obtain rfl:=sj_ h
         refine ⟨.inl M,(fun i=>if i=0 then 56 else i),⟨.nil,(.cons (EntW.mix aB M (SubC.of_eq M) (SubC.of_eq M) M M) (.cons (EntW.lst M) .nil)),aY [1000,56] M (by decide),(fun i hi=>by first | rfl | (show (if _ then _ else _)=_; (repeat' split) <;> omega))⟩,.nil,M⟩
  ·
   replace h:=bY h hc55
   refine aT ?_
   refine aJ ?_
   obtain ⟨x143,hx143,h⟩:=aL h
   obtain ⟨hk144,h⟩:=iG h
   refine aF (aA M (mvR M M M M)<|aA M (mvI M M M M)<|aA M (aN M M (lb M) (svR M))<|aA M (faR 5 M M M underlying60 M ti58 (lb M) M M)<|aA M (dO aB.toEnc0 M M (lb M) underlying58 ti57 (svR M) hk144 (svI M) hx143)<|aA M (cB M M (lb M) underlying57 M ti3 (by decide) (svR M) (k':=2) M)<|aA M (aI M M (lb M) (svR M))<|aE ?_)
   refine bB ?_
   refine ⟨.inr M,11,_,[.ref 1000 (5 + (((a0:Int).toNat) * aB.sz + 2))],(.cons (sv M) .nil),M,M,⟨[(0,.yld 9),(1,.ref 4 0),(8,.ref 1000 (5 + (((a0:Int).toNat) * aB.sz + 2)))],[(0,.blk 26 [.ref 1000 0]),(1,.blk 3 [.int .i64 a0]),(2,.blk 3 [.int .i64 v53]),(4,.blk 26 [.ref 1000 0]),(5,.blk 3 [.int .i64 a0]),(6,.kept 1 [.dead,.dead,.ref 0 0,.ref 1 0,.ref 2 0,.dead,.dead,.dead,.dead,.dead,.dead,.dead,.dead,.dead,.dead,.dead,.dead,.dead,.dead,.dead,.dead,.dead,.dead,.dead,.fn 40 [.ref 4 0,.ref 5 0],.dead,.dead,.dead,.dead,.dead,.dead,.dead,.dead,.dead,.dead,.dead,.dead,.dead,.dead,.dead,.dead,.dead,.dead,.dead,.dead,.dead,.dead,.dead,.dead,.dead,.dead,.dead,.dead,.dead,.dead,.dead,.dead,.dead,.dead,.dead,.dead,.dead,.dead,.dead,.dead,.dead,.dead,.dead,.dead,.dead,.dead,.dead,.dead,.dead,.dead,.dead,.dead,.dead,.dead,.dead,.dead,.dead,.dead,.dead,.dead,.dead,.dead,.dead,.dead,.dead,.dead]),(7,.kept 2 [.dead,.dead,.dead,.fn 40 [.ref 4 0,.ref 5 0],.dead]),(8,.blk 24 [.nils]),(9,.loop 3 [.dead,.dead,.ref 8 0,.dead,.dead,.dead,.fn 40 [.ref 4 0,.ref 5 0],.dead,.dead,.dead,.dead,.dead,.dead] .ready none),(10,.kept 3 [.dead,.dead,.ref 8 0,.dead,.dead,.dead,.fn 40 [.ref 4 0,.ref 5 0],.dead,.dead,.dead,.dead,.dead,.dead]),(1000,.blk 60 (mixD aB.toEnc0 (w22 a1 a2 a3 a4 a5) a6 [.int .i64 a7,.osl 1001 (eInt .i64).sz a8.length])),(1001,.blk 3 (D.flat (a8.map (eInt .i64).d)))]⟩,(fun i=>i),⟨(.sames M M),(.cons (.blk M M M) (.cons (.blk M M M) (.cons (.blk M M M) (.cons (.blk M M M) (.cons (.blk M M M) (.cons (.kept M M M) (.cons (.kept M M M) (.cons (.blk M M M) (.cons (.loop M M M) (.cons (.kept M M M) (.cons (EntW.mix aB M (SubC.of_eq M) (SubC.of_eq M) M M) (.cons (EntW.lst M) .nil)))))))))))),aY [0,1,2,4,5,6,7,8,9,10,1000,1001] M (by decide),fun _ _=>M⟩,?_⟩
   obtain ⟨x145,hx145,h⟩:=aL h
   refine aA M (aN M M (lb M) (svR M))<|aA M (cI aB.toEnc0 (b:=5) (k:=2) (d:=.int _ _) M M (lb M) underlying3 ag3 ti3 (by decide) (svR M) M M hx145 (nle M) M)<|aA M (asI M M M M)<|aE ?_
   refine aV ?_
   refine bS (α:=Nat × Int × (List Int)) (fun z=>⟨[(0,.yld 9),(1,.ref 4 0),(4,.int .i64 z.2.1)],[(9,.loop 3 [.dead,.dead,.ref 8 0,.dead,.dead,.dead,.fn 40 [.ref 4 0,.ref 5 0],.dead,.dead,.dead,.dead,.dead,.dead] .ready none),(4,.blk 26 [.ref 1000 0]),(6,.kept 1 [.dead,.dead,.ref 0 0,.ref 1 0,.ref 2 0,.dead,.dead,.dead,.dead,.dead,.dead,.dead,.dead,.dead,.dead,.dead,.dead,.dead,.dead,.dead,.dead,.dead,.dead,.dead,.fn 40 [.ref 4 0,.ref 5 0],.dead,.dead,.dead,.dead,.dead,.dead,.dead,.dead,.dead,.dead,.dead,.dead,.dead,.dead,.dead,.dead,.dead,.dead,.dead,.dead,.dead,.dead,.dead,.dead,.dead,.dead,.dead,.dead,.dead,.dead,.dead,.dead,.dead,.dead,.dead,.dead,.dead,.dead,.dead,.dead,.dead,.dead,.dead,.dead,.dead,.dead,.dead,.dead,.dead,.dead,.dead,.dead,.dead,.dead,.dead,.dead,.dead,.dead,.dead,.dead,.dead,.dead,.dead,.dead,.dead,.dead]),(7,.kept 2 [.dead,.dead,.dead,.fn 40 [.ref 4 0,.ref 5 0],.dead]),(10,.kept 3 [.dead,.dead,.ref 8 0,.dead,.dead,.dead,.fn 40 [.ref 4 0,.ref 5 0],.dead,.dead,.dead,.dead,.dead,.dead]),(1000,.blk 60 (mixD aB.toEnc0 (w22 a1 a2 a3 a4 a5) a6 [.int .i64 a7,.osl 1001 (eInt .i64).sz a8.length])),(1001,.blk 3 (D.flat (a8.map (eInt .i64).d))),(8,.blk 24 [.osl 32 (eInt .i64).sz z.2.2.length]),(5,.blk 3 [.int .i64 a0]),(0,.blk 26 [.ref 1000 0]),(1,.blk 3 [.int .i64 a0]),(2,.blk 3 [.int .i64 v53]),(32,.blk 3 (D.flat (z.2.2.map (eInt .i64).d)))]⟩) (fun z=>kD a0 a1 a2 a3 a4 a5 a6 a7 a8 v53 z.1 z.2.1 z.2.2=some r) (fun z=>z.1) (fuel,x145.first,([]:(List Int))) (fun i=>if i=32 then 94 else i) ⟨(.sames M M),(.cons (.loop M M M) (.cons (.blk M M M) (.cons (.kept M M M) (.cons (.kept M M M) (.cons (.kept M M M) (.cons (EntW.mix aB M (SubC.of_eq M) (SubC.of_eq M) M M) (.cons (EntW.lst M) (.cons (.sub M (.nilo .nil) M) (.cons (.blk M M M) (.cons (.blk M M M) (.cons (.blk M M M) (.cons (.blk M M M) (.cons (.nilb M) .nil))))))))))))),aY [9,4,6,7,10,1000,1001,8,5,0,1,2,94] M (by decide),(fun i hi=>by first | rfl | (show (if _ then _ else _)=_; (repeat' split) <;> omega))⟩ ?_ ?_
   ·exact h
   ·
    rintro ⟨n5,v151,v152⟩ h
    cases n5 with
    | zero=>exact absurd h (by unfold kD; exact nofun)
    | succ n5 =>
     unfold kD at h
     refine aU ?_
     obtain ⟨x158,hx158,h⟩:=aK h
     refine aF (aA M (mvI M M M M)<|aA M (aO M M (lb M) (svI M) (sv (d:=.int _ (-1)) M) M hx158)<|aE ?_)
     refine aW (b:=_) M (fun hc159=>?_) (fun hc159=>?_)
     ·
      replace h:=bX h hc159
      refine aT ?_
      refine aJ ?_
      refine aV ?_
      obtain ⟨x160,hx160,h⟩:=aL h
      obtain ⟨x161,hx161,h⟩:=aL h
      refine aF (aA M (aR (d:=.ref _ _) M M (lb M) underlying26 ag26 ti26 (by decide) (svR M) M (nle M) M)<|aA M (mvI M M M M)<|aA M (aN M M (lb M) (svR M))<|aA M (faR 5 M M M underlying60 M ti58 (lb M) M M)<|aA M (dO aB.toEnc0 M M (lb M) underlying58 ti57 (svR M) hk144 (svI M) hx160)<|aA M (cB M M (lb M) underlying57 M ti3 (by decide) (svR M) (k':=3) M)<|aA M (cI aB.toEnc0 (b:=5) (k:=3) (d:=.int _ _) M M (lb M) underlying3 ag3 ti3 (by decide) (svR M) M M hx161 (nle M) M)<|aA M (asI M M M M)<|aE ?_)
      refine aU ?_
      refine aF (aA M (aD M M (lb M) (sv (d:=.yld _) M))<|aA M (mvI M M M M) <|?_)
      refine gI (S':=⟨[(0,.yld 9),(1,.ref 4 0),(5,.int .i64 x161.next),(20,.yld 9),(21,.int .i64 v151)],[(0,.blk 26 [.ref 1000 0]),(1,.blk 3 [.int .i64 a0]),(2,.blk 3 [.int .i64 v53]),(4,.blk 26 [.ref 1000 0]),(5,.blk 3 [.int .i64 a0]),(6,.kept 1 [.dead,.dead,.ref 0 0,.ref 1 0,.ref 2 0,.dead,.dead,.dead,.dead,.dead,.dead,.dead,.dead,.dead,.dead,.dead,.dead,.dead,.dead,.dead,.dead,.dead,.dead,.dead,.fn 40 [.ref 4 0,.ref 5 0],.dead,.dead,.dead,.dead,.dead,.dead,.dead,.dead,.dead,.dead,.dead,.dead,.dead,.dead,.dead,.dead,.dead,.dead,.dead,.dead,.dead,.dead,.dead,.dead,.dead,.dead,.dead,.dead,.dead,.dead,.dead,.dead,.dead,.dead,.dead,.dead,.dead,.dead,.dead,.dead,.dead,.dead,.dead,.dead,.dead,.dead,.dead,.dead,.dead,.dead,.dead,.dead,.dead,.dead,.dead,.dead,.dead,.dead,.dead,.dead,.dead,.dead,.dead,.dead,.dead,.dead]),(7,.kept 2 [.dead,.dead,.dead,.fn 40 [.ref 4 0,.ref 5 0],.dead]),(8,.blk 24 [.osl 32 (eInt .i64).sz v152.length]),(9,.loop 3 [.dead,.dead,.ref 8 0,.dead,.dead,.dead,.fn 40 [.ref 4 0,.ref 5 0],.dead,.dead,.dead,.dead,.dead,.dead] .ready none),(10,.kept 3 [.dead,.dead,.ref 8 0,.dead,.dead,.dead,.fn 40 [.ref 4 0,.ref 5 0],.dead,.dead,.dead,.dead,.dead,.dead]),(32,.blk 3 (D.flat (v152.map (eInt .i64).d))),(1000,.blk 60 (mixD aB.toEnc0 (w22 a1 a2 a3 a4 a5) a6 [.int .i64 a7,.osl 1001 (eInt .i64).sz a8.length])),(1001,.blk 3 (D.flat (a8.map (eInt .i64).d)))]⟩) (fun i=>i) ⟨(.sames M M),(.cons (.blk M M M) (.cons (.blk M M M) (.cons (.blk M M M) (.cons (.blk M M M) (.cons (.blk M M M) (.cons (.kept M M M) (.cons (.kept M M M) (.cons (.blk M M M) (.cons (.loop M M M) (.cons (.kept M M M) (.cons (EntW.lst M) (.cons (EntW.mix aB M (SubC.of_eq M) (SubC.of_eq M) M M) (.cons (EntW.lst M) .nil))))))))))))),aY [0,1,2,4,5,6,7,8,9,10,32,1000,1001] M (by decide),fun _ _=>M⟩ ?_
      refine pC 4 9 33 M M M (by decide) M (.cons (svI M) .nil) M M M M M M hO3.round hlc3 ⟨[(7,.int .i64 v151),(2,.ref 8 0)],[(0,.blk 26 [.ref 1000 0]),(1,.blk 3 [.int .i64 a0]),(2,.blk 3 [.int .i64 v53]),(4,.blk 26 [.ref 1000 0]),(5,.blk 3 [.int .i64 a0]),(6,.kept 1 [.dead,.dead,.ref 0 0,.ref 1 0,.ref 2 0,.dead,.dead,.dead,.dead,.dead,.dead,.dead,.dead,.dead,.dead,.dead,.dead,.dead,.dead,.dead,.dead,.dead,.dead,.dead,.fn 40 [.ref 4 0,.ref 5 0],.dead,.dead,.dead,.dead,.dead,.dead,.dead,.dead,.dead,.dead,.dead,.dead,.dead,.dead,.dead,.dead,.dead,.dead,.dead,.dead,.dead,.dead,.dead,.dead,.dead,.dead,.dead,.dead,.dead,.dead,.dead,.dead,.dead,.dead,.dead,.dead,.dead,.dead,.dead,.dead,.dead,.dead,.dead,.dead,.dead,.dead,.dead,.dead,.dead,.dead,.dead,.dead,.dead,.dead,.dead,.dead,.dead,.dead,.dead,.dead,.dead,.dead,.dead,.dead,.dead,.dead]),(7,.kept 2 [.dead,.dead,.dead,.fn 40 [.ref 4 0,.ref 5 0],.dead]),(8,.blk 24 [.osl 32 (eInt .i64).sz v152.length]),(9,.loop 3 [.dead,.dead,.ref 8 0,.dead,.dead,.dead,.fn 40 [.ref 4 0,.ref 5 0],.dead,.dead,.dead,.dead,.dead,.dead] .ready none),(10,.kept 3 [.dead,.dead,.ref 8 0,.dead,.dead,.dead,.fn 40 [.ref 4 0,.ref 5 0],.dead,.dead,.dead,.dead,.dead,.dead]),(32,.blk 3 (D.flat (v152.map (eInt .i64).d))),(33,.kept 4 [.yld 9,.ref 4 0,.dead,.dead,.dead,.int .i64 x161.next,.dead,.dead,.dead,.dead,.dead,.dead,.dead,.dead,.dead,.dead,.dead,.dead,.dead,.dead,.yld 9,.int .i64 v151,.dead,.dead,.dead]),(1000,.blk 60 (mixD aB.toEnc0 (w22 a1 a2 a3 a4 a5) a6 [.int .i64 a7,.osl 1001 (eInt .i64).sz a8.length])),(1001,.blk 3 (D.flat (a8.map (eInt .i64).d)))]⟩ (fun i=>i) ⟨(.sames M M),(.cons (.blk M M M) (.cons (.blk M M M) (.cons (.blk M M M) (.cons (.blk M M M) (.cons (.blk M M M) (.cons (.kept M M M) (.cons (.kept M M M) (.cons (.blk M M M) (.cons (.loop M M M) (.cons (.kept M M M) (.cons (EntW.lst M) (.cons (.kept M M M) (.cons (EntW.mix aB M (SubC.of_eq M) (SubC.of_eq M) M M) (.cons (EntW.lst M) .nil)))))))))))))),aY [0,1,2,4,5,6,7,8,9,10,32,33,1000,1001] M (by decide),fun _ _=>M⟩ fun O4=>?_
      refine aS (aA M (asI M M M M)<|bE ?_)
      refine ⟨M,9,_,M,⟨[(2,.ref 8 0),(5,.int .i64 v151)],[(0,.blk 26 [.ref 1000 0]),(1,.blk 3 [.int .i64 a0]),(2,.blk 3 [.int .i64 v53]),(4,.blk 26 [.ref 1000 0]),(5,.blk 3 [.int .i64 a0]),(6,.kept 1 [.dead,.dead,.ref 0 0,.ref 1 0,.ref 2 0,.dead,.dead,.dead,.dead,.dead,.dead,.dead,.dead,.dead,.dead,.dead,.dead,.dead,.dead,.dead,.dead,.dead,.dead,.dead,.fn 40 [.ref 4 0,.ref 5 0],.dead,.dead,.dead,.dead,.dead,.dead,.dead,.dead,.dead,.dead,.dead,.dead,.dead,.dead,.dead,.dead,.dead,.dead,.dead,.dead,.dead,.dead,.dead,.dead,.dead,.dead,.dead,.dead,.dead,.dead,.dead,.dead,.dead,.dead,.dead,.dead,.dead,.dead,.dead,.dead,.dead,.dead,.dead,.dead,.dead,.dead,.dead,.dead,.dead,.dead,.dead,.dead,.dead,.dead,.dead,.dead,.dead,.dead,.dead,.dead,.dead,.dead,.dead,.dead,.dead,.dead]),(7,.kept 2 [.dead,.dead,.dead,.fn 40 [.ref 4 0,.ref 5 0],.dead]),(8,.blk 24 [.osl 32 (eInt .i64).sz v152.length]),(9,.loop 3 [.dead,.dead,.ref 8 0,.dead,.dead,.dead,.fn 40 [.ref 4 0,.ref 5 0],.dead,.dead,.dead,.dead,.dead,.dead] .busy none),(10,.kept 3 [.dead,.dead,.ref 8 0,.dead,.dead,.dead,.fn 40 [.ref 4 0,.ref 5 0],.dead,.dead,.dead,.dead,.dead,.dead]),(32,.blk 3 (D.flat (v152.map (eInt .i64).d))),(33,.kept 4 [.yld 9,.ref 4 0,.dead,.dead,.dead,.int .i64 x161.next,.dead,.dead,.dead,.dead,.dead,.dead,.dead,.dead,.dead,.dead,.dead,.dead,.dead,.dead,.yld 9,.int .i64 v151,.dead,.dead,.dead]),(1000,.blk 60 (mixD aB.toEnc0 (w22 a1 a2 a3 a4 a5) a6 [.int .i64 a7,.osl 1001 (eInt .i64).sz a8.length])),(1001,.blk 3 (D.flat (a8.map (eInt .i64).d)))]⟩,(fun i=>i),⟨(.sames M M),(.cons (.blk M M M) (.cons (.blk M M M) (.cons (.blk M M M) (.cons (.blk M M M) (.cons (.blk M M M) (.cons (.kept M M M) (.cons (.kept M M M) (.cons (.blk M M M) (.cons (.loop M M M) (.cons (.kept M M M) (.cons (EntW.lst M) (.cons (.kept M M M) (.cons (EntW.mix aB M (SubC.of_eq M) (SubC.of_eq M) M M) (.cons (EntW.lst M) .nil)))))))))))))),aY [0,1,2,4,5,6,7,8,9,10,32,33,1000,1001] M (by decide),fun _ _=>M⟩,?_⟩
      refine aV ?_
      obtain ⟨x162,hx162,h⟩:=aL h
      refine aS (aA M (aR (d:=.osl _ _ _) M M (lb M) underlying24 ag24 ti24 (by decide) (svR M) M (nle M) M)<|aA M (mvI M M M M)<|aA M (nM (eInt .i64).toEnc0 ([v151]:(List Int)) 34 M M (lb M) underlying24 ti3 M (.cons (svI M) .nil) M M (by decide))<|aA M (lZ (eInt .i64).toEnc0 35 M M (lb M) underlying24 ti3 M M M M M (rQ (eInt .i64).toEnc0 M M M) hx162)<|aA M (fD (ds':=[.osl _ _ _]) M M ti24 (svR M) M (sv (d:=.osl _ _ _) M) M M M (nle M) M)<|bE ?_)
      refine bI ?_
      refine ⟨9,33,_,_,none,M,M,M,M,(by decide),⟨[(0,.yld 9),(1,.ref 4 0),(5,.int .i64 x161.next),(22,.bool true)],[(0,.blk 26 [.ref 1000 0]),(1,.blk 3 [.int .i64 a0]),(2,.blk 3 [.int .i64 v53]),(4,.blk 26 [.ref 1000 0]),(5,.blk 3 [.int .i64 a0]),(6,.kept 1 [.dead,.dead,.ref 0 0,.ref 1 0,.ref 2 0,.dead,.dead,.dead,.dead,.dead,.dead,.dead,.dead,.dead,.dead,.dead,.dead,.dead,.dead,.dead,.dead,.dead,.dead,.dead,.fn 40 [.ref 4 0,.ref 5 0],.dead,.dead,.dead,.dead,.dead,.dead,.dead,.dead,.dead,.dead,.dead,.dead,.dead,.dead,.dead,.dead,.dead,.dead,.dead,.dead,.dead,.dead,.dead,.dead,.dead,.dead,.dead,.dead,.dead,.dead,.dead,.dead,.dead,.dead,.dead,.dead,.dead,.dead,.dead,.dead,.dead,.dead,.dead,.dead,.dead,.dead,.dead,.dead,.dead,.dead,.dead,.dead,.dead,.dead,.dead,.dead,.dead,.dead,.dead,.dead,.dead,.dead,.dead,.dead,.dead,.dead]),(7,.kept 2 [.dead,.dead,.dead,.fn 40 [.ref 4 0,.ref 5 0],.dead]),(8,.blk 24 [.osl 35 (eInt .i64).sz x162.length]),(9,.loop 3 [.dead,.dead,.ref 8 0,.dead,.dead,.dead,.fn 40 [.ref 4 0,.ref 5 0],.dead,.dead,.dead,.dead,.dead,.dead] .ready none),(10,.kept 3 [.dead,.dead,.ref 8 0,.dead,.dead,.dead,.fn 40 [.ref 4 0,.ref 5 0],.dead,.dead,.dead,.dead,.dead,.dead]),(35,.blk 3 (D.flat (x162.map (eInt .i64).d))),(1000,.blk 60 (mixD aB.toEnc0 (w22 a1 a2 a3 a4 a5) a6 [.int .i64 a7,.osl 1001 (eInt .i64).sz a8.length])),(1001,.blk 3 (D.flat (a8.map (eInt .i64).d)))]⟩,(fun i=>i),⟨(.sames M M),(.cons (.blk M M M) (.cons (.blk M M M) (.cons (.blk M M M) (.cons (.blk M M M) (.cons (.blk M M M) (.cons (.kept M M M) (.cons (.kept M M M) (.cons (.blk M M M) (.cons (.loop M M M) (.cons (.kept M M M) (.cons (EntW.lst M) (.cons (EntW.mix aB M (SubC.of_eq M) (SubC.of_eq M) M M) (.cons (EntW.lst M) .nil))))))))))))),aY [0,1,2,4,5,6,7,8,9,10,35,1000,1001] M (by decide),fun _ _=>M⟩,?_⟩
      refine aA M (eX M M (lb M) (svB M))<|aE ?_
      refine gM M M ?_
      refine aT ?_
      refine aJ ?_
      refine aS (aA M (mvI M M M M)<|aA M (asI M M M M)<|bE ?_)
      refine bI ?_
      refine aJ ⟨(n5,x161.next,x162),(fun i=>if i=32 then 35 else i),⟨(.sames M M),(.cons (.loop M M M) (.cons (.blk M M M) (.cons (.kept M M M) (.cons (.kept M M M) (.cons (.kept M M M) (.cons (EntW.mix aB M (SubC.of_eq M) (SubC.of_eq M) M M) (.cons (EntW.lst M) (.cons (.blk M M M) (.cons (.blk M M M) (.cons (.blk M M M) (.cons (.blk M M M) (.cons (.blk M M M) (.cons (EntW.lst M) .nil))))))))))))),aY [9,4,6,7,10,1000,1001,8,5,0,1,2,35] M (by decide),(fun i hi=>by first | rfl | (show (if _ then _ else _)=_; (repeat' split) <;> omega))⟩,?_,?_⟩
      exact h
      exact Nat.lt_succ_self _
     ·
      replace h:=bY h hc159
      refine cA ?_
      refine bD ?_
      refine bD ?_
      refine cC ?_
      refine ⟨.inl M,9,10,_,_,_,_,M,(by simp),M,M,⟨[(2,.ref 8 0)],[(0,.blk 26 [.ref 1000 0]),(1,.blk 3 [.int .i64 a0]),(2,.blk 3 [.int .i64 v53]),(4,.blk 26 [.ref 1000 0]),(5,.blk 3 [.int .i64 a0]),(6,.kept 1 [.dead,.dead,.ref 0 0,.ref 1 0,.ref 2 0,.dead,.dead,.dead,.dead,.dead,.dead,.dead,.dead,.dead,.dead,.dead,.dead,.dead,.dead,.dead,.dead,.dead,.dead,.dead,.fn 40 [.ref 4 0,.ref 5 0],.dead,.dead,.dead,.dead,.dead,.dead,.dead,.dead,.dead,.dead,.dead,.dead,.dead,.dead,.dead,.dead,.dead,.dead,.dead,.dead,.dead,.dead,.dead,.dead,.dead,.dead,.dead,.dead,.dead,.dead,.dead,.dead,.dead,.dead,.dead,.dead,.dead,.dead,.dead,.dead,.dead,.dead,.dead,.dead,.dead,.dead,.dead,.dead,.dead,.dead,.dead,.dead,.dead,.dead,.dead,.dead,.dead,.dead,.dead,.dead,.dead,.dead,.dead,.dead,.dead,.dead]),(7,.kept 2 [.dead,.dead,.dead,.fn 40 [.ref 4 0,.ref 5 0],.dead]),(8,.blk 24 [.osl 32 (eInt .i64).sz v152.length]),(32,.blk 3 (D.flat (v152.map (eInt .i64).d))),(1000,.blk 60 (mixD aB.toEnc0 (w22 a1 a2 a3 a4 a5) a6 [.int .i64 a7,.osl 1001 (eInt .i64).sz a8.length])),(1001,.blk 3 (D.flat (a8.map (eInt .i64).d)))]⟩,(fun i=>i),⟨(.sames M M),(.cons (.blk M M M) (.cons (.blk M M M) (.cons (.blk M M M) (.cons (.blk M M M) (.cons (.blk M M M) (.cons (.kept M M M) (.cons (.kept M M M) (.cons (.blk M M M) (.cons (EntW.lst M) (.cons (EntW.mix aB M (SubC.of_eq M) (SubC.of_eq M) M M) (.cons (EntW.lst M) .nil))))))))))),aY [0,1,2,4,5,6,7,8,32,1000,1001] M (by decide),fun _ _=>M⟩,?_⟩
      refine bI ?_
      refine aJ ?_
      refine aF (aA M (aR (d:=.osl _ _ _) M M (lb M) underlying24 ag24 ti24 (by decide) (svR M) M (nle M) M)<|aA M (aI M M (lb M) (sv (d:=.osl _ _ _) M))<|aE ?_)
      refine bB ?_
      refine ⟨.inr M,7,_,[.osl 32 (eInt .i64).sz v152.length],(.cons (sv M) .nil),M,M,⟨[(4,.osl 32 (eInt .i64).sz v152.length)],[(0,.blk 26 [.ref 1000 0]),(1,.blk 3 [.int .i64 a0]),(2,.blk 3 [.int .i64 v53]),(4,.blk 26 [.ref 1000 0]),(5,.blk 3 [.int .i64 a0]),(6,.kept 1 [.dead,.dead,.ref 0 0,.ref 1 0,.ref 2 0,.dead,.dead,.dead,.dead,.dead,.dead,.dead,.dead,.dead,.dead,.dead,.dead,.dead,.dead,.dead,.dead,.dead,.dead,.dead,.fn 40 [.ref 4 0,.ref 5 0],.dead,.dead,.dead,.dead,.dead,.dead,.dead,.dead,.dead,.dead,.dead,.dead,.dead,.dead,.dead,.dead,.dead,.dead,.dead,.dead,.dead,.dead,.dead,.dead,.dead,.dead,.dead,.dead,.dead,.dead,.dead,.dead,.dead,.dead,.dead,.dead,.dead,.dead,.dead,.dead,.dead,.dead,.dead,.dead,.dead,.dead,.dead,.dead,.dead,.dead,.dead,.dead,.dead,.dead,.dead,.dead,.dead,.dead,.dead,.dead,.dead,.dead,.dead,.dead,.dead,.dead]),(32,.blk 3 (D.flat (v152.map (eInt .i64).d))),(1000,.blk 60 (mixD aB.toEnc0 (w22 a1 a2 a3 a4 a5) a6 [.int .i64 a7,.osl 1001 (eInt .i64).sz a8.length])),(1001,.blk 3 (D.flat (a8.map (eInt .i64).d)))]⟩,(fun i=>i),⟨(.sames M M),(.cons (.blk M M M) (.cons (.blk M M M) (.cons (.blk M M M) (.cons (.blk M M M) (.cons (.blk M M M) (.cons (.kept M M M) (.cons (EntW.lst M) (.cons (EntW.mix aB M (SubC.of_eq M) (SubC.of_eq M) M M) (.cons (EntW.lst M) .nil))))))))),aY [0,1,2,4,5,6,32,1000,1001] M (by decide),fun _ _=>M⟩,?_⟩
      refine aA M (aI M M (lb M) (sv (d:=.osl _ _ _) M))<|aE ?_
      refine bB ?_
      refine ⟨.inr M,6,_,[.osl 32 (eInt .i64).sz v152.length],(.cons (sv M) .nil),M,M,⟨[(2,.ref 0 0),(3,.ref 1 0),(4,.ref 2 0),(25,.osl 32 (eInt .i64).sz v152.length)],[(0,.blk 26 [.ref 1000 0]),(1,.blk 3 [.int .i64 a0]),(2,.blk 3 [.int .i64 v53]),(32,.blk 3 (D.flat (v152.map (eInt .i64).d))),(1000,.blk 60 (mixD aB.toEnc0 (w22 a1 a2 a3 a4 a5) a6 [.int .i64 a7,.osl 1001 (eInt .i64).sz a8.length])),(1001,.blk 3 (D.flat (a8.map (eInt .i64).d)))]⟩,(fun i=>i),⟨(.sames M M),(.cons (.blk M M M) (.cons (.blk M M M) (.cons (.blk M M M) (.cons (EntW.lst M) (.cons (EntW.mix aB M (SubC.of_eq M) (SubC.of_eq M) M M) (.cons (EntW.lst M) .nil)))))),aY [0,1,2,32,1000,1001] M (by decide),fun _ _=>M⟩,?_⟩
      refine aA M (aI M M (lb M) (sv (d:=.osl _ _ _) M))<|aE ?_
      refine aU ?_
      refine aF (aA M (aD M M (lb M) (sv (d:=.osl _ _ _) M))<|aA M (mW M M (lb M) underlying24 (sv (d:=.osl _ _ _) M))<|aA M (aD M M (lb M) (sv (d:=.int _ 0) M))<|aE ?_)
      refine aV ?_
      refine bS (α:=Nat × Int × Int × Int × (List aP) × Int × Int × (List aM) × Int × (List Int)) (fun z=>⟨[(2,.ref 0 0),(3,.ref 1 0),(4,.ref 2 0),(26,.osl 32 (eInt .i64).sz v152.length),(27,.int .i64 (v152.length:Int)),(28,.int .i64 z.2.1)],[(0,.blk 26 [.ref 1000 0]),(1,.blk 3 [.int .i64 a0]),(2,.blk 3 [.int .i64 v53]),(32,.blk 3 (D.flat (v152.map (eInt .i64).d))),(1000,.blk 60 (mixD aB.toEnc0 (w22 z.2.2.1 z.2.2.2.1 z.2.2.2.2.1 z.2.2.2.2.2.1 z.2.2.2.2.2.2.1) z.2.2.2.2.2.2.2.1 [.int .i64 z.2.2.2.2.2.2.2.2.1,.osl 54 (eInt .i64).sz z.2.2.2.2.2.2.2.2.2.length])),(54,.blk 3 (D.flat (z.2.2.2.2.2.2.2.2.2.map (eInt .i64).d)))]⟩) (fun z=>kC a0 v53 v152 z.1 z.2.1 z.2.2.1 z.2.2.2.1 z.2.2.2.2.1 z.2.2.2.2.2.1 z.2.2.2.2.2.2.1 z.2.2.2.2.2.2.2.1 z.2.2.2.2.2.2.2.2.1 z.2.2.2.2.2.2.2.2.2=some r) (fun z=>z.1) (fuel,0,a1,a2,a3,a4,a5,a6,a7,a8) (fun i=>if i=54 then 1001 else i) ⟨(.sames M M),(.cons (.blk M M M) (.cons (.blk M M M) (.cons (.blk M M M) (.cons (EntW.lst M) (.cons (EntW.mix aB M (SubC.of_eq M) (SubC.of_eq M) M M) (.cons (EntW.lst M) .nil)))))),aY [0,1,2,32,1000,1001] M (by decide),(fun i hi=>by first | rfl | (show (if _ then _ else _)=_; (repeat' split) <;> omega))⟩ ?_ ?_
      ·exact h
      ·
       rintro ⟨n6,v181,v182,v183,v184,v185,v186,v187,v188,v189⟩ h
       cases n6 with
       | zero=>exact absurd h (by unfold kC; exact nofun)
       | succ n6 =>
        unfold kC at h
        obtain ⟨x209,hx209,h⟩:=aK h
        refine aF (aA M (aO M M (lb M) (svI M) (svI M) M hx209)<|aE ?_)
        refine aU ?_
        refine aW (b:=_) M (fun hc210=>?_) (fun hc210=>?_)
        ·
         replace h:=bX h hc210
         refine aT ?_
         refine aJ ?_
         refine aU ?_
         refine aV ?_
         obtain ⟨x211,hx211,h⟩:=aL h
         obtain ⟨x212,hx212,h⟩:=aL h
         refine aF (aA M (aX (eInt .i64).toEnc0 M M (lb M) underlying24 ti3 (sv (d:=.osl _ _ _) M) M (svI M) hx211)<|aA M (bO (eInt .i64).toEnc0 (d:=.int _ _) M M (lb M) underlying3 ag3 ti3 (by decide) (svR M) M hx212 (nle M) M)<|aA M (asI M M M M)<|aE ?_)
         obtain ⟨x213,hx213,h⟩:=aL h
         obtain ⟨hk214,h⟩:=iG h
         obtain ⟨x215,hx215,h⟩:=aL h
         obtain ⟨x216,hx216,h⟩:=aL h
         obtain ⟨x217,hx217,h⟩:=aL h
         obtain ⟨x218,hx218,h⟩:=aK h
         obtain ⟨x219,hx219,h⟩:=aL h
         obtain ⟨x220,hx220,h⟩:=aK h
         obtain ⟨x221,hx221,h⟩:=aL h
         obtain ⟨x222,hx222,h⟩:=aL h
         obtain ⟨x223,hx223,h⟩:=aK h
         refine dN M [⟨[2],[0],[(32,.ref 1000 0)],[]⟩,
          ⟨[8],[],[(33,.int .i64 x212)],[]⟩,
          ⟨[2],[0],[(34,.ref 1000 0)],[]⟩,
          ⟨[3],[1],[(35,.int .i64 a0)],[]⟩,
          ⟨[34],[],[(36,.ref 1000 0)],[]⟩,
          ⟨[36],[],[(37,.ref 1000 5)],[]⟩,
          ⟨[35,37],[],[(38,.ref 1000 (5 + (((a0:Int).toNat) * aB.sz + 0)))],[]⟩,
          ⟨[38],[],[(39,.ref 1000 (5 + (((a0:Int).toNat) * aB.sz + 4)))],[]⟩,
          ⟨[39],[1000],[(40,.int .i64 x215.weight)],[]⟩,
          ⟨[2],[0],[(41,.ref 1000 0)],[]⟩,
          ⟨[8],[],[(42,.int .i64 x212)],[]⟩,
          ⟨[41],[],[(43,.ref 1000 0)],[]⟩,
          ⟨[43],[],[(44,.ref 1000 5)],[]⟩,
          ⟨[42,44],[],[(45,.ref 1000 (5 + (((x212:Int).toNat) * aB.sz + 0)))],[]⟩,
          ⟨[45],[],[(46,.ref 1000 (5 + (((x212:Int).toNat) * aB.sz + 4)))],[]⟩,
          ⟨[46],[1000],[(47,.int .i64 x217.weight)],[]⟩,
          ⟨[40,47],[],[(48,.int .i64 x218)],[]⟩,
          ⟨[4],[2],[(49,.int .i64 v53)],[]⟩,
          ⟨[48,49],[],[(50,.int .i64 x219)],[]⟩,
          ⟨[50],[],[(51,.int .i64 x220)],[]⟩,
          ⟨[32],[],[(52,.ref 1000 0)],[]⟩,
          ⟨[52],[],[(53,.ref 1000 5)],[]⟩,
          ⟨[33,53],[],[(54,.ref 1000 (5 + (((x212:Int).toNat) * aB.sz + 0)))],[]⟩,
          ⟨[54],[],[(55,.ref 1000 (5 + (((x212:Int).toNat) * aB.sz + 4)))],[]⟩,
          ⟨[51,55],[1000],[],[(1000,.blk 60 (mixD aB.toEnc0 (w22 v182 v183 v184 v185 v186) x223 [.int .i64 v188,.osl 54 (eInt .i64).sz v189.length]))]⟩] M ?_ (by kernel_rfl) ?_
         ·refine .cons (lop M M fun S hA=>(aR (d:=.ref _ _) M M (lb M) underlying26 ag26 ti26 (by decide) (svaR hA M M) (agi hA M M) (nle M) M)) ?_
          refine .cons (lop M M fun S hA=>(aD M M (lb M) (svaI hA M M))) ?_
          refine .cons (lop M M fun S hA=>(aR (d:=.ref _ _) M M (lb M) underlying26 ag26 ti26 (by decide) (svaR hA M M) (agi hA M M) (nle M) M)) ?_
          refine .cons (lop M M fun S hA=>(aR (d:=.int _ _) M M (lb M) underlying3 ag3 ti3 (by decide) (svaR hA M M) (agi hA M M) (nle M) M)) ?_
          refine .cons (lop M M fun S hA=>(aN M M (lb M) (svaR hA M M))) ?_
          refine .cons (lop M M fun S hA=>(bF M M (lb M) underlying60 M ti58 (by decide) (svaR hA M M) (off':=5) M)) ?_
          refine .cons (lop M M fun S hA=>(dO aB.toEnc0 M M (lb M) underlying58 ti57 (svaR hA M M) hk214 (svaI hA M M) hx213)) ?_
          refine .cons (lop M M fun S hA=>(cB M M (lb M) underlying57 M ti3 (by decide) (svaR hA M M) (k':=4) M)) ?_
          refine .cons (lop M M fun S hA=>(cI aB.toEnc0 (b:=5) (k:=4) (d:=.int _ _) M M (lb M) underlying3 ag3 ti3 (by decide) (svaR hA M M) (agi hA M M) M hx215 (nle M) M)) ?_
          refine .cons (lop M M fun S hA=>(aR (d:=.ref _ _) M M (lb M) underlying26 ag26 ti26 (by decide) (svaR hA M M) (agi hA M M) (nle M) M)) ?_
          refine .cons (lop M M fun S hA=>(aD M M (lb M) (svaI hA M M))) ?_
          refine .cons (lop M M fun S hA=>(aN M M (lb M) (svaR hA M M))) ?_
          refine .cons (lop M M fun S hA=>(bF M M (lb M) underlying60 M ti58 (by decide) (svaR hA M M) (off':=5) M)) ?_
          refine .cons (lop M M fun S hA=>(dO aB.toEnc0 M M (lb M) underlying58 ti57 (svaR hA M M) hk214 (svaI hA M M) hx216)) ?_
          refine .cons (lop M M fun S hA=>(cB M M (lb M) underlying57 M ti3 (by decide) (svaR hA M M) (k':=4) M)) ?_
          refine .cons (lop M M fun S hA=>(cI aB.toEnc0 (b:=5) (k:=4) (d:=.int _ _) M M (lb M) underlying3 ag3 ti3 (by decide) (svaR hA M M) (agi hA M M) M hx217 (nle M) M)) ?_
          refine .cons (lop M M fun S hA=>(aQ M M (lb M) (svaI hA M M) (svaI hA M M) M hx218)) ?_
          refine .cons (lop M M fun S hA=>(aR (d:=.int _ _) M M (lb M) underlying3 ag3 ti3 (by decide) (svaR hA M M) (agi hA M M) (nle M) M)) ?_
          refine .cons (lop M M fun S hA=>(lK M M (lb M) (svaI hA M M) (svaI hA M M) hx219)) ?_
          refine .cons (lop M M fun S hA=>(wH M M (lb M) (svaI hA M M) (sv (d:=.int _ 1) M) hx220)) ?_
          refine .cons (lop M M fun S hA=>(aN M M (lb M) (svaR hA M M))) ?_
          refine .cons (lop M M fun S hA=>(bF M M (lb M) underlying60 M ti58 (by decide) (svaR hA M M) (off':=5) M)) ?_
          refine .cons (lop M M fun S hA=>(dO aB.toEnc0 M M (lb M) underlying58 ti57 (svaR hA M M) hk214 (svaI hA M M) hx221)) ?_
          refine .cons (lop M M fun S hA=>(cB M M (lb M) underlying57 M ti3 (by decide) (svaR hA M M) (k':=4) M)) ?_
          refine .cons (lop M M fun S hA=>(jW aB.toEnc0 (b:=5) (k:=4) (a':=(⟨x222.id,x222.up,x222.first,x222.next,x220,x222.closed⟩:aM)) M M ti3 (svaR hA M M) (agi hA M M) (svaI hA M M) M M M M hx222 (nle M) M hx223)) ?_
          exact .nil
         obtain ⟨x224,hx224,h⟩:=aL h
         obtain ⟨x225,hx225,h⟩:=aL h
         obtain ⟨x226,hx226,h⟩:=aL h
         refine iM M [⟨[2],[0],[(56,.ref 1000 0)],[]⟩,
          ⟨[8],[],[(57,.int .i64 x212)],[]⟩,
          ⟨[2],[0],[(58,.ref 1000 0)],[]⟩,
          ⟨[3],[1],[(59,.int .i64 a0)],[]⟩,
          ⟨[58],[],[(60,.ref 1000 0)],[]⟩,
          ⟨[60],[],[(61,.ref 1000 5)],[]⟩,
          ⟨[59,61],[],[(62,.ref 1000 (5 + (((a0:Int).toNat) * aB.sz + 0)))],[]⟩,
          ⟨[62],[],[(63,.ref 1000 (5 + (((a0:Int).toNat) * aB.sz + 1)))],[]⟩,
          ⟨[63],[1000],[(64,.int .i64 x225.up)],[]⟩,
          ⟨[56,57,64],[54,55,1000],[(65,.tuple [])],[(1000,.blk 60 (mixD aB.toEnc0 (w22 x226.1 x226.2.1 x226.2.2.1 x226.2.2.2.1 x226.2.2.2.2.1) x226.2.2.2.2.2.1 [.int .i64 x226.2.2.2.2.2.2.1,.osl 55 (eInt .i64).sz x226.2.2.2.2.2.2.2.length])),(55,.blk 3 (D.flat (x226.2.2.2.2.2.2.2.map (eInt .i64).d))),(1000,.none),(54,.none)]⟩] M ?_ (by kernel_rfl) ?_
         ·refine .cons (lop M M fun S hA=>(aR (d:=.ref _ _) M M (lb M) underlying26 ag26 ti26 (by decide) (svaR hA M M) (agi hA M M) (nle M) M)) ?_
          refine .cons (lop M M fun S hA=>(aD M M (lb M) (svaI hA M M))) ?_
          refine .cons (lop M M fun S hA=>(aR (d:=.ref _ _) M M (lb M) underlying26 ag26 ti26 (by decide) (svaR hA M M) (agi hA M M) (nle M) M)) ?_
          refine .cons (lop M M fun S hA=>(aR (d:=.int _ _) M M (lb M) underlying3 ag3 ti3 (by decide) (svaR hA M M) (agi hA M M) (nle M) M)) ?_
          refine .cons (lop M M fun S hA=>(aN M M (lb M) (svaR hA M M))) ?_
          refine .cons (lop M M fun S hA=>(bF M M (lb M) underlying60 M ti58 (by decide) (svaR hA M M) (off':=5) M)) ?_
          refine .cons (lop M M fun S hA=>(dO aB.toEnc0 M M (lb M) underlying58 ti57 (svaR hA M M) (bV hx223 hk214) (svaI hA M M) hx224)) ?_
          refine .cons (lop M M fun S hA=>(cB M M (lb M) underlying57 M ti3 (by decide) (svaR hA M M) (k':=1) M)) ?_
          refine .cons (lop M M fun S hA=>(cI aB.toEnc0 (b:=5) (k:=1) (d:=.int _ _) M M (lb M) underlying3 ag3 ti3 (by decide) (svaR hA M M) (agi hA M M) M hx225 (nle M) M)) ?_
          refine .cons (lop M M fun S hA=>(qV (r':=.tuple []) (U:=[(1000,.blk 60 (mixD aB.toEnc0 (w22 x226.1 x226.2.1 x226.2.2.1 x226.2.2.2.1 x226.2.2.2.2.1) x226.2.2.2.2.2.1 [.int .i64 x226.2.2.2.2.2.2.1,.osl 55 (eInt .i64).sz x226.2.2.2.2.2.2.2.length])),(55,.blk 3 (D.flat (x226.2.2.2.2.2.2.2.map (eInt .i64).d))),(1000,.none),(54,.none)]) 55 1 [1000,54] M M (lb M) cl46 (.cons (svaR hA M M) (.cons (svaI hA M M) (.cons (svaI hA M M) .nil))) M M M (List.forall_mem_cons.2 ⟨(agi hA M M),List.forall_mem_nil _⟩) ⟨by decide,M,List.forall_mem_cons.2 ⟨⟨M,M,(jI aB (agi hA M M) M M),(cW aB M M)⟩,List.forall_mem_cons.2 ⟨⟨M,M,(fW (eInt .i64) (agi hA M M)),(bK (eInt .i64))⟩,List.forall_mem_nil _⟩⟩⟩ (iT _ _ _ _ _ _ _ _ _ _ _ hx226) M M (List.forall_mem_cons.2 ⟨⟨M,(cW aB M M)⟩,List.forall_mem_cons.2 ⟨⟨M,(bK (eInt .i64))⟩,List.forall_mem_nil _⟩⟩) (by simp only [List.map_cons,List.map_nil,Ent.ren,bL,bT,dE]; rfl))) ?_
          exact .nil
         refine bI ?_
         refine aJ ?_
         obtain ⟨x227,hx227,h⟩:=aK h
         refine aS (aA M (aQ M M (lb M) (svI M) (sv (d:=.int _ 1) M) M hx227)<|aA M (mvI M M M M)<|bE ?_)
         refine aJ ⟨(n6,x227,x226.1,x226.2.1,x226.2.2.1,x226.2.2.2.1,x226.2.2.2.2.1,x226.2.2.2.2.2.1,x226.2.2.2.2.2.2.1,x226.2.2.2.2.2.2.2),(fun i=>if i=54 then 55 else i),⟨(.sames M M),(.cons (.blk M M M) (.cons (.blk M M M) (.cons (.blk M M M) (.cons (EntW.lst M) (.cons (EntW.mix aB M (SubC.of_eq M) (SubC.of_eq M) M M) (.cons (EntW.lst M) .nil)))))),aY [0,1,2,32,1000,55] M (by decide),(fun i hi=>by first | rfl | (show (if _ then _ else _)=_; (repeat' split) <;> omega))⟩,?_,?_⟩
         exact h
         exact Nat.lt_succ_self _
        ·
         replace h:=bY h hc210
         refine cA ?_
         refine bD ?_
         refine bD ?_
         refine cC ?_
         refine aJ ?_
         obtain ⟨x228,hx228,h⟩:=aL h
         refine aF (aA M (aR (d:=.ref _ _) M M (lb M) underlying26 ag26 ti26 (by decide) (svR M) M (nle M) M)<|aA M (aR (d:=.int _ _) M M (lb M) underlying3 ag3 ti3 (by decide) (svR M) M (nle M) M)<|aA M (bG (r':=.tuple []) (H1':=[(1000,.blk 60 (mixD aB.toEnc0 (w22 x228.1 x228.2.1 x228.2.2.1 x228.2.2.2.1 x228.2.2.2.2.1) x228.2.2.2.2.2.1 [.int .i64 x228.2.2.2.2.2.2.1,.osl 55 (eInt .i64).sz x228.2.2.2.2.2.2.2.length])),(55,.blk 3 (D.flat (x228.2.2.2.2.2.2.2.map (eInt .i64).d)))]) 55 [1000,54] M M (lb M) cl48 (.cons (svR M) (.cons (svI M) .nil)) M M ⟨M,M,by decide,M,List.forall_mem_cons.2 ⟨⟨M,M,(jI aB M M M),(cW aB M M)⟩,List.forall_mem_cons.2 ⟨⟨M,M,(fW (eInt .i64) M),(bK (eInt .i64))⟩,List.forall_mem_nil _⟩⟩⟩ (mR _ _ _ _ _ _ _ _ _ _ hx228) M M (List.forall_mem_cons.2 ⟨⟨M,(cW aB M M)⟩,List.forall_mem_cons.2 ⟨⟨M,(bK (eInt .i64))⟩,List.forall_mem_nil _⟩⟩) (by simp only [List.map_cons,List.map_nil,Ent.ren,bL,bT,dE]; rfl))<|aE ?_)
         obtain ⟨x229,hx229,h⟩:=aL h
         refine dN M [⟨[2],[0],[(71,.ref 1000 0)],[]⟩,
          ⟨[2],[0],[(72,.ref 1000 0)],[]⟩,
          ⟨[72],[],[(73,.ref 1000 0)],[]⟩,
          ⟨[73],[],[(74,.ref 1000 2)],[]⟩,
          ⟨[74],[1000],[(75,.agg [.slice false (x228.2.2.1.map bA.d),.int .i64 x228.2.2.2.1,.int .i64 x228.2.2.2.2.1])],[]⟩,
          ⟨[3],[1],[(76,.int .i64 a0)],[]⟩,
          ⟨[75,76],[],[(77,.tuple [.agg (v1 x229.1),.int .i64 x229.2])],[]⟩,
          ⟨[77],[],[(70,.tuple [.agg (v1 x229.1),.int .i64 x229.2])],[]⟩,
          ⟨[70],[],[(78,.agg (v1 x229.1))],[]⟩,
          ⟨[70],[],[(79,.int .i64 x229.2)],[]⟩,
          ⟨[71],[],[(80,.ref 1000 0)],[]⟩,
          ⟨[80],[],[(81,.ref 1000 2)],[]⟩,
          ⟨[78,81],[1000],[],[(1000,.blk 60 (mixD aB.toEnc0 (w22 x228.1 x228.2.1 x229.1.Cells x229.1.Free x229.1.Used) x228.2.2.2.2.2.1 [.int .i64 x228.2.2.2.2.2.2.1,.osl 55 (eInt .i64).sz x228.2.2.2.2.2.2.2.length]))]⟩] M ?_ (by kernel_rfl) ?_
         ·refine .cons (lop M M fun S hA=>(aR (d:=.ref _ _) M M (lb M) underlying26 ag26 ti26 (by decide) (svaR hA M M) (agi hA M M) (nle M) M)) ?_
          refine .cons (lop M M fun S hA=>(aR (d:=.ref _ _) M M (lb M) underlying26 ag26 ti26 (by decide) (svaR hA M M) (agi hA M M) (nle M) M)) ?_
          refine .cons (lop M M fun S hA=>(aN M M (lb M) (svaR hA M M))) ?_
          refine .cons (lop M M fun S hA=>(bF M M (lb M) underlying60 M ti55 (by decide) (svaR hA M M) (off':=2) M)) ?_
          refine .cons (lop M M fun S hA=>(pS aB.toEnc0 (cs:=q10) M M (lb M) underlying55 ag55 ti55 (by decide) (svaR hA M M) (agi hA M M) (nle M) (by rfl))) ?_
          refine .cons (lop M M fun S hA=>(aR (d:=.int _ _) M M (lb M) underlying3 ag3 ti3 (by decide) (svaR hA M M) (agi hA M M) (nle M) M)) ?_
          refine .cons (lop M M fun S hA=>(bJ (r:=.tuple q21) M M (lb M) cl49 (.cons (svaA q10 hA M M) (.cons (svaI hA M M) .nil)) M (sN _ _ _ hx229))) ?_
          refine .cons (lop M M fun S hA=>(aD M M (lb M) (sv (d:=.tuple q21) (agr hA M M)))) ?_
          refine .cons (lop M M fun S hA=>(cM (d:=.agg q10) M M (lb M) (sv (d:=.tuple q21) (agr hA M M)) M)) ?_
          refine .cons (lop M M fun S hA=>(cM (d:=.int _ _) M M (lb M) (sv (d:=.tuple q21) (agr hA M M)) M)) ?_
          refine .cons (lop M M fun S hA=>(aN M M (lb M) (svaR hA M M))) ?_
          refine .cons (lop M M fun S hA=>(bF M M (lb M) underlying60 M ti55 (by decide) (svaR hA M M) (off':=2) M)) ?_
          refine .cons (lop M M fun S hA=>(sG aB.toEnc0 (pre:=q7) (pre':=q7) M M ti55 (svaR hA M M) (agi hA M M) (svaA q10 hA M M) M M M (nle M) M)) ?_
          exact .nil
         obtain ⟨hk230,h⟩:=iG h
         obtain ⟨x231,hx231,h⟩:=aL h
         refine iM M [⟨[2],[0],[(82,.ref 1000 0)],[]⟩,
          ⟨[2],[0],[(83,.ref 1000 0)],[]⟩,
          ⟨[83],[],[(84,.ref 1000 0)],[]⟩,
          ⟨[84],[],[(85,.ref 1000 390)],[]⟩,
          ⟨[85],[1000],[(86,.osl 55 (eInt .i64).sz x228.2.2.2.2.2.2.2.length)],[]⟩,
          ⟨[3],[],[(87,.fn 51 [.ref 1 0])],[]⟩,
          ⟨[86,87],[1,55,56],[(88,.osl 56 (eInt .i64).sz x231.length)],[(1,.blk 3 [.int .i64 a0]),(56,.blk 3 (D.flat (x231.map (eInt .i64).d))),(55,.none),(1,.none)]⟩,
          ⟨[82],[],[(89,.ref 1000 0)],[]⟩,
          ⟨[89],[],[(90,.ref 1000 390)],[]⟩,
          ⟨[88,90],[1000],[],[(1000,.blk 60 (mixD aB.toEnc0 (w22 x228.1 x228.2.1 x229.1.Cells x229.1.Free x229.1.Used) x228.2.2.2.2.2.1 [.int .i64 x228.2.2.2.2.2.2.1,.osl 56 (eInt .i64).sz x231.length]))]⟩] M ?_ (by kernel_rfl) ?_
         ·refine .cons (lop M M fun S hA=>(aR (d:=.ref _ _) M M (lb M) underlying26 ag26 ti26 (by decide) (svaR hA M M) (agi hA M M) (nle M) M)) ?_
          refine .cons (lop M M fun S hA=>(aR (d:=.ref _ _) M M (lb M) underlying26 ag26 ti26 (by decide) (svaR hA M M) (agi hA M M) (nle M) M)) ?_
          refine .cons (lop M M fun S hA=>(aN M M (lb M) (svaR hA M M))) ?_
          refine .cons (lop M M fun S hA=>(bF M M (lb M) underlying60 M ti24 (by decide) (svaR hA M M) (off':=390) M)) ?_
          refine .cons (lop M M fun S hA=>(gW aB.toEnc0 (d:=.osl _ _ _) (n:=64) (k:=1) M M (lb M) underlying24 ag24 ti24 (by decide) (svaR hA M M) (agi hA M M) hk230 (by rfl) (nle M) (by rfl))) ?_
          refine .cons (lop M M fun S hA=>(nP M M (lb M) (.cons (svaR hA M M) .nil))) ?_
          refine .cons (lop M M fun S hA=>(qV (r':=.osl 56 (eInt .i64).sz x231.length) (U:=[(1,.blk 3 [.int .i64 a0]),(56,.blk 3 (D.flat (x231.map (eInt .i64).d))),(55,.none),(1,.none)]) 56 1 [55,1] M M (lb M) cl50 (.cons (sv (d:=.osl _ _ _) (agr hA M M)) (.cons (sv (d:=.fn 51 [.ref _ _]) (agr hA M M)) .nil)) M M M (List.forall_mem_cons.2 ⟨(agi hA M M),List.forall_mem_nil _⟩) ⟨by decide,M,List.forall_mem_cons.2 ⟨⟨M,M,(fW (eInt .i64) (agi hA M M)),(bK (eInt .i64))⟩,List.forall_mem_cons.2 ⟨⟨M,M,(agi hA M M),M⟩,List.forall_mem_nil _⟩⟩⟩ (kH _ _ _ hx231) M M (List.forall_mem_cons.2 ⟨⟨M,M⟩,List.forall_mem_cons.2 ⟨⟨M,(bK (eInt .i64))⟩,List.forall_mem_nil _⟩⟩) (by simp only [List.map_cons,List.map_nil,Ent.ren,bL,bT]; rfl))) ?_
          refine .cons (lop M M fun S hA=>(aN M M (lb M) (svaR hA M M))) ?_
          refine .cons (lop M M fun S hA=>(bF M M (lb M) underlying60 M ti24 (by decide) (svaR hA M M) (off':=390) M)) ?_
          refine .cons (lop M M fun S hA=>(qK aB.toEnc0 (post:=q15) (post':=q15) (n:=64) (k:=1) M M ti24 (svaR hA M M) (agi hA M M) (sv (d:=.osl _ _ _) (agr hA M M)) M M M hk230 (by rfl) (nle M) (by rfl))) ?_
          exact .nil
         obtain rfl:=sj_ h
         refine ⟨.inl M,(fun i=>if i=0 then 56 else i),⟨.nil,(.cons (EntW.mix aB M (SubC.of_eq M) (SubC.of_eq M) M M) (.cons (EntW.lst M) .nil)),aY [1000,56] M (by decide),(fun i hi=>by first | rfl | (show (if _ then _ else _)=_; (repeat' split) <;> omega))⟩,.nil,M⟩

theorem vH (a0:bN) (a1:Int) (r:(bN × Int × Int)) (h:sI a0 a1=some r):fS prog 43 [.agg (v1 a0),.int .i64 a1] (retD [.agg (v1 r.1),.int .i64 r.2.1,.int .i64 r.2.2]):=by
 refine pY (rs:=[.agg (v1 r.1),.int .i64 r.2.1,.int .i64 r.2.2]) func43 M ntmps43 (nle M) M fun O hO=>?_
 show IWP _ _ _ _ ⟨[(0,.agg (v1 a0)),(1,.int .i64 a1)],[]⟩ _
 unfold sI at h
 refine aF (aA M (fE (cs:=q10) 0 M M (lb M) M (svA q10 M) M M)<|aA M (gN (cs:=q14) (cs':=[.slice false (([]:List aP).map bA.d),.int .i64 0,.int .i64 0]) 1 M M (lb M) M ti55 M M (.cons (.nils _) (.all _)))<|aA M (aI M M (lb M) (sv (d:=.int _ 0) M))<|aA M (aI M M (lb M) (sv (d:=.int _ 0) M))<|aE ?_)
 obtain ⟨x1,hx1,h⟩:=aL h
 refine aF (aA M (lra q10 la55 M M M M M (nle M) M)<|aA M (bG (r':=.agg [.osl 2 bA.sz x1.1.length,.int .i64 x1.2.1,.int .i64 x1.2.2]) (H1':=[(2,.blk 78 (D.flat (x1.1.map bA.d)))]) 2 [] M M (lb M) cl76 (.cons (svA q10 M) .nil) M M ⟨M,M,by decide,M,List.forall_mem_nil _⟩ (pP _ _ hx1) M M (List.forall_mem_cons.2 ⟨⟨M,(bK bA)⟩,List.forall_mem_nil _⟩) (by simp only [List.map_cons,List.map_nil,Ent.ren,bL,bT]; rfl))<|aA M (gN (cs:=q14) (cs':=[.slice false (([]:List aP).map bA.d),.int .i64 0,.int .i64 0]) 3 M M (lb M) M ti55 M M (.cons (.nils _) (.all _)))<|aA M (stA q11 q11 ti55 M M M M M M M M (nle M) M)<|aE ?_)
 refine aU ?_
 obtain ⟨x2,hx2,h⟩:=aL h
 refine aF (aA M (lra q10 la55 M M M M M (nle M) M)<|aA M (bJ (r:=.int _ _) M M (lb M) cl37 (.cons (svA q10 M) .nil) M (qL _ _ hx2))<|aA M (asI M M M M)<|aE ?_)
 obtain ⟨x3,hx3,h⟩:=aK h
 refine aF (aA M (mvI M M M M)<|aA M (aO M M (lb M) (svI M) (sv (d:=.int _ 0) M) M hx3)<|aE ?_)
 refine aW (b:=_) M (fun hc4=>?_) (fun hc4=>?_)
 ·
  replace h:=bX h hc4
  refine aF (aA M (lra q11 la55 M M M M M (nle M) M)<|aA M (mvI M M M M)<|aA M (stA q11 q11 ti55 M M M M M M M M (nle M) M)<|aA M (aI M M (lb M) (sv (d:=.int _ 0) M))<|aA M (asI M M M M)<|aE ?_)
  refine bB ?_
  refine bP ?_
  obtain rfl:=sj_ h
  refine ⟨.inr M,_,(.cons (rva la55 M M (nle M) M) (.cons (sv M) (.cons (sv M) .nil))),(.cons (.agg (.cons (FDT bA M M) (.all _))) (.all _))⟩
 ·
  replace h:=bY h hc4
  refine aT ?_
  refine aJ ?_
  refine aU ?_
  obtain ⟨x5,hx5,h⟩:=aK h
  refine aF (aA M (faR 2 M M M underlying55 M ti3 (lb M) M M)<|aA M (aR (d:=.int _ _) M M (lb M) underlying3 ag3 ti3 (by decide) (svR M) M (nle M) M)<|aA M (aO M M (lb M) (svI M) (sv (d:=.int _ 64) M) M hx5)<|aE ?_)
  refine aW (b:=_) M (fun hc6=>?_) (fun hc6=>?_)
  ·
   replace h:=bX h hc6
   refine aF (aA M (lra q11 la55 M M M M M (nle M) M)<|aA M (stA q11 q11 ti55 M M M M M M M M (nle M) M)<|aA M (aI M M (lb M) (sv (d:=.int _ 0) M))<|aA M (aI M M (lb M) (sv (d:=.int _ 7) M))<|aE ?_)
   refine bB ?_
   refine bP ?_
   obtain rfl:=sj_ h
   refine ⟨.inr M,_,(.cons (rva la55 M M (nle M) M) (.cons (sv M) (.cons (sv M) .nil))),(.cons (.agg (.cons (FDT bA M M) (.all _))) (.all _))⟩
  ·
   replace h:=bY h hc6
   refine aT ?_
   refine aJ ?_
   obtain ⟨x7,hx7,h⟩:=aK h
   refine aF (aA M (faR 2 M M M underlying55 M ti3 (lb M) M M)<|aA M (aR (d:=.int _ _) M M (lb M) underlying3 ag3 ti3 (by decide) (svR M) M (nle M) M)<|aA M (aQ M M (lb M) (svI M) (sv (d:=.int _ 1) M) M hx7)<|aA M (faR 2 M M M underlying55 M ti3 (lb M) M M)<|aA M (fD (ds':=q11) M M ti3 (svR M) M (svI M) M M M (nle M) M)<|aE ?_)
   refine aF (aA M (mvI M M M M)<|aA M (cV (cs:=q13) M M (lb M) underlying78 ti78 pl78 M (.cons (sv (d:=.bool true) M) (.cons (svI M) .nil)) M)<|aA M (gN (cs:=q13) (cs':=[.bool false,.int .i64 0,.int .i64 0]) 4 M M (lb M) M ti78 M M (.all _))<|aA M (stA q13 q13 ti78 M M M M M M M M (nle M) M)<|aE ?_)
   refine aF (aA M (faR 1 M M M underlying55 M ti3 (lb M) M M)<|aA M (aR (d:=.int _ _) M M (lb M) underlying3 ag3 ti3 (by decide) (svR M) M (nle M) M)<|aA M (asI M M M M)<|aE ?_)
   refine aU ?_
   obtain ⟨x8,hx8,h⟩:=aK h
   refine aF (aA M (mvI M M M M)<|aA M (aO M M (lb M) (svI M) (sv (d:=.int _ (-1)) M) M hx8)<|aE ?_)
   refine aW (b:=_) M (fun hc9=>?_) (fun hc9=>?_)
   ·
    replace h:=bX h hc9
    obtain ⟨x10,hx10,h⟩:=aL h
    refine aF (aA M (faR 0 M M M underlying55 M ti53 (lb M) M M)<|aA M (aR (d:=.osl _ _ _) M M (lb M) underlying53 ag53 ti53 (by decide) (svR M) M (nle M) M)<|aA M (lra q13 la78 M M M M M (nle M) M)<|aA M (nM bA.toEnc0 ([(⟨true,a1,0⟩:aP)]:(List aP)) 5 M M (lb M) underlying53 ti78 M (.cons (svA q13 M) .nil) M M (by decide))<|aA M (lZ bA.toEnc0 6 M M (lb M) underlying53 ti78 M M M M M (rQ bA.toEnc0 M M M) hx10)<|aA M (faR 0 M M M underlying55 M ti53 (lb M) M M)<|aA M (fD (ds':=q11) M M ti53 (svR M) M (sv (d:=.osl _ _ _) M) M M M (nle M) M)<|aE ?_)
    refine dN M [⟨[7],[3],[(39,.agg [.osl 6 bA.sz x10.length,.int .i64 x1.2.1,.int .i64 x7])],[]⟩,
     ⟨[2],[],[(40,.ref 0 0)],[]⟩,
     ⟨[40],[0],[(41,.slice false (a0.Cells.map bA.d))],[]⟩,
     ⟨[41],[],[(42,.int .i64 (a0.Cells.length:Int))],[]⟩,
     ⟨[4,39],[1],[],[(1,.blk 55 [.osl 6 bA.sz x10.length,.int .i64 x1.2.1,.int .i64 x7])]⟩,
     ⟨[42],[],[(5,.int .i64 (a0.Cells.length:Int))],[]⟩,
     ⟨[],[],[(6,.int .i64 0)],[]⟩] M ?_ (by kernel_rfl) ?_
    ·refine .cons (lop M M fun S hA=>(oS (cs:=q11) M M (lb M) underlying55 ag55 ti55 (by decide) (svaR hA M M) (agi hA M M) (nle M) M)) ?_
     refine .cons (lop M M fun S hA=>(bF M M (lb M) underlying55 M ti53 (by decide) (svaR hA M M) (off':=0) M)) ?_
     refine .cons (lop M M fun S hA=>(aR (d:=.slice _ _) M M (lb M) underlying53 ag53 ti53 (by decide) (svaR hA M M) (agi hA M M) (nle M) M)) ?_
     refine .cons (lop M M fun S hA=>(dU bA (l:=a0.Cells) M M (lb M) underlying53 (svaL hA M M))) ?_
     refine .cons (lop M M fun S hA=>(fD (ds':=q11) M M ti55 (svaR hA M M) (agi hA M M) (svaA q11 hA M M) M M M (nle M) M)) ?_
     refine .cons (lop M M fun S hA=>(aI M M (lb M) (svaI hA M M))) ?_
     refine .cons (lop M M fun S hA=>(aI M M (lb M) (sv (d:=.int _ 0) M))) ?_
     exact .nil
    refine bB ?_
    refine bP ?_
    obtain rfl:=sj_ h
    refine ⟨.inr M,_,(.cons (rva la55 M M (nle M) M) (.cons (sv M) (.cons (sv M) .nil))),(.cons (.agg (.cons (FDT bA M M) (.all _))) (.all _))⟩
   ·
    replace h:=bY h hc9
    refine aT ?_
    refine aJ ?_
    obtain ⟨x11,hx11,h⟩:=aL h
    obtain ⟨x12,hx12,h⟩:=aL h
    refine aF (aA M (faR 0 M M M underlying55 M ti53 (lb M) M M)<|aA M (aR (d:=.osl _ _ _) M M (lb M) underlying53 ag53 ti53 (by decide) (svR M) M (nle M) M)<|aA M (mvI M M M M)<|aA M (aX bA.toEnc0 M M (lb M) underlying53 ti78 (sv (d:=.osl _ _ _) M) M (svI M) hx11)<|aA M (vY M M (lb M) underlying78 M ti3 (by decide) (svR M) (k':=2) M)<|aA M (bO bA.toEnc0 (d:=.int _ _) M M (lb M) underlying3 ag3 ti3 (by decide) (svR M) M hx12 (nle M) M)<|aA M (faR 1 M M M underlying55 M ti3 (lb M) M M)<|aA M (fD (ds':=q11) M M ti3 (svR M) M (svI M) M M M (nle M) M)<|aE ?_)
    obtain ⟨x13,hx13,h⟩:=aL h
    obtain ⟨x14,hx14,h⟩:=aL h
    obtain ⟨x15,hx15,h⟩:=aK h
    refine aF (aA M (faR 0 M M M underlying55 M ti53 (lb M) M M)<|aA M (aR (d:=.osl _ _ _) M M (lb M) underlying53 ag53 ti53 (by decide) (svR M) M (nle M) M)<|aA M (mvI M M M M)<|aA M (lra q13 la78 M M M M M (nle M) M)<|aA M (aX bA.toEnc0 M M (lb M) underlying53 ti78 (sv (d:=.osl _ _ _) M) M (svI M) hx13)<|aA M (bR bA.toEnc0 (a':=(⟨true,a1,0⟩:aP)) M M ti78 (svR M) M (svA q13 M) M M M hx14 (nle M) M hx15)<|aE ?_)
    refine aF (aA M (lra q11 la55 M M M M M (nle M) M)<|aA M (mvI M M M M)<|aA M (stA q11 q11 ti55 M M M M M M M M (nle M) M)<|aA M (asI M M M M)<|aA M (aI M M (lb M) (sv (d:=.int _ 0) M))<|aE ?_)
    refine bB ?_
    obtain rfl:=sj_ h
    refine ⟨.inr M,_,(.cons (rva la55 M M (nle M) M) (.cons (sv M) (.cons (sv M) .nil))),(.cons (.agg (.cons (FDT bA M (bV hx15 M)) (.all _))) (.all _))⟩

theorem rB (a0:Int) (a1:Int) (a2:Int) (a3:Int) (a4:(List aP)) (a5:Int) (a6:Int) (a7:(List aM)) (a8:Int) (a9:(List Int)) (r:Bool) (h:nU a0 a1 a2 a3 a4 a5 a6 a7 a8 a9=some r):FnH prog 45 [.ref 1000 0,.int .i64 a0,.int .i64 a1] [(1000,.blk 60 (mixD aB.toEnc0 (w22 a2 a3 a4 a5 a6) a7 [.int .i64 a8,.osl 1001 (eInt .i64).sz a9.length])),(1001,.blk 3 (D.flat (a9.map (eInt .i64).d)))] (.bool r) [(1000,.blk 60 (mixD aB.toEnc0 (w22 a2 a3 a4 a5 a6) a7 [.int .i64 a8,.osl 1001 (eInt .i64).sz a9.length])),(1001,.blk 3 (D.flat (a9.map (eInt .i64).d)))]:=by
 refine cF (rs:=[.bool r]) func45 M ntmps45 (nle M) fun O hO=>?_
 show IWP _ _ _ _ ⟨[(0,.ref 1000 0),(1,.int .i64 a0),(2,.int .i64 a1)],[(1000,.blk 60 (mixD aB.toEnc0 (w22 a2 a3 a4 a5 a6) a7 [.int .i64 a8,.osl 1001 (eInt .i64).sz a9.length])),(1001,.blk 3 (D.flat (a9.map (eInt .i64).d)))]⟩ _
 unfold nU at h
 refine aF (aA M (aI M M (lb M) (sv (d:=.bool false) M))<|aE ?_)
 refine aU ?_
 refine aV ?_
 refine bS (α:=Nat × Int) (fun z=>⟨[(0,.ref 1000 0),(1,.int .i64 z.2),(2,.int .i64 a1)],[(1000,.blk 60 (mixD aB.toEnc0 (w22 a2 a3 a4 a5 a6) a7 [.int .i64 a8,.osl 1001 (eInt .i64).sz a9.length])),(1001,.blk 3 (D.flat (a9.map (eInt .i64).d)))]⟩) (fun z=>iY a1 a7 z.1 z.2=some r) (fun z=>z.1) (fuel,a0) (fun i=>i) ⟨(.sames M M),(.cons (EntW.mix aB M (SubC.of_eq M) (SubC.of_eq M) M M) (.cons (EntW.lst M) .nil)),aY [1000,1001] M (by decide),fun _ _=>M⟩ ?_ ?_
 ·exact h
 ·
  rintro ⟨n0,v8⟩ h
  cases n0 with
  | zero=>exact absurd h (by unfold iY; exact nofun)
  | succ n0 =>
   unfold iY at h
   refine aU ?_
   obtain ⟨x16,hx16,h⟩:=aK h
   refine aF (aA M (mvI M M M M)<|aA M (aO M M (lb M) (svI M) (sv (d:=.int _ (-1)) M) M hx16)<|aE ?_)
   refine aW (b:=_) M (fun hc17=>?_) (fun hc17=>?_)
   ·
    replace h:=bX h hc17
    refine aT ?_
    refine aJ ?_
    refine aV ?_
    obtain ⟨x18,hx18,h⟩:=aL h
    obtain ⟨hk19,h⟩:=iG h
    obtain ⟨x20,hx20,h⟩:=aL h
    refine aF (aA M (mvR M M M M)<|aA M (mvI M M M M)<|aA M (aN M M (lb M) (svR M))<|aA M (faR 5 M M M underlying60 M ti58 (lb M) M M)<|aA M (dO aB.toEnc0 M M (lb M) underlying58 ti57 (svR M) hk19 (svI M) hx18)<|aA M (cB M M (lb M) underlying57 M ti3 (by decide) (svR M) (k':=1) M)<|aA M (cI aB.toEnc0 (b:=5) (k:=1) (d:=.int _ _) M M (lb M) underlying3 ag3 ti3 (by decide) (svR M) M M hx20 (nle M) M)<|aA M (asI M M M M)<|aE ?_)
    obtain ⟨x21,hx21,h⟩:=aK h
    refine aF (aA M (mvI M M M M)<|aA M (mvI M M M M)<|aA M (aO M M (lb M) (svI M) (svI M) M hx21)<|aE ?_)
    refine aW (b:=_) M (fun hc22=>?_) (fun hc22=>?_)
    ·
     replace h:=bX h hc22
     refine aF (aA M (aI M M (lb M) (sv (d:=.bool true) M))<|aE ?_)
     refine bB ?_
     refine dB ?_
     refine bP ?_
     refine dB ?_
     refine bP ?_
     obtain rfl:=sj_ h
     refine ⟨.inr M,(fun i=>i),⟨.nil,(.cons (EntW.mix aB M (SubC.of_eq M) (SubC.of_eq M) M M) (.cons (EntW.lst M) .nil)),aY [1000,1001] M (by decide),fun _ _=>M⟩,(.cons (sv M) .nil),M⟩
    ·
     replace h:=bY h hc22
     refine aT ?_
     refine bI ?_
     refine aJ ⟨(n0,x20.up),(fun i=>i),⟨(.sames M M),(.cons (EntW.mix aB M (SubC.of_eq M) (SubC.of_eq M) M M) (.cons (EntW.lst M) .nil)),aY [1000,1001] M (by decide),fun _ _=>M⟩,?_,?_⟩
     exact h
     exact Nat.lt_succ_self _
   ·
    replace h:=bY h hc17
    refine cA ?_
    refine bD ?_
    refine bD ?_
    refine cC ?_
    refine aJ ?_
    refine aF (aA M (aI M M (lb M) (sv (d:=.bool false) M))<|aE ?_)
    refine bB ?_
    obtain rfl:=sj_ h
    refine ⟨.inr M,(fun i=>i),⟨.nil,(.cons (EntW.mix aB M (SubC.of_eq M) (SubC.of_eq M) M M) (.cons (EntW.lst M) .nil)),aY [1000,1001] M (by decide),fun _ _=>M⟩,(.cons (sv M) .nil),M⟩

theorem pG (a0:Int) (a1:gS) (a2:Int) (a3:Int) (a4:(List aP)) (a5:Int) (a6:Int) (a7:(List aM)) (a8:Int) (a9:(List Int)) (r:(Int × Int × (List aP) × Int × Int × (List aM) × Int × (List Int))) (h:mK a0 a1 a2 a3 a4 a5 a6 a7 a8 a9=some r):FnH prog 35 [.ref 1000 0,.int .i64 a0,.agg (v4 a1)] [(1000,.blk 60 (mixD aB.toEnc0 (w22 a2 a3 a4 a5 a6) a7 [.int .i64 a8,.osl 1001 (eInt .i64).sz a9.length])),(1001,.blk 3 (D.flat (a9.map (eInt .i64).d)))] (retD []) [(1000,.blk 60 (mixD aB.toEnc0 (w22 r.1 r.2.1 r.2.2.1 r.2.2.2.1 r.2.2.2.2.1) r.2.2.2.2.2.1 [.int .i64 r.2.2.2.2.2.2.1,.osl 0 (eInt .i64).sz r.2.2.2.2.2.2.2.length])),(0,.blk 3 (D.flat (r.2.2.2.2.2.2.2.map (eInt .i64).d)))]:=by
 refine cF (rs:=[]) func35 M ntmps35 (nle M) fun O hO=>?_
 show IWP _ _ _ _ ⟨[(0,.ref 1000 0),(1,.int .i64 a0),(2,.agg (v4 a1))],[(1000,.blk 60 (mixD aB.toEnc0 (w22 a2 a3 a4 a5 a6) a7 [.int .i64 a8,.osl 1001 (eInt .i64).sz a9.length])),(1001,.blk 3 (D.flat (a9.map (eInt .i64).d)))]⟩ _
 unfold mK at h
 refine aF (aA M (fE (cs:=q12) 0 M M (lb M) M (svA q12 M) M M)<|aE ?_)
 obtain ⟨x1,hx1,h⟩:=aL h
 refine aF (aA M (mvR M M M M)<|aA M (faR 0 M M M underlying72 M ti3 (lb M) M M)<|aA M (aR (d:=.int _ _) M M (lb M) underlying3 ag3 ti3 (by decide) (svR M) M (nle M) M)<|aA M (iF (r':=.int .i64 x1) (V:=[(1000,.blk 60 (mixD aB.toEnc0 (w22 a2 a3 a4 a5 a6) a7 [.int .i64 a8,.osl 1001 (eInt .i64).sz a9.length])),(1001,.blk 3 (D.flat (a9.map (eInt .i64).d)))]) 1 [1000,1001] M M (lb M) cl28 (.cons (svR M) (.cons (svI M) .nil)) M M M ⟨by decide,M,List.forall_mem_cons.2 ⟨⟨M,M,(jI aB M M M),(cW aB M M)⟩,List.forall_mem_cons.2 ⟨⟨M,M,(fW (eInt .i64) M),(bK (eInt .i64))⟩,List.forall_mem_nil _⟩⟩⟩ (gJ _ _ _ _ _ _ _ _ _ _ hx1) M M (List.forall_mem_cons.2 ⟨⟨M,(cW aB M M)⟩,List.forall_mem_cons.2 ⟨⟨M,(bK (eInt .i64))⟩,List.forall_mem_nil _⟩⟩) (by simp only [List.map_cons,List.map_nil,Ent.ren,bL,bT,dE]; rfl) (List.forall_mem_cons.2 ⟨M,List.forall_mem_cons.2 ⟨M,List.forall_mem_nil _⟩⟩) M)<|aA M (asI M M M M)<|aE ?_)
 refine fL (α:=Int × Int × Bool) (fun z=>⟨[(0,.ref 1000 0),(1,.int .i64 a0),(5,.ref 0 0),(6,.int .i64 x1)],[(1000,.blk 60 (mixD aB.toEnc0 (w22 a2 a3 a4 a5 a6) a7 [.int .i64 a8,.osl 1001 (eInt .i64).sz a9.length])),(0,.blk 72 [.int .i64 z.1,.int .i64 z.2.1,.bool z.2.2]),(1001,.blk 3 (D.flat (a9.map (eInt .i64).d)))]⟩) (fun z=>kU a0 a2 a3 a4 a5 a6 a7 a8 a9 x1 z.1 z.2.1 z.2.2=some r) ?_ ?_
 ·
  obtain ⟨x149,hx149,h⟩:=aK h
  obtain ⟨x150,hx150,h⟩:=aK h
  obtain ⟨x151,hx151,h⟩:=aK h
  refine aF (aA M (mvI M M M M)<|aA M (aO M M (lb M) (svI M) (sv (d:=.int _ (-1)) M) M hx149)<|aA M (mvB M M M M)<|aH M M (.one M) M (by decide) (fun hb=>(faR 0 M M M underlying72 M ti3 (lb M) M M))<|aH M M (.one M) M (by decide) (fun hb=>(aR (d:=.int _ _) M M (lb M) underlying3 ag3 ti3 (by decide) (svcR M hb) M (nle M) M))<|aH M M (.one M) M (by decide) (fun hb=>(aO M M (lb M) (svcI M hb) (sv (d:=.int _ 0) M) M hx150))<|aA M (bC M M (lb M) (svB M) M M hx151)<|aE ?_)
  refine aW (b:=_) M (fun hc152=>?_) (fun hc152=>?_)
  ·
   replace h:=bX h hc152
   refine aS (aA M (cV (cs:=q12) M M (lb M) underlying72 ti72 pl72 M (.cons (sv (d:=.int _ 16) M) .nil) M)<|aA M (stA q12 q12 ti72 M M M M M M M M (nle M) M)<|bE ?_)
   refine aJ ⟨(0,16,false),(fun i=>i),⟨(.sames M M),(.cons (EntW.mix aB M (SubC.of_eq M) (SubC.of_eq M) M M) (.cons (.blk M M M) (.cons (EntW.lst M) .nil))),aY [1000,0,1001] M (by decide),fun _ _=>M⟩,?_⟩
   exact h
  ·
   replace h:=bY h hc152
   refine aT ?_
   refine aJ ⟨(a1.dep,a1.weight,a1.only),(fun i=>i),⟨(.sames M M),(.cons (EntW.mix aB M (SubC.of_eq M) (SubC.of_eq M) M M) (.cons (.blk M M M) (.cons (EntW.lst M) .nil))),aY [1000,0,1001] M (by decide),fun _ _=>M⟩,?_⟩
   exact h
 ·
  rintro ⟨v6,v7,v8⟩ h
  unfold kU at h
  refine fL (α:=Int × Int × (List aP) × Int × Int × (List aM) × Int × (List Int)) (fun z=>⟨[(0,.ref 1000 0),(1,.int .i64 a0),(5,.ref 0 0),(6,.int .i64 x1)],[(1000,.blk 60 (mixD aB.toEnc0 (w22 z.1 z.2.1 z.2.2.1 z.2.2.2.1 z.2.2.2.2.1) z.2.2.2.2.2.1 [.int .i64 z.2.2.2.2.2.2.1,.osl 1 (eInt .i64).sz z.2.2.2.2.2.2.2.length])),(0,.blk 72 [.int .i64 v6,.int .i64 v7,.bool v8]),(1,.blk 3 (D.flat (z.2.2.2.2.2.2.2.map (eInt .i64).d)))]⟩) (fun z=>kT a0 x1 v7 v8 z.1 z.2.1 z.2.2.1 z.2.2.2.1 z.2.2.2.2.1 z.2.2.2.2.2.1 z.2.2.2.2.2.2.1 z.2.2.2.2.2.2.2=some r) ?_ ?_
  ·
   obtain ⟨x141,hx141,h⟩:=aK h
   obtain ⟨x142,hx142,h⟩:=aL h
   obtain ⟨x143,hx143,h⟩:=aK h
   refine aF (aA M (mvI M M M M)<|aA M (aO M M (lb M) (svI M) (sv (d:=.int _ (-1)) M) M hx141)<|aA M (mvB M M M M)<|aH M M (.one M) M (by decide) (fun hb=>(mvR M M M M))<|aH M M (.one M) M (by decide) (fun hb=>(mvI M M M M))<|aH M M (.one M) M (by decide) (fun hb=>(mvI M M M M))<|aH M M (.one M) M (by decide) (fun hb=>(iF (r':=.bool x142) (V:=[(1000,.blk 60 (mixD aB.toEnc0 (w22 a2 a3 a4 a5 a6) a7 [.int .i64 a8,.osl 1001 (eInt .i64).sz a9.length])),(1001,.blk 3 (D.flat (a9.map (eInt .i64).d)))]) 1 [1000,1001] M M (lb M) cl45 (.cons (svcR M hb) (.cons (svcI M hb) (.cons (svcI M hb) .nil))) M M M ⟨by decide,M,List.forall_mem_cons.2 ⟨⟨M,M,(jI aB M M M),(cW aB M M)⟩,List.forall_mem_cons.2 ⟨⟨M,M,(fW (eInt .i64) M),(bK (eInt .i64))⟩,List.forall_mem_nil _⟩⟩⟩ (rB _ _ _ _ _ _ _ _ _ _ _ (gd_t hx142 hb)) M M (List.forall_mem_cons.2 ⟨⟨M,(cW aB M M)⟩,List.forall_mem_cons.2 ⟨⟨M,(bK (eInt .i64))⟩,List.forall_mem_nil _⟩⟩) (by simp only [List.map_cons,List.map_nil,Ent.ren,bL,bT,dE]; rfl) (List.forall_mem_cons.2 ⟨M,List.forall_mem_cons.2 ⟨M,List.forall_mem_nil _⟩⟩) M))<|aA M (bC M M (lb M) (svB M) M M hx143)<|aE ?_)
   refine aW (b:=_) M (fun hc144=>?_) (fun hc144=>?_)
   ·
    replace h:=bX h hc144
    obtain ⟨x145,hx145,h⟩:=aL h
    obtain ⟨hk146,h⟩:=iG h
    obtain ⟨x147,hx147,h⟩:=aL h
    obtain ⟨x148,hx148,h⟩:=aL h
    refine aS (aA M (mvR M M M M)<|aA M (mvI M M M M)<|aA M (mvR M M M M)<|aA M (mvI M M M M)<|aA M (aN M M (lb M) (svR M))<|aA M (faR 5 M M M underlying60 M ti58 (lb M) M M)<|aA M (dO aB.toEnc0 M M (lb M) underlying58 ti57 (svR M) hk146 (svI M) hx145)<|aA M (cB M M (lb M) underlying57 M ti3 (by decide) (svR M) (k':=1) M)<|aA M (cI aB.toEnc0 (b:=5) (k:=1) (d:=.int _ _) M M (lb M) underlying3 ag3 ti3 (by decide) (svR M) M M hx147 (nle M) M)<|aA M (bG (r':=.tuple []) (H1':=[(1000,.blk 60 (mixD aB.toEnc0 (w22 x148.1 x148.2.1 x148.2.2.1 x148.2.2.2.1 x148.2.2.2.2.1) x148.2.2.2.2.2.1 [.int .i64 x148.2.2.2.2.2.2.1,.osl 1 (eInt .i64).sz x148.2.2.2.2.2.2.2.length])),(1,.blk 3 (D.flat (x148.2.2.2.2.2.2.2.map (eInt .i64).d)))]) 1 [1000,1001] M M (lb M) cl46 (.cons (svR M) (.cons (svI M) (.cons (svI M) .nil))) M M ⟨M,M,by decide,M,List.forall_mem_cons.2 ⟨⟨M,M,(jI aB M M M),(cW aB M M)⟩,List.forall_mem_cons.2 ⟨⟨M,M,(fW (eInt .i64) M),(bK (eInt .i64))⟩,List.forall_mem_nil _⟩⟩⟩ (iT _ _ _ _ _ _ _ _ _ _ _ hx148) M M (List.forall_mem_cons.2 ⟨⟨M,(cW aB M M)⟩,List.forall_mem_cons.2 ⟨⟨M,(bK (eInt .i64))⟩,List.forall_mem_nil _⟩⟩) (by simp only [List.map_cons,List.map_nil,Ent.ren,bL,bT,dE]; rfl))<|bE ?_)
    refine aJ ⟨(x148.1,x148.2.1,x148.2.2.1,x148.2.2.2.1,x148.2.2.2.2.1,x148.2.2.2.2.2.1,x148.2.2.2.2.2.2.1,x148.2.2.2.2.2.2.2),(fun i=>i),⟨(.sames M M),(.cons (EntW.mix aB M (SubC.of_eq M) (SubC.of_eq M) M M) (.cons (.blk M M M) (.cons (EntW.lst M) .nil))),aY [1000,0,1] M (by decide),fun _ _=>M⟩,?_⟩
    exact h
   ·
    replace h:=bY h hc144
    refine aT ?_
    refine aJ ⟨(a2,a3,a4,a5,a6,a7,a8,a9),(fun i=>if i=1 then 1001 else i),⟨(.sames M M),(.cons (EntW.mix aB M (SubC.of_eq M) (SubC.of_eq M) M M) (.cons (.blk M M M) (.cons (EntW.lst M) .nil))),aY [1000,0,1001] M (by decide),(fun i hi=>by first | rfl | (show (if _ then _ else _)=_; (repeat' split) <;> omega))⟩,?_⟩
    exact h
  ·
   rintro ⟨v17,v18,v19,v20,v21,v22,v23,v24⟩ h
   unfold kT at h
   obtain ⟨x25,hx25,h⟩:=aL h
   refine aF (aA M (mvR M M M M)<|aA M (mvI M M M M)<|aA M (mvI M M M M)<|aA M (bG (r':=.tuple []) (H1':=[(1000,.blk 60 (mixD aB.toEnc0 (w22 x25.1 x25.2.1 x25.2.2.1 x25.2.2.2.1 x25.2.2.2.2.1) x25.2.2.2.2.2.1 [.int .i64 x25.2.2.2.2.2.2.1,.osl 2 (eInt .i64).sz x25.2.2.2.2.2.2.2.length])),(2,.blk 3 (D.flat (x25.2.2.2.2.2.2.2.map (eInt .i64).d)))]) 2 [1000,1] M M (lb M) cl46 (.cons (svR M) (.cons (svI M) (.cons (svI M) .nil))) M M ⟨M,M,by decide,M,List.forall_mem_cons.2 ⟨⟨M,M,(jI aB M M M),(cW aB M M)⟩,List.forall_mem_cons.2 ⟨⟨M,M,(fW (eInt .i64) M),(bK (eInt .i64))⟩,List.forall_mem_nil _⟩⟩⟩ (iT _ _ _ _ _ _ _ _ _ _ _ hx25) M M (List.forall_mem_cons.2 ⟨⟨M,(cW aB M M)⟩,List.forall_mem_cons.2 ⟨⟨M,(bK (eInt .i64))⟩,List.forall_mem_nil _⟩⟩) (by simp only [List.map_cons,List.map_nil,Ent.ren,bL,bT,dE]; rfl))<|aE ?_)
   obtain ⟨x26,hx26,h⟩:=aL h
   obtain ⟨hk27,h⟩:=iG h
   obtain ⟨x28,hx28,h⟩:=aL h
   obtain ⟨x29,hx29,h⟩:=aK h
   refine dN M [⟨[0],[],[(43,.ref 1000 0)],[]⟩,
    ⟨[1],[],[(44,.int .i64 a0)],[]⟩,
    ⟨[5],[],[(45,.ref 0 1)],[]⟩,
    ⟨[45],[0],[(46,.int .i64 v7)],[]⟩,
    ⟨[43],[],[(47,.ref 1000 0)],[]⟩,
    ⟨[47],[],[(48,.ref 1000 5)],[]⟩,
    ⟨[44,48],[],[(49,.ref 1000 (5 + (((a0:Int).toNat) * aB.sz + 0)))],[]⟩,
    ⟨[49],[],[(50,.ref 1000 (5 + (((a0:Int).toNat) * aB.sz + 4)))],[]⟩,
    ⟨[46,50],[1000],[],[(1000,.blk 60 (mixD aB.toEnc0 (w22 x25.1 x25.2.1 x25.2.2.1 x25.2.2.2.1 x25.2.2.2.2.1) x29 [.int .i64 x25.2.2.2.2.2.2.1,.osl 2 (eInt .i64).sz x25.2.2.2.2.2.2.2.length]))]⟩] M ?_ (by kernel_rfl) ?_
   ·refine .cons (lop M M fun S hA=>(aD M M (lb M) (svaR hA M M))) ?_
    refine .cons (lop M M fun S hA=>(aD M M (lb M) (svaI hA M M))) ?_
    refine .cons (lop M M fun S hA=>(bF M M (lb M) underlying72 M ti3 (by decide) (svaR hA M M) (off':=1) M)) ?_
    refine .cons (lop M M fun S hA=>(aR (d:=.int _ _) M M (lb M) underlying3 ag3 ti3 (by decide) (svaR hA M M) (agi hA M M) (nle M) M)) ?_
    refine .cons (lop M M fun S hA=>(aN M M (lb M) (svaR hA M M))) ?_
    refine .cons (lop M M fun S hA=>(bF M M (lb M) underlying60 M ti58 (by decide) (svaR hA M M) (off':=5) M)) ?_
    refine .cons (lop M M fun S hA=>(dO aB.toEnc0 M M (lb M) underlying58 ti57 (svaR hA M M) hk27 (svaI hA M M) hx26)) ?_
    refine .cons (lop M M fun S hA=>(cB M M (lb M) underlying57 M ti3 (by decide) (svaR hA M M) (k':=4) M)) ?_
    refine .cons (lop M M fun S hA=>(jW aB.toEnc0 (b:=5) (k:=4) (a':=(⟨x28.id,x28.up,x28.first,x28.next,v7,x28.closed⟩:aM)) M M ti3 (svaR hA M M) (agi hA M M) (svaI hA M M) M M M M hx28 (nle M) M hx29)) ?_
    exact .nil
   refine aU ?_
   refine aF (aA M (faR 2 M M M underlying72 M ti4 (lb M) M M)<|aA M (aR (d:=.bool _) M M (lb M) underlying4 ag4 ti4 (by decide) (svR M) M (nle M) M)<|aA M (eX M M (lb M) (svB M))<|aE ?_)
   refine aW (b:=_) M (fun hc30=>?_) (fun hc30=>?_)
   ·
    replace h:=bX h hc30
    refine bB ?_
    refine bP ?_
    obtain rfl:=sj_ h
    refine ⟨.inr M,(fun i=>if i=0 then 2 else i),⟨.nil,(.cons (EntW.mix aB M (SubC.of_eq M) (SubC.of_eq M) M M) (.cons (EntW.lst M) .nil)),aY [1000,2] M (by decide),(fun i hi=>by first | rfl | (show (if _ then _ else _)=_; (repeat' split) <;> omega))⟩,.nil,M⟩
   ·
    replace h:=bY h hc30
    refine aT ?_
    refine aJ ?_
    refine aF (aA M (mvR M M M M)<|aA M (mvI M M M M) <|?_)
    refine gI (S':=⟨[(0,.ref 1000 0),(1,.int .i64 a0),(54,.ref 1000 0),(55,.int .i64 x1)],[(2,.blk 3 (D.flat (x25.2.2.2.2.2.2.2.map (eInt .i64).d))),(1000,.blk 60 (mixD aB.toEnc0 (w22 x25.1 x25.2.1 x25.2.2.1 x25.2.2.2.1 x25.2.2.2.2.1) x29 [.int .i64 x25.2.2.2.2.2.2.1,.osl 2 (eInt .i64).sz x25.2.2.2.2.2.2.2.length]))]⟩) (fun i=>i) ⟨(.sames M M),(.cons (EntW.lst M) (.cons (EntW.mix aB M (SubC.of_eq M) (SubC.of_eq M) M M) .nil)),aY [2,1000] M (by decide),fun _ _=>M⟩ ?_
    refine kZ 1 3 M M M (by decide) cl29 func29 M (.cons (svR M) (.cons (svI M) .nil)) ntmps29 (nle M) M hO.semiL fun O1 hO1=>?_
    show IWP _ _ _ _ ⟨[(0,.ref 1000 0),(1,.int .i64 x1)],[(3,.kept 1 [.ref 1000 0,.int .i64 a0,.dead,.dead,.dead,.dead,.dead,.dead,.dead,.dead,.dead,.dead,.dead,.dead,.dead,.dead,.dead,.dead,.dead,.dead,.dead,.dead,.dead,.dead,.dead,.dead,.dead,.dead,.dead,.dead,.dead,.dead,.dead,.dead,.dead,.dead,.dead,.dead,.dead,.dead,.dead,.dead,.dead,.dead,.dead,.dead,.dead,.dead,.dead,.dead,.dead,.dead,.dead,.dead,.ref 1000 0,.int .i64 x1,.dead,.dead,.dead,.dead,.dead,.dead,.dead,.dead,.dead,.dead,.dead,.dead,.dead,.dead,.dead]),(2,.blk 3 (D.flat (x25.2.2.2.2.2.2.2.map (eInt .i64).d))),(1000,.blk 60 (mixD aB.toEnc0 (w22 x25.1 x25.2.1 x25.2.2.1 x25.2.2.2.1 x25.2.2.2.2.1) x29 [.int .i64 x25.2.2.2.2.2.2.1,.osl 2 (eInt .i64).sz x25.2.2.2.2.2.2.2.length]))]⟩ _
    refine aF (aA M (fE (cs:=[.ref _ _]) 4 M M (lb M) M (svR M) M M)<|aA M (fE (cs:=[.int _ _]) 5 M M (lb M) M (svI M) M M)<|aA M (aI M M (lb M) (sv (d:=.nilf) M))<|aE ?_)
    refine aF (aA M (nP M M (lb M) (.cons (svR M) (.cons (svR M) .nil)))<|aA M (aI M M (lb M) (sv (d:=.fn 40 q16) M))<|aE ?_)
    refine bB ?_
    refine ⟨.inr M,3,_,[.fn 40 [.ref 4 0,.ref 5 0]],(.cons (sv M) .nil),M,M,⟨[(0,.ref 1000 0),(1,.int .i64 a0),(56,.fn 40 [.ref 4 0,.ref 5 0])],[(2,.blk 3 (D.flat (x25.2.2.2.2.2.2.2.map (eInt .i64).d))),(4,.blk 26 [.ref 1000 0]),(5,.blk 3 [.int .i64 x1]),(1000,.blk 60 (mixD aB.toEnc0 (w22 x25.1 x25.2.1 x25.2.2.1 x25.2.2.2.1 x25.2.2.2.2.1) x29 [.int .i64 x25.2.2.2.2.2.2.1,.osl 2 (eInt .i64).sz x25.2.2.2.2.2.2.2.length]))]⟩,(fun i=>i),⟨(.sames M M),(.cons (EntW.lst M) (.cons (.blk M M M) (.cons (.blk M M M) (.cons (EntW.mix aB M (SubC.of_eq M) (SubC.of_eq M) M M) .nil)))),aY [2,4,5,1000] M (by decide),fun _ _=>M⟩,?_⟩
    refine gI (S':=⟨[(0,.ref 1000 0),(1,.int .i64 a0),(56,.fn 40 [.ref 4 0,.ref 5 0])],[(2,.blk 3 (D.flat (x25.2.2.2.2.2.2.2.map (eInt .i64).d))),(4,.blk 26 [.ref 1000 0]),(5,.blk 3 [.int .i64 x1]),(1000,.blk 60 (mixD aB.toEnc0 (w22 x25.1 x25.2.1 x25.2.2.1 x25.2.2.2.1 x25.2.2.2.2.1) x29 [.int .i64 x25.2.2.2.2.2.2.1,.osl 2 (eInt .i64).sz x25.2.2.2.2.2.2.2.length]))]⟩) (fun i=>i) ⟨(.sames M M),(.cons (EntW.lst M) (.cons (.blk M M M) (.cons (.blk M M M) (.cons (EntW.mix aB M (SubC.of_eq M) (SubC.of_eq M) M M) .nil)))),aY [2,4,5,1000] M (by decide),fun _ _=>M⟩ ?_
    refine kZ 1 6 M M M (by decide) cl47 func47 M (.cons (sv (d:=.fn 40 q16) M) .nil) ntmps47 (nle M) M hO.semiL fun O1 hO1=>?_
    show IWP _ _ _ _ ⟨[(0,.fn 40 [.ref 4 0,.ref 5 0])],[(6,.kept 1 [.ref 1000 0,.int .i64 a0,.dead,.dead,.dead,.dead,.dead,.dead,.dead,.dead,.dead,.dead,.dead,.dead,.dead,.dead,.dead,.dead,.dead,.dead,.dead,.dead,.dead,.dead,.dead,.dead,.dead,.dead,.dead,.dead,.dead,.dead,.dead,.dead,.dead,.dead,.dead,.dead,.dead,.dead,.dead,.dead,.dead,.dead,.dead,.dead,.dead,.dead,.dead,.dead,.dead,.dead,.dead,.dead,.dead,.dead,.fn 40 [.ref 4 0,.ref 5 0],.dead,.dead,.dead,.dead,.dead,.dead,.dead,.dead,.dead,.dead,.dead,.dead,.dead,.dead]),(2,.blk 3 (D.flat (x25.2.2.2.2.2.2.2.map (eInt .i64).d))),(4,.blk 26 [.ref 1000 0]),(5,.blk 3 [.int .i64 x1]),(1000,.blk 60 (mixD aB.toEnc0 (w22 x25.1 x25.2.1 x25.2.2.1 x25.2.2.2.1 x25.2.2.2.2.1) x29 [.int .i64 x25.2.2.2.2.2.2.1,.osl 2 (eInt .i64).sz x25.2.2.2.2.2.2.2.length]))]⟩ _
    refine aF (aA M (aI M M (lb M) (sv (d:=.nils) M))<|aE ?_)
    refine aF (aA M (aD M M (lb M) (sv (d:=.fn 40 q16) M)) <|?_)
    refine gI (S':=⟨[(3,.fn 40 [.ref 4 0,.ref 5 0])],[(2,.blk 3 (D.flat (x25.2.2.2.2.2.2.2.map (eInt .i64).d))),(4,.blk 26 [.ref 1000 0]),(5,.blk 3 [.int .i64 x1]),(6,.kept 1 [.ref 1000 0,.int .i64 a0,.dead,.dead,.dead,.dead,.dead,.dead,.dead,.dead,.dead,.dead,.dead,.dead,.dead,.dead,.dead,.dead,.dead,.dead,.dead,.dead,.dead,.dead,.dead,.dead,.dead,.dead,.dead,.dead,.dead,.dead,.dead,.dead,.dead,.dead,.dead,.dead,.dead,.dead,.dead,.dead,.dead,.dead,.dead,.dead,.dead,.dead,.dead,.dead,.dead,.dead,.dead,.dead,.dead,.dead,.fn 40 [.ref 4 0,.ref 5 0],.dead,.dead,.dead,.dead,.dead,.dead,.dead,.dead,.dead,.dead,.dead,.dead,.dead,.dead]),(1000,.blk 60 (mixD aB.toEnc0 (w22 x25.1 x25.2.1 x25.2.2.1 x25.2.2.2.1 x25.2.2.2.2.1) x29 [.int .i64 x25.2.2.2.2.2.2.1,.osl 2 (eInt .i64).sz x25.2.2.2.2.2.2.2.length]))]⟩) (fun i=>i) ⟨(.sames M M),(.cons (EntW.lst M) (.cons (.blk M M M) (.cons (.blk M M M) (.cons (.kept M M M) (.cons (EntW.mix aB M (SubC.of_eq M) (SubC.of_eq M) M M) .nil))))),aY [2,4,5,6,1000] M (by decide),fun _ _=>M⟩ ?_
    refine kZ 2 7 M M M (by decide) cl77 func77 M (.cons (sv (d:=.nils) M) (.cons (sv (d:=.fn 40 q16) M) .nil)) ntmps77 (nle M) M hO1 fun O2 hO2=>?_
    show IWP _ _ _ _ ⟨[(0,.nils),(1,.fn 40 [.ref 4 0,.ref 5 0])],[(7,.kept 2 [.dead,.dead,.dead,.fn 40 [.ref 4 0,.ref 5 0],.dead]),(2,.blk 3 (D.flat (x25.2.2.2.2.2.2.2.map (eInt .i64).d))),(4,.blk 26 [.ref 1000 0]),(5,.blk 3 [.int .i64 x1]),(6,.kept 1 [.ref 1000 0,.int .i64 a0,.dead,.dead,.dead,.dead,.dead,.dead,.dead,.dead,.dead,.dead,.dead,.dead,.dead,.dead,.dead,.dead,.dead,.dead,.dead,.dead,.dead,.dead,.dead,.dead,.dead,.dead,.dead,.dead,.dead,.dead,.dead,.dead,.dead,.dead,.dead,.dead,.dead,.dead,.dead,.dead,.dead,.dead,.dead,.dead,.dead,.dead,.dead,.dead,.dead,.dead,.dead,.dead,.dead,.dead,.fn 40 [.ref 4 0,.ref 5 0],.dead,.dead,.dead,.dead,.dead,.dead,.dead,.dead,.dead,.dead,.dead,.dead,.dead,.dead]),(1000,.blk 60 (mixD aB.toEnc0 (w22 x25.1 x25.2.1 x25.2.2.1 x25.2.2.2.1 x25.2.2.2.2.1) x29 [.int .i64 x25.2.2.2.2.2.2.1,.osl 2 (eInt .i64).sz x25.2.2.2.2.2.2.2.length]))]⟩ _
    refine aF (aA M (fE (cs:=[.nils]) 8 M M (lb M) M (sv (d:=.nils) M) M M)<|aA M (aI M M (lb M) (sv (d:=.nils) M))<|aE ?_)
    refine aU ?_
    refine aF (aA M (aD M M (lb M) (sv (d:=.fn 40 q16) M))<|aE ?_)
    refine aV ?_
    refine qM (S':=⟨[(2,.ref 8 0),(6,.fn 40 [.ref 4 0,.ref 5 0])],[(2,.blk 3 (D.flat (x25.2.2.2.2.2.2.2.map (eInt .i64).d))),(4,.blk 26 [.ref 1000 0]),(5,.blk 3 [.int .i64 x1]),(6,.kept 1 [.ref 1000 0,.int .i64 a0,.dead,.dead,.dead,.dead,.dead,.dead,.dead,.dead,.dead,.dead,.dead,.dead,.dead,.dead,.dead,.dead,.dead,.dead,.dead,.dead,.dead,.dead,.dead,.dead,.dead,.dead,.dead,.dead,.dead,.dead,.dead,.dead,.dead,.dead,.dead,.dead,.dead,.dead,.dead,.dead,.dead,.dead,.dead,.dead,.dead,.dead,.dead,.dead,.dead,.dead,.dead,.dead,.dead,.dead,.fn 40 [.ref 4 0,.ref 5 0],.dead,.dead,.dead,.dead,.dead,.dead,.dead,.dead,.dead,.dead,.dead,.dead,.dead,.dead]),(7,.kept 2 [.dead,.dead,.dead,.fn 40 [.ref 4 0,.ref 5 0],.dead]),(8,.blk 24 [.nils]),(1000,.blk 60 (mixD aB.toEnc0 (w22 x25.1 x25.2.1 x25.2.2.1 x25.2.2.2.1 x25.2.2.2.2.1) x29 [.int .i64 x25.2.2.2.2.2.2.1,.osl 2 (eInt .i64).sz x25.2.2.2.2.2.2.2.length]))]⟩) (fun i=>i) ⟨(.sames M M),(.cons (EntW.lst M) (.cons (.blk M M M) (.cons (.blk M M M) (.cons (.kept M M M) (.cons (.kept M M M) (.cons (.blk M M M) (.cons (EntW.mix aB M (SubC.of_eq M) (SubC.of_eq M) M M) .nil))))))),aY [2,4,5,6,7,8,1000] M (by decide),fun _ _=>M⟩ ?_
    refine qY 3 9 10 (sv (d:=.fn 40 q16) M) cl40 func40 M M ntmps40 (nle M) M M hO2 (List.forall_mem_cons.2 ⟨⟨7,_,M⟩,List.forall_mem_cons.2 ⟨⟨6,_,M⟩,List.forall_mem_nil _⟩⟩) fun O3 hO3 hlc3=>?_
    show IWP _ _ _ _ ⟨[(0,.yld 9),(1,.ref 4 0),(2,.ref 5 0)],[(10,.kept 3 [.dead,.dead,.ref 8 0,.dead,.dead,.dead,.fn 40 [.ref 4 0,.ref 5 0],.dead,.dead,.dead,.dead,.dead,.dead]),(9,.loop 3 [.dead,.dead,.ref 8 0,.dead,.dead,.dead,.fn 40 [.ref 4 0,.ref 5 0],.dead,.dead,.dead,.dead,.dead,.dead] .ready none),(2,.blk 3 (D.flat (x25.2.2.2.2.2.2.2.map (eInt .i64).d))),(4,.blk 26 [.ref 1000 0]),(5,.blk 3 [.int .i64 x1]),(6,.kept 1 [.ref 1000 0,.int .i64 a0,.dead,.dead,.dead,.dead,.dead,.dead,.dead,.dead,.dead,.dead,.dead,.dead,.dead,.dead,.dead,.dead,.dead,.dead,.dead,.dead,.dead,.dead,.dead,.dead,.dead,.dead,.dead,.dead,.dead,.dead,.dead,.dead,.dead,.dead,.dead,.dead,.dead,.dead,.dead,.dead,.dead,.dead,.dead,.dead,.dead,.dead,.dead,.dead,.dead,.dead,.dead,.dead,.dead,.dead,.fn 40 [.ref 4 0,.ref 5 0],.dead,.dead,.dead,.dead,.dead,.dead,.dead,.dead,.dead,.dead,.dead,.dead,.dead,.dead]),(7,.kept 2 [.dead,.dead,.dead,.fn 40 [.ref 4 0,.ref 5 0],.dead]),(8,.blk 24 [.nils]),(1000,.blk 60 (mixD aB.toEnc0 (w22 x25.1 x25.2.1 x25.2.2.1 x25.2.2.2.1 x25.2.2.2.2.1) x29 [.int .i64 x25.2.2.2.2.2.2.1,.osl 2 (eInt .i64).sz x25.2.2.2.2.2.2.2.length]))]⟩ _
    refine aF (aA M (aR (d:=.ref _ _) M M (lb M) underlying26 ag26 ti26 (by decide) (svR M) M (nle M) M)<|aA M (aR (d:=.int _ _) M M (lb M) underlying3 ag3 ti3 (by decide) (svR M) M (nle M) M) <|?_)
    refine gI (S':=⟨[(0,.yld 9),(1,.ref 4 0),(6,.ref 1000 0),(7,.int .i64 x1)],[(2,.blk 3 (D.flat (x25.2.2.2.2.2.2.2.map (eInt .i64).d))),(4,.blk 26 [.ref 1000 0]),(5,.blk 3 [.int .i64 x1]),(6,.kept 1 [.ref 1000 0,.int .i64 a0,.dead,.dead,.dead,.dead,.dead,.dead,.dead,.dead,.dead,.dead,.dead,.dead,.dead,.dead,.dead,.dead,.dead,.dead,.dead,.dead,.dead,.dead,.dead,.dead,.dead,.dead,.dead,.dead,.dead,.dead,.dead,.dead,.dead,.dead,.dead,.dead,.dead,.dead,.dead,.dead,.dead,.dead,.dead,.dead,.dead,.dead,.dead,.dead,.dead,.dead,.dead,.dead,.dead,.dead,.fn 40 [.ref 4 0,.ref 5 0],.dead,.dead,.dead,.dead,.dead,.dead,.dead,.dead,.dead,.dead,.dead,.dead,.dead,.dead]),(7,.kept 2 [.dead,.dead,.dead,.fn 40 [.ref 4 0,.ref 5 0],.dead]),(8,.blk 24 [.nils]),(9,.loop 3 [.dead,.dead,.ref 8 0,.dead,.dead,.dead,.fn 40 [.ref 4 0,.ref 5 0],.dead,.dead,.dead,.dead,.dead,.dead] .ready none),(10,.kept 3 [.dead,.dead,.ref 8 0,.dead,.dead,.dead,.fn 40 [.ref 4 0,.ref 5 0],.dead,.dead,.dead,.dead,.dead,.dead]),(1000,.blk 60 (mixD aB.toEnc0 (w22 x25.1 x25.2.1 x25.2.2.1 x25.2.2.2.1 x25.2.2.2.2.1) x29 [.int .i64 x25.2.2.2.2.2.2.1,.osl 2 (eInt .i64).sz x25.2.2.2.2.2.2.2.length]))]⟩) (fun i=>i) ⟨(.sames M M),(.cons (EntW.lst M) (.cons (.blk M M M) (.cons (.blk M M M) (.cons (.kept M M M) (.cons (.kept M M M) (.cons (.blk M M M) (.cons (.loop M M M) (.cons (.kept M M M) (.cons (EntW.mix aB M (SubC.of_eq M) (SubC.of_eq M) M M) .nil))))))))),aY [2,4,5,6,7,8,9,10,1000] M (by decide),fun _ _=>M⟩ ?_
    refine kZ 4 11 M M M (by decide) cl41 func41 M (.cons (svR M) (.cons (svI M) .nil)) ntmps41 (nle M) M hO3 fun O4 hO4=>?_
    show IWP _ _ _ _ ⟨[(0,.ref 1000 0),(1,.int .i64 x1)],[(11,.kept 4 [.yld 9,.ref 4 0,.dead,.dead,.dead,.dead,.ref 1000 0,.int .i64 x1,.dead,.dead,.dead,.dead,.dead,.dead,.dead,.dead,.dead,.dead,.dead,.dead,.dead,.dead,.dead,.dead,.dead]),(2,.blk 3 (D.flat (x25.2.2.2.2.2.2.2.map (eInt .i64).d))),(4,.blk 26 [.ref 1000 0]),(5,.blk 3 [.int .i64 x1]),(6,.kept 1 [.ref 1000 0,.int .i64 a0,.dead,.dead,.dead,.dead,.dead,.dead,.dead,.dead,.dead,.dead,.dead,.dead,.dead,.dead,.dead,.dead,.dead,.dead,.dead,.dead,.dead,.dead,.dead,.dead,.dead,.dead,.dead,.dead,.dead,.dead,.dead,.dead,.dead,.dead,.dead,.dead,.dead,.dead,.dead,.dead,.dead,.dead,.dead,.dead,.dead,.dead,.dead,.dead,.dead,.dead,.dead,.dead,.dead,.dead,.fn 40 [.ref 4 0,.ref 5 0],.dead,.dead,.dead,.dead,.dead,.dead,.dead,.dead,.dead,.dead,.dead,.dead,.dead,.dead]),(7,.kept 2 [.dead,.dead,.dead,.fn 40 [.ref 4 0,.ref 5 0],.dead]),(8,.blk 24 [.nils]),(9,.loop 3 [.dead,.dead,.ref 8 0,.dead,.dead,.dead,.fn 40 [.ref 4 0,.ref 5 0],.dead,.dead,.dead,.dead,.dead,.dead] .ready none),(10,.kept 3 [.dead,.dead,.ref 8 0,.dead,.dead,.dead,.fn 40 [.ref 4 0,.ref 5 0],.dead,.dead,.dead,.dead,.dead,.dead]),(1000,.blk 60 (mixD aB.toEnc0 (w22 x25.1 x25.2.1 x25.2.2.1 x25.2.2.2.1 x25.2.2.2.2.1) x29 [.int .i64 x25.2.2.2.2.2.2.1,.osl 2 (eInt .i64).sz x25.2.2.2.2.2.2.2.length]))]⟩ _
    refine aF (aA M (aI M M (lb M) (sv (d:=.nilp) M))<|aE ?_)
    refine aU ?_
    obtain ⟨x31,hx31,h⟩:=aK h
    refine aF (aA M (mvI M M M M)<|aA M (aO M M (lb M) (svI M) (sv (d:=.int _ (-1)) M) M hx31)<|aE ?_)
    refine aW (b:=_) M (fun hc32=>?_) (fun hc32=>?_)
    ·
     replace h:=bX h hc32
     refine aF (aA M (mvR M M M M)<|aA M (aN M M (lb M) (svR M))<|aA M (faR 389 M M M underlying60 M ti3 (lb M) M M)<|aA M (aI M M (lb M) (svR M))<|aE ?_)
     refine bB ?_
     refine bP ?_
     refine ⟨.inr M,11,_,[.ref 1000 389],(.cons (sv M) .nil),M,M,⟨[(0,.yld 9),(1,.ref 4 0),(8,.ref 1000 389)],[(2,.blk 3 (D.flat (x25.2.2.2.2.2.2.2.map (eInt .i64).d))),(4,.blk 26 [.ref 1000 0]),(5,.blk 3 [.int .i64 x1]),(6,.kept 1 [.ref 1000 0,.int .i64 a0,.dead,.dead,.dead,.dead,.dead,.dead,.dead,.dead,.dead,.dead,.dead,.dead,.dead,.dead,.dead,.dead,.dead,.dead,.dead,.dead,.dead,.dead,.dead,.dead,.dead,.dead,.dead,.dead,.dead,.dead,.dead,.dead,.dead,.dead,.dead,.dead,.dead,.dead,.dead,.dead,.dead,.dead,.dead,.dead,.dead,.dead,.dead,.dead,.dead,.dead,.dead,.dead,.dead,.dead,.fn 40 [.ref 4 0,.ref 5 0],.dead,.dead,.dead,.dead,.dead,.dead,.dead,.dead,.dead,.dead,.dead,.dead,.dead,.dead]),(7,.kept 2 [.dead,.dead,.dead,.fn 40 [.ref 4 0,.ref 5 0],.dead]),(8,.blk 24 [.nils]),(9,.loop 3 [.dead,.dead,.ref 8 0,.dead,.dead,.dead,.fn 40 [.ref 4 0,.ref 5 0],.dead,.dead,.dead,.dead,.dead,.dead] .ready none),(10,.kept 3 [.dead,.dead,.ref 8 0,.dead,.dead,.dead,.fn 40 [.ref 4 0,.ref 5 0],.dead,.dead,.dead,.dead,.dead,.dead]),(1000,.blk 60 (mixD aB.toEnc0 (w22 x25.1 x25.2.1 x25.2.2.1 x25.2.2.2.1 x25.2.2.2.2.1) x29 [.int .i64 x25.2.2.2.2.2.2.1,.osl 2 (eInt .i64).sz x25.2.2.2.2.2.2.2.length]))]⟩,(fun i=>i),⟨(.sames M M),(.cons (EntW.lst M) (.cons (.blk M M M) (.cons (.blk M M M) (.cons (.kept M M M) (.cons (.kept M M M) (.cons (.blk M M M) (.cons (.loop M M M) (.cons (.kept M M M) (.cons (EntW.mix aB M (SubC.of_eq M) (SubC.of_eq M) M M) .nil))))))))),aY [2,4,5,6,7,8,9,10,1000] M (by decide),fun _ _=>M⟩,?_⟩
     refine aA M (aN M M (lb M) (svR M))<|aA M (gW aB.toEnc0 (d:=.int _ _) (n:=64) (k:=0) M M (lb M) underlying3 ag3 ti3 (by decide) (svR M) M (bV hx29 hk27) (by rfl) (nle M) (by rfl))<|aA M (asI M M M M)<|aE ?_
     refine aV ?_
     refine bS (α:=Nat × Int × (List Int)) (fun z=>⟨[(0,.yld 9),(1,.ref 4 0),(4,.int .i64 z.2.1)],[(9,.loop 3 [.dead,.dead,.ref 8 0,.dead,.dead,.dead,.fn 40 [.ref 4 0,.ref 5 0],.dead,.dead,.dead,.dead,.dead,.dead] .ready none),(4,.blk 26 [.ref 1000 0]),(6,.kept 1 [.ref 1000 0,.int .i64 a0,.dead,.dead,.dead,.dead,.dead,.dead,.dead,.dead,.dead,.dead,.dead,.dead,.dead,.dead,.dead,.dead,.dead,.dead,.dead,.dead,.dead,.dead,.dead,.dead,.dead,.dead,.dead,.dead,.dead,.dead,.dead,.dead,.dead,.dead,.dead,.dead,.dead,.dead,.dead,.dead,.dead,.dead,.dead,.dead,.dead,.dead,.dead,.dead,.dead,.dead,.dead,.dead,.dead,.dead,.fn 40 [.ref 4 0,.ref 5 0],.dead,.dead,.dead,.dead,.dead,.dead,.dead,.dead,.dead,.dead,.dead,.dead,.dead,.dead]),(7,.kept 2 [.dead,.dead,.dead,.fn 40 [.ref 4 0,.ref 5 0],.dead]),(10,.kept 3 [.dead,.dead,.ref 8 0,.dead,.dead,.dead,.fn 40 [.ref 4 0,.ref 5 0],.dead,.dead,.dead,.dead,.dead,.dead]),(1000,.blk 60 (mixD aB.toEnc0 (w22 x25.1 x25.2.1 x25.2.2.1 x25.2.2.2.1 x25.2.2.2.2.1) x29 [.int .i64 x25.2.2.2.2.2.2.1,.osl 2 (eInt .i64).sz x25.2.2.2.2.2.2.2.length])),(8,.blk 24 [.osl 32 (eInt .i64).sz z.2.2.length]),(5,.blk 3 [.int .i64 x1]),(2,.blk 3 (D.flat (x25.2.2.2.2.2.2.2.map (eInt .i64).d))),(32,.blk 3 (D.flat (z.2.2.map (eInt .i64).d)))]⟩) (fun z=>jB a0 x25 x29 z.1 z.2.1 z.2.2=some r) (fun z=>z.1) (fuel,x25.2.2.2.2.2.2.1,([]:(List Int))) (fun i=>if i=32 then 94 else i) ⟨(.sames M M),(.cons (.loop M M M) (.cons (.blk M M M) (.cons (.kept M M M) (.cons (.kept M M M) (.cons (.kept M M M) (.cons (EntW.mix aB M (SubC.of_eq M) (SubC.of_eq M) M M) (.cons (.sub M (.nilo .nil) M) (.cons (.blk M M M) (.cons (EntW.lst M) (.cons (.nilb M) .nil)))))))))),aY [9,4,6,7,10,1000,8,5,2,94] M (by decide),(fun i hi=>by first | rfl | (show (if _ then _ else _)=_; (repeat' split) <;> omega))⟩ ?_ ?_
     ·exact h
     ·
      rintro ⟨n2,v38,v39⟩ h
      cases n2 with
      | zero=>exact absurd h (by unfold jB; exact nofun)
      | succ n2 =>
       unfold jB at h
       refine aU ?_
       obtain ⟨x45,hx45,h⟩:=aK h
       refine aF (aA M (mvI M M M M)<|aA M (aO M M (lb M) (svI M) (sv (d:=.int _ (-1)) M) M hx45)<|aE ?_)
       refine aW (b:=_) M (fun hc46=>?_) (fun hc46=>?_)
       ·
        replace h:=bX h hc46
        refine aT ?_
        refine aJ ?_
        refine aV ?_
        obtain ⟨x47,hx47,h⟩:=aL h
        obtain ⟨x48,hx48,h⟩:=aL h
        refine aF (aA M (aR (d:=.ref _ _) M M (lb M) underlying26 ag26 ti26 (by decide) (svR M) M (nle M) M)<|aA M (mvI M M M M)<|aA M (aN M M (lb M) (svR M))<|aA M (faR 5 M M M underlying60 M ti58 (lb M) M M)<|aA M (dO aB.toEnc0 M M (lb M) underlying58 ti57 (svR M) (bV hx29 hk27) (svI M) hx47)<|aA M (cB M M (lb M) underlying57 M ti3 (by decide) (svR M) (k':=3) M)<|aA M (cI aB.toEnc0 (b:=5) (k:=3) (d:=.int _ _) M M (lb M) underlying3 ag3 ti3 (by decide) (svR M) M M hx48 (nle M) M)<|aA M (asI M M M M)<|aE ?_)
        refine aU ?_
        refine aF (aA M (aD M M (lb M) (sv (d:=.yld _) M))<|aA M (mvI M M M M) <|?_)
        refine gI (S':=⟨[(0,.yld 9),(1,.ref 4 0),(5,.int .i64 x48.next),(20,.yld 9),(21,.int .i64 v38)],[(2,.blk 3 (D.flat (x25.2.2.2.2.2.2.2.map (eInt .i64).d))),(4,.blk 26 [.ref 1000 0]),(5,.blk 3 [.int .i64 x1]),(6,.kept 1 [.ref 1000 0,.int .i64 a0,.dead,.dead,.dead,.dead,.dead,.dead,.dead,.dead,.dead,.dead,.dead,.dead,.dead,.dead,.dead,.dead,.dead,.dead,.dead,.dead,.dead,.dead,.dead,.dead,.dead,.dead,.dead,.dead,.dead,.dead,.dead,.dead,.dead,.dead,.dead,.dead,.dead,.dead,.dead,.dead,.dead,.dead,.dead,.dead,.dead,.dead,.dead,.dead,.dead,.dead,.dead,.dead,.dead,.dead,.fn 40 [.ref 4 0,.ref 5 0],.dead,.dead,.dead,.dead,.dead,.dead,.dead,.dead,.dead,.dead,.dead,.dead,.dead,.dead]),(7,.kept 2 [.dead,.dead,.dead,.fn 40 [.ref 4 0,.ref 5 0],.dead]),(8,.blk 24 [.osl 32 (eInt .i64).sz v39.length]),(9,.loop 3 [.dead,.dead,.ref 8 0,.dead,.dead,.dead,.fn 40 [.ref 4 0,.ref 5 0],.dead,.dead,.dead,.dead,.dead,.dead] .ready none),(10,.kept 3 [.dead,.dead,.ref 8 0,.dead,.dead,.dead,.fn 40 [.ref 4 0,.ref 5 0],.dead,.dead,.dead,.dead,.dead,.dead]),(32,.blk 3 (D.flat (v39.map (eInt .i64).d))),(1000,.blk 60 (mixD aB.toEnc0 (w22 x25.1 x25.2.1 x25.2.2.1 x25.2.2.2.1 x25.2.2.2.2.1) x29 [.int .i64 x25.2.2.2.2.2.2.1,.osl 2 (eInt .i64).sz x25.2.2.2.2.2.2.2.length]))]⟩) (fun i=>i) ⟨(.sames M M),(.cons (EntW.lst M) (.cons (.blk M M M) (.cons (.blk M M M) (.cons (.kept M M M) (.cons (.kept M M M) (.cons (.blk M M M) (.cons (.loop M M M) (.cons (.kept M M M) (.cons (EntW.lst M) (.cons (EntW.mix aB M (SubC.of_eq M) (SubC.of_eq M) M M) .nil)))))))))),aY [2,4,5,6,7,8,9,10,32,1000] M (by decide),fun _ _=>M⟩ ?_
        refine pC 4 9 33 M M M (by decide) M (.cons (svI M) .nil) M M M M M M hO3.round hlc3 ⟨[(7,.int .i64 v38),(2,.ref 8 0)],[(2,.blk 3 (D.flat (x25.2.2.2.2.2.2.2.map (eInt .i64).d))),(4,.blk 26 [.ref 1000 0]),(5,.blk 3 [.int .i64 x1]),(6,.kept 1 [.ref 1000 0,.int .i64 a0,.dead,.dead,.dead,.dead,.dead,.dead,.dead,.dead,.dead,.dead,.dead,.dead,.dead,.dead,.dead,.dead,.dead,.dead,.dead,.dead,.dead,.dead,.dead,.dead,.dead,.dead,.dead,.dead,.dead,.dead,.dead,.dead,.dead,.dead,.dead,.dead,.dead,.dead,.dead,.dead,.dead,.dead,.dead,.dead,.dead,.dead,.dead,.dead,.dead,.dead,.dead,.dead,.dead,.dead,.fn 40 [.ref 4 0,.ref 5 0],.dead,.dead,.dead,.dead,.dead,.dead,.dead,.dead,.dead,.dead,.dead,.dead,.dead,.dead]),(7,.kept 2 [.dead,.dead,.dead,.fn 40 [.ref 4 0,.ref 5 0],.dead]),(8,.blk 24 [.osl 32 (eInt .i64).sz v39.length]),(9,.loop 3 [.dead,.dead,.ref 8 0,.dead,.dead,.dead,.fn 40 [.ref 4 0,.ref 5 0],.dead,.dead,.dead,.dead,.dead,.dead] .ready none),(10,.kept 3 [.dead,.dead,.ref 8 0,.dead,.dead,.dead,.fn 40 [.ref 4 0,.ref 5 0],.dead,.dead,.dead,.dead,.dead,.dead]),(32,.blk 3 (D.flat (v39.map (eInt .i64).d))),(33,.kept 4 [.yld 9,.ref 4 0,.dead,.dead,.dead,.int .i64 x48.next,.dead,.dead,.dead,.dead,.dead,.dead,.dead,.dead,.dead,.dead,.dead,.dead,.dead,.dead,.yld 9,.int .i64 v38,.dead,.dead,.dead]),(1000,.blk 60 (mixD aB.toEnc0 (w22 x25.1 x25.2.1 x25.2.2.1 x25.2.2.2.1 x25.2.2.2.2.1) x29 [.int .i64 x25.2.2.2.2.2.2.1,.osl 2 (eInt .i64).sz x25.2.2.2.2.2.2.2.length]))]⟩ (fun i=>i) ⟨(.sames M M),(.cons (EntW.lst M) (.cons (.blk M M M) (.cons (.blk M M M) (.cons (.kept M M M) (.cons (.kept M M M) (.cons (.blk M M M) (.cons (.loop M M M) (.cons (.kept M M M) (.cons (EntW.lst M) (.cons (.kept M M M) (.cons (EntW.mix aB M (SubC.of_eq M) (SubC.of_eq M) M M) .nil))))))))))),aY [2,4,5,6,7,8,9,10,32,33,1000] M (by decide),fun _ _=>M⟩ fun O4=>?_
        refine aS (aA M (asI M M M M)<|bE ?_)
        refine ⟨M,9,_,M,⟨[(2,.ref 8 0),(5,.int .i64 v38)],[(2,.blk 3 (D.flat (x25.2.2.2.2.2.2.2.map (eInt .i64).d))),(4,.blk 26 [.ref 1000 0]),(5,.blk 3 [.int .i64 x1]),(6,.kept 1 [.ref 1000 0,.int .i64 a0,.dead,.dead,.dead,.dead,.dead,.dead,.dead,.dead,.dead,.dead,.dead,.dead,.dead,.dead,.dead,.dead,.dead,.dead,.dead,.dead,.dead,.dead,.dead,.dead,.dead,.dead,.dead,.dead,.dead,.dead,.dead,.dead,.dead,.dead,.dead,.dead,.dead,.dead,.dead,.dead,.dead,.dead,.dead,.dead,.dead,.dead,.dead,.dead,.dead,.dead,.dead,.dead,.dead,.dead,.fn 40 [.ref 4 0,.ref 5 0],.dead,.dead,.dead,.dead,.dead,.dead,.dead,.dead,.dead,.dead,.dead,.dead,.dead,.dead]),(7,.kept 2 [.dead,.dead,.dead,.fn 40 [.ref 4 0,.ref 5 0],.dead]),(8,.blk 24 [.osl 32 (eInt .i64).sz v39.length]),(9,.loop 3 [.dead,.dead,.ref 8 0,.dead,.dead,.dead,.fn 40 [.ref 4 0,.ref 5 0],.dead,.dead,.dead,.dead,.dead,.dead] .busy none),(10,.kept 3 [.dead,.dead,.ref 8 0,.dead,.dead,.dead,.fn 40 [.ref 4 0,.ref 5 0],.dead,.dead,.dead,.dead,.dead,.dead]),(32,.blk 3 (D.flat (v39.map (eInt .i64).d))),(33,.kept 4 [.yld 9,.ref 4 0,.dead,.dead,.dead,.int .i64 x48.next,.dead,.dead,.dead,.dead,.dead,.dead,.dead,.dead,.dead,.dead,.dead,.dead,.dead,.dead,.yld 9,.int .i64 v38,.dead,.dead,.dead]),(1000,.blk 60 (mixD aB.toEnc0 (w22 x25.1 x25.2.1 x25.2.2.1 x25.2.2.2.1 x25.2.2.2.2.1) x29 [.int .i64 x25.2.2.2.2.2.2.1,.osl 2 (eInt .i64).sz x25.2.2.2.2.2.2.2.length]))]⟩,(fun i=>i),⟨(.sames M M),(.cons (EntW.lst M) (.cons (.blk M M M) (.cons (.blk M M M) (.cons (.kept M M M) (.cons (.kept M M M) (.cons (.blk M M M) (.cons (.loop M M M) (.cons (.kept M M M) (.cons (EntW.lst M) (.cons (.kept M M M) (.cons (EntW.mix aB M (SubC.of_eq M) (SubC.of_eq M) M M) .nil))))))))))),aY [2,4,5,6,7,8,9,10,32,33,1000] M (by decide),fun _ _=>M⟩,?_⟩
        refine aV ?_
        obtain ⟨x49,hx49,h⟩:=aL h
        refine aS (aA M (aR (d:=.osl _ _ _) M M (lb M) underlying24 ag24 ti24 (by decide) (svR M) M (nle M) M)<|aA M (mvI M M M M)<|aA M (nM (eInt .i64).toEnc0 ([v38]:(List Int)) 34 M M (lb M) underlying24 ti3 M (.cons (svI M) .nil) M M (by decide))<|aA M (lZ (eInt .i64).toEnc0 35 M M (lb M) underlying24 ti3 M M M M M (rQ (eInt .i64).toEnc0 M M M) hx49)<|aA M (fD (ds':=[.osl _ _ _]) M M ti24 (svR M) M (sv (d:=.osl _ _ _) M) M M M (nle M) M)<|bE ?_)
        refine bI ?_
        refine ⟨9,33,_,_,none,M,M,M,M,(by decide),⟨[(0,.yld 9),(1,.ref 4 0),(5,.int .i64 x48.next),(22,.bool true)],[(2,.blk 3 (D.flat (x25.2.2.2.2.2.2.2.map (eInt .i64).d))),(4,.blk 26 [.ref 1000 0]),(5,.blk 3 [.int .i64 x1]),(6,.kept 1 [.ref 1000 0,.int .i64 a0,.dead,.dead,.dead,.dead,.dead,.dead,.dead,.dead,.dead,.dead,.dead,.dead,.dead,.dead,.dead,.dead,.dead,.dead,.dead,.dead,.dead,.dead,.dead,.dead,.dead,.dead,.dead,.dead,.dead,.dead,.dead,.dead,.dead,.dead,.dead,.dead,.dead,.dead,.dead,.dead,.dead,.dead,.dead,.dead,.dead,.dead,.dead,.dead,.dead,.dead,.dead,.dead,.dead,.dead,.fn 40 [.ref 4 0,.ref 5 0],.dead,.dead,.dead,.dead,.dead,.dead,.dead,.dead,.dead,.dead,.dead,.dead,.dead,.dead]),(7,.kept 2 [.dead,.dead,.dead,.fn 40 [.ref 4 0,.ref 5 0],.dead]),(8,.blk 24 [.osl 35 (eInt .i64).sz x49.length]),(9,.loop 3 [.dead,.dead,.ref 8 0,.dead,.dead,.dead,.fn 40 [.ref 4 0,.ref 5 0],.dead,.dead,.dead,.dead,.dead,.dead] .ready none),(10,.kept 3 [.dead,.dead,.ref 8 0,.dead,.dead,.dead,.fn 40 [.ref 4 0,.ref 5 0],.dead,.dead,.dead,.dead,.dead,.dead]),(35,.blk 3 (D.flat (x49.map (eInt .i64).d))),(1000,.blk 60 (mixD aB.toEnc0 (w22 x25.1 x25.2.1 x25.2.2.1 x25.2.2.2.1 x25.2.2.2.2.1) x29 [.int .i64 x25.2.2.2.2.2.2.1,.osl 2 (eInt .i64).sz x25.2.2.2.2.2.2.2.length]))]⟩,(fun i=>i),⟨(.sames M M),(.cons (EntW.lst M) (.cons (.blk M M M) (.cons (.blk M M M) (.cons (.kept M M M) (.cons (.kept M M M) (.cons (.blk M M M) (.cons (.loop M M M) (.cons (.kept M M M) (.cons (EntW.lst M) (.cons (EntW.mix aB M (SubC.of_eq M) (SubC.of_eq M) M M) .nil)))))))))),aY [2,4,5,6,7,8,9,10,35,1000] M (by decide),fun _ _=>M⟩,?_⟩
        refine aA M (eX M M (lb M) (svB M))<|aE ?_
        refine gM M M ?_
        refine aT ?_
        refine aJ ?_
        refine aS (aA M (mvI M M M M)<|aA M (asI M M M M)<|bE ?_)
        refine bI ?_
        refine aJ ⟨(n2,x48.next,x49),(fun i=>if i=32 then 35 else i),⟨(.sames M M),(.cons (.loop M M M) (.cons (.blk M M M) (.cons (.kept M M M) (.cons (.kept M M M) (.cons (.kept M M M) (.cons (EntW.mix aB M (SubC.of_eq M) (SubC.of_eq M) M M) (.cons (.blk M M M) (.cons (.blk M M M) (.cons (EntW.lst M) (.cons (EntW.lst M) .nil)))))))))),aY [9,4,6,7,10,1000,8,5,2,35] M (by decide),(fun i hi=>by first | rfl | (show (if _ then _ else _)=_; (repeat' split) <;> omega))⟩,?_,?_⟩
        exact h
        exact Nat.lt_succ_self _
       ·
        replace h:=bY h hc46
        refine cA ?_
        refine bD ?_
        refine bD ?_
        refine cC ?_
        refine ⟨.inl M,9,10,_,_,_,_,M,(by simp),M,M,⟨[(2,.ref 8 0)],[(2,.blk 3 (D.flat (x25.2.2.2.2.2.2.2.map (eInt .i64).d))),(4,.blk 26 [.ref 1000 0]),(5,.blk 3 [.int .i64 x1]),(6,.kept 1 [.ref 1000 0,.int .i64 a0,.dead,.dead,.dead,.dead,.dead,.dead,.dead,.dead,.dead,.dead,.dead,.dead,.dead,.dead,.dead,.dead,.dead,.dead,.dead,.dead,.dead,.dead,.dead,.dead,.dead,.dead,.dead,.dead,.dead,.dead,.dead,.dead,.dead,.dead,.dead,.dead,.dead,.dead,.dead,.dead,.dead,.dead,.dead,.dead,.dead,.dead,.dead,.dead,.dead,.dead,.dead,.dead,.dead,.dead,.fn 40 [.ref 4 0,.ref 5 0],.dead,.dead,.dead,.dead,.dead,.dead,.dead,.dead,.dead,.dead,.dead,.dead,.dead,.dead]),(7,.kept 2 [.dead,.dead,.dead,.fn 40 [.ref 4 0,.ref 5 0],.dead]),(8,.blk 24 [.osl 32 (eInt .i64).sz v39.length]),(32,.blk 3 (D.flat (v39.map (eInt .i64).d))),(1000,.blk 60 (mixD aB.toEnc0 (w22 x25.1 x25.2.1 x25.2.2.1 x25.2.2.2.1 x25.2.2.2.2.1) x29 [.int .i64 x25.2.2.2.2.2.2.1,.osl 2 (eInt .i64).sz x25.2.2.2.2.2.2.2.length]))]⟩,(fun i=>i),⟨(.sames M M),(.cons (EntW.lst M) (.cons (.blk M M M) (.cons (.blk M M M) (.cons (.kept M M M) (.cons (.kept M M M) (.cons (.blk M M M) (.cons (EntW.lst M) (.cons (EntW.mix aB M (SubC.of_eq M) (SubC.of_eq M) M M) .nil)))))))),aY [2,4,5,6,7,8,32,1000] M (by decide),fun _ _=>M⟩,?_⟩
        refine bI ?_
        refine aJ ?_
        refine aF (aA M (aR (d:=.osl _ _ _) M M (lb M) underlying24 ag24 ti24 (by decide) (svR M) M (nle M) M)<|aA M (aI M M (lb M) (sv (d:=.osl _ _ _) M))<|aE ?_)
        refine bB ?_
        refine ⟨.inr M,7,_,[.osl 32 (eInt .i64).sz v39.length],(.cons (sv M) .nil),M,M,⟨[(4,.osl 32 (eInt .i64).sz v39.length)],[(2,.blk 3 (D.flat (x25.2.2.2.2.2.2.2.map (eInt .i64).d))),(4,.blk 26 [.ref 1000 0]),(5,.blk 3 [.int .i64 x1]),(6,.kept 1 [.ref 1000 0,.int .i64 a0,.dead,.dead,.dead,.dead,.dead,.dead,.dead,.dead,.dead,.dead,.dead,.dead,.dead,.dead,.dead,.dead,.dead,.dead,.dead,.dead,.dead,.dead,.dead,.dead,.dead,.dead,.dead,.dead,.dead,.dead,.dead,.dead,.dead,.dead,.dead,.dead,.dead,.dead,.dead,.dead,.dead,.dead,.dead,.dead,.dead,.dead,.dead,.dead,.dead,.dead,.dead,.dead,.dead,.dead,.fn 40 [.ref 4 0,.ref 5 0],.dead,.dead,.dead,.dead,.dead,.dead,.dead,.dead,.dead,.dead,.dead,.dead,.dead,.dead]),(32,.blk 3 (D.flat (v39.map (eInt .i64).d))),(1000,.blk 60 (mixD aB.toEnc0 (w22 x25.1 x25.2.1 x25.2.2.1 x25.2.2.2.1 x25.2.2.2.2.1) x29 [.int .i64 x25.2.2.2.2.2.2.1,.osl 2 (eInt .i64).sz x25.2.2.2.2.2.2.2.length]))]⟩,(fun i=>i),⟨(.sames M M),(.cons (EntW.lst M) (.cons (.blk M M M) (.cons (.blk M M M) (.cons (.kept M M M) (.cons (EntW.lst M) (.cons (EntW.mix aB M (SubC.of_eq M) (SubC.of_eq M) M M) .nil)))))),aY [2,4,5,6,32,1000] M (by decide),fun _ _=>M⟩,?_⟩
        refine aA M (aI M M (lb M) (sv (d:=.osl _ _ _) M))<|aE ?_
        refine bB ?_
        refine ⟨.inr M,6,_,[.osl 32 (eInt .i64).sz v39.length],(.cons (sv M) .nil),M,M,⟨[(0,.ref 1000 0),(1,.int .i64 a0),(57,.osl 32 (eInt .i64).sz v39.length)],[(2,.blk 3 (D.flat (x25.2.2.2.2.2.2.2.map (eInt .i64).d))),(32,.blk 3 (D.flat (v39.map (eInt .i64).d))),(1000,.blk 60 (mixD aB.toEnc0 (w22 x25.1 x25.2.1 x25.2.2.1 x25.2.2.2.1 x25.2.2.2.2.1) x29 [.int .i64 x25.2.2.2.2.2.2.1,.osl 2 (eInt .i64).sz x25.2.2.2.2.2.2.2.length]))]⟩,(fun i=>i),⟨(.sames M M),(.cons (EntW.lst M) (.cons (EntW.lst M) (.cons (EntW.mix aB M (SubC.of_eq M) (SubC.of_eq M) M M) .nil))),aY [2,32,1000] M (by decide),fun _ _=>M⟩,?_⟩
        refine aA M (mW M M (lb M) underlying24 (sv (d:=.osl _ _ _) M))<|aA M (aD M M (lb M) (sv (d:=.int _ 0) M))<|aE ?_
        refine aV ?_
        refine bS (α:=Nat × Int × Int × Int × (List aP) × Int × Int × (List aM) × Int × (List Int)) (fun z=>⟨[(0,.ref 1000 0),(1,.int .i64 a0),(57,.osl 32 (eInt .i64).sz v39.length),(58,.int .i64 (v39.length:Int)),(59,.int .i64 z.2.1)],[(1000,.blk 60 (mixD aB.toEnc0 (w22 z.2.2.1 z.2.2.2.1 z.2.2.2.2.1 z.2.2.2.2.2.1 z.2.2.2.2.2.2.1) z.2.2.2.2.2.2.2.1 [.int .i64 z.2.2.2.2.2.2.2.2.1,.osl 2 (eInt .i64).sz z.2.2.2.2.2.2.2.2.2.length])),(32,.blk 3 (D.flat (v39.map (eInt .i64).d))),(2,.blk 3 (D.flat (z.2.2.2.2.2.2.2.2.2.map (eInt .i64).d)))]⟩) (fun z=>hC a0 v39 z.1 z.2.1 z.2.2.1 z.2.2.2.1 z.2.2.2.2.1 z.2.2.2.2.2.1 z.2.2.2.2.2.2.1 z.2.2.2.2.2.2.2.1 z.2.2.2.2.2.2.2.2.1 z.2.2.2.2.2.2.2.2.2=some r) (fun z=>z.1) (fuel,0,x25.1,x25.2.1,x25.2.2.1,x25.2.2.2.1,x25.2.2.2.2.1,x29,x25.2.2.2.2.2.2.1,x25.2.2.2.2.2.2.2) (fun i=>i) ⟨(.sames M M),(.cons (EntW.mix aB M (SubC.of_eq M) (SubC.of_eq M) M M) (.cons (EntW.lst M) (.cons (EntW.lst M) .nil))),aY [1000,32,2] M (by decide),fun _ _=>M⟩ ?_ ?_
        ·exact h
        ·
         rintro ⟨n3,v59,v60,v61,v62,v63,v64,v65,v66,v67⟩ h
         cases n3 with
         | zero=>exact absurd h (by unfold hC; exact nofun)
         | succ n3 =>
          unfold hC at h
          obtain ⟨x77,hx77,h⟩:=aK h
          refine aF (aA M (aO M M (lb M) (svI M) (svI M) M hx77)<|aE ?_)
          refine aU ?_
          refine aW (b:=_) M (fun hc78=>?_) (fun hc78=>?_)
          ·
           replace h:=bX h hc78
           refine aT ?_
           refine aJ ?_
           refine aU ?_
           refine aV ?_
           obtain ⟨x79,hx79,h⟩:=aL h
           obtain ⟨x80,hx80,h⟩:=aL h
           refine aF (aA M (aX (eInt .i64).toEnc0 M M (lb M) underlying24 ti3 (sv (d:=.osl _ _ _) M) M (svI M) hx79)<|aA M (bO (eInt .i64).toEnc0 (d:=.int _ _) M M (lb M) underlying3 ag3 ti3 (by decide) (svR M) M hx80 (nle M) M)<|aA M (asI M M M M)<|aE ?_)
           obtain ⟨x81,hx81,h⟩:=aK h
           refine aF (aA M (mvI M M M M)<|aA M (mvI M M M M)<|aA M (aO M M (lb M) (svI M) (svI M) M hx81)<|aE ?_)
           refine aW (b:=_) M (fun hc82=>?_) (fun hc82=>?_)
           ·
            replace h:=bX h hc82
            obtain ⟨x83,hx83,h⟩:=aL h
            refine aS (aA M (mvR M M M M)<|aA M (mvI M M M M)<|aA M (mvI M M M M)<|aA M (bG (r':=.tuple []) (H1':=[(1000,.blk 60 (mixD aB.toEnc0 (w22 x83.1 x83.2.1 x83.2.2.1 x83.2.2.2.1 x83.2.2.2.2.1) x83.2.2.2.2.2.1 [.int .i64 x83.2.2.2.2.2.2.1,.osl 33 (eInt .i64).sz x83.2.2.2.2.2.2.2.length])),(33,.blk 3 (D.flat (x83.2.2.2.2.2.2.2.map (eInt .i64).d)))]) 33 [1000,2] M M (lb M) cl46 (.cons (svR M) (.cons (svI M) (.cons (svI M) .nil))) M M ⟨M,M,by decide,M,List.forall_mem_cons.2 ⟨⟨M,M,(jI aB M M M),(cW aB M M)⟩,List.forall_mem_cons.2 ⟨⟨M,M,(fW (eInt .i64) M),(bK (eInt .i64))⟩,List.forall_mem_nil _⟩⟩⟩ (iT _ _ _ _ _ _ _ _ _ _ _ hx83) M M (List.forall_mem_cons.2 ⟨⟨M,(cW aB M M)⟩,List.forall_mem_cons.2 ⟨⟨M,(bK (eInt .i64))⟩,List.forall_mem_nil _⟩⟩) (by simp only [List.map_cons,List.map_nil,Ent.ren,bL,bT,dE]; rfl))<|bE ?_)
            refine bI ?_
            refine aJ ?_
            obtain ⟨x84,hx84,h⟩:=aK h
            refine aS (aA M (aQ M M (lb M) (svI M) (sv (d:=.int _ 1) M) M hx84)<|aA M (mvI M M M M)<|bE ?_)
            refine aJ ⟨(n3,x84,x83.1,x83.2.1,x83.2.2.1,x83.2.2.2.1,x83.2.2.2.2.1,x83.2.2.2.2.2.1,x83.2.2.2.2.2.2.1,x83.2.2.2.2.2.2.2),(fun i=>if i=2 then 33 else i),⟨(.sames M M),(.cons (EntW.mix aB M (SubC.of_eq M) (SubC.of_eq M) M M) (.cons (EntW.lst M) (.cons (EntW.lst M) .nil))),aY [1000,32,33] M (by decide),(fun i hi=>by first | rfl | (show (if _ then _ else _)=_; (repeat' split) <;> omega))⟩,?_,?_⟩
            exact h
            exact Nat.lt_succ_self _
           ·
            replace h:=bY h hc82
            refine aT ?_
            refine bI ?_
            refine aJ ?_
            obtain ⟨x85,hx85,h⟩:=aK h
            refine aS (aA M (aQ M M (lb M) (svI M) (sv (d:=.int _ 1) M) M hx85)<|aA M (mvI M M M M)<|bE ?_)
            refine aJ ⟨(n3,x85,v60,v61,v62,v63,v64,v65,v66,v67),(fun i=>i),⟨(.sames M M),(.cons (EntW.mix aB M (SubC.of_eq M) (SubC.of_eq M) M M) (.cons (EntW.lst M) (.cons (EntW.lst M) .nil))),aY [1000,32,2] M (by decide),fun _ _=>M⟩,?_,?_⟩
            exact h
            exact Nat.lt_succ_self _
          ·
           replace h:=bY h hc78
           refine cA ?_
           refine bD ?_
           refine bD ?_
           refine cC ?_
           obtain rfl:=sj_ h
           refine ⟨.inl M,(fun i=>if i=0 then 2 else i),⟨.nil,(.cons (EntW.mix aB M (SubC.of_eq M) (SubC.of_eq M) M M) (.cons (EntW.lst M) .nil)),aY [1000,2] M (by decide),(fun i hi=>by first | rfl | (show (if _ then _ else _)=_; (repeat' split) <;> omega))⟩,.nil,M⟩
    ·
     replace h:=bY h hc32
     refine aT ?_
     refine aJ ?_
     obtain ⟨x86,hx86,h⟩:=aL h
     refine aF (aA M (mvR M M M M)<|aA M (mvI M M M M)<|aA M (aN M M (lb M) (svR M))<|aA M (faR 5 M M M underlying60 M ti58 (lb M) M M)<|aA M (dO aB.toEnc0 M M (lb M) underlying58 ti57 (svR M) (bV hx29 hk27) (svI M) hx86)<|aA M (cB M M (lb M) underlying57 M ti3 (by decide) (svR M) (k':=2) M)<|aA M (aI M M (lb M) (svR M))<|aE ?_)
     refine bB ?_
     refine ⟨.inr M,11,_,[.ref 1000 (5 + (((x1:Int).toNat) * aB.sz + 2))],(.cons (sv M) .nil),M,M,⟨[(0,.yld 9),(1,.ref 4 0),(8,.ref 1000 (5 + (((x1:Int).toNat) * aB.sz + 2)))],[(2,.blk 3 (D.flat (x25.2.2.2.2.2.2.2.map (eInt .i64).d))),(4,.blk 26 [.ref 1000 0]),(5,.blk 3 [.int .i64 x1]),(6,.kept 1 [.ref 1000 0,.int .i64 a0,.dead,.dead,.dead,.dead,.dead,.dead,.dead,.dead,.dead,.dead,.dead,.dead,.dead,.dead,.dead,.dead,.dead,.dead,.dead,.dead,.dead,.dead,.dead,.dead,.dead,.dead,.dead,.dead,.dead,.dead,.dead,.dead,.dead,.dead,.dead,.dead,.dead,.dead,.dead,.dead,.dead,.dead,.dead,.dead,.dead,.dead,.dead,.dead,.dead,.dead,.dead,.dead,.dead,.dead,.fn 40 [.ref 4 0,.ref 5 0],.dead,.dead,.dead,.dead,.dead,.dead,.dead,.dead,.dead,.dead,.dead,.dead,.dead,.dead]),(7,.kept 2 [.dead,.dead,.dead,.fn 40 [.ref 4 0,.ref 5 0],.dead]),(8,.blk 24 [.nils]),(9,.loop 3 [.dead,.dead,.ref 8 0,.dead,.dead,.dead,.fn 40 [.ref 4 0,.ref 5 0],.dead,.dead,.dead,.dead,.dead,.dead] .ready none),(10,.kept 3 [.dead,.dead,.ref 8 0,.dead,.dead,.dead,.fn 40 [.ref 4 0,.ref 5 0],.dead,.dead,.dead,.dead,.dead,.dead]),(1000,.blk 60 (mixD aB.toEnc0 (w22 x25.1 x25.2.1 x25.2.2.1 x25.2.2.2.1 x25.2.2.2.2.1) x29 [.int .i64 x25.2.2.2.2.2.2.1,.osl 2 (eInt .i64).sz x25.2.2.2.2.2.2.2.length]))]⟩,(fun i=>i),⟨(.sames M M),(.cons (EntW.lst M) (.cons (.blk M M M) (.cons (.blk M M M) (.cons (.kept M M M) (.cons (.kept M M M) (.cons (.blk M M M) (.cons (.loop M M M) (.cons (.kept M M M) (.cons (EntW.mix aB M (SubC.of_eq M) (SubC.of_eq M) M M) .nil))))))))),aY [2,4,5,6,7,8,9,10,1000] M (by decide),fun _ _=>M⟩,?_⟩
     obtain ⟨x87,hx87,h⟩:=aL h
     refine aA M (aN M M (lb M) (svR M))<|aA M (cI aB.toEnc0 (b:=5) (k:=2) (d:=.int _ _) M M (lb M) underlying3 ag3 ti3 (by decide) (svR M) M M hx87 (nle M) M)<|aA M (asI M M M M)<|aE ?_
     refine aV ?_
     refine bS (α:=Nat × Int × (List Int)) (fun z=>⟨[(0,.yld 9),(1,.ref 4 0),(4,.int .i64 z.2.1)],[(9,.loop 3 [.dead,.dead,.ref 8 0,.dead,.dead,.dead,.fn 40 [.ref 4 0,.ref 5 0],.dead,.dead,.dead,.dead,.dead,.dead] .ready none),(4,.blk 26 [.ref 1000 0]),(6,.kept 1 [.ref 1000 0,.int .i64 a0,.dead,.dead,.dead,.dead,.dead,.dead,.dead,.dead,.dead,.dead,.dead,.dead,.dead,.dead,.dead,.dead,.dead,.dead,.dead,.dead,.dead,.dead,.dead,.dead,.dead,.dead,.dead,.dead,.dead,.dead,.dead,.dead,.dead,.dead,.dead,.dead,.dead,.dead,.dead,.dead,.dead,.dead,.dead,.dead,.dead,.dead,.dead,.dead,.dead,.dead,.dead,.dead,.dead,.dead,.fn 40 [.ref 4 0,.ref 5 0],.dead,.dead,.dead,.dead,.dead,.dead,.dead,.dead,.dead,.dead,.dead,.dead,.dead,.dead]),(7,.kept 2 [.dead,.dead,.dead,.fn 40 [.ref 4 0,.ref 5 0],.dead]),(10,.kept 3 [.dead,.dead,.ref 8 0,.dead,.dead,.dead,.fn 40 [.ref 4 0,.ref 5 0],.dead,.dead,.dead,.dead,.dead,.dead]),(1000,.blk 60 (mixD aB.toEnc0 (w22 x25.1 x25.2.1 x25.2.2.1 x25.2.2.2.1 x25.2.2.2.2.1) x29 [.int .i64 x25.2.2.2.2.2.2.1,.osl 2 (eInt .i64).sz x25.2.2.2.2.2.2.2.length])),(8,.blk 24 [.osl 32 (eInt .i64).sz z.2.2.length]),(5,.blk 3 [.int .i64 x1]),(2,.blk 3 (D.flat (x25.2.2.2.2.2.2.2.map (eInt .i64).d))),(32,.blk 3 (D.flat (z.2.2.map (eInt .i64).d)))]⟩) (fun z=>jA a0 x25 x29 z.1 z.2.1 z.2.2=some r) (fun z=>z.1) (fuel,x87.first,([]:(List Int))) (fun i=>if i=32 then 94 else i) ⟨(.sames M M),(.cons (.loop M M M) (.cons (.blk M M M) (.cons (.kept M M M) (.cons (.kept M M M) (.cons (.kept M M M) (.cons (EntW.mix aB M (SubC.of_eq M) (SubC.of_eq M) M M) (.cons (.sub M (.nilo .nil) M) (.cons (.blk M M M) (.cons (EntW.lst M) (.cons (.nilb M) .nil)))))))))),aY [9,4,6,7,10,1000,8,5,2,94] M (by decide),(fun i hi=>by first | rfl | (show (if _ then _ else _)=_; (repeat' split) <;> omega))⟩ ?_ ?_
     ·exact h
     ·
      rintro ⟨n4,v93,v94⟩ h
      cases n4 with
      | zero=>exact absurd h (by unfold jA; exact nofun)
      | succ n4 =>
       unfold jA at h
       refine aU ?_
       obtain ⟨x100,hx100,h⟩:=aK h
       refine aF (aA M (mvI M M M M)<|aA M (aO M M (lb M) (svI M) (sv (d:=.int _ (-1)) M) M hx100)<|aE ?_)
       refine aW (b:=_) M (fun hc101=>?_) (fun hc101=>?_)
       ·
        replace h:=bX h hc101
        refine aT ?_
        refine aJ ?_
        refine aV ?_
        obtain ⟨x102,hx102,h⟩:=aL h
        obtain ⟨x103,hx103,h⟩:=aL h
        refine aF (aA M (aR (d:=.ref _ _) M M (lb M) underlying26 ag26 ti26 (by decide) (svR M) M (nle M) M)<|aA M (mvI M M M M)<|aA M (aN M M (lb M) (svR M))<|aA M (faR 5 M M M underlying60 M ti58 (lb M) M M)<|aA M (dO aB.toEnc0 M M (lb M) underlying58 ti57 (svR M) (bV hx29 hk27) (svI M) hx102)<|aA M (cB M M (lb M) underlying57 M ti3 (by decide) (svR M) (k':=3) M)<|aA M (cI aB.toEnc0 (b:=5) (k:=3) (d:=.int _ _) M M (lb M) underlying3 ag3 ti3 (by decide) (svR M) M M hx103 (nle M) M)<|aA M (asI M M M M)<|aE ?_)
        refine aU ?_
        refine aF (aA M (aD M M (lb M) (sv (d:=.yld _) M))<|aA M (mvI M M M M) <|?_)
        refine gI (S':=⟨[(0,.yld 9),(1,.ref 4 0),(5,.int .i64 x103.next),(20,.yld 9),(21,.int .i64 v93)],[(2,.blk 3 (D.flat (x25.2.2.2.2.2.2.2.map (eInt .i64).d))),(4,.blk 26 [.ref 1000 0]),(5,.blk 3 [.int .i64 x1]),(6,.kept 1 [.ref 1000 0,.int .i64 a0,.dead,.dead,.dead,.dead,.dead,.dead,.dead,.dead,.dead,.dead,.dead,.dead,.dead,.dead,.dead,.dead,.dead,.dead,.dead,.dead,.dead,.dead,.dead,.dead,.dead,.dead,.dead,.dead,.dead,.dead,.dead,.dead,.dead,.dead,.dead,.dead,.dead,.dead,.dead,.dead,.dead,.dead,.dead,.dead,.dead,.dead,.dead,.dead,.dead,.dead,.dead,.dead,.dead,.dead,.fn 40 [.ref 4 0,.ref 5 0],.dead,.dead,.dead,.dead,.dead,.dead,.dead,.dead,.dead,.dead,.dead,.dead,.dead,.dead]),(7,.kept 2 [.dead,.dead,.dead,.fn 40 [.ref 4 0,.ref 5 0],.dead]),(8,.blk 24 [.osl 32 (eInt .i64).sz v94.length]),(9,.loop 3 [.dead,.dead,.ref 8 0,.dead,.dead,.dead,.fn 40 [.ref 4 0,.ref 5 0],.dead,.dead,.dead,.dead,.dead,.dead] .ready none),(10,.kept 3 [.dead,.dead,.ref 8 0,.dead,.dead,.dead,.fn 40 [.ref 4 0,.ref 5 0],.dead,.dead,.dead,.dead,.dead,.dead]),(32,.blk 3 (D.flat (v94.map (eInt .i64).d))),(1000,.blk 60 (mixD aB.toEnc0 (w22 x25.1 x25.2.1 x25.2.2.1 x25.2.2.2.1 x25.2.2.2.2.1) x29 [.int .i64 x25.2.2.2.2.2.2.1,.osl 2 (eInt .i64).sz x25.2.2.2.2.2.2.2.length]))]⟩) (fun i=>i) ⟨(.sames M M),(.cons (EntW.lst M) (.cons (.blk M M M) (.cons (.blk M M M) (.cons (.kept M M M) (.cons (.kept M M M) (.cons (.blk M M M) (.cons (.loop M M M) (.cons (.kept M M M) (.cons (EntW.lst M) (.cons (EntW.mix aB M (SubC.of_eq M) (SubC.of_eq M) M M) .nil)))))))))),aY [2,4,5,6,7,8,9,10,32,1000] M (by decide),fun _ _=>M⟩ ?_
        refine pC 4 9 33 M M M (by decide) M (.cons (svI M) .nil) M M M M M M hO3.round hlc3 ⟨[(7,.int .i64 v93),(2,.ref 8 0)],[(2,.blk 3 (D.flat (x25.2.2.2.2.2.2.2.map (eInt .i64).d))),(4,.blk 26 [.ref 1000 0]),(5,.blk 3 [.int .i64 x1]),(6,.kept 1 [.ref 1000 0,.int .i64 a0,.dead,.dead,.dead,.dead,.dead,.dead,.dead,.dead,.dead,.dead,.dead,.dead,.dead,.dead,.dead,.dead,.dead,.dead,.dead,.dead,.dead,.dead,.dead,.dead,.dead,.dead,.dead,.dead,.dead,.dead,.dead,.dead,.dead,.dead,.dead,.dead,.dead,.dead,.dead,.dead,.dead,.dead,.dead,.dead,.dead,.dead,.dead,.dead,.dead,.dead,.dead,.dead,.dead,.dead,.fn 40 [.ref 4 0,.ref 5 0],.dead,.dead,.dead,.dead,.dead,.dead,.dead,.dead,.dead,.dead,.dead,.dead,.dead,.dead]),(7,.kept 2 [.dead,.dead,.dead,.fn 40 [.ref 4 0,.ref 5 0],.dead]),(8,.blk 24 [.osl 32 (eInt .i64).sz v94.length]),(9,.loop 3 [.dead,.dead,.ref 8 0,.dead,.dead,.dead,.fn 40 [.ref 4 0,.ref 5 0],.dead,.dead,.dead,.dead,.dead,.dead] .ready none),(10,.kept 3 [.dead,.dead,.ref 8 0,.dead,.dead,.dead,.fn 40 [.ref 4 0,.ref 5 0],.dead,.dead,.dead,.dead,.dead,.dead]),(32,.blk 3 (D.flat (v94.map (eInt .i64).d))),(33,.kept 4 [.yld 9,.ref 4 0,.dead,.dead,.dead,.int .i64 x103.next,.dead,.dead,.dead,.dead,.dead,.dead,.dead,.dead,.dead,.dead,.dead,.dead,.dead,.dead,.yld 9,.int .i64 v93,.dead,.dead,.dead]),(1000,.blk 60 (mixD aB.toEnc0 (w22 x25.1 x25.2.1 x25.2.2.1 x25.2.2.2.1 x25.2.2.2.2.1) x29 [.int .i64 x25.2.2.2.2.2.2.1,.osl 2 (eInt .i64).sz x25.2.2.2.2.2.2.2.length]))]⟩ (fun i=>i) ⟨(.sames M M),(.cons (EntW.lst M) (.cons (.blk M M M) (.cons (.blk M M M) (.cons (.kept M M M) (.cons (.kept M M M) (.cons (.blk M M M) (.cons (.loop M M M) (.cons (.kept M M M) (.cons (EntW.lst M) (.cons (.kept M M M) (.cons (EntW.mix aB M (SubC.of_eq M) (SubC.of_eq M) M M) .nil))))))))))),aY [2,4,5,6,7,8,9,10,32,33,1000] M (by decide),fun _ _=>M⟩ fun O4=>?_
        refine aS (aA M (asI M M M M)<|bE ?_)
        refine ⟨M,9,_,M,⟨[(2,.ref 8 0),(5,.int .i64 v93)],[(2,.blk 3 (D.flat (x25.2.2.2.2.2.2.2.map (eInt .i64).d))),(4,.blk 26 [.ref 1000 0]),(5,.blk 3 [.int .i64 x1]),(6,.kept 1 [.ref 1000 0,.int .i64 a0,.dead,.dead,.dead,.dead,.dead,.dead,.dead,.dead,.dead,.dead,.dead,.dead,.dead,.dead,.dead,.dead,.dead,.dead,.dead,.dead,.dead,.dead,.dead,.dead,.dead,.dead,.dead,.dead,.dead,.dead,.dead,.dead,.dead,.dead,.dead,.dead,.dead,.dead,.dead,.dead,.dead,.dead,.dead,.dead,.dead,.dead,.dead,.dead,.dead,.dead,.dead,.dead,.dead,.dead,.fn 40 [.ref 4 0,.ref 5 0],.dead,.dead,.dead,.dead,.dead,.dead,.dead,.dead,.dead,.dead,.dead,.dead,.dead,.dead]),(7,.kept 2 [.dead,.dead,.dead,.fn 40 [.ref 4 0,.ref 5 0],.dead]),(8,.blk 24 [.osl 32 (eInt .i64).sz v94.length]),(9,.loop 3 [.dead,.dead,.ref 8 0,.dead,.dead,.dead,.fn 40 [.ref 4 0,.ref 5 0],.dead,.dead,.dead,.dead,.dead,.dead] .busy none),(10,.kept 3 [.dead,.dead,.ref 8 0,.dead,.dead,.dead,.fn 40 [.ref 4 0,.ref 5 0],.dead,.dead,.dead,.dead,.dead,.dead]),(32,.blk 3 (D.flat (v94.map (eInt .i64).d))),(33,.kept 4 [.yld 9,.ref 4 0,.dead,.dead,.dead,.int .i64 x103.next,.dead,.dead,.dead,.dead,.dead,.dead,.dead,.dead,.dead,.dead,.dead,.dead,.dead,.dead,.yld 9,.int .i64 v93,.dead,.dead,.dead]),(1000,.blk 60 (mixD aB.toEnc0 (w22 x25.1 x25.2.1 x25.2.2.1 x25.2.2.2.1 x25.2.2.2.2.1) x29 [.int .i64 x25.2.2.2.2.2.2.1,.osl 2 (eInt .i64).sz x25.2.2.2.2.2.2.2.length]))]⟩,(fun i=>i),⟨(.sames M M),(.cons (EntW.lst M) (.cons (.blk M M M) (.cons (.blk M M M) (.cons (.kept M M M) (.cons (.kept M M M) (.cons (.blk M M M) (.cons (.loop M M M) (.cons (.kept M M M) (.cons (EntW.lst M) (.cons (.kept M M M) (.cons (EntW.mix aB M (SubC.of_eq M) (SubC.of_eq M) M M) .nil))))))))))),aY [2,4,5,6,7,8,9,10,32,33,1000] M (by decide),fun _ _=>M⟩,?_⟩
        refine aV ?_
        obtain ⟨x104,hx104,h⟩:=aL h
        refine aS (aA M (aR (d:=.osl _ _ _) M M (lb M) underlying24 ag24 ti24 (by decide) (svR M) M (nle M) M)<|aA M (mvI M M M M)<|aA M (nM (eInt .i64).toEnc0 ([v93]:(List Int)) 34 M M (lb M) underlying24 ti3 M (.cons (svI M) .nil) M M (by decide))<|aA M (lZ (eInt .i64).toEnc0 35 M M (lb M) underlying24 ti3 M M M M M (rQ (eInt .i64).toEnc0 M M M) hx104)<|aA M (fD (ds':=[.osl _ _ _]) M M ti24 (svR M) M (sv (d:=.osl _ _ _) M) M M M (nle M) M)<|bE ?_)
        refine bI ?_
        refine ⟨9,33,_,_,none,M,M,M,M,(by decide),⟨[(0,.yld 9),(1,.ref 4 0),(5,.int .i64 x103.next),(22,.bool true)],[(2,.blk 3 (D.flat (x25.2.2.2.2.2.2.2.map (eInt .i64).d))),(4,.blk 26 [.ref 1000 0]),(5,.blk 3 [.int .i64 x1]),(6,.kept 1 [.ref 1000 0,.int .i64 a0,.dead,.dead,.dead,.dead,.dead,.dead,.dead,.dead,.dead,.dead,.dead,.dead,.dead,.dead,.dead,.dead,.dead,.dead,.dead,.dead,.dead,.dead,.dead,.dead,.dead,.dead,.dead,.dead,.dead,.dead,.dead,.dead,.dead,.dead,.dead,.dead,.dead,.dead,.dead,.dead,.dead,.dead,.dead,.dead,.dead,.dead,.dead,.dead,.dead,.dead,.dead,.dead,.dead,.dead,.fn 40 [.ref 4 0,.ref 5 0],.dead,.dead,.dead,.dead,.dead,.dead,.dead,.dead,.dead,.dead,.dead,.dead,.dead,.dead]),(7,.kept 2 [.dead,.dead,.dead,.fn 40 [.ref 4 0,.ref 5 0],.dead]),(8,.blk 24 [.osl 35 (eInt .i64).sz x104.length]),(9,.loop 3 [.dead,.dead,.ref 8 0,.dead,.dead,.dead,.fn 40 [.ref 4 0,.ref 5 0],.dead,.dead,.dead,.dead,.dead,.dead] .ready none),(10,.kept 3 [.dead,.dead,.ref 8 0,.dead,.dead,.dead,.fn 40 [.ref 4 0,.ref 5 0],.dead,.dead,.dead,.dead,.dead,.dead]),(35,.blk 3 (D.flat (x104.map (eInt .i64).d))),(1000,.blk 60 (mixD aB.toEnc0 (w22 x25.1 x25.2.1 x25.2.2.1 x25.2.2.2.1 x25.2.2.2.2.1) x29 [.int .i64 x25.2.2.2.2.2.2.1,.osl 2 (eInt .i64).sz x25.2.2.2.2.2.2.2.length]))]⟩,(fun i=>i),⟨(.sames M M),(.cons (EntW.lst M) (.cons (.blk M M M) (.cons (.blk M M M) (.cons (.kept M M M) (.cons (.kept M M M) (.cons (.blk M M M) (.cons (.loop M M M) (.cons (.kept M M M) (.cons (EntW.lst M) (.cons (EntW.mix aB M (SubC.of_eq M) (SubC.of_eq M) M M) .nil)))))))))),aY [2,4,5,6,7,8,9,10,35,1000] M (by decide),fun _ _=>M⟩,?_⟩
        refine aA M (eX M M (lb M) (svB M))<|aE ?_
        refine gM M M ?_
        refine aT ?_
        refine aJ ?_
        refine aS (aA M (mvI M M M M)<|aA M (asI M M M M)<|bE ?_)
        refine bI ?_
        refine aJ ⟨(n4,x103.next,x104),(fun i=>if i=32 then 35 else i),⟨(.sames M M),(.cons (.loop M M M) (.cons (.blk M M M) (.cons (.kept M M M) (.cons (.kept M M M) (.cons (.kept M M M) (.cons (EntW.mix aB M (SubC.of_eq M) (SubC.of_eq M) M M) (.cons (.blk M M M) (.cons (.blk M M M) (.cons (EntW.lst M) (.cons (EntW.lst M) .nil)))))))))),aY [9,4,6,7,10,1000,8,5,2,35] M (by decide),(fun i hi=>by first | rfl | (show (if _ then _ else _)=_; (repeat' split) <;> omega))⟩,?_,?_⟩
        exact h
        exact Nat.lt_succ_self _
       ·
        replace h:=bY h hc101
        refine cA ?_
        refine bD ?_
        refine bD ?_
        refine cC ?_
        refine ⟨.inl M,9,10,_,_,_,_,M,(by simp),M,M,⟨[(2,.ref 8 0)],[(2,.blk 3 (D.flat (x25.2.2.2.2.2.2.2.map (eInt .i64).d))),(4,.blk 26 [.ref 1000 0]),(5,.blk 3 [.int .i64 x1]),(6,.kept 1 [.ref 1000 0,.int .i64 a0,.dead,.dead,.dead,.dead,.dead,.dead,.dead,.dead,.dead,.dead,.dead,.dead,.dead,.dead,.dead,.dead,.dead,.dead,.dead,.dead,.dead,.dead,.dead,.dead,.dead,.dead,.dead,.dead,.dead,.dead,.dead,.dead,.dead,.dead,.dead,.dead,.dead,.dead,.dead,.dead,.dead,.dead,.dead,.dead,.dead,.dead,.dead,.dead,.dead,.dead,.dead,.dead,.dead,.dead,.fn 40 [.ref 4 0,.ref 5 0],.dead,.dead,.dead,.dead,.dead,.dead,.dead,.dead,.dead,.dead,.dead,.dead,.dead,.dead]),(7,.kept 2 [.dead,.dead,.dead,.fn 40 [.ref 4 0,.ref 5 0],.dead]),(8,.blk 24 [.osl 32 (eInt .i64).sz v94.length]),(32,.blk 3 (D.flat (v94.map (eInt .i64).d))),(1000,.blk 60 (mixD aB.toEnc0 (w22 x25.1 x25.2.1 x25.2.2.1 x25.2.2.2.1 x25.2.2.2.2.1) x29 [.int .i64 x25.2.2.2.2.2.2.1,.osl 2 (eInt .i64).sz x25.2.2.2.2.2.2.2.length]))]⟩,(fun i=>i),⟨(.sames M M),(.cons (EntW.lst M) (.cons (.blk M M M) (.cons (.blk M M M) (.cons (.kept M M M) (.cons (.kept M M M) (.cons (.blk M M M) (.cons (EntW.lst M) (.cons (EntW.mix aB M (SubC.of_eq M) (SubC.of_eq M) M M) .nil)))))))),aY [2,4,5,6,7,8,32,1000] M (by decide),fun _ _=>M⟩,?_⟩
        refine bI ?_
        refine aJ ?_
        refine aF (aA M (aR (d:=.osl _ _ _) M M (lb M) underlying24 ag24 ti24 (by decide) (svR M) M (nle M) M)<|aA M (aI M M (lb M) (sv (d:=.osl _ _ _) M))<|aE ?_)
        refine bB ?_
        refine ⟨.inr M,7,_,[.osl 32 (eInt .i64).sz v94.length],(.cons (sv M) .nil),M,M,⟨[(4,.osl 32 (eInt .i64).sz v94.length)],[(2,.blk 3 (D.flat (x25.2.2.2.2.2.2.2.map (eInt .i64).d))),(4,.blk 26 [.ref 1000 0]),(5,.blk 3 [.int .i64 x1]),(6,.kept 1 [.ref 1000 0,.int .i64 a0,.dead,.dead,.dead,.dead,.dead,.dead,.dead,.dead,.dead,.dead,.dead,.dead,.dead,.dead,.dead,.dead,.dead,.dead,.dead,.dead,.dead,.dead,.dead,.dead,.dead,.dead,.dead,.dead,.dead,.dead,.dead,.dead,.dead,.dead,.dead,.dead,.dead,.dead,.dead,.dead,.dead,.dead,.dead,.dead,.dead,.dead,.dead,.dead,.dead,.dead,.dead,.dead,.dead,.dead,.fn 40 [.ref 4 0,.ref 5 0],.dead,.dead,.dead,.dead,.dead,.dead,.dead,.dead,.dead,.dead,.dead,.dead,.dead,.dead]),(32,.blk 3 (D.flat (v94.map (eInt .i64).d))),(1000,.blk 60 (mixD aB.toEnc0 (w22 x25.1 x25.2.1 x25.2.2.1 x25.2.2.2.1 x25.2.2.2.2.1) x29 [.int .i64 x25.2.2.2.2.2.2.1,.osl 2 (eInt .i64).sz x25.2.2.2.2.2.2.2.length]))]⟩,(fun i=>i),⟨(.sames M M),(.cons (EntW.lst M) (.cons (.blk M M M) (.cons (.blk M M M) (.cons (.kept M M M) (.cons (EntW.lst M) (.cons (EntW.mix aB M (SubC.of_eq M) (SubC.of_eq M) M M) .nil)))))),aY [2,4,5,6,32,1000] M (by decide),fun _ _=>M⟩,?_⟩
        refine aA M (aI M M (lb M) (sv (d:=.osl _ _ _) M))<|aE ?_
        refine bB ?_
        refine ⟨.inr M,6,_,[.osl 32 (eInt .i64).sz v94.length],(.cons (sv M) .nil),M,M,⟨[(0,.ref 1000 0),(1,.int .i64 a0),(57,.osl 32 (eInt .i64).sz v94.length)],[(2,.blk 3 (D.flat (x25.2.2.2.2.2.2.2.map (eInt .i64).d))),(32,.blk 3 (D.flat (v94.map (eInt .i64).d))),(1000,.blk 60 (mixD aB.toEnc0 (w22 x25.1 x25.2.1 x25.2.2.1 x25.2.2.2.1 x25.2.2.2.2.1) x29 [.int .i64 x25.2.2.2.2.2.2.1,.osl 2 (eInt .i64).sz x25.2.2.2.2.2.2.2.length]))]⟩,(fun i=>i),⟨(.sames M M),(.cons (EntW.lst M) (.cons (EntW.lst M) (.cons (EntW.mix aB M (SubC.of_eq M) (SubC.of_eq M) M M) .nil))),aY [2,32,1000] M (by decide),fun _ _=>M⟩,?_⟩
        refine aA M (mW M M (lb M) underlying24 (sv (d:=.osl _ _ _) M))<|aA M (aD M M (lb M) (sv (d:=.int _ 0) M))<|aE ?_
        refine aV ?_
        refine bS (α:=Nat × Int × Int × Int × (List aP) × Int × Int × (List aM) × Int × (List Int)) (fun z=>⟨[(0,.ref 1000 0),(1,.int .i64 a0),(57,.osl 32 (eInt .i64).sz v94.length),(58,.int .i64 (v94.length:Int)),(59,.int .i64 z.2.1)],[(1000,.blk 60 (mixD aB.toEnc0 (w22 z.2.2.1 z.2.2.2.1 z.2.2.2.2.1 z.2.2.2.2.2.1 z.2.2.2.2.2.2.1) z.2.2.2.2.2.2.2.1 [.int .i64 z.2.2.2.2.2.2.2.2.1,.osl 2 (eInt .i64).sz z.2.2.2.2.2.2.2.2.2.length])),(32,.blk 3 (D.flat (v94.map (eInt .i64).d))),(2,.blk 3 (D.flat (z.2.2.2.2.2.2.2.2.2.map (eInt .i64).d)))]⟩) (fun z=>hB a0 v94 z.1 z.2.1 z.2.2.1 z.2.2.2.1 z.2.2.2.2.1 z.2.2.2.2.2.1 z.2.2.2.2.2.2.1 z.2.2.2.2.2.2.2.1 z.2.2.2.2.2.2.2.2.1 z.2.2.2.2.2.2.2.2.2=some r) (fun z=>z.1) (fuel,0,x25.1,x25.2.1,x25.2.2.1,x25.2.2.2.1,x25.2.2.2.2.1,x29,x25.2.2.2.2.2.2.1,x25.2.2.2.2.2.2.2) (fun i=>i) ⟨(.sames M M),(.cons (EntW.mix aB M (SubC.of_eq M) (SubC.of_eq M) M M) (.cons (EntW.lst M) (.cons (EntW.lst M) .nil))),aY [1000,32,2] M (by decide),fun _ _=>M⟩ ?_ ?_
        ·exact h
        ·
         rintro ⟨n5,v114,v115,v116,v117,v118,v119,v120,v121,v122⟩ h
         cases n5 with
         | zero=>exact absurd h (by unfold hB; exact nofun)
         | succ n5 =>
          unfold hB at h
          obtain ⟨x132,hx132,h⟩:=aK h
          refine aF (aA M (aO M M (lb M) (svI M) (svI M) M hx132)<|aE ?_)
          refine aU ?_
          refine aW (b:=_) M (fun hc133=>?_) (fun hc133=>?_)
          ·
           replace h:=bX h hc133
           refine aT ?_
           refine aJ ?_
           refine aU ?_
           refine aV ?_
           obtain ⟨x134,hx134,h⟩:=aL h
           obtain ⟨x135,hx135,h⟩:=aL h
           refine aF (aA M (aX (eInt .i64).toEnc0 M M (lb M) underlying24 ti3 (sv (d:=.osl _ _ _) M) M (svI M) hx134)<|aA M (bO (eInt .i64).toEnc0 (d:=.int _ _) M M (lb M) underlying3 ag3 ti3 (by decide) (svR M) M hx135 (nle M) M)<|aA M (asI M M M M)<|aE ?_)
           obtain ⟨x136,hx136,h⟩:=aK h
           refine aF (aA M (mvI M M M M)<|aA M (mvI M M M M)<|aA M (aO M M (lb M) (svI M) (svI M) M hx136)<|aE ?_)
           refine aW (b:=_) M (fun hc137=>?_) (fun hc137=>?_)
           ·
            replace h:=bX h hc137
            obtain ⟨x138,hx138,h⟩:=aL h
            refine aS (aA M (mvR M M M M)<|aA M (mvI M M M M)<|aA M (mvI M M M M)<|aA M (bG (r':=.tuple []) (H1':=[(1000,.blk 60 (mixD aB.toEnc0 (w22 x138.1 x138.2.1 x138.2.2.1 x138.2.2.2.1 x138.2.2.2.2.1) x138.2.2.2.2.2.1 [.int .i64 x138.2.2.2.2.2.2.1,.osl 33 (eInt .i64).sz x138.2.2.2.2.2.2.2.length])),(33,.blk 3 (D.flat (x138.2.2.2.2.2.2.2.map (eInt .i64).d)))]) 33 [1000,2] M M (lb M) cl46 (.cons (svR M) (.cons (svI M) (.cons (svI M) .nil))) M M ⟨M,M,by decide,M,List.forall_mem_cons.2 ⟨⟨M,M,(jI aB M M M),(cW aB M M)⟩,List.forall_mem_cons.2 ⟨⟨M,M,(fW (eInt .i64) M),(bK (eInt .i64))⟩,List.forall_mem_nil _⟩⟩⟩ (iT _ _ _ _ _ _ _ _ _ _ _ hx138) M M (List.forall_mem_cons.2 ⟨⟨M,(cW aB M M)⟩,List.forall_mem_cons.2 ⟨⟨M,(bK (eInt .i64))⟩,List.forall_mem_nil _⟩⟩) (by simp only [List.map_cons,List.map_nil,Ent.ren,bL,bT,dE]; rfl))<|bE ?_)
            refine bI ?_
            refine aJ ?_
            obtain ⟨x139,hx139,h⟩:=aK h
            refine aS (aA M (aQ M M (lb M) (svI M) (sv (d:=.int _ 1) M) M hx139)<|aA M (mvI M M M M)<|bE ?_)
            refine aJ ⟨(n5,x139,x138.1,x138.2.1,x138.2.2.1,x138.2.2.2.1,x138.2.2.2.2.1,x138.2.2.2.2.2.1,x138.2.2.2.2.2.2.1,x138.2.2.2.2.2.2.2),(fun i=>if i=2 then 33 else i),⟨(.sames M M),(.cons (EntW.mix aB M (SubC.of_eq M) (SubC.of_eq M) M M) (.cons (EntW.lst M) (.cons (EntW.lst M) .nil))),aY [1000,32,33] M (by decide),(fun i hi=>by first | rfl | (show (if _ then _ else _)=_; (repeat' split) <;> omega))⟩,?_,?_⟩
            exact h
            exact Nat.lt_succ_self _
           ·
            replace h:=bY h hc137
            refine aT ?_
            refine bI ?_
            refine aJ ?_
            obtain ⟨x140,hx140,h⟩:=aK h
            refine aS (aA M (aQ M M (lb M) (svI M) (sv (d:=.int _ 1) M) M hx140)<|aA M (mvI M M M M)<|bE ?_)
            refine aJ ⟨(n5,x140,v115,v116,v117,v118,v119,v120,v121,v122),(fun i=>i),⟨(.sames M M),(.cons (EntW.mix aB M (SubC.of_eq M) (SubC.of_eq M) M M) (.cons (EntW.lst M) (.cons (EntW.lst M) .nil))),aY [1000,32,2] M (by decide),fun _ _=>M⟩,?_,?_⟩
            exact h
            exact Nat.lt_succ_self _
          ·
           replace h:=bY h hc133
           refine cA ?_
           refine bD ?_
           refine bD ?_
           refine cC ?_
           obtain rfl:=sj_ h
           refine ⟨.inl M,(fun i=>if i=0 then 2 else i),⟨.nil,(.cons (EntW.mix aB M (SubC.of_eq M) (SubC.of_eq M) M M) (.cons (EntW.lst M) .nil)),aY [1000,2] M (by decide),(fun i hi=>by first | rfl | (show (if _ then _ else _)=_; (repeat' split) <;> omega))⟩,.nil,M⟩
end Go.Proofs.Ytdnjagkihgjpcaa
