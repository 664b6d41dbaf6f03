/-
  A part of the proof: rules and plain facts. No condition.
-/
import Derived.Test.YtknpfbfkaccgmaaGreatProg
import Derived.KernelRfl
import Derived.Test.YtknpfbfkaccgmaaGreatIlPn
import Derived.Test.YtknpfbfkaccgmaaGreatIlA34tD
import Derived.Test.YtknpfbfkaccgmaaGreatIlIt34t
import Derived.Test.YtknpfbfkaccgmaaGreatIlA34tC2
set_option linter.all false
set_option maxRecDepth 8000
set_option maxHeartbeats 2000000
open Go Go.IL Go.Fn Go.Proofs
open Go.Proofs.Tryz
namespace Go.Proofs.YtknpfbfkaccgmaaGreat
theorem ti25:TI prog 25 (some (.pointer none)) 1 8:=by unfold TI; kernel_rfl
theorem ti75:TI prog 75 (some (.agg #[.int .i64 0,.int .i64 0,.bool false])) 3 24:=by unfold TI; kernel_rfl
theorem ag25:kM prog 25=false:=by kernel_rfl
theorem pl75:∀ w,(Array.mapM (m:=Sem) (fun (f:Field)=>Functor.map (Prod.mk f.offset) (sizeOf f.type)) (fieldsOf prog 75)).run prog w = .ok #[(0,1),(1,1),(2,1)] w:=fun w=>by kernel_rfl
theorem cl31:bI prog 31:=⟨f31,func31,rfl,rfl⟩
theorem cl64:bI prog 64:=⟨f64,func64,rfl,rfl⟩
theorem cl65:bI prog 65:=⟨f65,func65,rfl,rfl⟩
theorem cl66:bI prog 66:=⟨f66,func66,rfl,rfl⟩
theorem cl67:bI prog 67:=⟨f67,func67,rfl,rfl⟩
theorem cl69:bI prog 69:=⟨f69,func69,rfl,rfl⟩
theorem cl82:bI prog 82:=⟨f82,func82,rfl,rfl⟩
theorem cl83:bI prog 83:=⟨f83,func83,rfl,rfl⟩
def la114:=LA.mk underlying114 aDA nK (by decide)


theorem nM (a0:Int) (a1:Int) (a2:Int) (a3:(List aK)) (a4:Int) (a5:Int) (a6:(List aJ)) (a7:Int) (a8:(List Int)) (r:(Int × Int × (List aK) × Int × Int × (List aJ) × Int × (List Int))) (h:fM a0 a1 a2 a3 a4 a5 a6 a7 a8=some r):FnH prog 34 [.ref 1000 0,.int .i64 a0] [(1000,.blk 67 (mixD aB.toEnc0 (w26 a1 a2 a3 a4 a5) a6 [.int .i64 a7,.osl 1001 (eInt .i64).sz a8.length])),(1001,.blk 3 (D.flat (a8.map (eInt .i64).d)))] (retD []) [(1000,.blk 67 (mixD aB.toEnc0 (w26 r.1 r.2.1 r.2.2.1 r.2.2.2.1 r.2.2.2.2.1) r.2.2.2.2.2.1 [.int .i64 r.2.2.2.2.2.2.1,.osl 0 (eInt .i64).sz r.2.2.2.2.2.2.2.length])),(0,.blk 3 (D.flat (r.2.2.2.2.2.2.2.map (eInt .i64).d)))]:=by
 refine dB (rs:=[]) func34 M ntmps34 (nle M) fun O hO=>?_
 show IWP _ _ _ _ ⟨[(0,.ref 1000 0),(1,.int .i64 a0)],[(1000,.blk 67 (mixD aB.toEnc0 (w26 a1 a2 a3 a4 a5) a6 [.int .i64 a7,.osl 1001 (eInt .i64).sz a8.length])),(1001,.blk 3 (D.flat (a8.map (eInt .i64).d)))]⟩ _
 unfold fM at h
 refine aF (aA M (cK (cs:=[.ref _ _]) 0 M M (lb M) M (svR M) M M)<|aA M (cK (cs:=[.int _ _]) 1 M M (lb M) M (svI M) M M)<|aD ?_)
 refine aF (aA M (cT (cs:=[.int _ _]) (cs':=[.int .i64 0]) 2 M M (lb M) M ti3 M M (.all _))<|aA M (dZ (ds':=[.int _ _]) M M ti3 (svR M) M (sv (d:=.int _ 0) M) M M M (nle M) M)<|aD ?_)
 refine mN (α:=Int) (fun z=>⟨[(2,.ref 0 0),(3,.ref 1 0),(4,.ref 2 0)],[(0,.blk 25 [.ref 1000 0]),(1,.blk 3 [.int .i64 a0]),(2,.blk 3 [.int .i64 z]),(1000,.blk 67 (mixD aB.toEnc0 (w26 a1 a2 a3 a4 a5) a6 [.int .i64 a7,.osl 1001 (eInt .i64).sz a8.length])),(1001,.blk 3 (D.flat (a8.map (eInt .i64).d)))]⟩) (fun z=>iN a0 a1 a2 a3 a4 a5 a6 a7 a8 z=some r) ?_ ?_
 ·
  refine aF (aA M (aI (d:=.ref _ _) M M (lb M) underlying25 ag25 ti25 (by decide) (svR M) M (nle M) M)<|aA M (aI (d:=.int _ _) M M (lb M) underlying3 ag3 ti3 (by decide) (svR M) M (nle M) M) <|?_)
  refine jE (S':=⟨[(2,.ref 0 0),(3,.ref 1 0),(4,.ref 2 0),(9,.ref 1000 0),(10,.int .i64 a0)],[(0,.blk 25 [.ref 1000 0]),(1,.blk 3 [.int .i64 a0]),(2,.blk 3 [.int .i64 0]),(1000,.blk 67 (mixD aB.toEnc0 (w26 a1 a2 a3 a4 a5) a6 [.int .i64 a7,.osl 1001 (eInt .i64).sz a8.length])),(1001,.blk 3 (D.flat (a8.map (eInt .i64).d)))]⟩) (fun i=>i) ⟨(.sames M M),(.cons (.blk M M M) (.cons (.blk M M M) (.cons (.blk M M M) (.cons (EntW.mix aB M (SubC.of_eq M) (SubC.of_eq M) M M) (.cons (EntW.lst M) .nil))))),bE [0,1,2,1000,1001] M (by decide),fun _ _=>M⟩ ?_
  refine mO 1 3 M M M (by decide) cl67 func67 M (.cons (svR M) (.cons (svI M) .nil)) ntmps67 (nle M) M hO.semiL fun O1 hO1=>?_
  show IWP _ _ _ _ ⟨[(0,.ref 1000 0),(1,.int .i64 a0)],[(3,.kept 1 (.dead::(.dead::(.ref 0 0::(.ref 1 0::(.ref 2 0::(dd_ 4 (.ref 1000 0::(.int .i64 a0::(dd_ 80 [])))))))))),(0,.blk 25 [.ref 1000 0]),(1,.blk 3 [.int .i64 a0]),(2,.blk 3 [.int .i64 0]),(1000,.blk 67 (mixD aB.toEnc0 (w26 a1 a2 a3 a4 a5) a6 [.int .i64 a7,.osl 1001 (eInt .i64).sz a8.length])),(1001,.blk 3 (D.flat (a8.map (eInt .i64).d)))]⟩ _
  refine aF (aA M (cK (cs:=[.ref _ _]) 4 M M (lb M) M (svR M) M M)<|aA M (cK (cs:=[.int _ _]) 5 M M (lb M) M (svI M) M M)<|aA M (aG M M (lb M) (sv (d:=.nilf) M))<|aD ?_)
  refine aF (aA M (mG M M (lb M) (.cons (svR M) (.cons (svR M) .nil)))<|aA M (aG M M (lb M) (sv (d:=.fn 83 q20) M))<|aD ?_)
  refine aY ?_
  refine ⟨.inr M,3,_,[.fn 83 [.ref 4 0,.ref 5 0]],(.cons (sv M) .nil),M,M,⟨[(2,.ref 0 0),(3,.ref 1 0),(4,.ref 2 0),(11,.fn 83 [.ref 4 0,.ref 5 0])],[(0,.blk 25 [.ref 1000 0]),(1,.blk 3 [.int .i64 a0]),(2,.blk 3 [.int .i64 0]),(4,.blk 25 [.ref 1000 0]),(5,.blk 3 [.int .i64 a0]),(1000,.blk 67 (mixD aB.toEnc0 (w26 a1 a2 a3 a4 a5) a6 [.int .i64 a7,.osl 1001 (eInt .i64).sz a8.length])),(1001,.blk 3 (D.flat (a8.map (eInt .i64).d)))]⟩,(fun i=>i),⟨(.sames M M),(.cons (.blk M M M) (.cons (.blk M M M) (.cons (.blk M M M) (.cons (.blk M M M) (.cons (.blk M M M) (.cons (EntW.mix aB M (SubC.of_eq M) (SubC.of_eq M) M M) (.cons (EntW.lst M) .nil))))))),bE [0,1,2,4,5,1000,1001] M (by decide),fun _ _=>M⟩,?_⟩
  refine aD ?_
  refine bB ?_
  refine rG (S':=⟨[(2,.ref 0 0),(3,.ref 1 0),(4,.ref 2 0),(11,.fn 83 [.ref 4 0,.ref 5 0])],[(0,.blk 25 [.ref 1000 0]),(1,.blk 3 [.int .i64 a0]),(2,.blk 3 [.int .i64 0]),(4,.blk 25 [.ref 1000 0]),(5,.blk 3 [.int .i64 a0]),(1000,.blk 67 (mixD aB.toEnc0 (w26 a1 a2 a3 a4 a5) a6 [.int .i64 a7,.osl 1001 (eInt .i64).sz a8.length])),(1001,.blk 3 (D.flat (a8.map (eInt .i64).d)))]⟩) (fun i=>i) ⟨(.sames M M),(.cons (.blk M M M) (.cons (.blk M M M) (.cons (.blk M M M) (.cons (.blk M M M) (.cons (.blk M M M) (.cons (EntW.mix aB M (SubC.of_eq M) (SubC.of_eq M) M M) (.cons (EntW.lst M) .nil))))))),bE [0,1,2,4,5,1000,1001] M (by decide),fun _ _=>M⟩ ?_
  refine tR 1 6 7 (sv (d:=.fn 83 q20) M) cl83 func83 M M ntmps83 (nle M) M M hO.semiL (List.forall_mem_nil _) fun O1 hO1 hlc1=>?_
  show IWP _ _ _ _ ⟨[(0,.yld 6),(1,.ref 4 0),(2,.ref 5 0)],[(7,.kept 1 (.dead::(.dead::(.ref 0 0::(.ref 1 0::(.ref 2 0::(dd_ 6 (.fn 83 [.ref 4 0,.ref 5 0]::(dd_ 79 []))))))))),(6,.loop 1 [.dead,.dead,.ref 0 0,.ref 1 0,.ref 2 0,.dead,.dead,.dead,.dead,.dead,.dead,.fn 83 [.ref 4 0,.ref 5 0],.dead,.dead,.dead,.dead,.dead,.dead,.dead,.dead,.dead,.dead,.dead,.dead,.dead,.dead,.dead,.dead,.dead,.dead,.dead,.dead,.dead,.dead,.dead,.dead,.dead,.dead,.dead,.dead,.dead,.dead,.dead,.dead,.dead,.dead,.dead,.dead,.dead,.dead,.dead,.dead,.dead,.dead,.dead,.dead,.dead,.dead,.dead,.dead,.dead,.dead,.dead,.dead,.dead,.dead,.dead,.dead,.dead,.dead,.dead,.dead,.dead,.dead,.dead,.dead,.dead,.dead,.dead,.dead,.dead,.dead,.dead,.dead,.dead,.dead,.dead,.dead,.dead,.dead,.dead] .ready none),(0,.blk 25 [.ref 1000 0]),(1,.blk 3 [.int .i64 a0]),(2,.blk 3 [.int .i64 0]),(4,.blk 25 [.ref 1000 0]),(5,.blk 3 [.int .i64 a0]),(1000,.blk 67 (mixD aB.toEnc0 (w26 a1 a2 a3 a4 a5) a6 [.int .i64 a7,.osl 1001 (eInt .i64).sz a8.length])),(1001,.blk 3 (D.flat (a8.map (eInt .i64).d)))]⟩ _
  refine aF (aA M (aI (d:=.ref _ _) M M (lb M) underlying25 ag25 ti25 (by decide) (svR M) M (nle M) M)<|aA M (aI (d:=.int _ _) M M (lb M) underlying3 ag3 ti3 (by decide) (svR M) M (nle M) M) <|?_)
  refine jE (S':=⟨[(0,.yld 6),(1,.ref 4 0),(6,.ref 1000 0),(7,.int .i64 a0)],[(0,.blk 25 [.ref 1000 0]),(1,.blk 3 [.int .i64 a0]),(2,.blk 3 [.int .i64 0]),(4,.blk 25 [.ref 1000 0]),(5,.blk 3 [.int .i64 a0]),(6,.loop 1 [.dead,.dead,.ref 0 0,.ref 1 0,.ref 2 0,.dead,.dead,.dead,.dead,.dead,.dead,.fn 83 [.ref 4 0,.ref 5 0],.dead,.dead,.dead,.dead,.dead,.dead,.dead,.dead,.dead,.dead,.dead,.dead,.dead,.dead,.dead,.dead,.dead,.dead,.dead,.dead,.dead,.dead,.dead,.dead,.dead,.dead,.dead,.dead,.dead,.dead,.dead,.dead,.dead,.dead,.dead,.dead,.dead,.dead,.dead,.dead,.dead,.dead,.dead,.dead,.dead,.dead,.dead,.dead,.dead,.dead,.dead,.dead,.dead,.dead,.dead,.dead,.dead,.dead,.dead,.dead,.dead,.dead,.dead,.dead,.dead,.dead,.dead,.dead,.dead,.dead,.dead,.dead,.dead,.dead,.dead,.dead,.dead,.dead,.dead] .ready none),(7,.kept 1 (.dead::(.dead::(.ref 0 0::(.ref 1 0::(.ref 2 0::(dd_ 6 (.fn 83 [.ref 4 0,.ref 5 0]::(dd_ 79 []))))))))),(1000,.blk 67 (mixD aB.toEnc0 (w26 a1 a2 a3 a4 a5) a6 [.int .i64 a7,.osl 1001 (eInt .i64).sz a8.length])),(1001,.blk 3 (D.flat (a8.map (eInt .i64).d)))]⟩) (fun i=>i) ⟨(.sames M M),(.cons (.blk M M M) (.cons (.blk M M M) (.cons (.blk M M M) (.cons (.blk M M M) (.cons (.blk M M M) (.cons (.loop M M M) (.cons (.kept M M M) (.cons (EntW.mix aB M (SubC.of_eq M) (SubC.of_eq M) M M) (.cons (EntW.lst M) .nil))))))))),bE [0,1,2,4,5,6,7,1000,1001] M (by decide),fun _ _=>M⟩ ?_
  refine mO 2 8 M M M (by decide) cl81 func81 M (.cons (svR M) (.cons (svI M) .nil)) ntmps81 (nle M) M hO1 fun O2 hO2=>?_
  show IWP _ _ _ _ ⟨[(0,.ref 1000 0),(1,.int .i64 a0)],[(8,.kept 2 (.yld 6::(.ref 4 0::(dd_ 4 (.ref 1000 0::(.int .i64 a0::(dd_ 17 []))))))),(0,.blk 25 [.ref 1000 0]),(1,.blk 3 [.int .i64 a0]),(2,.blk 3 [.int .i64 0]),(4,.blk 25 [.ref 1000 0]),(5,.blk 3 [.int .i64 a0]),(6,.loop 1 [.dead,.dead,.ref 0 0,.ref 1 0,.ref 2 0,.dead,.dead,.dead,.dead,.dead,.dead,.fn 83 [.ref 4 0,.ref 5 0],.dead,.dead,.dead,.dead,.dead,.dead,.dead,.dead,.dead,.dead,.dead,.dead,.dead,.dead,.dead,.dead,.dead,.dead,.dead,.dead,.dead,.dead,.dead,.dead,.dead,.dead,.dead,.dead,.dead,.dead,.dead,.dead,.dead,.dead,.dead,.dead,.dead,.dead,.dead,.dead,.dead,.dead,.dead,.dead,.dead,.dead,.dead,.dead,.dead,.dead,.dead,.dead,.dead,.dead,.dead,.dead,.dead,.dead,.dead,.dead,.dead,.dead,.dead,.dead,.dead,.dead,.dead,.dead,.dead,.dead,.dead,.dead,.dead,.dead,.dead,.dead,.dead,.dead,.dead] .ready none),(7,.kept 1 (.dead::(.dead::(.ref 0 0::(.ref 1 0::(.ref 2 0::(dd_ 6 (.fn 83 [.ref 4 0,.ref 5 0]::(dd_ 79 []))))))))),(1000,.blk 67 (mixD aB.toEnc0 (w26 a1 a2 a3 a4 a5) a6 [.int .i64 a7,.osl 1001 (eInt .i64).sz a8.length])),(1001,.blk 3 (D.flat (a8.map (eInt .i64).d)))]⟩ _
  refine aF (aA M (aG M M (lb M) (sv (d:=.nilp) M))<|aD ?_)
  refine aT ?_
  obtain ⟨x232,hx232,h⟩:=bC h
  refine aF (aA M (mvI M M M M)<|aA M (aQ M M (lb M) (svI M) (sv (d:=.int _ (-1)) M) M hx232)<|aD ?_)
  refine aR (b:=_) M (fun hc233=>?_) (fun hc233=>?_)
  ·
   replace h:=cA h hc233
   refine aF (aA M (mvR M M M M)<|aA M (aL M M (lb M) (svR M))<|aA M (faR 389 M M M underlying67 M ti3 (lb M) M M)<|aA M (aG M M (lb M) (svR M))<|aD ?_)
   refine aY ?_
   refine bG ?_
   refine ⟨.inr M,8,_,[.ref 1000 389],(.cons (sv M) .nil),M,M,⟨[(0,.yld 6),(1,.ref 4 0),(8,.ref 1000 389)],[(0,.blk 25 [.ref 1000 0]),(1,.blk 3 [.int .i64 a0]),(2,.blk 3 [.int .i64 0]),(4,.blk 25 [.ref 1000 0]),(5,.blk 3 [.int .i64 a0]),(6,.loop 1 [.dead,.dead,.ref 0 0,.ref 1 0,.ref 2 0,.dead,.dead,.dead,.dead,.dead,.dead,.fn 83 [.ref 4 0,.ref 5 0],.dead,.dead,.dead,.dead,.dead,.dead,.dead,.dead,.dead,.dead,.dead,.dead,.dead,.dead,.dead,.dead,.dead,.dead,.dead,.dead,.dead,.dead,.dead,.dead,.dead,.dead,.dead,.dead,.dead,.dead,.dead,.dead,.dead,.dead,.dead,.dead,.dead,.dead,.dead,.dead,.dead,.dead,.dead,.dead,.dead,.dead,.dead,.dead,.dead,.dead,.dead,.dead,.dead,.dead,.dead,.dead,.dead,.dead,.dead,.dead,.dead,.dead,.dead,.dead,.dead,.dead,.dead,.dead,.dead,.dead,.dead,.dead,.dead,.dead,.dead,.dead,.dead,.dead,.dead] .ready none),(7,.kept 1 (.dead::(.dead::(.ref 0 0::(.ref 1 0::(.ref 2 0::(dd_ 6 (.fn 83 [.ref 4 0,.ref 5 0]::(dd_ 79 []))))))))),(1000,.blk 67 (mixD aB.toEnc0 (w26 a1 a2 a3 a4 a5) a6 [.int .i64 a7,.osl 1001 (eInt .i64).sz a8.length])),(1001,.blk 3 (D.flat (a8.map (eInt .i64).d)))]⟩,(fun i=>i),⟨(.sames M M),(.cons (.blk M M M) (.cons (.blk M M M) (.cons (.blk M M M) (.cons (.blk M M M) (.cons (.blk M M M) (.cons (.loop M M M) (.cons (.kept M M M) (.cons (EntW.mix aB M (SubC.of_eq M) (SubC.of_eq M) M M) (.cons (EntW.lst M) .nil))))))))),bE [0,1,2,4,5,6,7,1000,1001] M (by decide),fun _ _=>M⟩,?_⟩
   obtain ⟨hk234,h⟩:=oZ h
   refine aA M (aL M M (lb M) (svR M))<|aA M (iD aB.toEnc0 (d:=.int _ _) (n:=64) (k:=0) M M (lb M) underlying3 ag3 ti3 (by decide) (svR M) M hk234 (by rfl) (nle M) (by rfl))<|aA M (asI M M M M)<|aD ?_
   refine bB ?_
   refine cP (α:=Nat × Int × Int) (fun z=>⟨[(0,.yld 6),(1,.ref 4 0),(4,.int .i64 z.2.1)],[(6,.loop 1 [.dead,.dead,.ref 0 0,.ref 1 0,.ref 2 0,.dead,.dead,.dead,.dead,.dead,.dead,.fn 83 [.ref 4 0,.ref 5 0],.dead,.dead,.dead,.dead,.dead,.dead,.dead,.dead,.dead,.dead,.dead,.dead,.dead,.dead,.dead,.dead,.dead,.dead,.dead,.dead,.dead,.dead,.dead,.dead,.dead,.dead,.dead,.dead,.dead,.dead,.dead,.dead,.dead,.dead,.dead,.dead,.dead,.dead,.dead,.dead,.dead,.dead,.dead,.dead,.dead,.dead,.dead,.dead,.dead,.dead,.dead,.dead,.dead,.dead,.dead,.dead,.dead,.dead,.dead,.dead,.dead,.dead,.dead,.dead,.dead,.dead,.dead,.dead,.dead,.dead,.dead,.dead,.dead,.dead,.dead,.dead,.dead,.dead,.dead] .ready none),(4,.blk 25 [.ref 1000 0]),(7,.kept 1 (.dead::(.dead::(.ref 0 0::(.ref 1 0::(.ref 2 0::(dd_ 6 (.fn 83 [.ref 4 0,.ref 5 0]::(dd_ 79 []))))))))),(1000,.blk 67 (mixD aB.toEnc0 (w26 a1 a2 a3 a4 a5) a6 [.int .i64 a7,.osl 1001 (eInt .i64).sz a8.length])),(1001,.blk 3 (D.flat (a8.map (eInt .i64).d))),(0,.blk 25 [.ref 1000 0]),(1,.blk 3 [.int .i64 a0]),(2,.blk 3 [.int .i64 z.2.2]),(5,.blk 3 [.int .i64 a0])]⟩) (fun z=>jV a0 a1 a2 a3 a4 a5 a6 a7 a8 z.1 z.2.1 z.2.2=some r) (fun z=>z.1) (fuel,a7,0) (fun i=>i) ⟨(.sames M M),(.cons (.loop M M M) (.cons (.blk M M M) (.cons (.kept M M M) (.cons (EntW.mix aB M (SubC.of_eq M) (SubC.of_eq M) M M) (.cons (EntW.lst M) (.cons (.blk M M M) (.cons (.blk M M M) (.cons (.blk M M M) (.cons (.blk M M M) .nil))))))))),bE [6,4,7,1000,1001,0,1,2,5] M (by decide),fun _ _=>M⟩ ?_ ?_
   ·exact h
   ·
    rintro ⟨n7,v242,v243⟩ h
    cases n7 with
    | zero=>exact absurd h (by unfold jV; exact nofun)
    | succ n7 =>
     unfold jV at h
     refine aT ?_
     obtain ⟨x251,hx251,h⟩:=bC h
     refine aF (aA M (mvI M M M M)<|aA M (aQ M M (lb M) (svI M) (sv (d:=.int _ (-1)) M) M hx251)<|aD ?_)
     refine aR (b:=_) M (fun hc252=>?_) (fun hc252=>?_)
     ·
      replace h:=cA h hc252
      refine aS ?_
      refine aM ?_
      refine bB ?_
      obtain ⟨x253,hx253,h⟩:=aX h
      obtain ⟨x254,hx254,h⟩:=aX h
      refine aF (aA M (aI (d:=.ref _ _) M M (lb M) underlying25 ag25 ti25 (by decide) (svR M) M (nle M) M)<|aA M (mvI M M M M)<|aA M (aL M M (lb M) (svR M))<|aA M (faR 5 M M M underlying67 M ti65 (lb M) M M)<|aA M (dO aB.toEnc0 M M (lb M) underlying65 ti64 (svR M) hk234 (svI M) hx253)<|aA M (bZ M M (lb M) underlying64 M ti3 (by decide) (svR M) (k':=3) M)<|aA M (cM aB.toEnc0 (b:=5) (k:=3) (d:=.int _ _) M M (lb M) underlying3 ag3 ti3 (by decide) (svR M) M M hx254 (nle M) M)<|aA M (asI M M M M)<|aD ?_)
      refine aT ?_
      refine aF (aA M (aO M M (lb M) (sv (d:=.yld _) M))<|aA M (mvI M M M M) <|?_)
      refine jE (S':=⟨[(0,.yld 6),(1,.ref 4 0),(5,.int .i64 x254.next),(20,.yld 6),(21,.int .i64 v242)],[(0,.blk 25 [.ref 1000 0]),(1,.blk 3 [.int .i64 a0]),(2,.blk 3 [.int .i64 v243]),(4,.blk 25 [.ref 1000 0]),(5,.blk 3 [.int .i64 a0]),(6,.loop 1 [.dead,.dead,.ref 0 0,.ref 1 0,.ref 2 0,.dead,.dead,.dead,.dead,.dead,.dead,.fn 83 [.ref 4 0,.ref 5 0],.dead,.dead,.dead,.dead,.dead,.dead,.dead,.dead,.dead,.dead,.dead,.dead,.dead,.dead,.dead,.dead,.dead,.dead,.dead,.dead,.dead,.dead,.dead,.dead,.dead,.dead,.dead,.dead,.dead,.dead,.dead,.dead,.dead,.dead,.dead,.dead,.dead,.dead,.dead,.dead,.dead,.dead,.dead,.dead,.dead,.dead,.dead,.dead,.dead,.dead,.dead,.dead,.dead,.dead,.dead,.dead,.dead,.dead,.dead,.dead,.dead,.dead,.dead,.dead,.dead,.dead,.dead,.dead,.dead,.dead,.dead,.dead,.dead,.dead,.dead,.dead,.dead,.dead,.dead] .ready none),(7,.kept 1 (.dead::(.dead::(.ref 0 0::(.ref 1 0::(.ref 2 0::(dd_ 6 (.fn 83 [.ref 4 0,.ref 5 0]::(dd_ 79 []))))))))),(1000,.blk 67 (mixD aB.toEnc0 (w26 a1 a2 a3 a4 a5) a6 [.int .i64 a7,.osl 1001 (eInt .i64).sz a8.length])),(1001,.blk 3 (D.flat (a8.map (eInt .i64).d)))]⟩) (fun i=>i) ⟨(.sames M M),(.cons (.blk M M M) (.cons (.blk M M M) (.cons (.blk M M M) (.cons (.blk M M M) (.cons (.blk M M M) (.cons (.loop M M M) (.cons (.kept M M M) (.cons (EntW.mix aB M (SubC.of_eq M) (SubC.of_eq M) M M) (.cons (EntW.lst M) .nil))))))))),bE [0,1,2,4,5,6,7,1000,1001] M (by decide),fun _ _=>M⟩ ?_
      refine pX 2 6 8 M M M (by decide) M (.cons (svI M) .nil) M M M M M M hO1.round hlc1 ⟨[(12,.int .i64 v242),(2,.ref 0 0),(4,.ref 2 0)],[(0,.blk 25 [.ref 1000 0]),(1,.blk 3 [.int .i64 a0]),(2,.blk 3 [.int .i64 v243]),(4,.blk 25 [.ref 1000 0]),(5,.blk 3 [.int .i64 a0]),(6,.loop 1 [.dead,.dead,.ref 0 0,.ref 1 0,.ref 2 0,.dead,.dead,.dead,.dead,.dead,.dead,.fn 83 [.ref 4 0,.ref 5 0],.dead,.dead,.dead,.dead,.dead,.dead,.dead,.dead,.dead,.dead,.dead,.dead,.dead,.dead,.dead,.dead,.dead,.dead,.dead,.dead,.dead,.dead,.dead,.dead,.dead,.dead,.dead,.dead,.dead,.dead,.dead,.dead,.dead,.dead,.dead,.dead,.dead,.dead,.dead,.dead,.dead,.dead,.dead,.dead,.dead,.dead,.dead,.dead,.dead,.dead,.dead,.dead,.dead,.dead,.dead,.dead,.dead,.dead,.dead,.dead,.dead,.dead,.dead,.dead,.dead,.dead,.dead,.dead,.dead,.dead,.dead,.dead,.dead,.dead,.dead,.dead,.dead,.dead,.dead] .ready none),(7,.kept 1 (.dead::(.dead::(.ref 0 0::(.ref 1 0::(.ref 2 0::(dd_ 6 (.fn 83 [.ref 4 0,.ref 5 0]::(dd_ 79 []))))))))),(8,.kept 2 (.yld 6::(.ref 4 0::(.dead::(.dead::(.dead::(.int .i64 x254.next::(dd_ 14 (.yld 6::(.int .i64 v242::(.dead::(.dead::(.dead::[]))))))))))))),(1000,.blk 67 (mixD aB.toEnc0 (w26 a1 a2 a3 a4 a5) a6 [.int .i64 a7,.osl 1001 (eInt .i64).sz a8.length])),(1001,.blk 3 (D.flat (a8.map (eInt .i64).d)))]⟩ (fun i=>i) ⟨(.sames M M),(.cons (.blk M M M) (.cons (.blk M M M) (.cons (.blk M M M) (.cons (.blk M M M) (.cons (.blk M M M) (.cons (.loop M M M) (.cons (.kept M M M) (.cons (.kept M M M) (.cons (EntW.mix aB M (SubC.of_eq M) (SubC.of_eq M) M M) (.cons (EntW.lst M) .nil)))))))))),bE [0,1,2,4,5,6,7,8,1000,1001] M (by decide),fun _ _=>M⟩ fun O2=>?_
      refine bA (aA M (asI M M M M)<|bL ?_)
      refine ⟨M,6,_,M,⟨[(2,.ref 0 0),(4,.ref 2 0),(5,.int .i64 v242)],[(0,.blk 25 [.ref 1000 0]),(1,.blk 3 [.int .i64 a0]),(2,.blk 3 [.int .i64 v243]),(4,.blk 25 [.ref 1000 0]),(5,.blk 3 [.int .i64 a0]),(6,.loop 1 [.dead,.dead,.ref 0 0,.ref 1 0,.ref 2 0,.dead,.dead,.dead,.dead,.dead,.dead,.fn 83 [.ref 4 0,.ref 5 0],.dead,.dead,.dead,.dead,.dead,.dead,.dead,.dead,.dead,.dead,.dead,.dead,.dead,.dead,.dead,.dead,.dead,.dead,.dead,.dead,.dead,.dead,.dead,.dead,.dead,.dead,.dead,.dead,.dead,.dead,.dead,.dead,.dead,.dead,.dead,.dead,.dead,.dead,.dead,.dead,.dead,.dead,.dead,.dead,.dead,.dead,.dead,.dead,.dead,.dead,.dead,.dead,.dead,.dead,.dead,.dead,.dead,.dead,.dead,.dead,.dead,.dead,.dead,.dead,.dead,.dead,.dead,.dead,.dead,.dead,.dead,.dead,.dead,.dead,.dead,.dead,.dead,.dead,.dead] .busy none),(7,.kept 1 (.dead::(.dead::(.ref 0 0::(.ref 1 0::(.ref 2 0::(dd_ 6 (.fn 83 [.ref 4 0,.ref 5 0]::(dd_ 79 []))))))))),(8,.kept 2 (.yld 6::(.ref 4 0::(.dead::(.dead::(.dead::(.int .i64 x254.next::(dd_ 14 (.yld 6::(.int .i64 v242::(.dead::(.dead::(.dead::[]))))))))))))),(1000,.blk 67 (mixD aB.toEnc0 (w26 a1 a2 a3 a4 a5) a6 [.int .i64 a7,.osl 1001 (eInt .i64).sz a8.length])),(1001,.blk 3 (D.flat (a8.map (eInt .i64).d)))]⟩,(fun i=>i),⟨(.sames M M),(.cons (.blk M M M) (.cons (.blk M M M) (.cons (.blk M M M) (.cons (.blk M M M) (.cons (.blk M M M) (.cons (.loop M M M) (.cons (.kept M M M) (.cons (.kept M M M) (.cons (EntW.mix aB M (SubC.of_eq M) (SubC.of_eq M) M M) (.cons (EntW.lst M) .nil)))))))))),bE [0,1,2,4,5,6,7,8,1000,1001] M (by decide),fun _ _=>M⟩,?_⟩
      refine bB ?_
      obtain ⟨x255,hx255,h⟩:=aX h
      obtain ⟨x256,hx256,h⟩:=aX h
      obtain ⟨x257,hx257,h⟩:=bC h
      refine lH M [⟨[4],[2],[(13,.int .i64 v243)],[]⟩,
       ⟨[2],[0],[(14,.ref 1000 0)],[]⟩,
       ⟨[5],[],[(15,.int .i64 v242)],[]⟩,
       ⟨[14],[],[(16,.ref 1000 0)],[]⟩,
       ⟨[16],[],[(17,.ref 1000 5)],[]⟩,
       ⟨[15,17],[],[(18,.ref 1000 (5 + (((v242:Int).toNat) * aB.sz + 0)))],[]⟩,
       ⟨[18],[],[(19,.ref 1000 (5 + (((v242:Int).toNat) * aB.sz + 4)))],[]⟩,
       ⟨[19],[1000],[(20,.int .i64 x256.weight)],[]⟩,
       ⟨[13,20],[],[(21,.int .i64 x257)],[]⟩,
       ⟨[4,21],[2],[],[(2,.blk 3 [.int .i64 x257])]⟩] M ?_ (by kernel_rfl) ?_
      ·refine .cons (lop M M fun S hA=>(aI (d:=.int _ _) M M (lb M) underlying3 ag3 ti3 (by decide) (svaR hA M M) (agi hA M M) (nle M) M)) ?_
       refine .cons (lop M M fun S hA=>(aI (d:=.ref _ _) M M (lb M) underlying25 ag25 ti25 (by decide) (svaR hA M M) (agi hA M M) (nle M) M)) ?_
       refine .cons (lop M M fun S hA=>(aO M M (lb M) (svaI hA M M))) ?_
       refine .cons (lop M M fun S hA=>(aL M M (lb M) (svaR hA M M))) ?_
       refine .cons (lop M M fun S hA=>(aP M M (lb M) underlying67 M ti65 (by decide) (svaR hA M M) (off':=5) M)) ?_
       refine .cons (lop M M fun S hA=>(dO aB.toEnc0 M M (lb M) underlying65 ti64 (svaR hA M M) hk234 (svaI hA M M) hx255)) ?_
       refine .cons (lop M M fun S hA=>(bZ M M (lb M) underlying64 M ti3 (by decide) (svaR hA M M) (k':=4) M)) ?_
       refine .cons (lop M M fun S hA=>(cM aB.toEnc0 (b:=5) (k:=4) (d:=.int _ _) M M (lb M) underlying3 ag3 ti3 (by decide) (svaR hA M M) (agi hA M M) M hx256 (nle M) M)) ?_
       refine .cons (lop M M fun S hA=>(bO M M (lb M) (svaI hA M M) (svaI hA M M) M hx257)) ?_
       refine .cons (lop M M fun S hA=>(dZ (ds':=[.int _ _]) M M ti3 (svaR hA M M) (agi hA M M) (svaI hA M M) M M M (nle M) M)) ?_
       exact .nil
      refine bJ ?_
      refine ⟨6,8,_,_,none,M,M,M,M,(by decide),⟨[(0,.yld 6),(1,.ref 4 0),(5,.int .i64 x254.next),(22,.bool true)],[(0,.blk 25 [.ref 1000 0]),(1,.blk 3 [.int .i64 a0]),(2,.blk 3 [.int .i64 x257]),(4,.blk 25 [.ref 1000 0]),(5,.blk 3 [.int .i64 a0]),(6,.loop 1 [.dead,.dead,.ref 0 0,.ref 1 0,.ref 2 0,.dead,.dead,.dead,.dead,.dead,.dead,.fn 83 [.ref 4 0,.ref 5 0],.dead,.dead,.dead,.dead,.dead,.dead,.dead,.dead,.dead,.dead,.dead,.dead,.dead,.dead,.dead,.dead,.dead,.dead,.dead,.dead,.dead,.dead,.dead,.dead,.dead,.dead,.dead,.dead,.dead,.dead,.dead,.dead,.dead,.dead,.dead,.dead,.dead,.dead,.dead,.dead,.dead,.dead,.dead,.dead,.dead,.dead,.dead,.dead,.dead,.dead,.dead,.dead,.dead,.dead,.dead,.dead,.dead,.dead,.dead,.dead,.dead,.dead,.dead,.dead,.dead,.dead,.dead,.dead,.dead,.dead,.dead,.dead,.dead,.dead,.dead,.dead,.dead,.dead,.dead] .ready none),(7,.kept 1 (.dead::(.dead::(.ref 0 0::(.ref 1 0::(.ref 2 0::(dd_ 6 (.fn 83 [.ref 4 0,.ref 5 0]::(dd_ 79 []))))))))),(1000,.blk 67 (mixD aB.toEnc0 (w26 a1 a2 a3 a4 a5) a6 [.int .i64 a7,.osl 1001 (eInt .i64).sz a8.length])),(1001,.blk 3 (D.flat (a8.map (eInt .i64).d)))]⟩,(fun i=>i),⟨(.sames M M),(.cons (.blk M M M) (.cons (.blk M M M) (.cons (.blk M M M) (.cons (.blk M M M) (.cons (.blk M M M) (.cons (.loop M M M) (.cons (.kept M M M) (.cons (EntW.mix aB M (SubC.of_eq M) (SubC.of_eq M) M M) (.cons (EntW.lst M) .nil))))))))),bE [0,1,2,4,5,6,7,1000,1001] M (by decide),fun _ _=>M⟩,?_⟩
      refine aA M (gD M M (lb M) (svB M))<|aD ?_
      refine jD M M ?_
      refine aS ?_
      refine aM ?_
      refine bA (aA M (mvI M M M M)<|aA M (asI M M M M)<|bL ?_)
      refine bJ ?_
      refine aM ⟨(n7,x254.next,x257),(fun i=>i),⟨(.sames M M),(.cons (.loop M M M) (.cons (.blk M M M) (.cons (.kept M M M) (.cons (EntW.mix aB M (SubC.of_eq M) (SubC.of_eq M) M M) (.cons (EntW.lst M) (.cons (.blk M M M) (.cons (.blk M M M) (.cons (.blk M M M) (.cons (.blk M M M) .nil))))))))),bE [6,4,7,1000,1001,0,1,2,5] M (by decide),fun _ _=>M⟩,?_,?_⟩
      exact h
      exact Nat.lt_succ_self _
     ·
      replace h:=cB h hc252
      refine cU ?_
      refine bK ?_
      refine bK ?_
      refine cW ?_
      refine ⟨.inl M,6,7,_,_,_,_,M,(by simp),M,M,⟨[(2,.ref 0 0),(3,.ref 1 0),(4,.ref 2 0)],[(0,.blk 25 [.ref 1000 0]),(1,.blk 3 [.int .i64 a0]),(2,.blk 3 [.int .i64 v243]),(1000,.blk 67 (mixD aB.toEnc0 (w26 a1 a2 a3 a4 a5) a6 [.int .i64 a7,.osl 1001 (eInt .i64).sz a8.length])),(1001,.blk 3 (D.flat (a8.map (eInt .i64).d)))]⟩,(fun i=>i),⟨(.sames M M),(.cons (.blk M M M) (.cons (.blk M M M) (.cons (.blk M M M) (.cons (EntW.mix aB M (SubC.of_eq M) (SubC.of_eq M) M M) (.cons (EntW.lst M) .nil))))),bE [0,1,2,1000,1001] M (by decide),fun _ _=>M⟩,?_⟩
      refine bJ ?_
      refine aM ⟨v243,(fun i=>i),⟨(.sames M M),(.cons (.blk M M M) (.cons (.blk M M M) (.cons (.blk M M M) (.cons (EntW.mix aB M (SubC.of_eq M) (SubC.of_eq M) M M) (.cons (EntW.lst M) .nil))))),bE [0,1,2,1000,1001] M (by decide),fun _ _=>M⟩,?_⟩
      exact h
  ·
   replace h:=cB h hc233
   refine aS ?_
   refine aM ?_
   obtain ⟨x258,hx258,h⟩:=aX h
   obtain ⟨hk259,h⟩:=oZ h
   refine aF (aA M (mvR M M M M)<|aA M (mvI M M M M)<|aA M (aL M M (lb M) (svR M))<|aA M (faR 5 M M M underlying67 M ti65 (lb M) M M)<|aA M (dO aB.toEnc0 M M (lb M) underlying65 ti64 (svR M) hk259 (svI M) hx258)<|aA M (bZ M M (lb M) underlying64 M ti3 (by decide) (svR M) (k':=2) M)<|aA M (aG M M (lb M) (svR M))<|aD ?_)
   refine aY ?_
   refine ⟨.inr M,8,_,[.ref 1000 (5 + (((a0:Int).toNat) * aB.sz + 2))],(.cons (sv M) .nil),M,M,⟨[(0,.yld 6),(1,.ref 4 0),(8,.ref 1000 (5 + (((a0:Int).toNat) * aB.sz + 2)))],[(0,.blk 25 [.ref 1000 0]),(1,.blk 3 [.int .i64 a0]),(2,.blk 3 [.int .i64 0]),(4,.blk 25 [.ref 1000 0]),(5,.blk 3 [.int .i64 a0]),(6,.loop 1 [.dead,.dead,.ref 0 0,.ref 1 0,.ref 2 0,.dead,.dead,.dead,.dead,.dead,.dead,.fn 83 [.ref 4 0,.ref 5 0],.dead,.dead,.dead,.dead,.dead,.dead,.dead,.dead,.dead,.dead,.dead,.dead,.dead,.dead,.dead,.dead,.dead,.dead,.dead,.dead,.dead,.dead,.dead,.dead,.dead,.dead,.dead,.dead,.dead,.dead,.dead,.dead,.dead,.dead,.dead,.dead,.dead,.dead,.dead,.dead,.dead,.dead,.dead,.dead,.dead,.dead,.dead,.dead,.dead,.dead,.dead,.dead,.dead,.dead,.dead,.dead,.dead,.dead,.dead,.dead,.dead,.dead,.dead,.dead,.dead,.dead,.dead,.dead,.dead,.dead,.dead,.dead,.dead,.dead,.dead,.dead,.dead,.dead,.dead] .ready none),(7,.kept 1 (.dead::(.dead::(.ref 0 0::(.ref 1 0::(.ref 2 0::(dd_ 6 (.fn 83 [.ref 4 0,.ref 5 0]::(dd_ 79 []))))))))),(1000,.blk 67 (mixD aB.toEnc0 (w26 a1 a2 a3 a4 a5) a6 [.int .i64 a7,.osl 1001 (eInt .i64).sz a8.length])),(1001,.blk 3 (D.flat (a8.map (eInt .i64).d)))]⟩,(fun i=>i),⟨(.sames M M),(.cons (.blk M M M) (.cons (.blk M M M) (.cons (.blk M M M) (.cons (.blk M M M) (.cons (.blk M M M) (.cons (.loop M M M) (.cons (.kept M M M) (.cons (EntW.mix aB M (SubC.of_eq M) (SubC.of_eq M) M M) (.cons (EntW.lst M) .nil))))))))),bE [0,1,2,4,5,6,7,1000,1001] M (by decide),fun _ _=>M⟩,?_⟩
   obtain ⟨x260,hx260,h⟩:=aX h
   refine aA M (aL M M (lb M) (svR M))<|aA M (cM aB.toEnc0 (b:=5) (k:=2) (d:=.int _ _) M M (lb M) underlying3 ag3 ti3 (by decide) (svR M) M M hx260 (nle M) M)<|aA M (asI M M M M)<|aD ?_
   refine bB ?_
   refine cP (α:=Nat × Int × Int) (fun z=>⟨[(0,.yld 6),(1,.ref 4 0),(4,.int .i64 z.2.1)],[(6,.loop 1 [.dead,.dead,.ref 0 0,.ref 1 0,.ref 2 0,.dead,.dead,.dead,.dead,.dead,.dead,.fn 83 [.ref 4 0,.ref 5 0],.dead,.dead,.dead,.dead,.dead,.dead,.dead,.dead,.dead,.dead,.dead,.dead,.dead,.dead,.dead,.dead,.dead,.dead,.dead,.dead,.dead,.dead,.dead,.dead,.dead,.dead,.dead,.dead,.dead,.dead,.dead,.dead,.dead,.dead,.dead,.dead,.dead,.dead,.dead,.dead,.dead,.dead,.dead,.dead,.dead,.dead,.dead,.dead,.dead,.dead,.dead,.dead,.dead,.dead,.dead,.dead,.dead,.dead,.dead,.dead,.dead,.dead,.dead,.dead,.dead,.dead,.dead,.dead,.dead,.dead,.dead,.dead,.dead,.dead,.dead,.dead,.dead,.dead,.dead] .ready none),(4,.blk 25 [.ref 1000 0]),(7,.kept 1 (.dead::(.dead::(.ref 0 0::(.ref 1 0::(.ref 2 0::(dd_ 6 (.fn 83 [.ref 4 0,.ref 5 0]::(dd_ 79 []))))))))),(1000,.blk 67 (mixD aB.toEnc0 (w26 a1 a2 a3 a4 a5) a6 [.int .i64 a7,.osl 1001 (eInt .i64).sz a8.length])),(1001,.blk 3 (D.flat (a8.map (eInt .i64).d))),(0,.blk 25 [.ref 1000 0]),(1,.blk 3 [.int .i64 a0]),(2,.blk 3 [.int .i64 z.2.2]),(5,.blk 3 [.int .i64 a0])]⟩) (fun z=>gB a0 a1 a2 a3 a4 a5 a6 a7 a8 z.1 z.2.1 z.2.2=some r) (fun z=>z.1) (fuel,x260.first,0) (fun i=>i) ⟨(.sames M M),(.cons (.loop M M M) (.cons (.blk M M M) (.cons (.kept M M M) (.cons (EntW.mix aB M (SubC.of_eq M) (SubC.of_eq M) M M) (.cons (EntW.lst M) (.cons (.blk M M M) (.cons (.blk M M M) (.cons (.blk M M M) (.cons (.blk M M M) .nil))))))))),bE [6,4,7,1000,1001,0,1,2,5] M (by decide),fun _ _=>M⟩ ?_ ?_
   ·exact h
   ·
    rintro ⟨n8,v268,v269⟩ h
    cases n8 with
    | zero=>exact absurd h (by unfold gB; exact nofun)
    | succ n8 =>
     unfold gB at h
     refine aT ?_
     obtain ⟨x277,hx277,h⟩:=bC h
     refine aF (aA M (mvI M M M M)<|aA M (aQ M M (lb M) (svI M) (sv (d:=.int _ (-1)) M) M hx277)<|aD ?_)
     refine aR (b:=_) M (fun hc278=>?_) (fun hc278=>?_)
     ·
      replace h:=cA h hc278
      refine aS ?_
      refine aM ?_
      refine bB ?_
      obtain ⟨x279,hx279,h⟩:=aX h
      obtain ⟨x280,hx280,h⟩:=aX h
      refine aF (aA M (aI (d:=.ref _ _) M M (lb M) underlying25 ag25 ti25 (by decide) (svR M) M (nle M) M)<|aA M (mvI M M M M)<|aA M (aL M M (lb M) (svR M))<|aA M (faR 5 M M M underlying67 M ti65 (lb M) M M)<|aA M (dO aB.toEnc0 M M (lb M) underlying65 ti64 (svR M) hk259 (svI M) hx279)<|aA M (bZ M M (lb M) underlying64 M ti3 (by decide) (svR M) (k':=3) M)<|aA M (cM aB.toEnc0 (b:=5) (k:=3) (d:=.int _ _) M M (lb M) underlying3 ag3 ti3 (by decide) (svR M) M M hx280 (nle M) M)<|aA M (asI M M M M)<|aD ?_)
      refine aT ?_
      refine aF (aA M (aO M M (lb M) (sv (d:=.yld _) M))<|aA M (mvI M M M M) <|?_)
      refine jE (S':=⟨[(0,.yld 6),(1,.ref 4 0),(5,.int .i64 x280.next),(20,.yld 6),(21,.int .i64 v268)],[(0,.blk 25 [.ref 1000 0]),(1,.blk 3 [.int .i64 a0]),(2,.blk 3 [.int .i64 v269]),(4,.blk 25 [.ref 1000 0]),(5,.blk 3 [.int .i64 a0]),(6,.loop 1 [.dead,.dead,.ref 0 0,.ref 1 0,.ref 2 0,.dead,.dead,.dead,.dead,.dead,.dead,.fn 83 [.ref 4 0,.ref 5 0],.dead,.dead,.dead,.dead,.dead,.dead,.dead,.dead,.dead,.dead,.dead,.dead,.dead,.dead,.dead,.dead,.dead,.dead,.dead,.dead,.dead,.dead,.dead,.dead,.dead,.dead,.dead,.dead,.dead,.dead,.dead,.dead,.dead,.dead,.dead,.dead,.dead,.dead,.dead,.dead,.dead,.dead,.dead,.dead,.dead,.dead,.dead,.dead,.dead,.dead,.dead,.dead,.dead,.dead,.dead,.dead,.dead,.dead,.dead,.dead,.dead,.dead,.dead,.dead,.dead,.dead,.dead,.dead,.dead,.dead,.dead,.dead,.dead,.dead,.dead,.dead,.dead,.dead,.dead] .ready none),(7,.kept 1 (.dead::(.dead::(.ref 0 0::(.ref 1 0::(.ref 2 0::(dd_ 6 (.fn 83 [.ref 4 0,.ref 5 0]::(dd_ 79 []))))))))),(1000,.blk 67 (mixD aB.toEnc0 (w26 a1 a2 a3 a4 a5) a6 [.int .i64 a7,.osl 1001 (eInt .i64).sz a8.length])),(1001,.blk 3 (D.flat (a8.map (eInt .i64).d)))]⟩) (fun i=>i) ⟨(.sames M M),(.cons (.blk M M M) (.cons (.blk M M M) (.cons (.blk M M M) (.cons (.blk M M M) (.cons (.blk M M M) (.cons (.loop M M M) (.cons (.kept M M M) (.cons (EntW.mix aB M (SubC.of_eq M) (SubC.of_eq M) M M) (.cons (EntW.lst M) .nil))))))))),bE [0,1,2,4,5,6,7,1000,1001] M (by decide),fun _ _=>M⟩ ?_
      refine pX 2 6 8 M M M (by decide) M (.cons (svI M) .nil) M M M M M M hO1.round hlc1 ⟨[(12,.int .i64 v268),(2,.ref 0 0),(4,.ref 2 0)],[(0,.blk 25 [.ref 1000 0]),(1,.blk 3 [.int .i64 a0]),(2,.blk 3 [.int .i64 v269]),(4,.blk 25 [.ref 1000 0]),(5,.blk 3 [.int .i64 a0]),(6,.loop 1 [.dead,.dead,.ref 0 0,.ref 1 0,.ref 2 0,.dead,.dead,.dead,.dead,.dead,.dead,.fn 83 [.ref 4 0,.ref 5 0],.dead,.dead,.dead,.dead,.dead,.dead,.dead,.dead,.dead,.dead,.dead,.dead,.dead,.dead,.dead,.dead,.dead,.dead,.dead,.dead,.dead,.dead,.dead,.dead,.dead,.dead,.dead,.dead,.dead,.dead,.dead,.dead,.dead,.dead,.dead,.dead,.dead,.dead,.dead,.dead,.dead,.dead,.dead,.dead,.dead,.dead,.dead,.dead,.dead,.dead,.dead,.dead,.dead,.dead,.dead,.dead,.dead,.dead,.dead,.dead,.dead,.dead,.dead,.dead,.dead,.dead,.dead,.dead,.dead,.dead,.dead,.dead,.dead,.dead,.dead,.dead,.dead,.dead,.dead] .ready none),(7,.kept 1 (.dead::(.dead::(.ref 0 0::(.ref 1 0::(.ref 2 0::(dd_ 6 (.fn 83 [.ref 4 0,.ref 5 0]::(dd_ 79 []))))))))),(8,.kept 2 (.yld 6::(.ref 4 0::(.dead::(.dead::(.dead::(.int .i64 x280.next::(dd_ 14 (.yld 6::(.int .i64 v268::(.dead::(.dead::(.dead::[]))))))))))))),(1000,.blk 67 (mixD aB.toEnc0 (w26 a1 a2 a3 a4 a5) a6 [.int .i64 a7,.osl 1001 (eInt .i64).sz a8.length])),(1001,.blk 3 (D.flat (a8.map (eInt .i64).d)))]⟩ (fun i=>i) ⟨(.sames M M),(.cons (.blk M M M) (.cons (.blk M M M) (.cons (.blk M M M) (.cons (.blk M M M) (.cons (.blk M M M) (.cons (.loop M M M) (.cons (.kept M M M) (.cons (.kept M M M) (.cons (EntW.mix aB M (SubC.of_eq M) (SubC.of_eq M) M M) (.cons (EntW.lst M) .nil)))))))))),bE [0,1,2,4,5,6,7,8,1000,1001] M (by decide),fun _ _=>M⟩ fun O2=>?_
      refine bA (aA M (asI M M M M)<|bL ?_)
      refine ⟨M,6,_,M,⟨[(2,.ref 0 0),(4,.ref 2 0),(5,.int .i64 v268)],[(0,.blk 25 [.ref 1000 0]),(1,.blk 3 [.int .i64 a0]),(2,.blk 3 [.int .i64 v269]),(4,.blk 25 [.ref 1000 0]),(5,.blk 3 [.int .i64 a0]),(6,.loop 1 [.dead,.dead,.ref 0 0,.ref 1 0,.ref 2 0,.dead,.dead,.dead,.dead,.dead,.dead,.fn 83 [.ref 4 0,.ref 5 0],.dead,.dead,.dead,.dead,.dead,.dead,.dead,.dead,.dead,.dead,.dead,.dead,.dead,.dead,.dead,.dead,.dead,.dead,.dead,.dead,.dead,.dead,.dead,.dead,.dead,.dead,.dead,.dead,.dead,.dead,.dead,.dead,.dead,.dead,.dead,.dead,.dead,.dead,.dead,.dead,.dead,.dead,.dead,.dead,.dead,.dead,.dead,.dead,.dead,.dead,.dead,.dead,.dead,.dead,.dead,.dead,.dead,.dead,.dead,.dead,.dead,.dead,.dead,.dead,.dead,.dead,.dead,.dead,.dead,.dead,.dead,.dead,.dead,.dead,.dead,.dead,.dead,.dead,.dead] .busy none),(7,.kept 1 (.dead::(.dead::(.ref 0 0::(.ref 1 0::(.ref 2 0::(dd_ 6 (.fn 83 [.ref 4 0,.ref 5 0]::(dd_ 79 []))))))))),(8,.kept 2 (.yld 6::(.ref 4 0::(.dead::(.dead::(.dead::(.int .i64 x280.next::(dd_ 14 (.yld 6::(.int .i64 v268::(.dead::(.dead::(.dead::[]))))))))))))),(1000,.blk 67 (mixD aB.toEnc0 (w26 a1 a2 a3 a4 a5) a6 [.int .i64 a7,.osl 1001 (eInt .i64).sz a8.length])),(1001,.blk 3 (D.flat (a8.map (eInt .i64).d)))]⟩,(fun i=>i),⟨(.sames M M),(.cons (.blk M M M) (.cons (.blk M M M) (.cons (.blk M M M) (.cons (.blk M M M) (.cons (.blk M M M) (.cons (.loop M M M) (.cons (.kept M M M) (.cons (.kept M M M) (.cons (EntW.mix aB M (SubC.of_eq M) (SubC.of_eq M) M M) (.cons (EntW.lst M) .nil)))))))))),bE [0,1,2,4,5,6,7,8,1000,1001] M (by decide),fun _ _=>M⟩,?_⟩
      refine bB ?_
      obtain ⟨x281,hx281,h⟩:=aX h
      obtain ⟨x282,hx282,h⟩:=aX h
      obtain ⟨x283,hx283,h⟩:=bC h
      refine lH M [⟨[4],[2],[(13,.int .i64 v269)],[]⟩,
       ⟨[2],[0],[(14,.ref 1000 0)],[]⟩,
       ⟨[5],[],[(15,.int .i64 v268)],[]⟩,
       ⟨[14],[],[(16,.ref 1000 0)],[]⟩,
       ⟨[16],[],[(17,.ref 1000 5)],[]⟩,
       ⟨[15,17],[],[(18,.ref 1000 (5 + (((v268:Int).toNat) * aB.sz + 0)))],[]⟩,
       ⟨[18],[],[(19,.ref 1000 (5 + (((v268:Int).toNat) * aB.sz + 4)))],[]⟩,
       ⟨[19],[1000],[(20,.int .i64 x282.weight)],[]⟩,
       ⟨[13,20],[],[(21,.int .i64 x283)],[]⟩,
       ⟨[4,21],[2],[],[(2,.blk 3 [.int .i64 x283])]⟩] M ?_ (by kernel_rfl) ?_
      ·refine .cons (lop M M fun S hA=>(aI (d:=.int _ _) M M (lb M) underlying3 ag3 ti3 (by decide) (svaR hA M M) (agi hA M M) (nle M) M)) ?_
       refine .cons (lop M M fun S hA=>(aI (d:=.ref _ _) M M (lb M) underlying25 ag25 ti25 (by decide) (svaR hA M M) (agi hA M M) (nle M) M)) ?_
       refine .cons (lop M M fun S hA=>(aO M M (lb M) (svaI hA M M))) ?_
       refine .cons (lop M M fun S hA=>(aL M M (lb M) (svaR hA M M))) ?_
       refine .cons (lop M M fun S hA=>(aP M M (lb M) underlying67 M ti65 (by decide) (svaR hA M M) (off':=5) M)) ?_
       refine .cons (lop M M fun S hA=>(dO aB.toEnc0 M M (lb M) underlying65 ti64 (svaR hA M M) hk259 (svaI hA M M) hx281)) ?_
       refine .cons (lop M M fun S hA=>(bZ M M (lb M) underlying64 M ti3 (by decide) (svaR hA M M) (k':=4) M)) ?_
       refine .cons (lop M M fun S hA=>(cM aB.toEnc0 (b:=5) (k:=4) (d:=.int _ _) M M (lb M) underlying3 ag3 ti3 (by decide) (svaR hA M M) (agi hA M M) M hx282 (nle M) M)) ?_
       refine .cons (lop M M fun S hA=>(bO M M (lb M) (svaI hA M M) (svaI hA M M) M hx283)) ?_
       refine .cons (lop M M fun S hA=>(dZ (ds':=[.int _ _]) M M ti3 (svaR hA M M) (agi hA M M) (svaI hA M M) M M M (nle M) M)) ?_
       exact .nil
      refine bJ ?_
      refine ⟨6,8,_,_,none,M,M,M,M,(by decide),⟨[(0,.yld 6),(1,.ref 4 0),(5,.int .i64 x280.next),(22,.bool true)],[(0,.blk 25 [.ref 1000 0]),(1,.blk 3 [.int .i64 a0]),(2,.blk 3 [.int .i64 x283]),(4,.blk 25 [.ref 1000 0]),(5,.blk 3 [.int .i64 a0]),(6,.loop 1 [.dead,.dead,.ref 0 0,.ref 1 0,.ref 2 0,.dead,.dead,.dead,.dead,.dead,.dead,.fn 83 [.ref 4 0,.ref 5 0],.dead,.dead,.dead,.dead,.dead,.dead,.dead,.dead,.dead,.dead,.dead,.dead,.dead,.dead,.dead,.dead,.dead,.dead,.dead,.dead,.dead,.dead,.dead,.dead,.dead,.dead,.dead,.dead,.dead,.dead,.dead,.dead,.dead,.dead,.dead,.dead,.dead,.dead,.dead,.dead,.dead,.dead,.dead,.dead,.dead,.dead,.dead,.dead,.dead,.dead,.dead,.dead,.dead,.dead,.dead,.dead,.dead,.dead,.dead,.dead,.dead,.dead,.dead,.dead,.dead,.dead,.dead,.dead,.dead,.dead,.dead,.dead,.dead,.dead,.dead,.dead,.dead,.dead,.dead] .ready none),(7,.kept 1 (.dead::(.dead::(.ref 0 0::(.ref 1 0::(.ref 2 0::(dd_ 6 (.fn 83 [.ref 4 0,.ref 5 0]::(dd_ 79 []))))))))),(1000,.blk 67 (mixD aB.toEnc0 (w26 a1 a2 a3 a4 a5) a6 [.int .i64 a7,.osl 1001 (eInt .i64).sz a8.length])),(1001,.blk 3 (D.flat (a8.map (eInt .i64).d)))]⟩,(fun i=>i),⟨(.sames M M),(.cons (.blk M M M) (.cons (.blk M M M) (.cons (.blk M M M) (.cons (.blk M M M) (.cons (.blk M M M) (.cons (.loop M M M) (.cons (.kept M M M) (.cons (EntW.mix aB M (SubC.of_eq M) (SubC.of_eq M) M M) (.cons (EntW.lst M) .nil))))))))),bE [0,1,2,4,5,6,7,1000,1001] M (by decide),fun _ _=>M⟩,?_⟩
      refine aA M (gD M M (lb M) (svB M))<|aD ?_
      refine jD M M ?_
      refine aS ?_
      refine aM ?_
      refine bA (aA M (mvI M M M M)<|aA M (asI M M M M)<|bL ?_)
      refine bJ ?_
      refine aM ⟨(n8,x280.next,x283),(fun i=>i),⟨(.sames M M),(.cons (.loop M M M) (.cons (.blk M M M) (.cons (.kept M M M) (.cons (EntW.mix aB M (SubC.of_eq M) (SubC.of_eq M) M M) (.cons (EntW.lst M) (.cons (.blk M M M) (.cons (.blk M M M) (.cons (.blk M M M) (.cons (.blk M M M) .nil))))))))),bE [6,4,7,1000,1001,0,1,2,5] M (by decide),fun _ _=>M⟩,?_,?_⟩
      exact h
      exact Nat.lt_succ_self _
     ·
      replace h:=cB h hc278
      refine cU ?_
      refine bK ?_
      refine bK ?_
      refine cW ?_
      refine ⟨.inl M,6,7,_,_,_,_,M,(by simp),M,M,⟨[(2,.ref 0 0),(3,.ref 1 0),(4,.ref 2 0)],[(0,.blk 25 [.ref 1000 0]),(1,.blk 3 [.int .i64 a0]),(2,.blk 3 [.int .i64 v269]),(1000,.blk 67 (mixD aB.toEnc0 (w26 a1 a2 a3 a4 a5) a6 [.int .i64 a7,.osl 1001 (eInt .i64).sz a8.length])),(1001,.blk 3 (D.flat (a8.map (eInt .i64).d)))]⟩,(fun i=>i),⟨(.sames M M),(.cons (.blk M M M) (.cons (.blk M M M) (.cons (.blk M M M) (.cons (EntW.mix aB M (SubC.of_eq M) (SubC.of_eq M) M M) (.cons (EntW.lst M) .nil))))),bE [0,1,2,1000,1001] M (by decide),fun _ _=>M⟩,?_⟩
      refine bJ ?_
      refine aM ⟨v269,(fun i=>i),⟨(.sames M M),(.cons (.blk M M M) (.cons (.blk M M M) (.cons (.blk M M M) (.cons (EntW.mix aB M (SubC.of_eq M) (SubC.of_eq M) M M) (.cons (EntW.lst M) .nil))))),bE [0,1,2,1000,1001] M (by decide),fun _ _=>M⟩,?_⟩
      exact h
 ·
  rintro v53 h
  unfold iN at h
  refine aF (aA M (aI (d:=.ref _ _) M M (lb M) underlying25 ag25 ti25 (by decide) (svR M) M (nle M) M)<|aA M (aI (d:=.int _ _) M M (lb M) underlying3 ag3 ti3 (by decide) (svR M) M (nle M) M) <|?_)
  refine jE (S':=⟨[(2,.ref 0 0),(3,.ref 1 0),(4,.ref 2 0),(22,.ref 1000 0),(23,.int .i64 a0)],[(0,.blk 25 [.ref 1000 0]),(1,.blk 3 [.int .i64 a0]),(2,.blk 3 [.int .i64 v53]),(1000,.blk 67 (mixD aB.toEnc0 (w26 a1 a2 a3 a4 a5) a6 [.int .i64 a7,.osl 1001 (eInt .i64).sz a8.length])),(1001,.blk 3 (D.flat (a8.map (eInt .i64).d)))]⟩) (fun i=>i) ⟨(.sames M M),(.cons (.blk M M M) (.cons (.blk M M M) (.cons (.blk M M M) (.cons (EntW.mix aB M (SubC.of_eq M) (SubC.of_eq M) M M) (.cons (EntW.lst M) .nil))))),bE [0,1,2,1000,1001] M (by decide),fun _ _=>M⟩ ?_
  refine mO 1 3 M M M (by decide) cl67 func67 M (.cons (svR M) (.cons (svI M) .nil)) ntmps67 (nle M) M hO.semiL fun O1 hO1=>?_
  show IWP _ _ _ _ ⟨[(0,.ref 1000 0),(1,.int .i64 a0)],[(3,.kept 1 (.dead::(.dead::(.ref 0 0::(.ref 1 0::(.ref 2 0::(dd_ 17 (.ref 1000 0::(.int .i64 a0::(dd_ 67 [])))))))))),(0,.blk 25 [.ref 1000 0]),(1,.blk 3 [.int .i64 a0]),(2,.blk 3 [.int .i64 v53]),(1000,.blk 67 (mixD aB.toEnc0 (w26 a1 a2 a3 a4 a5) a6 [.int .i64 a7,.osl 1001 (eInt .i64).sz a8.length])),(1001,.blk 3 (D.flat (a8.map (eInt .i64).d)))]⟩ _
  refine aF (aA M (cK (cs:=[.ref _ _]) 4 M M (lb M) M (svR M) M M)<|aA M (cK (cs:=[.int _ _]) 5 M M (lb M) M (svI M) M M)<|aA M (aG M M (lb M) (sv (d:=.nilf) M))<|aD ?_)
  refine aF (aA M (mG M M (lb M) (.cons (svR M) (.cons (svR M) .nil)))<|aA M (aG M M (lb M) (sv (d:=.fn 83 q20) M))<|aD ?_)
  refine aY ?_
  refine ⟨.inr M,3,_,[.fn 83 [.ref 4 0,.ref 5 0]],(.cons (sv M) .nil),M,M,⟨[(2,.ref 0 0),(3,.ref 1 0),(4,.ref 2 0),(24,.fn 83 [.ref 4 0,.ref 5 0])],[(0,.blk 25 [.ref 1000 0]),(1,.blk 3 [.int .i64 a0]),(2,.blk 3 [.int .i64 v53]),(4,.blk 25 [.ref 1000 0]),(5,.blk 3 [.int .i64 a0]),(1000,.blk 67 (mixD aB.toEnc0 (w26 a1 a2 a3 a4 a5) a6 [.int .i64 a7,.osl 1001 (eInt .i64).sz a8.length])),(1001,.blk 3 (D.flat (a8.map (eInt .i64).d)))]⟩,(fun i=>i),⟨(.sames M M),(.cons (.blk M M M) (.cons (.blk M M M) (.cons (.blk M M M) (.cons (.blk M M M) (.cons (.blk M M M) (.cons (EntW.mix aB M (SubC.of_eq M) (SubC.of_eq M) M M) (.cons (EntW.lst M) .nil))))))),bE [0,1,2,4,5,1000,1001] M (by decide),fun _ _=>M⟩,?_⟩
  refine jE (S':=⟨[(2,.ref 0 0),(3,.ref 1 0),(4,.ref 2 0),(24,.fn 83 [.ref 4 0,.ref 5 0])],[(0,.blk 25 [.ref 1000 0]),(1,.blk 3 [.int .i64 a0]),(2,.blk 3 [.int .i64 v53]),(4,.blk 25 [.ref 1000 0]),(5,.blk 3 [.int .i64 a0]),(1000,.blk 67 (mixD aB.toEnc0 (w26 a1 a2 a3 a4 a5) a6 [.int .i64 a7,.osl 1001 (eInt .i64).sz a8.length])),(1001,.blk 3 (D.flat (a8.map (eInt .i64).d)))]⟩) (fun i=>i) ⟨(.sames M M),(.cons (.blk M M M) (.cons (.blk M M M) (.cons (.blk M M M) (.cons (.blk M M M) (.cons (.blk M M M) (.cons (EntW.mix aB M (SubC.of_eq M) (SubC.of_eq M) M M) (.cons (EntW.lst M) .nil))))))),bE [0,1,2,4,5,1000,1001] M (by decide),fun _ _=>M⟩ ?_
  refine mO 1 6 M M M (by decide) cl66 func66 M (.cons (sv (d:=.fn 83 q20) M) .nil) ntmps66 (nle M) M hO.semiL fun O1 hO1=>?_
  show IWP _ _ _ _ ⟨[(0,.fn 83 [.ref 4 0,.ref 5 0])],[(6,.kept 1 (.dead::(.dead::(.ref 0 0::(.ref 1 0::(.ref 2 0::(dd_ 19 (.fn 83 [.ref 4 0,.ref 5 0]::(dd_ 66 []))))))))),(0,.blk 25 [.ref 1000 0]),(1,.blk 3 [.int .i64 a0]),(2,.blk 3 [.int .i64 v53]),(4,.blk 25 [.ref 1000 0]),(5,.blk 3 [.int .i64 a0]),(1000,.blk 67 (mixD aB.toEnc0 (w26 a1 a2 a3 a4 a5) a6 [.int .i64 a7,.osl 1001 (eInt .i64).sz a8.length])),(1001,.blk 3 (D.flat (a8.map (eInt .i64).d)))]⟩ _
  refine aF (aA M (aG M M (lb M) (sv (d:=.nils) M))<|aD ?_)
  refine aF (aA M (aO M M (lb M) (sv (d:=.fn 83 q20) M)) <|?_)
  refine jE (S':=⟨[(3,.fn 83 [.ref 4 0,.ref 5 0])],[(0,.blk 25 [.ref 1000 0]),(1,.blk 3 [.int .i64 a0]),(2,.blk 3 [.int .i64 v53]),(4,.blk 25 [.ref 1000 0]),(5,.blk 3 [.int .i64 a0]),(6,.kept 1 (.dead::(.dead::(.ref 0 0::(.ref 1 0::(.ref 2 0::(dd_ 19 (.fn 83 [.ref 4 0,.ref 5 0]::(dd_ 66 []))))))))),(1000,.blk 67 (mixD aB.toEnc0 (w26 a1 a2 a3 a4 a5) a6 [.int .i64 a7,.osl 1001 (eInt .i64).sz a8.length])),(1001,.blk 3 (D.flat (a8.map (eInt .i64).d)))]⟩) (fun i=>i) ⟨(.sames M M),(.cons (.blk M M M) (.cons (.blk M M M) (.cons (.blk M M M) (.cons (.blk M M M) (.cons (.blk M M M) (.cons (.kept M M M) (.cons (EntW.mix aB M (SubC.of_eq M) (SubC.of_eq M) M M) (.cons (EntW.lst M) .nil)))))))),bE [0,1,2,4,5,6,1000,1001] M (by decide),fun _ _=>M⟩ ?_
  refine mO 2 7 M M M (by decide) cl82 func82 M (.cons (sv (d:=.nils) M) (.cons (sv (d:=.fn 83 q20) M) .nil)) ntmps82 (nle M) M hO1 fun O2 hO2=>?_
  show IWP _ _ _ _ ⟨[(0,.nils),(1,.fn 83 [.ref 4 0,.ref 5 0])],[(7,.kept 2 [.dead,.dead,.dead,.fn 83 [.ref 4 0,.ref 5 0],.dead]),(0,.blk 25 [.ref 1000 0]),(1,.blk 3 [.int .i64 a0]),(2,.blk 3 [.int .i64 v53]),(4,.blk 25 [.ref 1000 0]),(5,.blk 3 [.int .i64 a0]),(6,.kept 1 (.dead::(.dead::(.ref 0 0::(.ref 1 0::(.ref 2 0::(dd_ 19 (.fn 83 [.ref 4 0,.ref 5 0]::(dd_ 66 []))))))))),(1000,.blk 67 (mixD aB.toEnc0 (w26 a1 a2 a3 a4 a5) a6 [.int .i64 a7,.osl 1001 (eInt .i64).sz a8.length])),(1001,.blk 3 (D.flat (a8.map (eInt .i64).d)))]⟩ _
  refine aF (aA M (cK (cs:=[.nils]) 8 M M (lb M) M (sv (d:=.nils) M) M M)<|aA M (aG M M (lb M) (sv (d:=.nils) M))<|aD ?_)
  refine aT ?_
  refine aF (aA M (aO M M (lb M) (sv (d:=.fn 83 q20) M))<|aD ?_)
  refine bB ?_
  refine rG (S':=⟨[(2,.ref 8 0),(6,.fn 83 [.ref 4 0,.ref 5 0])],[(0,.blk 25 [.ref 1000 0]),(1,.blk 3 [.int .i64 a0]),(2,.blk 3 [.int .i64 v53]),(4,.blk 25 [.ref 1000 0]),(5,.blk 3 [.int .i64 a0]),(6,.kept 1 (.dead::(.dead::(.ref 0 0::(.ref 1 0::(.ref 2 0::(dd_ 19 (.fn 83 [.ref 4 0,.ref 5 0]::(dd_ 66 []))))))))),(7,.kept 2 [.dead,.dead,.dead,.fn 83 [.ref 4 0,.ref 5 0],.dead]),(8,.blk 30 [.nils]),(1000,.blk 67 (mixD aB.toEnc0 (w26 a1 a2 a3 a4 a5) a6 [.int .i64 a7,.osl 1001 (eInt .i64).sz a8.length])),(1001,.blk 3 (D.flat (a8.map (eInt .i64).d)))]⟩) (fun i=>i) ⟨(.sames M M),(.cons (.blk M M M) (.cons (.blk M M M) (.cons (.blk M M M) (.cons (.blk M M M) (.cons (.blk M M M) (.cons (.kept M M M) (.cons (.kept M M M) (.cons (.blk M M M) (.cons (EntW.mix aB M (SubC.of_eq M) (SubC.of_eq M) M M) (.cons (EntW.lst M) .nil)))))))))),bE [0,1,2,4,5,6,7,8,1000,1001] M (by decide),fun _ _=>M⟩ ?_
  refine tR 3 9 10 (sv (d:=.fn 83 q20) M) cl83 func83 M M ntmps83 (nle M) M M hO2 (List.forall_mem_cons.2 ⟨⟨7,_,M⟩,List.forall_mem_cons.2 ⟨⟨6,_,M⟩,List.forall_mem_nil _⟩⟩) fun O3 hO3 hlc3=>?_
  show IWP _ _ _ _ ⟨[(0,.yld 9),(1,.ref 4 0),(2,.ref 5 0)],[(10,.kept 3 (.dead::(.dead::(.ref 8 0::(.dead::(.dead::(.dead::(.fn 83 [.ref 4 0,.ref 5 0]::(dd_ 6 []))))))))),(9,.loop 3 [.dead,.dead,.ref 8 0,.dead,.dead,.dead,.fn 83 [.ref 4 0,.ref 5 0],.dead,.dead,.dead,.dead,.dead,.dead] .ready none),(0,.blk 25 [.ref 1000 0]),(1,.blk 3 [.int .i64 a0]),(2,.blk 3 [.int .i64 v53]),(4,.blk 25 [.ref 1000 0]),(5,.blk 3 [.int .i64 a0]),(6,.kept 1 (.dead::(.dead::(.ref 0 0::(.ref 1 0::(.ref 2 0::(dd_ 19 (.fn 83 [.ref 4 0,.ref 5 0]::(dd_ 66 []))))))))),(7,.kept 2 [.dead,.dead,.dead,.fn 83 [.ref 4 0,.ref 5 0],.dead]),(8,.blk 30 [.nils]),(1000,.blk 67 (mixD aB.toEnc0 (w26 a1 a2 a3 a4 a5) a6 [.int .i64 a7,.osl 1001 (eInt .i64).sz a8.length])),(1001,.blk 3 (D.flat (a8.map (eInt .i64).d)))]⟩ _
  refine aF (aA M (aI (d:=.ref _ _) M M (lb M) underlying25 ag25 ti25 (by decide) (svR M) M (nle M) M)<|aA M (aI (d:=.int _ _) M M (lb M) underlying3 ag3 ti3 (by decide) (svR M) M (nle M) M) <|?_)
  refine jE (S':=⟨[(0,.yld 9),(1,.ref 4 0),(6,.ref 1000 0),(7,.int .i64 a0)],[(0,.blk 25 [.ref 1000 0]),(1,.blk 3 [.int .i64 a0]),(2,.blk 3 [.int .i64 v53]),(4,.blk 25 [.ref 1000 0]),(5,.blk 3 [.int .i64 a0]),(6,.kept 1 (.dead::(.dead::(.ref 0 0::(.ref 1 0::(.ref 2 0::(dd_ 19 (.fn 83 [.ref 4 0,.ref 5 0]::(dd_ 66 []))))))))),(7,.kept 2 [.dead,.dead,.dead,.fn 83 [.ref 4 0,.ref 5 0],.dead]),(8,.blk 30 [.nils]),(9,.loop 3 [.dead,.dead,.ref 8 0,.dead,.dead,.dead,.fn 83 [.ref 4 0,.ref 5 0],.dead,.dead,.dead,.dead,.dead,.dead] .ready none),(10,.kept 3 (.dead::(.dead::(.ref 8 0::(.dead::(.dead::(.dead::(.fn 83 [.ref 4 0,.ref 5 0]::(dd_ 6 []))))))))),(1000,.blk 67 (mixD aB.toEnc0 (w26 a1 a2 a3 a4 a5) a6 [.int .i64 a7,.osl 1001 (eInt .i64).sz a8.length])),(1001,.blk 3 (D.flat (a8.map (eInt .i64).d)))]⟩) (fun i=>i) ⟨(.sames M M),(.cons (.blk M M M) (.cons (.blk M M M) (.cons (.blk M M M) (.cons (.blk M M M) (.cons (.blk M M M) (.cons (.kept M M M) (.cons (.kept M M M) (.cons (.blk M M M) (.cons (.loop M M M) (.cons (.kept M M M) (.cons (EntW.mix aB M (SubC.of_eq M) (SubC.of_eq M) M M) (.cons (EntW.lst M) .nil)))))))))))),bE [0,1,2,4,5,6,7,8,9,10,1000,1001] M (by decide),fun _ _=>M⟩ ?_
  refine mO 4 11 M M M (by decide) cl81 func81 M (.cons (svR M) (.cons (svI M) .nil)) ntmps81 (nle M) M hO3 fun O4 hO4=>?_
  show IWP _ _ _ _ ⟨[(0,.ref 1000 0),(1,.int .i64 a0)],[(11,.kept 4 (.yld 9::(.ref 4 0::(dd_ 4 (.ref 1000 0::(.int .i64 a0::(dd_ 17 []))))))),(0,.blk 25 [.ref 1000 0]),(1,.blk 3 [.int .i64 a0]),(2,.blk 3 [.int .i64 v53]),(4,.blk 25 [.ref 1000 0]),(5,.blk 3 [.int .i64 a0]),(6,.kept 1 (.dead::(.dead::(.ref 0 0::(.ref 1 0::(.ref 2 0::(dd_ 19 (.fn 83 [.ref 4 0,.ref 5 0]::(dd_ 66 []))))))))),(7,.kept 2 [.dead,.dead,.dead,.fn 83 [.ref 4 0,.ref 5 0],.dead]),(8,.blk 30 [.nils]),(9,.loop 3 [.dead,.dead,.ref 8 0,.dead,.dead,.dead,.fn 83 [.ref 4 0,.ref 5 0],.dead,.dead,.dead,.dead,.dead,.dead] .ready none),(10,.kept 3 (.dead::(.dead::(.ref 8 0::(.dead::(.dead::(.dead::(.fn 83 [.ref 4 0,.ref 5 0]::(dd_ 6 []))))))))),(1000,.blk 67 (mixD aB.toEnc0 (w26 a1 a2 a3 a4 a5) a6 [.int .i64 a7,.osl 1001 (eInt .i64).sz a8.length])),(1001,.blk 3 (D.flat (a8.map (eInt .i64).d)))]⟩ _
  refine aF (aA M (aG M M (lb M) (sv (d:=.nilp) M))<|aD ?_)
  refine aT ?_
  obtain ⟨x54,hx54,h⟩:=bC h
  refine aF (aA M (mvI M M M M)<|aA M (aQ M M (lb M) (svI M) (sv (d:=.int _ (-1)) M) M hx54)<|aD ?_)
  refine aR (b:=_) M (fun hc55=>?_) (fun hc55=>?_)
  ·
   replace h:=cA h hc55
   refine aF (aA M (mvR M M M M)<|aA M (aL M M (lb M) (svR M))<|aA M (faR 389 M M M underlying67 M ti3 (lb M) M M)<|aA M (aG M M (lb M) (svR M))<|aD ?_)
   refine aY ?_
   refine bG ?_
   refine ⟨.inr M,11,_,[.ref 1000 389],(.cons (sv M) .nil),M,M,⟨[(0,.yld 9),(1,.ref 4 0),(8,.ref 1000 389)],[(0,.blk 25 [.ref 1000 0]),(1,.blk 3 [.int .i64 a0]),(2,.blk 3 [.int .i64 v53]),(4,.blk 25 [.ref 1000 0]),(5,.blk 3 [.int .i64 a0]),(6,.kept 1 (.dead::(.dead::(.ref 0 0::(.ref 1 0::(.ref 2 0::(dd_ 19 (.fn 83 [.ref 4 0,.ref 5 0]::(dd_ 66 []))))))))),(7,.kept 2 [.dead,.dead,.dead,.fn 83 [.ref 4 0,.ref 5 0],.dead]),(8,.blk 30 [.nils]),(9,.loop 3 [.dead,.dead,.ref 8 0,.dead,.dead,.dead,.fn 83 [.ref 4 0,.ref 5 0],.dead,.dead,.dead,.dead,.dead,.dead] .ready none),(10,.kept 3 (.dead::(.dead::(.ref 8 0::(.dead::(.dead::(.dead::(.fn 83 [.ref 4 0,.ref 5 0]::(dd_ 6 []))))))))),(1000,.blk 67 (mixD aB.toEnc0 (w26 a1 a2 a3 a4 a5) a6 [.int .i64 a7,.osl 1001 (eInt .i64).sz a8.length])),(1001,.blk 3 (D.flat (a8.map (eInt .i64).d)))]⟩,(fun i=>i),⟨(.sames M M),(.cons (.blk M M M) (.cons (.blk M M M) (.cons (.blk M M M) (.cons (.blk M M M) (.cons (.blk M M M) (.cons (.kept M M M) (.cons (.kept M M M) (.cons (.blk M M M) (.cons (.loop M M M) (.cons (.kept M M M) (.cons (EntW.mix aB M (SubC.of_eq M) (SubC.of_eq M) M M) (.cons (EntW.lst M) .nil)))))))))))),bE [0,1,2,4,5,6,7,8,9,10,1000,1001] M (by decide),fun _ _=>M⟩,?_⟩
   obtain ⟨hk56,h⟩:=oZ h
   refine aA M (aL M M (lb M) (svR M))<|aA M (iD aB.toEnc0 (d:=.int _ _) (n:=64) (k:=0) M M (lb M) underlying3 ag3 ti3 (by decide) (svR M) M hk56 (by rfl) (nle M) (by rfl))<|aA M (asI M M M M)<|aD ?_
   refine bB ?_
   refine cP (α:=Nat × Int × (List Int)) (fun z=>⟨[(0,.yld 9),(1,.ref 4 0),(4,.int .i64 z.2.1)],[(9,.loop 3 [.dead,.dead,.ref 8 0,.dead,.dead,.dead,.fn 83 [.ref 4 0,.ref 5 0],.dead,.dead,.dead,.dead,.dead,.dead] .ready none),(4,.blk 25 [.ref 1000 0]),(6,.kept 1 (.dead::(.dead::(.ref 0 0::(.ref 1 0::(.ref 2 0::(dd_ 19 (.fn 83 [.ref 4 0,.ref 5 0]::(dd_ 66 []))))))))),(7,.kept 2 [.dead,.dead,.dead,.fn 83 [.ref 4 0,.ref 5 0],.dead]),(10,.kept 3 (.dead::(.dead::(.ref 8 0::(.dead::(.dead::(.dead::(.fn 83 [.ref 4 0,.ref 5 0]::(dd_ 6 []))))))))),(1000,.blk 67 (mixD aB.toEnc0 (w26 a1 a2 a3 a4 a5) a6 [.int .i64 a7,.osl 1001 (eInt .i64).sz a8.length])),(1001,.blk 3 (D.flat (a8.map (eInt .i64).d))),(8,.blk 30 [.osl 32 (eInt .i64).sz z.2.2.length]),(5,.blk 3 [.int .i64 a0]),(0,.blk 25 [.ref 1000 0]),(1,.blk 3 [.int .i64 a0]),(2,.blk 3 [.int .i64 v53]),(32,.blk 3 (D.flat (z.2.2.map (eInt .i64).d)))]⟩) (fun z=>jX a0 a1 a2 a3 a4 a5 a6 a7 a8 v53 z.1 z.2.1 z.2.2=some r) (fun z=>z.1) (fuel,a7,([]:(List Int))) (fun i=>if i=32 then 94 else i) ⟨(.sames M M),(.cons (.loop M M M) (.cons (.blk M M M) (.cons (.kept M M M) (.cons (.kept M M M) (.cons (.kept M M M) (.cons (EntW.mix aB M (SubC.of_eq M) (SubC.of_eq M) M M) (.cons (EntW.lst M) (.cons (.sub M (.nilo .nil) M) (.cons (.blk M M M) (.cons (.blk M M M) (.cons (.blk M M M) (.cons (.blk M M M) (.cons (.nilb M) .nil))))))))))))),bE [9,4,6,7,10,1000,1001,8,5,0,1,2,94] M (by decide),(fun i hi=>by first | rfl | (show (if _ then _ else _)=_; (repeat' split) <;> omega))⟩ ?_ ?_
   ·exact h
   ·
    rintro ⟨n3,v62,v63⟩ h
    cases n3 with
    | zero=>exact absurd h (by unfold jX; exact nofun)
    | succ n3 =>
     unfold jX at h
     refine aT ?_
     obtain ⟨x69,hx69,h⟩:=bC h
     refine aF (aA M (mvI M M M M)<|aA M (aQ M M (lb M) (svI M) (sv (d:=.int _ (-1)) M) M hx69)<|aD ?_)
     refine aR (b:=_) M (fun hc70=>?_) (fun hc70=>?_)
     ·
      replace h:=cA h hc70
      refine aS ?_
      refine aM ?_
      refine bB ?_
      obtain ⟨x71,hx71,h⟩:=aX h
      obtain ⟨x72,hx72,h⟩:=aX h
      refine aF (aA M (aI (d:=.ref _ _) M M (lb M) underlying25 ag25 ti25 (by decide) (svR M) M (nle M) M)<|aA M (mvI M M M M)<|aA M (aL M M (lb M) (svR M))<|aA M (faR 5 M M M underlying67 M ti65 (lb M) M M)<|aA M (dO aB.toEnc0 M M (lb M) underlying65 ti64 (svR M) hk56 (svI M) hx71)<|aA M (bZ M M (lb M) underlying64 M ti3 (by decide) (svR M) (k':=3) M)<|aA M (cM aB.toEnc0 (b:=5) (k:=3) (d:=.int _ _) M M (lb M) underlying3 ag3 ti3 (by decide) (svR M) M M hx72 (nle M) M)<|aA M (asI M M M M)<|aD ?_)
      refine aT ?_
      refine aF (aA M (aO M M (lb M) (sv (d:=.yld _) M))<|aA M (mvI M M M M) <|?_)
      refine jE (S':=⟨[(0,.yld 9),(1,.ref 4 0),(5,.int .i64 x72.next),(20,.yld 9),(21,.int .i64 v62)],[(0,.blk 25 [.ref 1000 0]),(1,.blk 3 [.int .i64 a0]),(2,.blk 3 [.int .i64 v53]),(4,.blk 25 [.ref 1000 0]),(5,.blk 3 [.int .i64 a0]),(6,.kept 1 (.dead::(.dead::(.ref 0 0::(.ref 1 0::(.ref 2 0::(dd_ 19 (.fn 83 [.ref 4 0,.ref 5 0]::(dd_ 66 []))))))))),(7,.kept 2 [.dead,.dead,.dead,.fn 83 [.ref 4 0,.ref 5 0],.dead]),(8,.blk 30 [.osl 32 (eInt .i64).sz v63.length]),(9,.loop 3 [.dead,.dead,.ref 8 0,.dead,.dead,.dead,.fn 83 [.ref 4 0,.ref 5 0],.dead,.dead,.dead,.dead,.dead,.dead] .ready none),(10,.kept 3 (.dead::(.dead::(.ref 8 0::(.dead::(.dead::(.dead::(.fn 83 [.ref 4 0,.ref 5 0]::(dd_ 6 []))))))))),(32,.blk 3 (D.flat (v63.map (eInt .i64).d))),(1000,.blk 67 (mixD aB.toEnc0 (w26 a1 a2 a3 a4 a5) a6 [.int .i64 a7,.osl 1001 (eInt .i64).sz a8.length])),(1001,.blk 3 (D.flat (a8.map (eInt .i64).d)))]⟩) (fun i=>i) ⟨(.sames M M),(.cons (.blk M M M) (.cons (.blk M M M) (.cons (.blk M M M) (.cons (.blk M M M) (.cons (.blk M M M) (.cons (.kept M M M) (.cons (.kept M M M) (.cons (.blk M M M) (.cons (.loop M M M) (.cons (.kept M M M) (.cons (EntW.lst M) (.cons (EntW.mix aB M (SubC.of_eq M) (SubC.of_eq M) M M) (.cons (EntW.lst M) .nil))))))))))))),bE [0,1,2,4,5,6,7,8,9,10,32,1000,1001] M (by decide),fun _ _=>M⟩ ?_
      refine pX 4 9 33 M M M (by decide) M (.cons (svI M) .nil) M M M M M M hO3.round hlc3 ⟨[(7,.int .i64 v62),(2,.ref 8 0)],[(0,.blk 25 [.ref 1000 0]),(1,.blk 3 [.int .i64 a0]),(2,.blk 3 [.int .i64 v53]),(4,.blk 25 [.ref 1000 0]),(5,.blk 3 [.int .i64 a0]),(6,.kept 1 (.dead::(.dead::(.ref 0 0::(.ref 1 0::(.ref 2 0::(dd_ 19 (.fn 83 [.ref 4 0,.ref 5 0]::(dd_ 66 []))))))))),(7,.kept 2 [.dead,.dead,.dead,.fn 83 [.ref 4 0,.ref 5 0],.dead]),(8,.blk 30 [.osl 32 (eInt .i64).sz v63.length]),(9,.loop 3 [.dead,.dead,.ref 8 0,.dead,.dead,.dead,.fn 83 [.ref 4 0,.ref 5 0],.dead,.dead,.dead,.dead,.dead,.dead] .ready none),(10,.kept 3 (.dead::(.dead::(.ref 8 0::(.dead::(.dead::(.dead::(.fn 83 [.ref 4 0,.ref 5 0]::(dd_ 6 []))))))))),(32,.blk 3 (D.flat (v63.map (eInt .i64).d))),(33,.kept 4 (.yld 9::(.ref 4 0::(.dead::(.dead::(.dead::(.int .i64 x72.next::(dd_ 14 (.yld 9::(.int .i64 v62::(.dead::(.dead::(.dead::[]))))))))))))),(1000,.blk 67 (mixD aB.toEnc0 (w26 a1 a2 a3 a4 a5) a6 [.int .i64 a7,.osl 1001 (eInt .i64).sz a8.length])),(1001,.blk 3 (D.flat (a8.map (eInt .i64).d)))]⟩ (fun i=>i) ⟨(.sames M M),(.cons (.blk M M M) (.cons (.blk M M M) (.cons (.blk M M M) (.cons (.blk M M M) (.cons (.blk M M M) (.cons (.kept M M M) (.cons (.kept M M M) (.cons (.blk M M M) (.cons (.loop M M M) (.cons (.kept M M M) (.cons (EntW.lst M) (.cons (.kept M M M) (.cons (EntW.mix aB M (SubC.of_eq M) (SubC.of_eq M) M M) (.cons (EntW.lst M) .nil)))))))))))))),bE [0,1,2,4,5,6,7,8,9,10,32,33,1000,1001] M (by decide),fun _ _=>M⟩ fun O4=>?_
      refine bA (aA M (asI M M M M)<|bL ?_)
      refine ⟨M,9,_,M,⟨[(2,.ref 8 0),(5,.int .i64 v62)],[(0,.blk 25 [.ref 1000 0]),(1,.blk 3 [.int .i64 a0]),(2,.blk 3 [.int .i64 v53]),(4,.blk 25 [.ref 1000 0]),(5,.blk 3 [.int .i64 a0]),(6,.kept 1 (.dead::(.dead::(.ref 0 0::(.ref 1 0::(.ref 2 0::(dd_ 19 (.fn 83 [.ref 4 0,.ref 5 0]::(dd_ 66 []))))))))),(7,.kept 2 [.dead,.dead,.dead,.fn 83 [.ref 4 0,.ref 5 0],.dead]),(8,.blk 30 [.osl 32 (eInt .i64).sz v63.length]),(9,.loop 3 [.dead,.dead,.ref 8 0,.dead,.dead,.dead,.fn 83 [.ref 4 0,.ref 5 0],.dead,.dead,.dead,.dead,.dead,.dead] .busy none),(10,.kept 3 (.dead::(.dead::(.ref 8 0::(.dead::(.dead::(.dead::(.fn 83 [.ref 4 0,.ref 5 0]::(dd_ 6 []))))))))),(32,.blk 3 (D.flat (v63.map (eInt .i64).d))),(33,.kept 4 (.yld 9::(.ref 4 0::(.dead::(.dead::(.dead::(.int .i64 x72.next::(dd_ 14 (.yld 9::(.int .i64 v62::(.dead::(.dead::(.dead::[]))))))))))))),(1000,.blk 67 (mixD aB.toEnc0 (w26 a1 a2 a3 a4 a5) a6 [.int .i64 a7,.osl 1001 (eInt .i64).sz a8.length])),(1001,.blk 3 (D.flat (a8.map (eInt .i64).d)))]⟩,(fun i=>i),⟨(.sames M M),(.cons (.blk M M M) (.cons (.blk M M M) (.cons (.blk M M M) (.cons (.blk M M M) (.cons (.blk M M M) (.cons (.kept M M M) (.cons (.kept M M M) (.cons (.blk M M M) (.cons (.loop M M M) (.cons (.kept M M M) (.cons (EntW.lst M) (.cons (.kept M M M) (.cons (EntW.mix aB M (SubC.of_eq M) (SubC.of_eq M) M M) (.cons (EntW.lst M) .nil)))))))))))))),bE [0,1,2,4,5,6,7,8,9,10,32,33,1000,1001] M (by decide),fun _ _=>M⟩,?_⟩
      refine bB ?_
      obtain ⟨x73,hx73,h⟩:=aX h
      refine bA (aA M (aI (d:=.osl _ _ _) M M (lb M) underlying30 ag30 ti30 (by decide) (svR M) M (nle M) M)<|aA M (mvI M M M M)<|aA M (lD (eInt .i64).toEnc0 ([v62]:(List Int)) 34 M M (lb M) underlying30 ti3 M (.cons (svI M) .nil) M M (by decide))<|aA M (iH (eInt .i64).toEnc0 35 M M (lb M) underlying30 ti3 M M M M M (qP (eInt .i64).toEnc0 M M M) hx73)<|aA M (dZ (ds':=[.osl _ _ _]) M M ti30 (svR M) M (sv (d:=.osl _ _ _) M) M M M (nle M) M)<|bL ?_)
      refine bJ ?_
      refine ⟨9,33,_,_,none,M,M,M,M,(by decide),⟨[(0,.yld 9),(1,.ref 4 0),(5,.int .i64 x72.next),(22,.bool true)],[(0,.blk 25 [.ref 1000 0]),(1,.blk 3 [.int .i64 a0]),(2,.blk 3 [.int .i64 v53]),(4,.blk 25 [.ref 1000 0]),(5,.blk 3 [.int .i64 a0]),(6,.kept 1 (.dead::(.dead::(.ref 0 0::(.ref 1 0::(.ref 2 0::(dd_ 19 (.fn 83 [.ref 4 0,.ref 5 0]::(dd_ 66 []))))))))),(7,.kept 2 [.dead,.dead,.dead,.fn 83 [.ref 4 0,.ref 5 0],.dead]),(8,.blk 30 [.osl 35 (eInt .i64).sz x73.length]),(9,.loop 3 [.dead,.dead,.ref 8 0,.dead,.dead,.dead,.fn 83 [.ref 4 0,.ref 5 0],.dead,.dead,.dead,.dead,.dead,.dead] .ready none),(10,.kept 3 (.dead::(.dead::(.ref 8 0::(.dead::(.dead::(.dead::(.fn 83 [.ref 4 0,.ref 5 0]::(dd_ 6 []))))))))),(35,.blk 3 (D.flat (x73.map (eInt .i64).d))),(1000,.blk 67 (mixD aB.toEnc0 (w26 a1 a2 a3 a4 a5) a6 [.int .i64 a7,.osl 1001 (eInt .i64).sz a8.length])),(1001,.blk 3 (D.flat (a8.map (eInt .i64).d)))]⟩,(fun i=>i),⟨(.sames M M),(.cons (.blk M M M) (.cons (.blk M M M) (.cons (.blk M M M) (.cons (.blk M M M) (.cons (.blk M M M) (.cons (.kept M M M) (.cons (.kept M M M) (.cons (.blk M M M) (.cons (.loop M M M) (.cons (.kept M M M) (.cons (EntW.lst M) (.cons (EntW.mix aB M (SubC.of_eq M) (SubC.of_eq M) M M) (.cons (EntW.lst M) .nil))))))))))))),bE [0,1,2,4,5,6,7,8,9,10,35,1000,1001] M (by decide),fun _ _=>M⟩,?_⟩
      refine aA M (gD M M (lb M) (svB M))<|aD ?_
      refine jD M M ?_
      refine aS ?_
      refine aM ?_
      refine bA (aA M (mvI M M M M)<|aA M (asI M M M M)<|bL ?_)
      refine bJ ?_
      refine aM ⟨(n3,x72.next,x73),(fun i=>if i=32 then 35 else i),⟨(.sames M M),(.cons (.loop M M M) (.cons (.blk M M M) (.cons (.kept M M M) (.cons (.kept M M M) (.cons (.kept M M M) (.cons (EntW.mix aB M (SubC.of_eq M) (SubC.of_eq M) M M) (.cons (EntW.lst M) (.cons (.blk M M M) (.cons (.blk M M M) (.cons (.blk M M M) (.cons (.blk M M M) (.cons (.blk M M M) (.cons (EntW.lst M) .nil))))))))))))),bE [9,4,6,7,10,1000,1001,8,5,0,1,2,35] M (by decide),(fun i hi=>by first | rfl | (show (if _ then _ else _)=_; (repeat' split) <;> omega))⟩,?_,?_⟩
      exact h
      exact Nat.lt_succ_self _
     ·
      replace h:=cB h hc70
      refine cU ?_
      refine bK ?_
      refine bK ?_
      refine cW ?_
      refine ⟨.inl M,9,10,_,_,_,_,M,(by simp),M,M,⟨[(2,.ref 8 0)],[(0,.blk 25 [.ref 1000 0]),(1,.blk 3 [.int .i64 a0]),(2,.blk 3 [.int .i64 v53]),(4,.blk 25 [.ref 1000 0]),(5,.blk 3 [.int .i64 a0]),(6,.kept 1 (.dead::(.dead::(.ref 0 0::(.ref 1 0::(.ref 2 0::(dd_ 19 (.fn 83 [.ref 4 0,.ref 5 0]::(dd_ 66 []))))))))),(7,.kept 2 [.dead,.dead,.dead,.fn 83 [.ref 4 0,.ref 5 0],.dead]),(8,.blk 30 [.osl 32 (eInt .i64).sz v63.length]),(32,.blk 3 (D.flat (v63.map (eInt .i64).d))),(1000,.blk 67 (mixD aB.toEnc0 (w26 a1 a2 a3 a4 a5) a6 [.int .i64 a7,.osl 1001 (eInt .i64).sz a8.length])),(1001,.blk 3 (D.flat (a8.map (eInt .i64).d)))]⟩,(fun i=>i),⟨(.sames M M),(.cons (.blk M M M) (.cons (.blk M M M) (.cons (.blk M M M) (.cons (.blk M M M) (.cons (.blk M M M) (.cons (.kept M M M) (.cons (.kept M M M) (.cons (.blk M M M) (.cons (EntW.lst M) (.cons (EntW.mix aB M (SubC.of_eq M) (SubC.of_eq M) M M) (.cons (EntW.lst M) .nil))))))))))),bE [0,1,2,4,5,6,7,8,32,1000,1001] M (by decide),fun _ _=>M⟩,?_⟩
      refine bJ ?_
      refine aM ?_
      refine aF (aA M (aI (d:=.osl _ _ _) M M (lb M) underlying30 ag30 ti30 (by decide) (svR M) M (nle M) M)<|aA M (aG M M (lb M) (sv (d:=.osl _ _ _) M))<|aD ?_)
      refine aY ?_
      refine ⟨.inr M,7,_,[.osl 32 (eInt .i64).sz v63.length],(.cons (sv M) .nil),M,M,⟨[(4,.osl 32 (eInt .i64).sz v63.length)],[(0,.blk 25 [.ref 1000 0]),(1,.blk 3 [.int .i64 a0]),(2,.blk 3 [.int .i64 v53]),(4,.blk 25 [.ref 1000 0]),(5,.blk 3 [.int .i64 a0]),(6,.kept 1 (.dead::(.dead::(.ref 0 0::(.ref 1 0::(.ref 2 0::(dd_ 19 (.fn 83 [.ref 4 0,.ref 5 0]::(dd_ 66 []))))))))),(32,.blk 3 (D.flat (v63.map (eInt .i64).d))),(1000,.blk 67 (mixD aB.toEnc0 (w26 a1 a2 a3 a4 a5) a6 [.int .i64 a7,.osl 1001 (eInt .i64).sz a8.length])),(1001,.blk 3 (D.flat (a8.map (eInt .i64).d)))]⟩,(fun i=>i),⟨(.sames M M),(.cons (.blk M M M) (.cons (.blk M M M) (.cons (.blk M M M) (.cons (.blk M M M) (.cons (.blk M M M) (.cons (.kept M M M) (.cons (EntW.lst M) (.cons (EntW.mix aB M (SubC.of_eq M) (SubC.of_eq M) M M) (.cons (EntW.lst M) .nil))))))))),bE [0,1,2,4,5,6,32,1000,1001] M (by decide),fun _ _=>M⟩,?_⟩
      refine aA M (aG M M (lb M) (sv (d:=.osl _ _ _) M))<|aD ?_
      refine aY ?_
      refine ⟨.inr M,6,_,[.osl 32 (eInt .i64).sz v63.length],(.cons (sv M) .nil),M,M,⟨[(2,.ref 0 0),(3,.ref 1 0),(4,.ref 2 0),(25,.osl 32 (eInt .i64).sz v63.length)],[(0,.blk 25 [.ref 1000 0]),(1,.blk 3 [.int .i64 a0]),(2,.blk 3 [.int .i64 v53]),(32,.blk 3 (D.flat (v63.map (eInt .i64).d))),(1000,.blk 67 (mixD aB.toEnc0 (w26 a1 a2 a3 a4 a5) a6 [.int .i64 a7,.osl 1001 (eInt .i64).sz a8.length])),(1001,.blk 3 (D.flat (a8.map (eInt .i64).d)))]⟩,(fun i=>i),⟨(.sames M M),(.cons (.blk M M M) (.cons (.blk M M M) (.cons (.blk M M M) (.cons (EntW.lst M) (.cons (EntW.mix aB M (SubC.of_eq M) (SubC.of_eq M) M M) (.cons (EntW.lst M) .nil)))))),bE [0,1,2,32,1000,1001] M (by decide),fun _ _=>M⟩,?_⟩
      refine aA M (aG M M (lb M) (sv (d:=.osl _ _ _) M))<|aD ?_
      refine aT ?_
      refine aF (aA M (aO M M (lb M) (sv (d:=.osl _ _ _) M))<|aA M (kV M M (lb M) underlying30 (sv (d:=.osl _ _ _) M))<|aA M (aO M M (lb M) (sv (d:=.int _ 0) M))<|aD ?_)
      refine bB ?_
      refine cP (α:=Nat × Int × Int × Int × (List aK) × Int × Int × (List aJ) × Int × (List Int)) (fun z=>⟨[(2,.ref 0 0),(3,.ref 1 0),(4,.ref 2 0),(26,.osl 32 (eInt .i64).sz v63.length),(27,.int .i64 (v63.length:Int)),(28,.int .i64 z.2.1)],[(0,.blk 25 [.ref 1000 0]),(1,.blk 3 [.int .i64 a0]),(2,.blk 3 [.int .i64 v53]),(32,.blk 3 (D.flat (v63.map (eInt .i64).d))),(1000,.blk 67 (mixD aB.toEnc0 (w26 z.2.2.1 z.2.2.2.1 z.2.2.2.2.1 z.2.2.2.2.2.1 z.2.2.2.2.2.2.1) z.2.2.2.2.2.2.2.1 [.int .i64 z.2.2.2.2.2.2.2.2.1,.osl 54 (eInt .i64).sz z.2.2.2.2.2.2.2.2.2.length])),(54,.blk 3 (D.flat (z.2.2.2.2.2.2.2.2.2.map (eInt .i64).d)))]⟩) (fun z=>jW a0 v53 v63 z.1 z.2.1 z.2.2.1 z.2.2.2.1 z.2.2.2.2.1 z.2.2.2.2.2.1 z.2.2.2.2.2.2.1 z.2.2.2.2.2.2.2.1 z.2.2.2.2.2.2.2.2.1 z.2.2.2.2.2.2.2.2.2=some r) (fun z=>z.1) (fuel,0,a1,a2,a3,a4,a5,a6,a7,a8) (fun i=>if i=54 then 1001 else i) ⟨(.sames M M),(.cons (.blk M M M) (.cons (.blk M M M) (.cons (.blk M M M) (.cons (EntW.lst M) (.cons (EntW.mix aB M (SubC.of_eq M) (SubC.of_eq M) M M) (.cons (EntW.lst M) .nil)))))),bE [0,1,2,32,1000,1001] M (by decide),(fun i hi=>by first | rfl | (show (if _ then _ else _)=_; (repeat' split) <;> omega))⟩ ?_ ?_
      ·exact h
      ·
       rintro ⟨n4,v92,v93,v94,v95,v96,v97,v98,v99,v100⟩ h
       cases n4 with
       | zero=>exact absurd h (by unfold jW; exact nofun)
       | succ n4 =>
        unfold jW at h
        obtain ⟨x120,hx120,h⟩:=bC h
        refine aF (aA M (aQ M M (lb M) (svI M) (svI M) M hx120)<|aD ?_)
        refine aT ?_
        refine aR (b:=_) M (fun hc121=>?_) (fun hc121=>?_)
        ·
         replace h:=cA h hc121
         refine aS ?_
         refine aM ?_
         refine aT ?_
         refine bB ?_
         obtain ⟨x122,hx122,h⟩:=aX h
         obtain ⟨x123,hx123,h⟩:=aX h
         refine aF (aA M (fY (eInt .i64).toEnc0 M M (lb M) underlying30 ti3 (sv (d:=.osl _ _ _) M) M (svI M) hx122)<|aA M (fP (eInt .i64).toEnc0 (d:=.int _ _) M M (lb M) underlying3 ag3 ti3 (by decide) (svR M) M hx123 (nle M) M)<|aA M (asI M M M M)<|aD ?_)
         obtain ⟨x124,hx124,h⟩:=aX h
         obtain ⟨hk125,h⟩:=oZ h
         obtain ⟨x126,hx126,h⟩:=aX h
         obtain ⟨x127,hx127,h⟩:=aX h
         obtain ⟨x128,hx128,h⟩:=aX h
         obtain ⟨x129,hx129,h⟩:=bC h
         obtain ⟨x130,hx130,h⟩:=aX h
         obtain ⟨x131,hx131,h⟩:=bC h
         obtain ⟨x132,hx132,h⟩:=aX h
         obtain ⟨x133,hx133,h⟩:=aX h
         obtain ⟨x134,hx134,h⟩:=bC h
         refine iR M [⟨[2],[0],[(32,.ref 1000 0)],[]⟩,
          ⟨[8],[],[(33,.int .i64 x123)],[]⟩,
          ⟨[2],[0],[(34,.ref 1000 0)],[]⟩,
          ⟨[3],[1],[(35,.int .i64 a0)],[]⟩,
          ⟨[34],[],[(36,.ref 1000 0)],[]⟩,
          ⟨[36],[],[(37,.ref 1000 5)],[]⟩,
          ⟨[35,37],[],[(38,.ref 1000 (5 + (((a0:Int).toNat) * aB.sz + 0)))],[]⟩,
          ⟨[38],[],[(39,.ref 1000 (5 + (((a0:Int).toNat) * aB.sz + 4)))],[]⟩,
          ⟨[39],[1000],[(40,.int .i64 x126.weight)],[]⟩,
          ⟨[2],[0],[(41,.ref 1000 0)],[]⟩,
          ⟨[8],[],[(42,.int .i64 x123)],[]⟩,
          ⟨[41],[],[(43,.ref 1000 0)],[]⟩,
          ⟨[43],[],[(44,.ref 1000 5)],[]⟩,
          ⟨[42,44],[],[(45,.ref 1000 (5 + (((x123:Int).toNat) * aB.sz + 0)))],[]⟩,
          ⟨[45],[],[(46,.ref 1000 (5 + (((x123:Int).toNat) * aB.sz + 4)))],[]⟩,
          ⟨[46],[1000],[(47,.int .i64 x128.weight)],[]⟩,
          ⟨[40,47],[],[(48,.int .i64 x129)],[]⟩,
          ⟨[4],[2],[(49,.int .i64 v53)],[]⟩,
          ⟨[48,49],[],[(50,.int .i64 x130)],[]⟩,
          ⟨[50],[],[(51,.int .i64 x131)],[]⟩,
          ⟨[32],[],[(52,.ref 1000 0)],[]⟩,
          ⟨[52],[],[(53,.ref 1000 5)],[]⟩,
          ⟨[33,53],[],[(54,.ref 1000 (5 + (((x123:Int).toNat) * aB.sz + 0)))],[]⟩,
          ⟨[54],[],[(55,.ref 1000 (5 + (((x123:Int).toNat) * aB.sz + 4)))],[]⟩,
          ⟨[51,55],[1000],[],[(1000,.blk 67 (mixD aB.toEnc0 (w26 v93 v94 v95 v96 v97) x134 [.int .i64 v99,.osl 54 (eInt .i64).sz v100.length]))]⟩] M ?_ (by kernel_rfl) ?_
         ·refine .cons (lop M M fun S hA=>(aI (d:=.ref _ _) M M (lb M) underlying25 ag25 ti25 (by decide) (svaR hA M M) (agi hA M M) (nle M) M)) ?_
          refine .cons (lop M M fun S hA=>(aO M M (lb M) (svaI hA M M))) ?_
          refine .cons (lop M M fun S hA=>(aI (d:=.ref _ _) M M (lb M) underlying25 ag25 ti25 (by decide) (svaR hA M M) (agi hA M M) (nle M) M)) ?_
          refine .cons (lop M M fun S hA=>(aI (d:=.int _ _) M M (lb M) underlying3 ag3 ti3 (by decide) (svaR hA M M) (agi hA M M) (nle M) M)) ?_
          refine .cons (lop M M fun S hA=>(aL M M (lb M) (svaR hA M M))) ?_
          refine .cons (lop M M fun S hA=>(aP M M (lb M) underlying67 M ti65 (by decide) (svaR hA M M) (off':=5) M)) ?_
          refine .cons (lop M M fun S hA=>(dO aB.toEnc0 M M (lb M) underlying65 ti64 (svaR hA M M) hk125 (svaI hA M M) hx124)) ?_
          refine .cons (lop M M fun S hA=>(bZ M M (lb M) underlying64 M ti3 (by decide) (svaR hA M M) (k':=4) M)) ?_
          refine .cons (lop M M fun S hA=>(cM aB.toEnc0 (b:=5) (k:=4) (d:=.int _ _) M M (lb M) underlying3 ag3 ti3 (by decide) (svaR hA M M) (agi hA M M) M hx126 (nle M) M)) ?_
          refine .cons (lop M M fun S hA=>(aI (d:=.ref _ _) M M (lb M) underlying25 ag25 ti25 (by decide) (svaR hA M M) (agi hA M M) (nle M) M)) ?_
          refine .cons (lop M M fun S hA=>(aO M M (lb M) (svaI hA M M))) ?_
          refine .cons (lop M M fun S hA=>(aL M M (lb M) (svaR hA M M))) ?_
          refine .cons (lop M M fun S hA=>(aP M M (lb M) underlying67 M ti65 (by decide) (svaR hA M M) (off':=5) M)) ?_
          refine .cons (lop M M fun S hA=>(dO aB.toEnc0 M M (lb M) underlying65 ti64 (svaR hA M M) hk125 (svaI hA M M) hx127)) ?_
          refine .cons (lop M M fun S hA=>(bZ M M (lb M) underlying64 M ti3 (by decide) (svaR hA M M) (k':=4) M)) ?_
          refine .cons (lop M M fun S hA=>(cM aB.toEnc0 (b:=5) (k:=4) (d:=.int _ _) M M (lb M) underlying3 ag3 ti3 (by decide) (svaR hA M M) (agi hA M M) M hx128 (nle M) M)) ?_
          refine .cons (lop M M fun S hA=>(bO M M (lb M) (svaI hA M M) (svaI hA M M) M hx129)) ?_
          refine .cons (lop M M fun S hA=>(aI (d:=.int _ _) M M (lb M) underlying3 ag3 ti3 (by decide) (svaR hA M M) (agi hA M M) (nle M) M)) ?_
          refine .cons (lop M M fun S hA=>(yQ M M (lb M) (svaI hA M M) (svaI hA M M) hx130)) ?_
          refine .cons (lop M M fun S hA=>(yR M M (lb M) (svaI hA M M) (sv (d:=.int _ 1) M) hx131)) ?_
          refine .cons (lop M M fun S hA=>(aL M M (lb M) (svaR hA M M))) ?_
          refine .cons (lop M M fun S hA=>(aP M M (lb M) underlying67 M ti65 (by decide) (svaR hA M M) (off':=5) M)) ?_
          refine .cons (lop M M fun S hA=>(dO aB.toEnc0 M M (lb M) underlying65 ti64 (svaR hA M M) hk125 (svaI hA M M) hx132)) ?_
          refine .cons (lop M M fun S hA=>(bZ M M (lb M) underlying64 M ti3 (by decide) (svaR hA M M) (k':=4) M)) ?_
          refine .cons (lop M M fun S hA=>(jQ aB.toEnc0 (b:=5) (k:=4) (a':=(⟨x133.id,x133.up,x133.first,x133.next,x131,x133.closed⟩:aJ)) M M ti3 (svaR hA M M) (agi hA M M) (svaI hA M M) M M M M hx133 (nle M) M hx134)) ?_
          exact .nil
         obtain ⟨x135,hx135,h⟩:=aX h
         obtain ⟨x136,hx136,h⟩:=aX h
         obtain ⟨x137,hx137,h⟩:=aX h
         refine lH M [⟨[2],[0],[(56,.ref 1000 0)],[]⟩,
          ⟨[8],[],[(57,.int .i64 x123)],[]⟩,
          ⟨[2],[0],[(58,.ref 1000 0)],[]⟩,
          ⟨[3],[1],[(59,.int .i64 a0)],[]⟩,
          ⟨[58],[],[(60,.ref 1000 0)],[]⟩,
          ⟨[60],[],[(61,.ref 1000 5)],[]⟩,
          ⟨[59,61],[],[(62,.ref 1000 (5 + (((a0:Int).toNat) * aB.sz + 0)))],[]⟩,
          ⟨[62],[],[(63,.ref 1000 (5 + (((a0:Int).toNat) * aB.sz + 1)))],[]⟩,
          ⟨[63],[1000],[(64,.int .i64 x136.up)],[]⟩,
          ⟨[56,57,64],[54,55,1000],[(65,.tuple [])],[(1000,.blk 67 (mixD aB.toEnc0 (w26 x137.1 x137.2.1 x137.2.2.1 x137.2.2.2.1 x137.2.2.2.2.1) x137.2.2.2.2.2.1 [.int .i64 x137.2.2.2.2.2.2.1,.osl 55 (eInt .i64).sz x137.2.2.2.2.2.2.2.length])),(55,.blk 3 (D.flat (x137.2.2.2.2.2.2.2.map (eInt .i64).d))),(1000,.none),(54,.none)]⟩] M ?_ (by kernel_rfl) ?_
         ·refine .cons (lop M M fun S hA=>(aI (d:=.ref _ _) M M (lb M) underlying25 ag25 ti25 (by decide) (svaR hA M M) (agi hA M M) (nle M) M)) ?_
          refine .cons (lop M M fun S hA=>(aO M M (lb M) (svaI hA M M))) ?_
          refine .cons (lop M M fun S hA=>(aI (d:=.ref _ _) M M (lb M) underlying25 ag25 ti25 (by decide) (svaR hA M M) (agi hA M M) (nle M) M)) ?_
          refine .cons (lop M M fun S hA=>(aI (d:=.int _ _) M M (lb M) underlying3 ag3 ti3 (by decide) (svaR hA M M) (agi hA M M) (nle M) M)) ?_
          refine .cons (lop M M fun S hA=>(aL M M (lb M) (svaR hA M M))) ?_
          refine .cons (lop M M fun S hA=>(aP M M (lb M) underlying67 M ti65 (by decide) (svaR hA M M) (off':=5) M)) ?_
          refine .cons (lop M M fun S hA=>(dO aB.toEnc0 M M (lb M) underlying65 ti64 (svaR hA M M) (iQ hx134 hk125) (svaI hA M M) hx135)) ?_
          refine .cons (lop M M fun S hA=>(bZ M M (lb M) underlying64 M ti3 (by decide) (svaR hA M M) (k':=1) M)) ?_
          refine .cons (lop M M fun S hA=>(cM aB.toEnc0 (b:=5) (k:=1) (d:=.int _ _) M M (lb M) underlying3 ag3 ti3 (by decide) (svaR hA M M) (agi hA M M) M hx136 (nle M) M)) ?_
          refine .cons (lop M M fun S hA=>(mI (r':=.tuple []) (U:=[(1000,.blk 67 (mixD aB.toEnc0 (w26 x137.1 x137.2.1 x137.2.2.1 x137.2.2.2.1 x137.2.2.2.2.1) x137.2.2.2.2.2.1 [.int .i64 x137.2.2.2.2.2.2.1,.osl 55 (eInt .i64).sz x137.2.2.2.2.2.2.2.length])),(55,.blk 3 (D.flat (x137.2.2.2.2.2.2.2.map (eInt .i64).d))),(1000,.none),(54,.none)]) 55 1 [1000,54] M M (lb M) cl65 (.cons (svaR hA M M) (.cons (svaI hA M M) (.cons (svaI hA M M) .nil))) M M M (List.forall_mem_cons.2 ⟨(agi hA M M),List.forall_mem_nil _⟩) ⟨by decide,M,List.forall_mem_cons.2 ⟨⟨M,M,(mT aB (agi hA M M) M M),(eA aB M M)⟩,List.forall_mem_cons.2 ⟨⟨M,M,(iF (eInt .i64) (agi hA M M)),(bP (eInt .i64))⟩,List.forall_mem_nil _⟩⟩⟩ (iP _ _ _ _ _ _ _ _ _ _ _ hx137) M M (List.forall_mem_cons.2 ⟨⟨M,(eA aB M M)⟩,List.forall_mem_cons.2 ⟨⟨M,(bP (eInt .i64))⟩,List.forall_mem_nil _⟩⟩) (by simp only [List.map_cons,List.map_nil,Ent.ren,bT,cE,eL]; rfl))) ?_
          exact .nil
         refine bJ ?_
         refine aM ?_
         obtain ⟨x138,hx138,h⟩:=bC h
         refine bA (aA M (bO M M (lb M) (svI M) (sv (d:=.int _ 1) M) M hx138)<|aA M (mvI M M M M)<|bL ?_)
         refine aM ⟨(n4,x138,x137.1,x137.2.1,x137.2.2.1,x137.2.2.2.1,x137.2.2.2.2.1,x137.2.2.2.2.2.1,x137.2.2.2.2.2.2.1,x137.2.2.2.2.2.2.2),(fun i=>if i=54 then 55 else i),⟨(.sames M M),(.cons (.blk M M M) (.cons (.blk M M M) (.cons (.blk M M M) (.cons (EntW.lst M) (.cons (EntW.mix aB M (SubC.of_eq M) (SubC.of_eq M) M M) (.cons (EntW.lst M) .nil)))))),bE [0,1,2,32,1000,55] M (by decide),(fun i hi=>by first | rfl | (show (if _ then _ else _)=_; (repeat' split) <;> omega))⟩,?_,?_⟩
         exact h
         exact Nat.lt_succ_self _
        ·
         replace h:=cB h hc121
         refine cU ?_
         refine bK ?_
         refine bK ?_
         refine cW ?_
         refine aM ?_
         obtain ⟨x139,hx139,h⟩:=aX h
         refine aF (aA M (aI (d:=.ref _ _) M M (lb M) underlying25 ag25 ti25 (by decide) (svR M) M (nle M) M)<|aA M (aI (d:=.int _ _) M M (lb M) underlying3 ag3 ti3 (by decide) (svR M) M (nle M) M)<|aA M (cQ (r':=.tuple []) (H1':=[(1000,.blk 67 (mixD aB.toEnc0 (w26 x139.1 x139.2.1 x139.2.2.1 x139.2.2.2.1 x139.2.2.2.2.1) x139.2.2.2.2.2.1 [.int .i64 x139.2.2.2.2.2.2.1,.osl 55 (eInt .i64).sz x139.2.2.2.2.2.2.2.length])),(55,.blk 3 (D.flat (x139.2.2.2.2.2.2.2.map (eInt .i64).d)))]) 55 [1000,54] M M (lb M) cl68 (.cons (svR M) (.cons (svI M) .nil)) M M ⟨M,M,by decide,M,List.forall_mem_cons.2 ⟨⟨M,M,(mT aB M M M),(eA aB M M)⟩,List.forall_mem_cons.2 ⟨⟨M,M,(iF (eInt .i64) M),(bP (eInt .i64))⟩,List.forall_mem_nil _⟩⟩⟩ (mE _ _ _ _ _ _ _ _ _ _ hx139) M M (List.forall_mem_cons.2 ⟨⟨M,(eA aB M M)⟩,List.forall_mem_cons.2 ⟨⟨M,(bP (eInt .i64))⟩,List.forall_mem_nil _⟩⟩) (by simp only [List.map_cons,List.map_nil,Ent.ren,bT,cE,eL]; rfl))<|aD ?_)
         obtain ⟨x140,hx140,h⟩:=aX h
         refine iR M [⟨[2],[0],[(71,.ref 1000 0)],[]⟩,
          ⟨[2],[0],[(72,.ref 1000 0)],[]⟩,
          ⟨[72],[],[(73,.ref 1000 0)],[]⟩,
          ⟨[73],[],[(74,.ref 1000 2)],[]⟩,
          ⟨[74],[1000],[(75,.agg [.slice false (x139.2.2.1.map aZ.d),.int .i64 x139.2.2.2.1,.int .i64 x139.2.2.2.2.1])],[]⟩,
          ⟨[3],[1],[(76,.int .i64 a0)],[]⟩,
          ⟨[75,76],[],[(77,.tuple [.agg (v2 x140.1),.int .i64 x140.2])],[]⟩,
          ⟨[77],[],[(70,.tuple [.agg (v2 x140.1),.int .i64 x140.2])],[]⟩,
          ⟨[70],[],[(78,.agg (v2 x140.1))],[]⟩,
          ⟨[70],[],[(79,.int .i64 x140.2)],[]⟩,
          ⟨[71],[],[(80,.ref 1000 0)],[]⟩,
          ⟨[80],[],[(81,.ref 1000 2)],[]⟩,
          ⟨[78,81],[1000],[],[(1000,.blk 67 (mixD aB.toEnc0 (w26 x139.1 x139.2.1 x140.1.Cells x140.1.Free x140.1.Used) x139.2.2.2.2.2.1 [.int .i64 x139.2.2.2.2.2.2.1,.osl 55 (eInt .i64).sz x139.2.2.2.2.2.2.2.length]))]⟩] M ?_ (by kernel_rfl) ?_
         ·refine .cons (lop M M fun S hA=>(aI (d:=.ref _ _) M M (lb M) underlying25 ag25 ti25 (by decide) (svaR hA M M) (agi hA M M) (nle M) M)) ?_
          refine .cons (lop M M fun S hA=>(aI (d:=.ref _ _) M M (lb M) underlying25 ag25 ti25 (by decide) (svaR hA M M) (agi hA M M) (nle M) M)) ?_
          refine .cons (lop M M fun S hA=>(aL M M (lb M) (svaR hA M M))) ?_
          refine .cons (lop M M fun S hA=>(aP M M (lb M) underlying67 M ti61 (by decide) (svaR hA M M) (off':=2) M)) ?_
          refine .cons (lop M M fun S hA=>(oW aB.toEnc0 (cs:=q13) M M (lb M) underlying61 ag61 ti61 (by decide) (svaR hA M M) (agi hA M M) (nle M) (by rfl))) ?_
          refine .cons (lop M M fun S hA=>(aI (d:=.int _ _) M M (lb M) underlying3 ag3 ti3 (by decide) (svaR hA M M) (agi hA M M) (nle M) M)) ?_
          refine .cons (lop M M fun S hA=>(bU (r:=.tuple q23) M M (lb M) cl69 (.cons (svaA q13 hA M M) (.cons (svaI hA M M) .nil)) M (uF _ _ _ hx140))) ?_
          refine .cons (lop M M fun S hA=>(aO M M (lb M) (sv (d:=.tuple q23) (agr hA M M)))) ?_
          refine .cons (lop M M fun S hA=>(bQ (d:=.agg q13) M M (lb M) (sv (d:=.tuple q23) (agr hA M M)) M)) ?_
          refine .cons (lop M M fun S hA=>(bQ (d:=.int _ _) M M (lb M) (sv (d:=.tuple q23) (agr hA M M)) M)) ?_
          refine .cons (lop M M fun S hA=>(aL M M (lb M) (svaR hA M M))) ?_
          refine .cons (lop M M fun S hA=>(aP M M (lb M) underlying67 M ti61 (by decide) (svaR hA M M) (off':=2) M)) ?_
          refine .cons (lop M M fun S hA=>(tS aB.toEnc0 (pre:=q7) (pre':=q7) M M ti61 (svaR hA M M) (agi hA M M) (svaA q13 hA M M) M M M (nle M) M)) ?_
          exact .nil
         obtain ⟨hk141,h⟩:=oZ h
         obtain ⟨x142,hx142,h⟩:=aX h
         refine lH M [⟨[2],[0],[(82,.ref 1000 0)],[]⟩,
          ⟨[2],[0],[(83,.ref 1000 0)],[]⟩,
          ⟨[83],[],[(84,.ref 1000 0)],[]⟩,
          ⟨[84],[],[(85,.ref 1000 390)],[]⟩,
          ⟨[85],[1000],[(86,.osl 55 (eInt .i64).sz x139.2.2.2.2.2.2.2.length)],[]⟩,
          ⟨[3],[],[(87,.fn 70 [.ref 1 0])],[]⟩,
          ⟨[86,87],[1,55,56],[(88,.osl 56 (eInt .i64).sz x142.length)],[(1,.blk 3 [.int .i64 a0]),(56,.blk 3 (D.flat (x142.map (eInt .i64).d))),(55,.none),(1,.none)]⟩,
          ⟨[82],[],[(89,.ref 1000 0)],[]⟩,
          ⟨[89],[],[(90,.ref 1000 390)],[]⟩,
          ⟨[88,90],[1000],[],[(1000,.blk 67 (mixD aB.toEnc0 (w26 x139.1 x139.2.1 x140.1.Cells x140.1.Free x140.1.Used) x139.2.2.2.2.2.1 [.int .i64 x139.2.2.2.2.2.2.1,.osl 56 (eInt .i64).sz x142.length]))]⟩] M ?_ (by kernel_rfl) ?_
         ·refine .cons (lop M M fun S hA=>(aI (d:=.ref _ _) M M (lb M) underlying25 ag25 ti25 (by decide) (svaR hA M M) (agi hA M M) (nle M) M)) ?_
          refine .cons (lop M M fun S hA=>(aI (d:=.ref _ _) M M (lb M) underlying25 ag25 ti25 (by decide) (svaR hA M M) (agi hA M M) (nle M) M)) ?_
          refine .cons (lop M M fun S hA=>(aL M M (lb M) (svaR hA M M))) ?_
          refine .cons (lop M M fun S hA=>(aP M M (lb M) underlying67 M ti30 (by decide) (svaR hA M M) (off':=390) M)) ?_
          refine .cons (lop M M fun S hA=>(iD aB.toEnc0 (d:=.osl _ _ _) (n:=64) (k:=1) M M (lb M) underlying30 ag30 ti30 (by decide) (svaR hA M M) (agi hA M M) hk141 (by rfl) (nle M) (by rfl))) ?_
          refine .cons (lop M M fun S hA=>(mG M M (lb M) (.cons (svaR hA M M) .nil))) ?_
          refine .cons (lop M M fun S hA=>(mI (r':=.osl 56 (eInt .i64).sz x142.length) (U:=[(1,.blk 3 [.int .i64 a0]),(56,.blk 3 (D.flat (x142.map (eInt .i64).d))),(55,.none),(1,.none)]) 56 1 [55,1] M M (lb M) cl59 (.cons (sv (d:=.osl _ _ _) (agr hA M M)) (.cons (sv (d:=.fn 70 [.ref _ _]) (agr hA M M)) .nil)) M M M (List.forall_mem_cons.2 ⟨(agi hA M M),List.forall_mem_nil _⟩) ⟨by decide,M,List.forall_mem_cons.2 ⟨⟨M,M,(iF (eInt .i64) (agi hA M M)),(bP (eInt .i64))⟩,List.forall_mem_cons.2 ⟨⟨M,M,(agi hA M M),M⟩,List.forall_mem_nil _⟩⟩⟩ (jI _ _ _ hx142) M M (List.forall_mem_cons.2 ⟨⟨M,M⟩,List.forall_mem_cons.2 ⟨⟨M,(bP (eInt .i64))⟩,List.forall_mem_nil _⟩⟩) (by simp only [List.map_cons,List.map_nil,Ent.ren,bT,cE]; rfl))) ?_
          refine .cons (lop M M fun S hA=>(aL M M (lb M) (svaR hA M M))) ?_
          refine .cons (lop M M fun S hA=>(aP M M (lb M) underlying67 M ti30 (by decide) (svaR hA M M) (off':=390) M)) ?_
          refine .cons (lop M M fun S hA=>(pV aB.toEnc0 (post:=q19) (post':=q19) (n:=64) (k:=1) M M ti30 (svaR hA M M) (agi hA M M) (sv (d:=.osl _ _ _) (agr hA M M)) M M M hk141 (by rfl) (nle M) (by rfl))) ?_
          exact .nil
         obtain rfl:=sj_ h
         refine ⟨.inl M,(fun i=>if i=0 then 56 else i),⟨.nil,(.cons (EntW.mix aB M (SubC.of_eq M) (SubC.of_eq M) M M) (.cons (EntW.lst M) .nil)),bE [1000,56] M (by decide),(fun i hi=>by first | rfl | (show (if _ then _ else _)=_; (repeat' split) <;> omega))⟩,.nil,M⟩
  ·
   replace h:=cB h hc55
   refine aS ?_
   refine aM ?_
   obtain ⟨x143,hx143,h⟩:=aX h
   obtain ⟨hk144,h⟩:=oZ h
   refine aF (aA M (mvR M M M M)<|aA M (mvI M M M M)<|aA M (aL M M (lb M) (svR M))<|aA M (faR 5 M M M underlying67 M ti65 (lb M) M M)<|aA M (dO aB.toEnc0 M M (lb M) underlying65 ti64 (svR M) hk144 (svI M) hx143)<|aA M (bZ M M (lb M) underlying64 M ti3 (by decide) (svR M) (k':=2) M)<|aA M (aG M M (lb M) (svR M))<|aD ?_)
   refine aY ?_
   refine ⟨.inr M,11,_,[.ref 1000 (5 + (((a0:Int).toNat) * aB.sz + 2))],(.cons (sv M) .nil),M,M,⟨[(0,.yld 9),(1,.ref 4 0),(8,.ref 1000 (5 + (((a0:Int).toNat) * aB.sz + 2)))],[(0,.blk 25 [.ref 1000 0]),(1,.blk 3 [.int .i64 a0]),(2,.blk 3 [.int .i64 v53]),(4,.blk 25 [.ref 1000 0]),(5,.blk 3 [.int .i64 a0]),(6,.kept 1 (.dead::(.dead::(.ref 0 0::(.ref 1 0::(.ref 2 0::(dd_ 19 (.fn 83 [.ref 4 0,.ref 5 0]::(dd_ 66 []))))))))),(7,.kept 2 [.dead,.dead,.dead,.fn 83 [.ref 4 0,.ref 5 0],.dead]),(8,.blk 30 [.nils]),(9,.loop 3 [.dead,.dead,.ref 8 0,.dead,.dead,.dead,.fn 83 [.ref 4 0,.ref 5 0],.dead,.dead,.dead,.dead,.dead,.dead] .ready none),(10,.kept 3 (.dead::(.dead::(.ref 8 0::(.dead::(.dead::(.dead::(.fn 83 [.ref 4 0,.ref 5 0]::(dd_ 6 []))))))))),(1000,.blk 67 (mixD aB.toEnc0 (w26 a1 a2 a3 a4 a5) a6 [.int .i64 a7,.osl 1001 (eInt .i64).sz a8.length])),(1001,.blk 3 (D.flat (a8.map (eInt .i64).d)))]⟩,(fun i=>i),⟨(.sames M M),(.cons (.blk M M M) (.cons (.blk M M M) (.cons (.blk M M M) (.cons (.blk M M M) (.cons (.blk M M M) (.cons (.kept M M M) (.cons (.kept M M M) (.cons (.blk M M M) (.cons (.loop M M M) (.cons (.kept M M M) (.cons (EntW.mix aB M (SubC.of_eq M) (SubC.of_eq M) M M) (.cons (EntW.lst M) .nil)))))))))))),bE [0,1,2,4,5,6,7,8,9,10,1000,1001] M (by decide),fun _ _=>M⟩,?_⟩
   obtain ⟨x145,hx145,h⟩:=aX h
   refine aA M (aL M M (lb M) (svR M))<|aA M (cM aB.toEnc0 (b:=5) (k:=2) (d:=.int _ _) M M (lb M) underlying3 ag3 ti3 (by decide) (svR M) M M hx145 (nle M) M)<|aA M (asI M M M M)<|aD ?_
   refine bB ?_
   refine cP (α:=Nat × Int × (List Int)) (fun z=>⟨[(0,.yld 9),(1,.ref 4 0),(4,.int .i64 z.2.1)],[(9,.loop 3 [.dead,.dead,.ref 8 0,.dead,.dead,.dead,.fn 83 [.ref 4 0,.ref 5 0],.dead,.dead,.dead,.dead,.dead,.dead] .ready none),(4,.blk 25 [.ref 1000 0]),(6,.kept 1 (.dead::(.dead::(.ref 0 0::(.ref 1 0::(.ref 2 0::(dd_ 19 (.fn 83 [.ref 4 0,.ref 5 0]::(dd_ 66 []))))))))),(7,.kept 2 [.dead,.dead,.dead,.fn 83 [.ref 4 0,.ref 5 0],.dead]),(10,.kept 3 (.dead::(.dead::(.ref 8 0::(.dead::(.dead::(.dead::(.fn 83 [.ref 4 0,.ref 5 0]::(dd_ 6 []))))))))),(1000,.blk 67 (mixD aB.toEnc0 (w26 a1 a2 a3 a4 a5) a6 [.int .i64 a7,.osl 1001 (eInt .i64).sz a8.length])),(1001,.blk 3 (D.flat (a8.map (eInt .i64).d))),(8,.blk 30 [.osl 32 (eInt .i64).sz z.2.2.length]),(5,.blk 3 [.int .i64 a0]),(0,.blk 25 [.ref 1000 0]),(1,.blk 3 [.int .i64 a0]),(2,.blk 3 [.int .i64 v53]),(32,.blk 3 (D.flat (z.2.2.map (eInt .i64).d)))]⟩) (fun z=>gC a0 a1 a2 a3 a4 a5 a6 a7 a8 v53 z.1 z.2.1 z.2.2=some r) (fun z=>z.1) (fuel,x145.first,([]:(List Int))) (fun i=>if i=32 then 94 else i) ⟨(.sames M M),(.cons (.loop M M M) (.cons (.blk M M M) (.cons (.kept M M M) (.cons (.kept M M M) (.cons (.kept M M M) (.cons (EntW.mix aB M (SubC.of_eq M) (SubC.of_eq M) M M) (.cons (EntW.lst M) (.cons (.sub M (.nilo .nil) M) (.cons (.blk M M M) (.cons (.blk M M M) (.cons (.blk M M M) (.cons (.blk M M M) (.cons (.nilb M) .nil))))))))))))),bE [9,4,6,7,10,1000,1001,8,5,0,1,2,94] M (by decide),(fun i hi=>by first | rfl | (show (if _ then _ else _)=_; (repeat' split) <;> omega))⟩ ?_ ?_
   ·exact h
   ·
    rintro ⟨n5,v151,v152⟩ h
    cases n5 with
    | zero=>exact absurd h (by unfold gC; exact nofun)
    | succ n5 =>
     unfold gC at h
     refine aT ?_
     obtain ⟨x158,hx158,h⟩:=bC h
     refine aF (aA M (mvI M M M M)<|aA M (aQ M M (lb M) (svI M) (sv (d:=.int _ (-1)) M) M hx158)<|aD ?_)
     refine aR (b:=_) M (fun hc159=>?_) (fun hc159=>?_)
     ·
      replace h:=cA h hc159
      refine aS ?_
      refine aM ?_
      refine bB ?_
      obtain ⟨x160,hx160,h⟩:=aX h
      obtain ⟨x161,hx161,h⟩:=aX h
      refine aF (aA M (aI (d:=.ref _ _) M M (lb M) underlying25 ag25 ti25 (by decide) (svR M) M (nle M) M)<|aA M (mvI M M M M)<|aA M (aL M M (lb M) (svR M))<|aA M (faR 5 M M M underlying67 M ti65 (lb M) M M)<|aA M (dO aB.toEnc0 M M (lb M) underlying65 ti64 (svR M) hk144 (svI M) hx160)<|aA M (bZ M M (lb M) underlying64 M ti3 (by decide) (svR M) (k':=3) M)<|aA M (cM aB.toEnc0 (b:=5) (k:=3) (d:=.int _ _) M M (lb M) underlying3 ag3 ti3 (by decide) (svR M) M M hx161 (nle M) M)<|aA M (asI M M M M)<|aD ?_)
      refine aT ?_
      refine aF (aA M (aO M M (lb M) (sv (d:=.yld _) M))<|aA M (mvI M M M M) <|?_)
      refine jE (S':=⟨[(0,.yld 9),(1,.ref 4 0),(5,.int .i64 x161.next),(20,.yld 9),(21,.int .i64 v151)],[(0,.blk 25 [.ref 1000 0]),(1,.blk 3 [.int .i64 a0]),(2,.blk 3 [.int .i64 v53]),(4,.blk 25 [.ref 1000 0]),(5,.blk 3 [.int .i64 a0]),(6,.kept 1 (.dead::(.dead::(.ref 0 0::(.ref 1 0::(.ref 2 0::(dd_ 19 (.fn 83 [.ref 4 0,.ref 5 0]::(dd_ 66 []))))))))),(7,.kept 2 [.dead,.dead,.dead,.fn 83 [.ref 4 0,.ref 5 0],.dead]),(8,.blk 30 [.osl 32 (eInt .i64).sz v152.length]),(9,.loop 3 [.dead,.dead,.ref 8 0,.dead,.dead,.dead,.fn 83 [.ref 4 0,.ref 5 0],.dead,.dead,.dead,.dead,.dead,.dead] .ready none),(10,.kept 3 (.dead::(.dead::(.ref 8 0::(.dead::(.dead::(.dead::(.fn 83 [.ref 4 0,.ref 5 0]::(dd_ 6 []))))))))),(32,.blk 3 (D.flat (v152.map (eInt .i64).d))),(1000,.blk 67 (mixD aB.toEnc0 (w26 a1 a2 a3 a4 a5) a6 [.int .i64 a7,.osl 1001 (eInt .i64).sz a8.length])),(1001,.blk 3 (D.flat (a8.map (eInt .i64).d)))]⟩) (fun i=>i) ⟨(.sames M M),(.cons (.blk M M M) (.cons (.blk M M M) (.cons (.blk M M M) (.cons (.blk M M M) (.cons (.blk M M M) (.cons (.kept M M M) (.cons (.kept M M M) (.cons (.blk M M M) (.cons (.loop M M M) (.cons (.kept M M M) (.cons (EntW.lst M) (.cons (EntW.mix aB M (SubC.of_eq M) (SubC.of_eq M) M M) (.cons (EntW.lst M) .nil))))))))))))),bE [0,1,2,4,5,6,7,8,9,10,32,1000,1001] M (by decide),fun _ _=>M⟩ ?_
      refine pX 4 9 33 M M M (by decide) M (.cons (svI M) .nil) M M M M M M hO3.round hlc3 ⟨[(7,.int .i64 v151),(2,.ref 8 0)],[(0,.blk 25 [.ref 1000 0]),(1,.blk 3 [.int .i64 a0]),(2,.blk 3 [.int .i64 v53]),(4,.blk 25 [.ref 1000 0]),(5,.blk 3 [.int .i64 a0]),(6,.kept 1 (.dead::(.dead::(.ref 0 0::(.ref 1 0::(.ref 2 0::(dd_ 19 (.fn 83 [.ref 4 0,.ref 5 0]::(dd_ 66 []))))))))),(7,.kept 2 [.dead,.dead,.dead,.fn 83 [.ref 4 0,.ref 5 0],.dead]),(8,.blk 30 [.osl 32 (eInt .i64).sz v152.length]),(9,.loop 3 [.dead,.dead,.ref 8 0,.dead,.dead,.dead,.fn 83 [.ref 4 0,.ref 5 0],.dead,.dead,.dead,.dead,.dead,.dead] .ready none),(10,.kept 3 (.dead::(.dead::(.ref 8 0::(.dead::(.dead::(.dead::(.fn 83 [.ref 4 0,.ref 5 0]::(dd_ 6 []))))))))),(32,.blk 3 (D.flat (v152.map (eInt .i64).d))),(33,.kept 4 (.yld 9::(.ref 4 0::(.dead::(.dead::(.dead::(.int .i64 x161.next::(dd_ 14 (.yld 9::(.int .i64 v151::(.dead::(.dead::(.dead::[]))))))))))))),(1000,.blk 67 (mixD aB.toEnc0 (w26 a1 a2 a3 a4 a5) a6 [.int .i64 a7,.osl 1001 (eInt .i64).sz a8.length])),(1001,.blk 3 (D.flat (a8.map (eInt .i64).d)))]⟩ (fun i=>i) ⟨(.sames M M),(.cons (.blk M M M) (.cons (.blk M M M) (.cons (.blk M M M) (.cons (.blk M M M) (.cons (.blk M M M) (.cons (.kept M M M) (.cons (.kept M M M) (.cons (.blk M M M) (.cons (.loop M M M) (.cons (.kept M M M) (.cons (EntW.lst M) (.cons (.kept M M M) (.cons (EntW.mix aB M (SubC.of_eq M) (SubC.of_eq M) M M) (.cons (EntW.lst M) .nil)))))))))))))),bE [0,1,2,4,5,6,7,8,9,10,32,33,1000,1001] M (by decide),fun _ _=>M⟩ fun O4=>?_
      refine bA (aA M (asI M M M M)<|bL ?_)
      refine ⟨M,9,_,M,⟨[(2,.ref 8 0),(5,.int .i64 v151)],[(0,.blk 25 [.ref 1000 0]),(1,.blk 3 [.int .i64 a0]),(2,.blk 3 [.int .i64 v53]),(4,.blk 25 [.ref 1000 0]),(5,.blk 3 [.int .i64 a0]),(6,.kept 1 (.dead::(.dead::(.ref 0 0::(.ref 1 0::(.ref 2 0::(dd_ 19 (.fn 83 [.ref 4 0,.ref 5 0]::(dd_ 66 []))))))))),(7,.kept 2 [.dead,.dead,.dead,.fn 83 [.ref 4 0,.ref 5 0],.dead]),(8,.blk 30 [.osl 32 (eInt .i64).sz v152.length]),(9,.loop 3 [.dead,.dead,.ref 8 0,.dead,.dead,.dead,.fn 83 [.ref 4 0,.ref 5 0],.dead,.dead,.dead,.dead,.dead,.dead] .busy none),(10,.kept 3 (.dead::(.dead::(.ref 8 0::(.dead::(.dead::(.dead::(.fn 83 [.ref 4 0,.ref 5 0]::(dd_ 6 []))))))))),(32,.blk 3 (D.flat (v152.map (eInt .i64).d))),(33,.kept 4 (.yld 9::(.ref 4 0::(.dead::(.dead::(.dead::(.int .i64 x161.next::(dd_ 14 (.yld 9::(.int .i64 v151::(.dead::(.dead::(.dead::[]))))))))))))),(1000,.blk 67 (mixD aB.toEnc0 (w26 a1 a2 a3 a4 a5) a6 [.int .i64 a7,.osl 1001 (eInt .i64).sz a8.length])),(1001,.blk 3 (D.flat (a8.map (eInt .i64).d)))]⟩,(fun i=>i),⟨(.sames M M),(.cons (.blk M M M) (.cons (.blk M M M) (.cons (.blk M M M) (.cons (.blk M M M) (.cons (.blk M M M) (.cons (.kept M M M) (.cons (.kept M M M) (.cons (.blk M M M) (.cons (.loop M M M) (.cons (.kept M M M) (.cons (EntW.lst M) (.cons (.kept M M M) (.cons (EntW.mix aB M (SubC.of_eq M) (SubC.of_eq M) M M) (.cons (EntW.lst M) .nil)))))))))))))),bE [0,1,2,4,5,6,7,8,9,10,32,33,1000,1001] M (by decide),fun _ _=>M⟩,?_⟩
      refine bB ?_
      obtain ⟨x162,hx162,h⟩:=aX h
      refine bA (aA M (aI (d:=.osl _ _ _) M M (lb M) underlying30 ag30 ti30 (by decide) (svR M) M (nle M) M)<|aA M (mvI M M M M)<|aA M (lD (eInt .i64).toEnc0 ([v151]:(List Int)) 34 M M (lb M) underlying30 ti3 M (.cons (svI M) .nil) M M (by decide))<|aA M (iH (eInt .i64).toEnc0 35 M M (lb M) underlying30 ti3 M M M M M (qP (eInt .i64).toEnc0 M M M) hx162)<|aA M (dZ (ds':=[.osl _ _ _]) M M ti30 (svR M) M (sv (d:=.osl _ _ _) M) M M M (nle M) M)<|bL ?_)
      refine bJ ?_
      refine ⟨9,33,_,_,none,M,M,M,M,(by decide),⟨[(0,.yld 9),(1,.ref 4 0),(5,.int .i64 x161.next),(22,.bool true)],[(0,.blk 25 [.ref 1000 0]),(1,.blk 3 [.int .i64 a0]),(2,.blk 3 [.int .i64 v53]),(4,.blk 25 [.ref 1000 0]),(5,.blk 3 [.int .i64 a0]),(6,.kept 1 (.dead::(.dead::(.ref 0 0::(.ref 1 0::(.ref 2 0::(dd_ 19 (.fn 83 [.ref 4 0,.ref 5 0]::(dd_ 66 []))))))))),(7,.kept 2 [.dead,.dead,.dead,.fn 83 [.ref 4 0,.ref 5 0],.dead]),(8,.blk 30 [.osl 35 (eInt .i64).sz x162.length]),(9,.loop 3 [.dead,.dead,.ref 8 0,.dead,.dead,.dead,.fn 83 [.ref 4 0,.ref 5 0],.dead,.dead,.dead,.dead,.dead,.dead] .ready none),(10,.kept 3 (.dead::(.dead::(.ref 8 0::(.dead::(.dead::(.dead::(.fn 83 [.ref 4 0,.ref 5 0]::(dd_ 6 []))))))))),(35,.blk 3 (D.flat (x162.map (eInt .i64).d))),(1000,.blk 67 (mixD aB.toEnc0 (w26 a1 a2 a3 a4 a5) a6 [.int .i64 a7,.osl 1001 (eInt .i64).sz a8.length])),(1001,.blk 3 (D.flat (a8.map (eInt .i64).d)))]⟩,(fun i=>i),⟨(.sames M M),(.cons (.blk M M M) (.cons (.blk M M M) (.cons (.blk M M M) (.cons (.blk M M M) (.cons (.blk M M M) (.cons (.kept M M M) (.cons (.kept M M M) (.cons (.blk M M M) (.cons (.loop M M M) (.cons (.kept M M M) (.cons (EntW.lst M) (.cons (EntW.mix aB M (SubC.of_eq M) (SubC.of_eq M) M M) (.cons (EntW.lst M) .nil))))))))))))),bE [0,1,2,4,5,6,7,8,9,10,35,1000,1001] M (by decide),fun _ _=>M⟩,?_⟩
      refine aA M (gD M M (lb M) (svB M))<|aD ?_
      refine jD M M ?_
      refine aS ?_
      refine aM ?_
      refine bA (aA M (mvI M M M M)<|aA M (asI M M M M)<|bL ?_)
      refine bJ ?_
      refine aM ⟨(n5,x161.next,x162),(fun i=>if i=32 then 35 else i),⟨(.sames M M),(.cons (.loop M M M) (.cons (.blk M M M) (.cons (.kept M M M) (.cons (.kept M M M) (.cons (.kept M M M) (.cons (EntW.mix aB M (SubC.of_eq M) (SubC.of_eq M) M M) (.cons (EntW.lst M) (.cons (.blk M M M) (.cons (.blk M M M) (.cons (.blk M M M) (.cons (.blk M M M) (.cons (.blk M M M) (.cons (EntW.lst M) .nil))))))))))))),bE [9,4,6,7,10,1000,1001,8,5,0,1,2,35] M (by decide),(fun i hi=>by first | rfl | (show (if _ then _ else _)=_; (repeat' split) <;> omega))⟩,?_,?_⟩
      exact h
      exact Nat.lt_succ_self _
     ·
      replace h:=cB h hc159
      refine cU ?_
      refine bK ?_
      refine bK ?_
      refine cW ?_
      refine ⟨.inl M,9,10,_,_,_,_,M,(by simp),M,M,⟨[(2,.ref 8 0)],[(0,.blk 25 [.ref 1000 0]),(1,.blk 3 [.int .i64 a0]),(2,.blk 3 [.int .i64 v53]),(4,.blk 25 [.ref 1000 0]),(5,.blk 3 [.int .i64 a0]),(6,.kept 1 (.dead::(.dead::(.ref 0 0::(.ref 1 0::(.ref 2 0::(dd_ 19 (.fn 83 [.ref 4 0,.ref 5 0]::(dd_ 66 []))))))))),(7,.kept 2 [.dead,.dead,.dead,.fn 83 [.ref 4 0,.ref 5 0],.dead]),(8,.blk 30 [.osl 32 (eInt .i64).sz v152.length]),(32,.blk 3 (D.flat (v152.map (eInt .i64).d))),(1000,.blk 67 (mixD aB.toEnc0 (w26 a1 a2 a3 a4 a5) a6 [.int .i64 a7,.osl 1001 (eInt .i64).sz a8.length])),(1001,.blk 3 (D.flat (a8.map (eInt .i64).d)))]⟩,(fun i=>i),⟨(.sames M M),(.cons (.blk M M M) (.cons (.blk M M M) (.cons (.blk M M M) (.cons (.blk M M M) (.cons (.blk M M M) (.cons (.kept M M M) (.cons (.kept M M M) (.cons (.blk M M M) (.cons (EntW.lst M) (.cons (EntW.mix aB M (SubC.of_eq M) (SubC.of_eq M) M M) (.cons (EntW.lst M) .nil))))))))))),bE [0,1,2,4,5,6,7,8,32,1000,1001] M (by decide),fun _ _=>M⟩,?_⟩
      refine bJ ?_
      refine aM ?_
      refine aF (aA M (aI (d:=.osl _ _ _) M M (lb M) underlying30 ag30 ti30 (by decide) (svR M) M (nle M) M)<|aA M (aG M M (lb M) (sv (d:=.osl _ _ _) M))<|aD ?_)
      refine aY ?_
      refine ⟨.inr M,7,_,[.osl 32 (eInt .i64).sz v152.length],(.cons (sv M) .nil),M,M,⟨[(4,.osl 32 (eInt .i64).sz v152.length)],[(0,.blk 25 [.ref 1000 0]),(1,.blk 3 [.int .i64 a0]),(2,.blk 3 [.int .i64 v53]),(4,.blk 25 [.ref 1000 0]),(5,.blk 3 [.int .i64 a0]),(6,.kept 1 (.dead::(.dead::(.ref 0 0::(.ref 1 0::(.ref 2 0::(dd_ 19 (.fn 83 [.ref 4 0,.ref 5 0]::(dd_ 66 []))))))))),(32,.blk 3 (D.flat (v152.map (eInt .i64).d))),(1000,.blk 67 (mixD aB.toEnc0 (w26 a1 a2 a3 a4 a5) a6 [.int .i64 a7,.osl 1001 (eInt .i64).sz a8.length])),(1001,.blk 3 (D.flat (a8.map (eInt .i64).d)))]⟩,(fun i=>i),⟨(.sames M M),(.cons (.blk M M M) (.cons (.blk M M M) (.cons (.blk M M M) (.cons (.blk M M M) (.cons (.blk M M M) (.cons (.kept M M M) (.cons (EntW.lst M) (.cons (EntW.mix aB M (SubC.of_eq M) (SubC.of_eq M) M M) (.cons (EntW.lst M) .nil))))))))),bE [0,1,2,4,5,6,32,1000,1001] M (by decide),fun _ _=>M⟩,?_⟩
      refine aA M (aG M M (lb M) (sv (d:=.osl _ _ _) M))<|aD ?_
      refine aY ?_
      refine ⟨.inr M,6,_,[.osl 32 (eInt .i64).sz v152.length],(.cons (sv M) .nil),M,M,⟨[(2,.ref 0 0),(3,.ref 1 0),(4,.ref 2 0),(25,.osl 32 (eInt .i64).sz v152.length)],[(0,.blk 25 [.ref 1000 0]),(1,.blk 3 [.int .i64 a0]),(2,.blk 3 [.int .i64 v53]),(32,.blk 3 (D.flat (v152.map (eInt .i64).d))),(1000,.blk 67 (mixD aB.toEnc0 (w26 a1 a2 a3 a4 a5) a6 [.int .i64 a7,.osl 1001 (eInt .i64).sz a8.length])),(1001,.blk 3 (D.flat (a8.map (eInt .i64).d)))]⟩,(fun i=>i),⟨(.sames M M),(.cons (.blk M M M) (.cons (.blk M M M) (.cons (.blk M M M) (.cons (EntW.lst M) (.cons (EntW.mix aB M (SubC.of_eq M) (SubC.of_eq M) M M) (.cons (EntW.lst M) .nil)))))),bE [0,1,2,32,1000,1001] M (by decide),fun _ _=>M⟩,?_⟩
      refine aA M (aG M M (lb M) (sv (d:=.osl _ _ _) M))<|aD ?_
      refine aT ?_
      refine aF (aA M (aO M M (lb M) (sv (d:=.osl _ _ _) M))<|aA M (kV M M (lb M) underlying30 (sv (d:=.osl _ _ _) M))<|aA M (aO M M (lb M) (sv (d:=.int _ 0) M))<|aD ?_)
      refine bB ?_
      refine cP (α:=Nat × Int × Int × Int × (List aK) × Int × Int × (List aJ) × Int × (List Int)) (fun z=>⟨[(2,.ref 0 0),(3,.ref 1 0),(4,.ref 2 0),(26,.osl 32 (eInt .i64).sz v152.length),(27,.int .i64 (v152.length:Int)),(28,.int .i64 z.2.1)],[(0,.blk 25 [.ref 1000 0]),(1,.blk 3 [.int .i64 a0]),(2,.blk 3 [.int .i64 v53]),(32,.blk 3 (D.flat (v152.map (eInt .i64).d))),(1000,.blk 67 (mixD aB.toEnc0 (w26 z.2.2.1 z.2.2.2.1 z.2.2.2.2.1 z.2.2.2.2.2.1 z.2.2.2.2.2.2.1) z.2.2.2.2.2.2.2.1 [.int .i64 z.2.2.2.2.2.2.2.2.1,.osl 54 (eInt .i64).sz z.2.2.2.2.2.2.2.2.2.length])),(54,.blk 3 (D.flat (z.2.2.2.2.2.2.2.2.2.map (eInt .i64).d)))]⟩) (fun z=>cY a0 v53 v152 z.1 z.2.1 z.2.2.1 z.2.2.2.1 z.2.2.2.2.1 z.2.2.2.2.2.1 z.2.2.2.2.2.2.1 z.2.2.2.2.2.2.2.1 z.2.2.2.2.2.2.2.2.1 z.2.2.2.2.2.2.2.2.2=some r) (fun z=>z.1) (fuel,0,a1,a2,a3,a4,a5,a6,a7,a8) (fun i=>if i=54 then 1001 else i) ⟨(.sames M M),(.cons (.blk M M M) (.cons (.blk M M M) (.cons (.blk M M M) (.cons (EntW.lst M) (.cons (EntW.mix aB M (SubC.of_eq M) (SubC.of_eq M) M M) (.cons (EntW.lst M) .nil)))))),bE [0,1,2,32,1000,1001] M (by decide),(fun i hi=>by first | rfl | (show (if _ then _ else _)=_; (repeat' split) <;> omega))⟩ ?_ ?_
      ·exact h
      ·
       rintro ⟨n6,v181,v182,v183,v184,v185,v186,v187,v188,v189⟩ h
       cases n6 with
       | zero=>exact absurd h (by unfold cY; exact nofun)
       | succ n6 =>
        unfold cY at h
        obtain ⟨x209,hx209,h⟩:=bC h
        refine aF (aA M (aQ M M (lb M) (svI M) (svI M) M hx209)<|aD ?_)
        refine aT ?_
        refine aR (b:=_) M (fun hc210=>?_) (fun hc210=>?_)
        ·
         replace h:=cA h hc210
         refine aS ?_
         refine aM ?_
         refine aT ?_
         refine bB ?_
         obtain ⟨x211,hx211,h⟩:=aX h
         obtain ⟨x212,hx212,h⟩:=aX h
         refine aF (aA M (fY (eInt .i64).toEnc0 M M (lb M) underlying30 ti3 (sv (d:=.osl _ _ _) M) M (svI M) hx211)<|aA M (fP (eInt .i64).toEnc0 (d:=.int _ _) M M (lb M) underlying3 ag3 ti3 (by decide) (svR M) M hx212 (nle M) M)<|aA M (asI M M M M)<|aD ?_)
         obtain ⟨x213,hx213,h⟩:=aX h
         obtain ⟨hk214,h⟩:=oZ h
         obtain ⟨x215,hx215,h⟩:=aX h
         obtain ⟨x216,hx216,h⟩:=aX h
         obtain ⟨x217,hx217,h⟩:=aX h
         obtain ⟨x218,hx218,h⟩:=bC h
         obtain ⟨x219,hx219,h⟩:=aX h
         obtain ⟨x220,hx220,h⟩:=bC h
         obtain ⟨x221,hx221,h⟩:=aX h
         obtain ⟨x222,hx222,h⟩:=aX h
         obtain ⟨x223,hx223,h⟩:=bC h
         refine iR M [⟨[2],[0],[(32,.ref 1000 0)],[]⟩,
          ⟨[8],[],[(33,.int .i64 x212)],[]⟩,
          ⟨[2],[0],[(34,.ref 1000 0)],[]⟩,
          ⟨[3],[1],[(35,.int .i64 a0)],[]⟩,
          ⟨[34],[],[(36,.ref 1000 0)],[]⟩,
          ⟨[36],[],[(37,.ref 1000 5)],[]⟩,
          ⟨[35,37],[],[(38,.ref 1000 (5 + (((a0:Int).toNat) * aB.sz + 0)))],[]⟩,
          ⟨[38],[],[(39,.ref 1000 (5 + (((a0:Int).toNat) * aB.sz + 4)))],[]⟩,
          ⟨[39],[1000],[(40,.int .i64 x215.weight)],[]⟩,
          ⟨[2],[0],[(41,.ref 1000 0)],[]⟩,
          ⟨[8],[],[(42,.int .i64 x212)],[]⟩,
          ⟨[41],[],[(43,.ref 1000 0)],[]⟩,
          ⟨[43],[],[(44,.ref 1000 5)],[]⟩,
          ⟨[42,44],[],[(45,.ref 1000 (5 + (((x212:Int).toNat) * aB.sz + 0)))],[]⟩,
          ⟨[45],[],[(46,.ref 1000 (5 + (((x212:Int).toNat) * aB.sz + 4)))],[]⟩,
          ⟨[46],[1000],[(47,.int .i64 x217.weight)],[]⟩,
          ⟨[40,47],[],[(48,.int .i64 x218)],[]⟩,
          ⟨[4],[2],[(49,.int .i64 v53)],[]⟩,
          ⟨[48,49],[],[(50,.int .i64 x219)],[]⟩,
          ⟨[50],[],[(51,.int .i64 x220)],[]⟩,
          ⟨[32],[],[(52,.ref 1000 0)],[]⟩,
          ⟨[52],[],[(53,.ref 1000 5)],[]⟩,
          ⟨[33,53],[],[(54,.ref 1000 (5 + (((x212:Int).toNat) * aB.sz + 0)))],[]⟩,
          ⟨[54],[],[(55,.ref 1000 (5 + (((x212:Int).toNat) * aB.sz + 4)))],[]⟩,
          ⟨[51,55],[1000],[],[(1000,.blk 67 (mixD aB.toEnc0 (w26 v182 v183 v184 v185 v186) x223 [.int .i64 v188,.osl 54 (eInt .i64).sz v189.length]))]⟩] M ?_ (by kernel_rfl) ?_
         ·refine .cons (lop M M fun S hA=>(aI (d:=.ref _ _) M M (lb M) underlying25 ag25 ti25 (by decide) (svaR hA M M) (agi hA M M) (nle M) M)) ?_
          refine .cons (lop M M fun S hA=>(aO M M (lb M) (svaI hA M M))) ?_
          refine .cons (lop M M fun S hA=>(aI (d:=.ref _ _) M M (lb M) underlying25 ag25 ti25 (by decide) (svaR hA M M) (agi hA M M) (nle M) M)) ?_
          refine .cons (lop M M fun S hA=>(aI (d:=.int _ _) M M (lb M) underlying3 ag3 ti3 (by decide) (svaR hA M M) (agi hA M M) (nle M) M)) ?_
          refine .cons (lop M M fun S hA=>(aL M M (lb M) (svaR hA M M))) ?_
          refine .cons (lop M M fun S hA=>(aP M M (lb M) underlying67 M ti65 (by decide) (svaR hA M M) (off':=5) M)) ?_
          refine .cons (lop M M fun S hA=>(dO aB.toEnc0 M M (lb M) underlying65 ti64 (svaR hA M M) hk214 (svaI hA M M) hx213)) ?_
          refine .cons (lop M M fun S hA=>(bZ M M (lb M) underlying64 M ti3 (by decide) (svaR hA M M) (k':=4) M)) ?_
          refine .cons (lop M M fun S hA=>(cM aB.toEnc0 (b:=5) (k:=4) (d:=.int _ _) M M (lb M) underlying3 ag3 ti3 (by decide) (svaR hA M M) (agi hA M M) M hx215 (nle M) M)) ?_
          refine .cons (lop M M fun S hA=>(aI (d:=.ref _ _) M M (lb M) underlying25 ag25 ti25 (by decide) (svaR hA M M) (agi hA M M) (nle M) M)) ?_
          refine .cons (lop M M fun S hA=>(aO M M (lb M) (svaI hA M M))) ?_
          refine .cons (lop M M fun S hA=>(aL M M (lb M) (svaR hA M M))) ?_
          refine .cons (lop M M fun S hA=>(aP M M (lb M) underlying67 M ti65 (by decide) (svaR hA M M) (off':=5) M)) ?_
          refine .cons (lop M M fun S hA=>(dO aB.toEnc0 M M (lb M) underlying65 ti64 (svaR hA M M) hk214 (svaI hA M M) hx216)) ?_
          refine .cons (lop M M fun S hA=>(bZ M M (lb M) underlying64 M ti3 (by decide) (svaR hA M M) (k':=4) M)) ?_
          refine .cons (lop M M fun S hA=>(cM aB.toEnc0 (b:=5) (k:=4) (d:=.int _ _) M M (lb M) underlying3 ag3 ti3 (by decide) (svaR hA M M) (agi hA M M) M hx217 (nle M) M)) ?_
          refine .cons (lop M M fun S hA=>(bO M M (lb M) (svaI hA M M) (svaI hA M M) M hx218)) ?_
          refine .cons (lop M M fun S hA=>(aI (d:=.int _ _) M M (lb M) underlying3 ag3 ti3 (by decide) (svaR hA M M) (agi hA M M) (nle M) M)) ?_
          refine .cons (lop M M fun S hA=>(yQ M M (lb M) (svaI hA M M) (svaI hA M M) hx219)) ?_
          refine .cons (lop M M fun S hA=>(yR M M (lb M) (svaI hA M M) (sv (d:=.int _ 1) M) hx220)) ?_
          refine .cons (lop M M fun S hA=>(aL M M (lb M) (svaR hA M M))) ?_
          refine .cons (lop M M fun S hA=>(aP M M (lb M) underlying67 M ti65 (by decide) (svaR hA M M) (off':=5) M)) ?_
          refine .cons (lop M M fun S hA=>(dO aB.toEnc0 M M (lb M) underlying65 ti64 (svaR hA M M) hk214 (svaI hA M M) hx221)) ?_
          refine .cons (lop M M fun S hA=>(bZ M M (lb M) underlying64 M ti3 (by decide) (svaR hA M M) (k':=4) M)) ?_
          refine .cons (lop M M fun S hA=>(jQ aB.toEnc0 (b:=5) (k:=4) (a':=(⟨x222.id,x222.up,x222.first,x222.next,x220,x222.closed⟩:aJ)) M M ti3 (svaR hA M M) (agi hA M M) (svaI hA M M) M M M M hx222 (nle M) M hx223)) ?_
          exact .nil
         obtain ⟨x224,hx224,h⟩:=aX h
         obtain ⟨x225,hx225,h⟩:=aX h
         obtain ⟨x226,hx226,h⟩:=aX h
         refine lH M [⟨[2],[0],[(56,.ref 1000 0)],[]⟩,
          ⟨[8],[],[(57,.int .i64 x212)],[]⟩,
          ⟨[2],[0],[(58,.ref 1000 0)],[]⟩,
          ⟨[3],[1],[(59,.int .i64 a0)],[]⟩,
          ⟨[58],[],[(60,.ref 1000 0)],[]⟩,
          ⟨[60],[],[(61,.ref 1000 5)],[]⟩,
          ⟨[59,61],[],[(62,.ref 1000 (5 + (((a0:Int).toNat) * aB.sz + 0)))],[]⟩,
          ⟨[62],[],[(63,.ref 1000 (5 + (((a0:Int).toNat) * aB.sz + 1)))],[]⟩,
          ⟨[63],[1000],[(64,.int .i64 x225.up)],[]⟩,
          ⟨[56,57,64],[54,55,1000],[(65,.tuple [])],[(1000,.blk 67 (mixD aB.toEnc0 (w26 x226.1 x226.2.1 x226.2.2.1 x226.2.2.2.1 x226.2.2.2.2.1) x226.2.2.2.2.2.1 [.int .i64 x226.2.2.2.2.2.2.1,.osl 55 (eInt .i64).sz x226.2.2.2.2.2.2.2.length])),(55,.blk 3 (D.flat (x226.2.2.2.2.2.2.2.map (eInt .i64).d))),(1000,.none),(54,.none)]⟩] M ?_ (by kernel_rfl) ?_
         ·refine .cons (lop M M fun S hA=>(aI (d:=.ref _ _) M M (lb M) underlying25 ag25 ti25 (by decide) (svaR hA M M) (agi hA M M) (nle M) M)) ?_
          refine .cons (lop M M fun S hA=>(aO M M (lb M) (svaI hA M M))) ?_
          refine .cons (lop M M fun S hA=>(aI (d:=.ref _ _) M M (lb M) underlying25 ag25 ti25 (by decide) (svaR hA M M) (agi hA M M) (nle M) M)) ?_
          refine .cons (lop M M fun S hA=>(aI (d:=.int _ _) M M (lb M) underlying3 ag3 ti3 (by decide) (svaR hA M M) (agi hA M M) (nle M) M)) ?_
          refine .cons (lop M M fun S hA=>(aL M M (lb M) (svaR hA M M))) ?_
          refine .cons (lop M M fun S hA=>(aP M M (lb M) underlying67 M ti65 (by decide) (svaR hA M M) (off':=5) M)) ?_
          refine .cons (lop M M fun S hA=>(dO aB.toEnc0 M M (lb M) underlying65 ti64 (svaR hA M M) (iQ hx223 hk214) (svaI hA M M) hx224)) ?_
          refine .cons (lop M M fun S hA=>(bZ M M (lb M) underlying64 M ti3 (by decide) (svaR hA M M) (k':=1) M)) ?_
          refine .cons (lop M M fun S hA=>(cM aB.toEnc0 (b:=5) (k:=1) (d:=.int _ _) M M (lb M) underlying3 ag3 ti3 (by decide) (svaR hA M M) (agi hA M M) M hx225 (nle M) M)) ?_
          refine .cons (lop M M fun S hA=>(mI (r':=.tuple []) (U:=[(1000,.blk 67 (mixD aB.toEnc0 (w26 x226.1 x226.2.1 x226.2.2.1 x226.2.2.2.1 x226.2.2.2.2.1) x226.2.2.2.2.2.1 [.int .i64 x226.2.2.2.2.2.2.1,.osl 55 (eInt .i64).sz x226.2.2.2.2.2.2.2.length])),(55,.blk 3 (D.flat (x226.2.2.2.2.2.2.2.map (eInt .i64).d))),(1000,.none),(54,.none)]) 55 1 [1000,54] M M (lb M) cl65 (.cons (svaR hA M M) (.cons (svaI hA M M) (.cons (svaI hA M M) .nil))) M M M (List.forall_mem_cons.2 ⟨(agi hA M M),List.forall_mem_nil _⟩) ⟨by decide,M,List.forall_mem_cons.2 ⟨⟨M,M,(mT aB (agi hA M M) M M),(eA aB M M)⟩,List.forall_mem_cons.2 ⟨⟨M,M,(iF (eInt .i64) (agi hA M M)),(bP (eInt .i64))⟩,List.forall_mem_nil _⟩⟩⟩ (iP _ _ _ _ _ _ _ _ _ _ _ hx226) M M (List.forall_mem_cons.2 ⟨⟨M,(eA aB M M)⟩,List.forall_mem_cons.2 ⟨⟨M,(bP (eInt .i64))⟩,List.forall_mem_nil _⟩⟩) (by simp only [List.map_cons,List.map_nil,Ent.ren,bT,cE,eL]; rfl))) ?_
          exact .nil
         refine bJ ?_
         refine aM ?_
         obtain ⟨x227,hx227,h⟩:=bC h
         refine bA (aA M (bO M M (lb M) (svI M) (sv (d:=.int _ 1) M) M hx227)<|aA M (mvI M M M M)<|bL ?_)
         refine aM ⟨(n6,x227,x226.1,x226.2.1,x226.2.2.1,x226.2.2.2.1,x226.2.2.2.2.1,x226.2.2.2.2.2.1,x226.2.2.2.2.2.2.1,x226.2.2.2.2.2.2.2),(fun i=>if i=54 then 55 else i),⟨(.sames M M),(.cons (.blk M M M) (.cons (.blk M M M) (.cons (.blk M M M) (.cons (EntW.lst M) (.cons (EntW.mix aB M (SubC.of_eq M) (SubC.of_eq M) M M) (.cons (EntW.lst M) .nil)))))),bE [0,1,2,32,1000,55] M (by decide),(fun i hi=>by first | rfl | (show (if _ then _ else _)=_; (repeat' split) <;> omega))⟩,?_,?_⟩
         exact h
         exact Nat.lt_succ_self _
        ·
         replace h:=cB h hc210
         refine cU ?_
         refine bK ?_
         refine bK ?_
         refine cW ?_
         refine aM ?_
         obtain ⟨x228,hx228,h⟩:=aX h
         refine aF (aA M (aI (d:=.ref _ _) M M (lb M) underlying25 ag25 ti25 (by decide) (svR M) M (nle M) M)<|aA M (aI (d:=.int _ _) M M (lb M) underlying3 ag3 ti3 (by decide) (svR M) M (nle M) M)<|aA M (cQ (r':=.tuple []) (H1':=[(1000,.blk 67 (mixD aB.toEnc0 (w26 x228.1 x228.2.1 x228.2.2.1 x228.2.2.2.1 x228.2.2.2.2.1) x228.2.2.2.2.2.1 [.int .i64 x228.2.2.2.2.2.2.1,.osl 55 (eInt .i64).sz x228.2.2.2.2.2.2.2.length])),(55,.blk 3 (D.flat (x228.2.2.2.2.2.2.2.map (eInt .i64).d)))]) 55 [1000,54] M M (lb M) cl68 (.cons (svR M) (.cons (svI M) .nil)) M M ⟨M,M,by decide,M,List.forall_mem_cons.2 ⟨⟨M,M,(mT aB M M M),(eA aB M M)⟩,List.forall_mem_cons.2 ⟨⟨M,M,(iF (eInt .i64) M),(bP (eInt .i64))⟩,List.forall_mem_nil _⟩⟩⟩ (mE _ _ _ _ _ _ _ _ _ _ hx228) M M (List.forall_mem_cons.2 ⟨⟨M,(eA aB M M)⟩,List.forall_mem_cons.2 ⟨⟨M,(bP (eInt .i64))⟩,List.forall_mem_nil _⟩⟩) (by simp only [List.map_cons,List.map_nil,Ent.ren,bT,cE,eL]; rfl))<|aD ?_)
         obtain ⟨x229,hx229,h⟩:=aX h
         refine iR M [⟨[2],[0],[(71,.ref 1000 0)],[]⟩,
          ⟨[2],[0],[(72,.ref 1000 0)],[]⟩,
          ⟨[72],[],[(73,.ref 1000 0)],[]⟩,
          ⟨[73],[],[(74,.ref 1000 2)],[]⟩,
          ⟨[74],[1000],[(75,.agg [.slice false (x228.2.2.1.map aZ.d),.int .i64 x228.2.2.2.1,.int .i64 x228.2.2.2.2.1])],[]⟩,
          ⟨[3],[1],[(76,.int .i64 a0)],[]⟩,
          ⟨[75,76],[],[(77,.tuple [.agg (v2 x229.1),.int .i64 x229.2])],[]⟩,
          ⟨[77],[],[(70,.tuple [.agg (v2 x229.1),.int .i64 x229.2])],[]⟩,
          ⟨[70],[],[(78,.agg (v2 x229.1))],[]⟩,
          ⟨[70],[],[(79,.int .i64 x229.2)],[]⟩,
          ⟨[71],[],[(80,.ref 1000 0)],[]⟩,
          ⟨[80],[],[(81,.ref 1000 2)],[]⟩,
          ⟨[78,81],[1000],[],[(1000,.blk 67 (mixD aB.toEnc0 (w26 x228.1 x228.2.1 x229.1.Cells x229.1.Free x229.1.Used) x228.2.2.2.2.2.1 [.int .i64 x228.2.2.2.2.2.2.1,.osl 55 (eInt .i64).sz x228.2.2.2.2.2.2.2.length]))]⟩] M ?_ (by kernel_rfl) ?_
         ·refine .cons (lop M M fun S hA=>(aI (d:=.ref _ _) M M (lb M) underlying25 ag25 ti25 (by decide) (svaR hA M M) (agi hA M M) (nle M) M)) ?_
          refine .cons (lop M M fun S hA=>(aI (d:=.ref _ _) M M (lb M) underlying25 ag25 ti25 (by decide) (svaR hA M M) (agi hA M M) (nle M) M)) ?_
          refine .cons (lop M M fun S hA=>(aL M M (lb M) (svaR hA M M))) ?_
          refine .cons (lop M M fun S hA=>(aP M M (lb M) underlying67 M ti61 (by decide) (svaR hA M M) (off':=2) M)) ?_
          refine .cons (lop M M fun S hA=>(oW aB.toEnc0 (cs:=q13) M M (lb M) underlying61 ag61 ti61 (by decide) (svaR hA M M) (agi hA M M) (nle M) (by rfl))) ?_
          refine .cons (lop M M fun S hA=>(aI (d:=.int _ _) M M (lb M) underlying3 ag3 ti3 (by decide) (svaR hA M M) (agi hA M M) (nle M) M)) ?_
          refine .cons (lop M M fun S hA=>(bU (r:=.tuple q23) M M (lb M) cl69 (.cons (svaA q13 hA M M) (.cons (svaI hA M M) .nil)) M (uF _ _ _ hx229))) ?_
          refine .cons (lop M M fun S hA=>(aO M M (lb M) (sv (d:=.tuple q23) (agr hA M M)))) ?_
          refine .cons (lop M M fun S hA=>(bQ (d:=.agg q13) M M (lb M) (sv (d:=.tuple q23) (agr hA M M)) M)) ?_
          refine .cons (lop M M fun S hA=>(bQ (d:=.int _ _) M M (lb M) (sv (d:=.tuple q23) (agr hA M M)) M)) ?_
          refine .cons (lop M M fun S hA=>(aL M M (lb M) (svaR hA M M))) ?_
          refine .cons (lop M M fun S hA=>(aP M M (lb M) underlying67 M ti61 (by decide) (svaR hA M M) (off':=2) M)) ?_
          refine .cons (lop M M fun S hA=>(tS aB.toEnc0 (pre:=q7) (pre':=q7) M M ti61 (svaR hA M M) (agi hA M M) (svaA q13 hA M M) M M M (nle M) M)) ?_
          exact .nil
         obtain ⟨hk230,h⟩:=oZ h
         obtain ⟨x231,hx231,h⟩:=aX h
         refine lH M [⟨[2],[0],[(82,.ref 1000 0)],[]⟩,
          ⟨[2],[0],[(83,.ref 1000 0)],[]⟩,
          ⟨[83],[],[(84,.ref 1000 0)],[]⟩,
          ⟨[84],[],[(85,.ref 1000 390)],[]⟩,
          ⟨[85],[1000],[(86,.osl 55 (eInt .i64).sz x228.2.2.2.2.2.2.2.length)],[]⟩,
          ⟨[3],[],[(87,.fn 70 [.ref 1 0])],[]⟩,
          ⟨[86,87],[1,55,56],[(88,.osl 56 (eInt .i64).sz x231.length)],[(1,.blk 3 [.int .i64 a0]),(56,.blk 3 (D.flat (x231.map (eInt .i64).d))),(55,.none),(1,.none)]⟩,
          ⟨[82],[],[(89,.ref 1000 0)],[]⟩,
          ⟨[89],[],[(90,.ref 1000 390)],[]⟩,
          ⟨[88,90],[1000],[],[(1000,.blk 67 (mixD aB.toEnc0 (w26 x228.1 x228.2.1 x229.1.Cells x229.1.Free x229.1.Used) x228.2.2.2.2.2.1 [.int .i64 x228.2.2.2.2.2.2.1,.osl 56 (eInt .i64).sz x231.length]))]⟩] M ?_ (by kernel_rfl) ?_
         ·refine .cons (lop M M fun S hA=>(aI (d:=.ref _ _) M M (lb M) underlying25 ag25 ti25 (by decide) (svaR hA M M) (agi hA M M) (nle M) M)) ?_
          refine .cons (lop M M fun S hA=>(aI (d:=.ref _ _) M M (lb M) underlying25 ag25 ti25 (by decide) (svaR hA M M) (agi hA M M) (nle M) M)) ?_
          refine .cons (lop M M fun S hA=>(aL M M (lb M) (svaR hA M M))) ?_
          refine .cons (lop M M fun S hA=>(aP M M (lb M) underlying67 M ti30 (by decide) (svaR hA M M) (off':=390) M)) ?_
          refine .cons (lop M M fun S hA=>(iD aB.toEnc0 (d:=.osl _ _ _) (n:=64) (k:=1) M M (lb M) underlying30 ag30 ti30 (by decide) (svaR hA M M) (agi hA M M) hk230 (by rfl) (nle M) (by rfl))) ?_
          refine .cons (lop M M fun S hA=>(mG M M (lb M) (.cons (svaR hA M M) .nil))) ?_
          refine .cons (lop M M fun S hA=>(mI (r':=.osl 56 (eInt .i64).sz x231.length) (U:=[(1,.blk 3 [.int .i64 a0]),(56,.blk 3 (D.flat (x231.map (eInt .i64).d))),(55,.none),(1,.none)]) 56 1 [55,1] M M (lb M) cl59 (.cons (sv (d:=.osl _ _ _) (agr hA M M)) (.cons (sv (d:=.fn 70 [.ref _ _]) (agr hA M M)) .nil)) M M M (List.forall_mem_cons.2 ⟨(agi hA M M),List.forall_mem_nil _⟩) ⟨by decide,M,List.forall_mem_cons.2 ⟨⟨M,M,(iF (eInt .i64) (agi hA M M)),(bP (eInt .i64))⟩,List.forall_mem_cons.2 ⟨⟨M,M,(agi hA M M),M⟩,List.forall_mem_nil _⟩⟩⟩ (jI _ _ _ hx231) M M (List.forall_mem_cons.2 ⟨⟨M,M⟩,List.forall_mem_cons.2 ⟨⟨M,(bP (eInt .i64))⟩,List.forall_mem_nil _⟩⟩) (by simp only [List.map_cons,List.map_nil,Ent.ren,bT,cE]; rfl))) ?_
          refine .cons (lop M M fun S hA=>(aL M M (lb M) (svaR hA M M))) ?_
          refine .cons (lop M M fun S hA=>(aP M M (lb M) underlying67 M ti30 (by decide) (svaR hA M M) (off':=390) M)) ?_
          refine .cons (lop M M fun S hA=>(pV aB.toEnc0 (post:=q19) (post':=q19) (n:=64) (k:=1) M M ti30 (svaR hA M M) (agi hA M M) (sv (d:=.osl _ _ _) (agr hA M M)) M M M hk230 (by rfl) (nle M) (by rfl))) ?_
          exact .nil
         obtain rfl:=sj_ h
         refine ⟨.inl M,(fun i=>if i=0 then 56 else i),⟨.nil,(.cons (EntW.mix aB M (SubC.of_eq M) (SubC.of_eq M) M M) (.cons (EntW.lst M) .nil)),bE [1000,56] M (by decide),(fun i hi=>by first | rfl | (show (if _ then _ else _)=_; (repeat' split) <;> omega))⟩,.nil,M⟩

theorem zV (a0:bH) (a1:Int) (r:(bH × Int × Int)) (h:nV a0 a1=some r):eK prog 62 [.agg (v2 a0),.int .i64 a1] (retD [.agg (v2 r.1),.int .i64 r.2.1,.int .i64 r.2.2]):=by
 refine mB (rs:=[.agg (v2 r.1),.int .i64 r.2.1,.int .i64 r.2.2]) func62 M ntmps62 (nle M) M fun O hO=>?_
 show IWP _ _ _ _ ⟨[(0,.agg (v2 a0)),(1,.int .i64 a1)],[]⟩ _
 unfold nV at h
 refine aF (aA M (cK (cs:=q13) 0 M M (lb M) M (svA q13 M) M M)<|aA M (cT (cs:=q18) (cs':=[.slice false (([]:List aK).map aZ.d),.int .i64 0,.int .i64 0]) 1 M M (lb M) M ti61 M M (.cons (.nils _) (.all _)))<|aA M (aG M M (lb M) (sv (d:=.int _ 0) M))<|aA M (aG M M (lb M) (sv (d:=.int _ 0) M))<|aD ?_)
 obtain ⟨x1,hx1,h⟩:=aX h
 refine aF (aA M (lra q13 la61 M M M M M (nle M) M)<|aA M (cQ (r':=.agg [.osl 2 aZ.sz x1.1.length,.int .i64 x1.2.1,.int .i64 x1.2.2]) (H1':=[(2,.blk 114 (D.flat (x1.1.map aZ.d)))]) 2 [] M M (lb M) cl80 (.cons (svA q13 M) .nil) M M ⟨M,M,by decide,M,List.forall_mem_nil _⟩ (oS _ _ hx1) M M (List.forall_mem_cons.2 ⟨⟨M,(bP aZ)⟩,List.forall_mem_nil _⟩) (by simp only [List.map_cons,List.map_nil,Ent.ren,bT,cE]; rfl))<|aA M (cT (cs:=q18) (cs':=[.slice false (([]:List aK).map aZ.d),.int .i64 0,.int .i64 0]) 3 M M (lb M) M ti61 M M (.cons (.nils _) (.all _)))<|aA M (stA q14 q14 ti61 M M M M M M M M (nle M) M)<|aD ?_)
 refine aT ?_
 obtain ⟨x2,hx2,h⟩:=aX h
 refine aF (aA M (lra q13 la61 M M M M M (nle M) M)<|aA M (bU (r:=.int _ _) M M (lb M) cl72 (.cons (svA q13 M) .nil) M (qE _ _ hx2))<|aA M (asI M M M M)<|aD ?_)
 obtain ⟨x3,hx3,h⟩:=bC h
 refine aF (aA M (mvI M M M M)<|aA M (aQ M M (lb M) (svI M) (sv (d:=.int _ 0) M) M hx3)<|aD ?_)
 refine aR (b:=_) M (fun hc4=>?_) (fun hc4=>?_)
 ·
  replace h:=cA h hc4
  refine aF (aA M (lra q14 la61 M M M M M (nle M) M)<|aA M (mvI M M M M)<|aA M (stA q14 q14 ti61 M M M M M M M M (nle M) M)<|aA M (aG M M (lb M) (sv (d:=.int _ 0) M))<|aA M (asI M M M M)<|aD ?_)
  refine aY ?_
  refine bG ?_
  obtain rfl:=sj_ h
  refine ⟨.inr M,_,(.cons (rva la61 M M (nle M) M) (.cons (sv M) (.cons (sv M) .nil))),(.cons (.agg (.cons (FDT aZ M M) (.all _))) (.all _))⟩
 ·
  replace h:=cB h hc4
  refine aS ?_
  refine aM ?_
  refine aT ?_
  obtain ⟨x5,hx5,h⟩:=bC h
  refine aF (aA M (faR 2 M M M underlying61 M ti3 (lb M) M M)<|aA M (aI (d:=.int _ _) M M (lb M) underlying3 ag3 ti3 (by decide) (svR M) M (nle M) M)<|aA M (aQ M M (lb M) (svI M) (sv (d:=.int _ 64) M) M hx5)<|aD ?_)
  refine aR (b:=_) M (fun hc6=>?_) (fun hc6=>?_)
  ·
   replace h:=cA h hc6
   refine aF (aA M (lra q14 la61 M M M M M (nle M) M)<|aA M (stA q14 q14 ti61 M M M M M M M M (nle M) M)<|aA M (aG M M (lb M) (sv (d:=.int _ 0) M))<|aA M (aG M M (lb M) (sv (d:=.int _ 7) M))<|aD ?_)
   refine aY ?_
   refine bG ?_
   obtain rfl:=sj_ h
   refine ⟨.inr M,_,(.cons (rva la61 M M (nle M) M) (.cons (sv M) (.cons (sv M) .nil))),(.cons (.agg (.cons (FDT aZ M M) (.all _))) (.all _))⟩
  ·
   replace h:=cB h hc6
   refine aS ?_
   refine aM ?_
   obtain ⟨x7,hx7,h⟩:=bC h
   refine aF (aA M (faR 2 M M M underlying61 M ti3 (lb M) M M)<|aA M (aI (d:=.int _ _) M M (lb M) underlying3 ag3 ti3 (by decide) (svR M) M (nle M) M)<|aA M (bO M M (lb M) (svI M) (sv (d:=.int _ 1) M) M hx7)<|aA M (faR 2 M M M underlying61 M ti3 (lb M) M M)<|aA M (dZ (ds':=q14) M M ti3 (svR M) M (svI M) M M M (nle M) M)<|aD ?_)
   refine aF (aA M (mvI M M M M)<|aA M (cJ (cs:=q17) M M (lb M) underlying114 nK pl114 M (.cons (sv (d:=.bool true) M) (.cons (svI M) .nil)) M)<|aA M (cT (cs:=q17) (cs':=[.bool false,.int .i64 0,.int .i64 0]) 4 M M (lb M) M nK M M (.all _))<|aA M (stA q17 q17 nK M M M M M M M M (nle M) M)<|aD ?_)
   refine aF (aA M (faR 1 M M M underlying61 M ti3 (lb M) M M)<|aA M (aI (d:=.int _ _) M M (lb M) underlying3 ag3 ti3 (by decide) (svR M) M (nle M) M)<|aA M (asI M M M M)<|aD ?_)
   refine aT ?_
   obtain ⟨x8,hx8,h⟩:=bC h
   refine aF (aA M (mvI M M M M)<|aA M (aQ M M (lb M) (svI M) (sv (d:=.int _ (-1)) M) M hx8)<|aD ?_)
   refine aR (b:=_) M (fun hc9=>?_) (fun hc9=>?_)
   ·
    replace h:=cA h hc9
    obtain ⟨x10,hx10,h⟩:=aX h
    refine aF (aA M (faR 0 M M M underlying61 M ti59 (lb M) M M)<|aA M (aI (d:=.osl _ _ _) M M (lb M) underlying59 ag59 ti59 (by decide) (svR M) M (nle M) M)<|aA M (lra q17 la114 M M M M M (nle M) M)<|aA M (lD aZ.toEnc0 ([(⟨true,a1,0⟩:aK)]:(List aK)) 5 M M (lb M) underlying59 nK M (.cons (svA q17 M) .nil) M M (by decide))<|aA M (iH aZ.toEnc0 6 M M (lb M) underlying59 nK M M M M M (qP aZ.toEnc0 M M M) hx10)<|aA M (faR 0 M M M underlying61 M ti59 (lb M) M M)<|aA M (dZ (ds':=q14) M M ti59 (svR M) M (sv (d:=.osl _ _ _) M) M M M (nle M) M)<|aD ?_)
    refine iR M [⟨[7],[3],[(39,.agg [.osl 6 aZ.sz x10.length,.int .i64 x1.2.1,.int .i64 x7])],[]⟩,
     ⟨[2],[],[(40,.ref 0 0)],[]⟩,
     ⟨[40],[0],[(41,.slice false (a0.Cells.map aZ.d))],[]⟩,
     ⟨[41],[],[(42,.int .i64 (a0.Cells.length:Int))],[]⟩,
     ⟨[4,39],[1],[],[(1,.blk 61 [.osl 6 aZ.sz x10.length,.int .i64 x1.2.1,.int .i64 x7])]⟩,
     ⟨[42],[],[(5,.int .i64 (a0.Cells.length:Int))],[]⟩,
     ⟨[],[],[(6,.int .i64 0)],[]⟩] M ?_ (by kernel_rfl) ?_
    ·refine .cons (lop M M fun S hA=>(lC (cs:=q14) M M (lb M) underlying61 ag61 ti61 (by decide) (svaR hA M M) (agi hA M M) (nle M) M)) ?_
     refine .cons (lop M M fun S hA=>(aP M M (lb M) underlying61 M ti59 (by decide) (svaR hA M M) (off':=0) M)) ?_
     refine .cons (lop M M fun S hA=>(aI (d:=.slice _ _) M M (lb M) underlying59 ag59 ti59 (by decide) (svaR hA M M) (agi hA M M) (nle M) M)) ?_
     refine .cons (lop M M fun S hA=>(cV aZ (l:=a0.Cells) M M (lb M) underlying59 (svaL hA M M))) ?_
     refine .cons (lop M M fun S hA=>(dZ (ds':=q14) M M ti61 (svaR hA M M) (agi hA M M) (svaA q14 hA M M) M M M (nle M) M)) ?_
     refine .cons (lop M M fun S hA=>(aG M M (lb M) (svaI hA M M))) ?_
     refine .cons (lop M M fun S hA=>(aG M M (lb M) (sv (d:=.int _ 0) M))) ?_
     exact .nil
    refine aY ?_
    refine bG ?_
    obtain rfl:=sj_ h
    refine ⟨.inr M,_,(.cons (rva la61 M M (nle M) M) (.cons (sv M) (.cons (sv M) .nil))),(.cons (.agg (.cons (FDT aZ M M) (.all _))) (.all _))⟩
   ·
    replace h:=cB h hc9
    refine aS ?_
    refine aM ?_
    obtain ⟨x11,hx11,h⟩:=aX h
    obtain ⟨x12,hx12,h⟩:=aX h
    refine aF (aA M (faR 0 M M M underlying61 M ti59 (lb M) M M)<|aA M (aI (d:=.osl _ _ _) M M (lb M) underlying59 ag59 ti59 (by decide) (svR M) M (nle M) M)<|aA M (mvI M M M M)<|aA M (fY aZ.toEnc0 M M (lb M) underlying59 nK (sv (d:=.osl _ _ _) M) M (svI M) hx11)<|aA M (gN M M (lb M) underlying114 M ti3 (by decide) (svR M) (k':=2) M)<|aA M (fP aZ.toEnc0 (d:=.int _ _) M M (lb M) underlying3 ag3 ti3 (by decide) (svR M) M hx12 (nle M) M)<|aA M (faR 1 M M M underlying61 M ti3 (lb M) M M)<|aA M (dZ (ds':=q14) M M ti3 (svR M) M (svI M) M M M (nle M) M)<|aD ?_)
    obtain ⟨x13,hx13,h⟩:=aX h
    obtain ⟨x14,hx14,h⟩:=aX h
    obtain ⟨x15,hx15,h⟩:=bC h
    refine aF (aA M (faR 0 M M M underlying61 M ti59 (lb M) M M)<|aA M (aI (d:=.osl _ _ _) M M (lb M) underlying59 ag59 ti59 (by decide) (svR M) M (nle M) M)<|aA M (mvI M M M M)<|aA M (lra q17 la114 M M M M M (nle M) M)<|aA M (fY aZ.toEnc0 M M (lb M) underlying59 nK (sv (d:=.osl _ _ _) M) M (svI M) hx13)<|aA M (lN aZ.toEnc0 (a':=(⟨true,a1,0⟩:aK)) M M nK (svR M) M (svA q17 M) M M M hx14 (nle M) M hx15)<|aD ?_)
    refine aF (aA M (lra q14 la61 M M M M M (nle M) M)<|aA M (mvI M M M M)<|aA M (stA q14 q14 ti61 M M M M M M M M (nle M) M)<|aA M (asI M M M M)<|aA M (aG M M (lb M) (sv (d:=.int _ 0) M))<|aD ?_)
    refine aY ?_
    obtain rfl:=sj_ h
    refine ⟨.inr M,_,(.cons (rva la61 M M (nle M) M) (.cons (sv M) (.cons (sv M) .nil))),(.cons (.agg (.cons (FDT aZ M (iQ hx15 M)) (.all _))) (.all _))⟩

theorem rK (a0:Int) (a1:Int) (a2:Int) (a3:Int) (a4:(List aK)) (a5:Int) (a6:Int) (a7:(List aJ)) (a8:Int) (a9:(List Int)) (r:Bool) (h:kQ a0 a1 a2 a3 a4 a5 a6 a7 a8 a9=some r):FnH prog 64 [.ref 1000 0,.int .i64 a0,.int .i64 a1] [(1000,.blk 67 (mixD aB.toEnc0 (w26 a2 a3 a4 a5 a6) a7 [.int .i64 a8,.osl 1001 (eInt .i64).sz a9.length])),(1001,.blk 3 (D.flat (a9.map (eInt .i64).d)))] (.bool r) [(1000,.blk 67 (mixD aB.toEnc0 (w26 a2 a3 a4 a5 a6) a7 [.int .i64 a8,.osl 1001 (eInt .i64).sz a9.length])),(1001,.blk 3 (D.flat (a9.map (eInt .i64).d)))]:=by
 refine dB (rs:=[.bool r]) func64 M ntmps64 (nle M) fun O hO=>?_
 show IWP _ _ _ _ ⟨[(0,.ref 1000 0),(1,.int .i64 a0),(2,.int .i64 a1)],[(1000,.blk 67 (mixD aB.toEnc0 (w26 a2 a3 a4 a5 a6) a7 [.int .i64 a8,.osl 1001 (eInt .i64).sz a9.length])),(1001,.blk 3 (D.flat (a9.map (eInt .i64).d)))]⟩ _
 unfold kQ at h
 refine aF (aA M (aG M M (lb M) (sv (d:=.bool false) M))<|aD ?_)
 refine aT ?_
 refine bB ?_
 refine cP (α:=Nat × Int) (fun z=>⟨[(0,.ref 1000 0),(1,.int .i64 z.2),(2,.int .i64 a1)],[(1000,.blk 67 (mixD aB.toEnc0 (w26 a2 a3 a4 a5 a6) a7 [.int .i64 a8,.osl 1001 (eInt .i64).sz a9.length])),(1001,.blk 3 (D.flat (a9.map (eInt .i64).d)))]⟩) (fun z=>eR a1 a7 z.1 z.2=some r) (fun z=>z.1) (fuel,a0) (fun i=>i) ⟨(.sames M M),(.cons (EntW.mix aB M (SubC.of_eq M) (SubC.of_eq M) M M) (.cons (EntW.lst M) .nil)),bE [1000,1001] M (by decide),fun _ _=>M⟩ ?_ ?_
 ·exact h
 ·
  rintro ⟨n0,v8⟩ h
  cases n0 with
  | zero=>exact absurd h (by unfold eR; exact nofun)
  | succ n0 =>
   unfold eR at h
   refine aT ?_
   obtain ⟨x16,hx16,h⟩:=bC h
   refine aF (aA M (mvI M M M M)<|aA M (aQ M M (lb M) (svI M) (sv (d:=.int _ (-1)) M) M hx16)<|aD ?_)
   refine aR (b:=_) M (fun hc17=>?_) (fun hc17=>?_)
   ·
    replace h:=cA h hc17
    refine aS ?_
    refine aM ?_
    refine bB ?_
    obtain ⟨x18,hx18,h⟩:=aX h
    obtain ⟨hk19,h⟩:=oZ h
    obtain ⟨x20,hx20,h⟩:=aX h
    refine aF (aA M (mvR M M M M)<|aA M (mvI M M M M)<|aA M (aL M M (lb M) (svR M))<|aA M (faR 5 M M M underlying67 M ti65 (lb M) M M)<|aA M (dO aB.toEnc0 M M (lb M) underlying65 ti64 (svR M) hk19 (svI M) hx18)<|aA M (bZ M M (lb M) underlying64 M ti3 (by decide) (svR M) (k':=1) M)<|aA M (cM aB.toEnc0 (b:=5) (k:=1) (d:=.int _ _) M M (lb M) underlying3 ag3 ti3 (by decide) (svR M) M M hx20 (nle M) M)<|aA M (asI M M M M)<|aD ?_)
    obtain ⟨x21,hx21,h⟩:=bC h
    refine aF (aA M (mvI M M M M)<|aA M (mvI M M M M)<|aA M (aQ M M (lb M) (svI M) (svI M) M hx21)<|aD ?_)
    refine aR (b:=_) M (fun hc22=>?_) (fun hc22=>?_)
    ·
     replace h:=cA h hc22
     refine aF (aA M (aG M M (lb M) (sv (d:=.bool true) M))<|aD ?_)
     refine aY ?_
     refine cO ?_
     refine bG ?_
     refine cO ?_
     refine bG ?_
     obtain rfl:=sj_ h
     refine ⟨.inr M,(fun i=>i),⟨.nil,(.cons (EntW.mix aB M (SubC.of_eq M) (SubC.of_eq M) M M) (.cons (EntW.lst M) .nil)),bE [1000,1001] M (by decide),fun _ _=>M⟩,(.cons (sv M) .nil),M⟩
    ·
     replace h:=cB h hc22
     refine aS ?_
     refine bJ ?_
     refine aM ⟨(n0,x20.up),(fun i=>i),⟨(.sames M M),(.cons (EntW.mix aB M (SubC.of_eq M) (SubC.of_eq M) M M) (.cons (EntW.lst M) .nil)),bE [1000,1001] M (by decide),fun _ _=>M⟩,?_,?_⟩
     exact h
     exact Nat.lt_succ_self _
   ·
    replace h:=cB h hc17
    refine cU ?_
    refine bK ?_
    refine bK ?_
    refine cW ?_
    refine aM ?_
    refine aF (aA M (aG M M (lb M) (sv (d:=.bool false) M))<|aD ?_)
    refine aY ?_
    obtain rfl:=sj_ h
    refine ⟨.inr M,(fun i=>i),⟨.nil,(.cons (EntW.mix aB M (SubC.of_eq M) (SubC.of_eq M) M M) (.cons (EntW.lst M) .nil)),bE [1000,1001] M (by decide),fun _ _=>M⟩,(.cons (sv M) .nil),M⟩

theorem oF (a0:Int) (a1:gE) (a2:Int) (a3:Int) (a4:(List aK)) (a5:Int) (a6:Int) (a7:(List aJ)) (a8:Int) (a9:(List Int)) (r:(Int × Int × (List aK) × Int × Int × (List aJ) × Int × (List Int))) (h:gQ a0 a1 a2 a3 a4 a5 a6 a7 a8 a9=some r):FnH prog 33 [.ref 1000 0,.int .i64 a0,.agg (v5 a1)] [(1000,.blk 67 (mixD aB.toEnc0 (w26 a2 a3 a4 a5 a6) a7 [.int .i64 a8,.osl 1001 (eInt .i64).sz a9.length])),(1001,.blk 3 (D.flat (a9.map (eInt .i64).d)))] (retD []) [(1000,.blk 67 (mixD aB.toEnc0 (w26 r.1 r.2.1 r.2.2.1 r.2.2.2.1 r.2.2.2.2.1) r.2.2.2.2.2.1 [.int .i64 r.2.2.2.2.2.2.1,.osl 0 (eInt .i64).sz r.2.2.2.2.2.2.2.length])),(0,.blk 3 (D.flat (r.2.2.2.2.2.2.2.map (eInt .i64).d)))]:=by
 refine dB (rs:=[]) func33 M ntmps33 (nle M) fun O hO=>?_
 show IWP _ _ _ _ ⟨[(0,.ref 1000 0),(1,.int .i64 a0),(2,.agg (v5 a1))],[(1000,.blk 67 (mixD aB.toEnc0 (w26 a2 a3 a4 a5 a6) a7 [.int .i64 a8,.osl 1001 (eInt .i64).sz a9.length])),(1001,.blk 3 (D.flat (a9.map (eInt .i64).d)))]⟩ _
 unfold gQ at h
 refine aF (aA M (cK (cs:=q16) 0 M M (lb M) M (svA q16 M) M M)<|aD ?_)
 obtain ⟨x1,hx1,h⟩:=aX h
 refine aF (aA M (mvR M M M M)<|aA M (faR 0 M M M underlying75 M ti3 (lb M) M M)<|aA M (aI (d:=.int _ _) M M (lb M) underlying3 ag3 ti3 (by decide) (svR M) M (nle M) M)<|aA M (mH (r':=.int .i64 x1) (V:=[(1000,.blk 67 (mixD aB.toEnc0 (w26 a2 a3 a4 a5 a6) a7 [.int .i64 a8,.osl 1001 (eInt .i64).sz a9.length])),(1001,.blk 3 (D.flat (a9.map (eInt .i64).d)))]) 1 [1000,1001] M M (lb M) cl31 (.cons (svR M) (.cons (svI M) .nil)) M M M ⟨by decide,M,List.forall_mem_cons.2 ⟨⟨M,M,(mT aB M M M),(eA aB M M)⟩,List.forall_mem_cons.2 ⟨⟨M,M,(iF (eInt .i64) M),(bP (eInt .i64))⟩,List.forall_mem_nil _⟩⟩⟩ (kD _ _ _ _ _ _ _ _ _ _ hx1) M M (List.forall_mem_cons.2 ⟨⟨M,(eA aB M M)⟩,List.forall_mem_cons.2 ⟨⟨M,(bP (eInt .i64))⟩,List.forall_mem_nil _⟩⟩) (by simp only [List.map_cons,List.map_nil,Ent.ren,bT,cE,eL]; rfl) (List.forall_mem_cons.2 ⟨M,List.forall_mem_cons.2 ⟨M,List.forall_mem_nil _⟩⟩) M)<|aA M (asI M M M M)<|aD ?_)
 refine mN (α:=Int × Int × Bool) (fun z=>⟨[(0,.ref 1000 0),(1,.int .i64 a0),(5,.ref 0 0),(6,.int .i64 x1)],[(1000,.blk 67 (mixD aB.toEnc0 (w26 a2 a3 a4 a5 a6) a7 [.int .i64 a8,.osl 1001 (eInt .i64).sz a9.length])),(0,.blk 75 [.int .i64 z.1,.int .i64 z.2.1,.bool z.2.2]),(1001,.blk 3 (D.flat (a9.map (eInt .i64).d)))]⟩) (fun z=>gY a0 a2 a3 a4 a5 a6 a7 a8 a9 x1 z.1 z.2.1 z.2.2=some r) ?_ ?_
 ·
  obtain ⟨x149,hx149,h⟩:=bC h
  obtain ⟨x150,hx150,h⟩:=bC h
  obtain ⟨x151,hx151,h⟩:=bC h
  refine aF (aA M (mvI M M M M)<|aA M (aQ M M (lb M) (svI M) (sv (d:=.int _ (-1)) M) M hx149)<|aA M (mvB M M M M)<|aN M M (.one M) M (by decide) (fun hb=>(faR 0 M M M underlying75 M ti3 (lb M) M M))<|aN M M (.one M) M (by decide) (fun hb=>(aI (d:=.int _ _) M M (lb M) underlying3 ag3 ti3 (by decide) (svcR M hb) M (nle M) M))<|aN M M (.one M) M (by decide) (fun hb=>(aQ M M (lb M) (svcI M hb) (sv (d:=.int _ 0) M) M hx150))<|aA M (fE M M (lb M) (svB M) M M hx151)<|aD ?_)
  refine aR (b:=_) M (fun hc152=>?_) (fun hc152=>?_)
  ·
   replace h:=cA h hc152
   refine bA (aA M (cJ (cs:=q16) M M (lb M) underlying75 ti75 pl75 M (.cons (sv (d:=.int _ 16) M) .nil) M)<|aA M (stA q16 q16 ti75 M M M M M M M M (nle M) M)<|bL ?_)
   refine aM ⟨(0,16,false),(fun i=>i),⟨(.sames M M),(.cons (EntW.mix aB M (SubC.of_eq M) (SubC.of_eq M) M M) (.cons (.blk M M M) (.cons (EntW.lst M) .nil))),bE [1000,0,1001] M (by decide),fun _ _=>M⟩,?_⟩
   exact h
  ·
   replace h:=cB h hc152
   refine aS ?_
   refine aM ⟨(a1.dep,a1.weight,a1.only),(fun i=>i),⟨(.sames M M),(.cons (EntW.mix aB M (SubC.of_eq M) (SubC.of_eq M) M M) (.cons (.blk M M M) (.cons (EntW.lst M) .nil))),bE [1000,0,1001] M (by decide),fun _ _=>M⟩,?_⟩
   exact h
 ·
  rintro ⟨v6,v7,v8⟩ h
  unfold gY at h
  refine mN (α:=Int × Int × (List aK) × Int × Int × (List aJ) × Int × (List Int)) (fun z=>⟨[(0,.ref 1000 0),(1,.int .i64 a0),(5,.ref 0 0),(6,.int .i64 x1)],[(1000,.blk 67 (mixD aB.toEnc0 (w26 z.1 z.2.1 z.2.2.1 z.2.2.2.1 z.2.2.2.2.1) z.2.2.2.2.2.1 [.int .i64 z.2.2.2.2.2.2.1,.osl 1 (eInt .i64).sz z.2.2.2.2.2.2.2.length])),(0,.blk 75 [.int .i64 v6,.int .i64 v7,.bool v8]),(1,.blk 3 (D.flat (z.2.2.2.2.2.2.2.map (eInt .i64).d)))]⟩) (fun z=>gX a0 x1 v7 v8 z.1 z.2.1 z.2.2.1 z.2.2.2.1 z.2.2.2.2.1 z.2.2.2.2.2.1 z.2.2.2.2.2.2.1 z.2.2.2.2.2.2.2=some r) ?_ ?_
  ·
   obtain ⟨x141,hx141,h⟩:=bC h
   obtain ⟨x142,hx142,h⟩:=aX h
   obtain ⟨x143,hx143,h⟩:=bC h
   refine aF (aA M (mvI M M M M)<|aA M (aQ M M (lb M) (svI M) (sv (d:=.int _ (-1)) M) M hx141)<|aA M (mvB M M M M)<|aN M M (.one M) M (by decide) (fun hb=>(mvR M M M M))<|aN M M (.one M) M (by decide) (fun hb=>(mvI M M M M))<|aN M M (.one M) M (by decide) (fun hb=>(mvI M M M M))<|aN M M (.one M) M (by decide) (fun hb=>(mH (r':=.bool x142) (V:=[(1000,.blk 67 (mixD aB.toEnc0 (w26 a2 a3 a4 a5 a6) a7 [.int .i64 a8,.osl 1001 (eInt .i64).sz a9.length])),(1001,.blk 3 (D.flat (a9.map (eInt .i64).d)))]) 1 [1000,1001] M M (lb M) cl64 (.cons (svcR M hb) (.cons (svcI M hb) (.cons (svcI M hb) .nil))) M M M ⟨by decide,M,List.forall_mem_cons.2 ⟨⟨M,M,(mT aB M M M),(eA aB M M)⟩,List.forall_mem_cons.2 ⟨⟨M,M,(iF (eInt .i64) M),(bP (eInt .i64))⟩,List.forall_mem_nil _⟩⟩⟩ (rK _ _ _ _ _ _ _ _ _ _ _ (gd_t hx142 hb)) M M (List.forall_mem_cons.2 ⟨⟨M,(eA aB M M)⟩,List.forall_mem_cons.2 ⟨⟨M,(bP (eInt .i64))⟩,List.forall_mem_nil _⟩⟩) (by simp only [List.map_cons,List.map_nil,Ent.ren,bT,cE,eL]; rfl) (List.forall_mem_cons.2 ⟨M,List.forall_mem_cons.2 ⟨M,List.forall_mem_nil _⟩⟩) M))<|aA M (fE M M (lb M) (svB M) M M hx143)<|aD ?_)
   refine aR (b:=_) M (fun hc144=>?_) (fun hc144=>?_)
   ·
    replace h:=cA h hc144
    obtain ⟨x145,hx145,h⟩:=aX h
    obtain ⟨hk146,h⟩:=oZ h
    obtain ⟨x147,hx147,h⟩:=aX h
    obtain ⟨x148,hx148,h⟩:=aX h
    refine bA (aA M (mvR M M M M)<|aA M (mvI M M M M)<|aA M (mvR M M M M)<|aA M (mvI M M M M)<|aA M (aL M M (lb M) (svR M))<|aA M (faR 5 M M M underlying67 M ti65 (lb M) M M)<|aA M (dO aB.toEnc0 M M (lb M) underlying65 ti64 (svR M) hk146 (svI M) hx145)<|aA M (bZ M M (lb M) underlying64 M ti3 (by decide) (svR M) (k':=1) M)<|aA M (cM aB.toEnc0 (b:=5) (k:=1) (d:=.int _ _) M M (lb M) underlying3 ag3 ti3 (by decide) (svR M) M M hx147 (nle M) M)<|aA M (cQ (r':=.tuple []) (H1':=[(1000,.blk 67 (mixD aB.toEnc0 (w26 x148.1 x148.2.1 x148.2.2.1 x148.2.2.2.1 x148.2.2.2.2.1) x148.2.2.2.2.2.1 [.int .i64 x148.2.2.2.2.2.2.1,.osl 1 (eInt .i64).sz x148.2.2.2.2.2.2.2.length])),(1,.blk 3 (D.flat (x148.2.2.2.2.2.2.2.map (eInt .i64).d)))]) 1 [1000,1001] M M (lb M) cl65 (.cons (svR M) (.cons (svI M) (.cons (svI M) .nil))) M M ⟨M,M,by decide,M,List.forall_mem_cons.2 ⟨⟨M,M,(mT aB M M M),(eA aB M M)⟩,List.forall_mem_cons.2 ⟨⟨M,M,(iF (eInt .i64) M),(bP (eInt .i64))⟩,List.forall_mem_nil _⟩⟩⟩ (iP _ _ _ _ _ _ _ _ _ _ _ hx148) M M (List.forall_mem_cons.2 ⟨⟨M,(eA aB M M)⟩,List.forall_mem_cons.2 ⟨⟨M,(bP (eInt .i64))⟩,List.forall_mem_nil _⟩⟩) (by simp only [List.map_cons,List.map_nil,Ent.ren,bT,cE,eL]; rfl))<|bL ?_)
    refine aM ⟨(x148.1,x148.2.1,x148.2.2.1,x148.2.2.2.1,x148.2.2.2.2.1,x148.2.2.2.2.2.1,x148.2.2.2.2.2.2.1,x148.2.2.2.2.2.2.2),(fun i=>i),⟨(.sames M M),(.cons (EntW.mix aB M (SubC.of_eq M) (SubC.of_eq M) M M) (.cons (.blk M M M) (.cons (EntW.lst M) .nil))),bE [1000,0,1] M (by decide),fun _ _=>M⟩,?_⟩
    exact h
   ·
    replace h:=cB h hc144
    refine aS ?_
    refine aM ⟨(a2,a3,a4,a5,a6,a7,a8,a9),(fun i=>if i=1 then 1001 else i),⟨(.sames M M),(.cons (EntW.mix aB M (SubC.of_eq M) (SubC.of_eq M) M M) (.cons (.blk M M M) (.cons (EntW.lst M) .nil))),bE [1000,0,1001] M (by decide),(fun i hi=>by first | rfl | (show (if _ then _ else _)=_; (repeat' split) <;> omega))⟩,?_⟩
    exact h
  ·
   rintro ⟨v17,v18,v19,v20,v21,v22,v23,v24⟩ h
   unfold gX at h
   obtain ⟨x25,hx25,h⟩:=aX h
   refine aF (aA M (mvR M M M M)<|aA M (mvI M M M M)<|aA M (mvI M M M M)<|aA M (cQ (r':=.tuple []) (H1':=[(1000,.blk 67 (mixD aB.toEnc0 (w26 x25.1 x25.2.1 x25.2.2.1 x25.2.2.2.1 x25.2.2.2.2.1) x25.2.2.2.2.2.1 [.int .i64 x25.2.2.2.2.2.2.1,.osl 2 (eInt .i64).sz x25.2.2.2.2.2.2.2.length])),(2,.blk 3 (D.flat (x25.2.2.2.2.2.2.2.map (eInt .i64).d)))]) 2 [1000,1] M M (lb M) cl65 (.cons (svR M) (.cons (svI M) (.cons (svI M) .nil))) M M ⟨M,M,by decide,M,List.forall_mem_cons.2 ⟨⟨M,M,(mT aB M M M),(eA aB M M)⟩,List.forall_mem_cons.2 ⟨⟨M,M,(iF (eInt .i64) M),(bP (eInt .i64))⟩,List.forall_mem_nil _⟩⟩⟩ (iP _ _ _ _ _ _ _ _ _ _ _ hx25) M M (List.forall_mem_cons.2 ⟨⟨M,(eA aB M M)⟩,List.forall_mem_cons.2 ⟨⟨M,(bP (eInt .i64))⟩,List.forall_mem_nil _⟩⟩) (by simp only [List.map_cons,List.map_nil,Ent.ren,bT,cE,eL]; rfl))<|aD ?_)
   obtain ⟨x26,hx26,h⟩:=aX h
   obtain ⟨hk27,h⟩:=oZ h
   obtain ⟨x28,hx28,h⟩:=aX h
   obtain ⟨x29,hx29,h⟩:=bC h
   refine iR M [⟨[0],[],[(43,.ref 1000 0)],[]⟩,
    ⟨[1],[],[(44,.int .i64 a0)],[]⟩,
    ⟨[5],[],[(45,.ref 0 1)],[]⟩,
    ⟨[45],[0],[(46,.int .i64 v7)],[]⟩,
    ⟨[43],[],[(47,.ref 1000 0)],[]⟩,
    ⟨[47],[],[(48,.ref 1000 5)],[]⟩,
    ⟨[44,48],[],[(49,.ref 1000 (5 + (((a0:Int).toNat) * aB.sz + 0)))],[]⟩,
    ⟨[49],[],[(50,.ref 1000 (5 + (((a0:Int).toNat) * aB.sz + 4)))],[]⟩,
    ⟨[46,50],[1000],[],[(1000,.blk 67 (mixD aB.toEnc0 (w26 x25.1 x25.2.1 x25.2.2.1 x25.2.2.2.1 x25.2.2.2.2.1) x29 [.int .i64 x25.2.2.2.2.2.2.1,.osl 2 (eInt .i64).sz x25.2.2.2.2.2.2.2.length]))]⟩] M ?_ (by kernel_rfl) ?_
   ·refine .cons (lop M M fun S hA=>(aO M M (lb M) (svaR hA M M))) ?_
    refine .cons (lop M M fun S hA=>(aO M M (lb M) (svaI hA M M))) ?_
    refine .cons (lop M M fun S hA=>(aP M M (lb M) underlying75 M ti3 (by decide) (svaR hA M M) (off':=1) M)) ?_
    refine .cons (lop M M fun S hA=>(aI (d:=.int _ _) M M (lb M) underlying3 ag3 ti3 (by decide) (svaR hA M M) (agi hA M M) (nle M) M)) ?_
    refine .cons (lop M M fun S hA=>(aL M M (lb M) (svaR hA M M))) ?_
    refine .cons (lop M M fun S hA=>(aP M M (lb M) underlying67 M ti65 (by decide) (svaR hA M M) (off':=5) M)) ?_
    refine .cons (lop M M fun S hA=>(dO aB.toEnc0 M M (lb M) underlying65 ti64 (svaR hA M M) hk27 (svaI hA M M) hx26)) ?_
    refine .cons (lop M M fun S hA=>(bZ M M (lb M) underlying64 M ti3 (by decide) (svaR hA M M) (k':=4) M)) ?_
    refine .cons (lop M M fun S hA=>(jQ aB.toEnc0 (b:=5) (k:=4) (a':=(⟨x28.id,x28.up,x28.first,x28.next,v7,x28.closed⟩:aJ)) M M ti3 (svaR hA M M) (agi hA M M) (svaI hA M M) M M M M hx28 (nle M) M hx29)) ?_
    exact .nil
   refine aT ?_
   refine aF (aA M (faR 2 M M M underlying75 M ti4 (lb M) M M)<|aA M (aI (d:=.bool _) M M (lb M) underlying4 ag4 ti4 (by decide) (svR M) M (nle M) M)<|aA M (gD M M (lb M) (svB M))<|aD ?_)
   refine aR (b:=_) M (fun hc30=>?_) (fun hc30=>?_)
   ·
    replace h:=cA h hc30
    refine aY ?_
    refine bG ?_
    obtain rfl:=sj_ h
    refine ⟨.inr M,(fun i=>if i=0 then 2 else i),⟨.nil,(.cons (EntW.mix aB M (SubC.of_eq M) (SubC.of_eq M) M M) (.cons (EntW.lst M) .nil)),bE [1000,2] M (by decide),(fun i hi=>by first | rfl | (show (if _ then _ else _)=_; (repeat' split) <;> omega))⟩,.nil,M⟩
   ·
    replace h:=cB h hc30
    refine aS ?_
    refine aM ?_
    refine aF (aA M (mvR M M M M)<|aA M (mvI M M M M) <|?_)
    refine jE (S':=⟨[(0,.ref 1000 0),(1,.int .i64 a0),(54,.ref 1000 0),(55,.int .i64 x1)],[(2,.blk 3 (D.flat (x25.2.2.2.2.2.2.2.map (eInt .i64).d))),(1000,.blk 67 (mixD aB.toEnc0 (w26 x25.1 x25.2.1 x25.2.2.1 x25.2.2.2.1 x25.2.2.2.2.1) x29 [.int .i64 x25.2.2.2.2.2.2.1,.osl 2 (eInt .i64).sz x25.2.2.2.2.2.2.2.length]))]⟩) (fun i=>i) ⟨(.sames M M),(.cons (EntW.lst M) (.cons (EntW.mix aB M (SubC.of_eq M) (SubC.of_eq M) M M) .nil)),bE [2,1000] M (by decide),fun _ _=>M⟩ ?_
    refine mO 1 3 M M M (by decide) cl67 func67 M (.cons (svR M) (.cons (svI M) .nil)) ntmps67 (nle M) M hO.semiL fun O1 hO1=>?_
    show IWP _ _ _ _ ⟨[(0,.ref 1000 0),(1,.int .i64 x1)],[(3,.kept 1 (.ref 1000 0::(.int .i64 a0::(dd_ 52 (.ref 1000 0::(.int .i64 x1::(dd_ 15 []))))))),(2,.blk 3 (D.flat (x25.2.2.2.2.2.2.2.map (eInt .i64).d))),(1000,.blk 67 (mixD aB.toEnc0 (w26 x25.1 x25.2.1 x25.2.2.1 x25.2.2.2.1 x25.2.2.2.2.1) x29 [.int .i64 x25.2.2.2.2.2.2.1,.osl 2 (eInt .i64).sz x25.2.2.2.2.2.2.2.length]))]⟩ _
    refine aF (aA M (cK (cs:=[.ref _ _]) 4 M M (lb M) M (svR M) M M)<|aA M (cK (cs:=[.int _ _]) 5 M M (lb M) M (svI M) M M)<|aA M (aG M M (lb M) (sv (d:=.nilf) M))<|aD ?_)
    refine aF (aA M (mG M M (lb M) (.cons (svR M) (.cons (svR M) .nil)))<|aA M (aG M M (lb M) (sv (d:=.fn 83 q20) M))<|aD ?_)
    refine aY ?_
    refine ⟨.inr M,3,_,[.fn 83 [.ref 4 0,.ref 5 0]],(.cons (sv M) .nil),M,M,⟨[(0,.ref 1000 0),(1,.int .i64 a0),(56,.fn 83 [.ref 4 0,.ref 5 0])],[(2,.blk 3 (D.flat (x25.2.2.2.2.2.2.2.map (eInt .i64).d))),(4,.blk 25 [.ref 1000 0]),(5,.blk 3 [.int .i64 x1]),(1000,.blk 67 (mixD aB.toEnc0 (w26 x25.1 x25.2.1 x25.2.2.1 x25.2.2.2.1 x25.2.2.2.2.1) x29 [.int .i64 x25.2.2.2.2.2.2.1,.osl 2 (eInt .i64).sz x25.2.2.2.2.2.2.2.length]))]⟩,(fun i=>i),⟨(.sames M M),(.cons (EntW.lst M) (.cons (.blk M M M) (.cons (.blk M M M) (.cons (EntW.mix aB M (SubC.of_eq M) (SubC.of_eq M) M M) .nil)))),bE [2,4,5,1000] M (by decide),fun _ _=>M⟩,?_⟩
    refine jE (S':=⟨[(0,.ref 1000 0),(1,.int .i64 a0),(56,.fn 83 [.ref 4 0,.ref 5 0])],[(2,.blk 3 (D.flat (x25.2.2.2.2.2.2.2.map (eInt .i64).d))),(4,.blk 25 [.ref 1000 0]),(5,.blk 3 [.int .i64 x1]),(1000,.blk 67 (mixD aB.toEnc0 (w26 x25.1 x25.2.1 x25.2.2.1 x25.2.2.2.1 x25.2.2.2.2.1) x29 [.int .i64 x25.2.2.2.2.2.2.1,.osl 2 (eInt .i64).sz x25.2.2.2.2.2.2.2.length]))]⟩) (fun i=>i) ⟨(.sames M M),(.cons (EntW.lst M) (.cons (.blk M M M) (.cons (.blk M M M) (.cons (EntW.mix aB M (SubC.of_eq M) (SubC.of_eq M) M M) .nil)))),bE [2,4,5,1000] M (by decide),fun _ _=>M⟩ ?_
    refine mO 1 6 M M M (by decide) cl66 func66 M (.cons (sv (d:=.fn 83 q20) M) .nil) ntmps66 (nle M) M hO.semiL fun O1 hO1=>?_
    show IWP _ _ _ _ ⟨[(0,.fn 83 [.ref 4 0,.ref 5 0])],[(6,.kept 1 (.ref 1000 0::(.int .i64 a0::(dd_ 54 (.fn 83 [.ref 4 0,.ref 5 0]::(dd_ 14 [])))))),(2,.blk 3 (D.flat (x25.2.2.2.2.2.2.2.map (eInt .i64).d))),(4,.blk 25 [.ref 1000 0]),(5,.blk 3 [.int .i64 x1]),(1000,.blk 67 (mixD aB.toEnc0 (w26 x25.1 x25.2.1 x25.2.2.1 x25.2.2.2.1 x25.2.2.2.2.1) x29 [.int .i64 x25.2.2.2.2.2.2.1,.osl 2 (eInt .i64).sz x25.2.2.2.2.2.2.2.length]))]⟩ _
    refine aF (aA M (aG M M (lb M) (sv (d:=.nils) M))<|aD ?_)
    refine aF (aA M (aO M M (lb M) (sv (d:=.fn 83 q20) M)) <|?_)
    refine jE (S':=⟨[(3,.fn 83 [.ref 4 0,.ref 5 0])],[(2,.blk 3 (D.flat (x25.2.2.2.2.2.2.2.map (eInt .i64).d))),(4,.blk 25 [.ref 1000 0]),(5,.blk 3 [.int .i64 x1]),(6,.kept 1 (.ref 1000 0::(.int .i64 a0::(dd_ 54 (.fn 83 [.ref 4 0,.ref 5 0]::(dd_ 14 [])))))),(1000,.blk 67 (mixD aB.toEnc0 (w26 x25.1 x25.2.1 x25.2.2.1 x25.2.2.2.1 x25.2.2.2.2.1) x29 [.int .i64 x25.2.2.2.2.2.2.1,.osl 2 (eInt .i64).sz x25.2.2.2.2.2.2.2.length]))]⟩) (fun i=>i) ⟨(.sames M M),(.cons (EntW.lst M) (.cons (.blk M M M) (.cons (.blk M M M) (.cons (.kept M M M) (.cons (EntW.mix aB M (SubC.of_eq M) (SubC.of_eq M) M M) .nil))))),bE [2,4,5,6,1000] M (by decide),fun _ _=>M⟩ ?_
    refine mO 2 7 M M M (by decide) cl82 func82 M (.cons (sv (d:=.nils) M) (.cons (sv (d:=.fn 83 q20) M) .nil)) ntmps82 (nle M) M hO1 fun O2 hO2=>?_
    show IWP _ _ _ _ ⟨[(0,.nils),(1,.fn 83 [.ref 4 0,.ref 5 0])],[(7,.kept 2 [.dead,.dead,.dead,.fn 83 [.ref 4 0,.ref 5 0],.dead]),(2,.blk 3 (D.flat (x25.2.2.2.2.2.2.2.map (eInt .i64).d))),(4,.blk 25 [.ref 1000 0]),(5,.blk 3 [.int .i64 x1]),(6,.kept 1 (.ref 1000 0::(.int .i64 a0::(dd_ 54 (.fn 83 [.ref 4 0,.ref 5 0]::(dd_ 14 [])))))),(1000,.blk 67 (mixD aB.toEnc0 (w26 x25.1 x25.2.1 x25.2.2.1 x25.2.2.2.1 x25.2.2.2.2.1) x29 [.int .i64 x25.2.2.2.2.2.2.1,.osl 2 (eInt .i64).sz x25.2.2.2.2.2.2.2.length]))]⟩ _
    refine aF (aA M (cK (cs:=[.nils]) 8 M M (lb M) M (sv (d:=.nils) M) M M)<|aA M (aG M M (lb M) (sv (d:=.nils) M))<|aD ?_)
    refine aT ?_
    refine aF (aA M (aO M M (lb M) (sv (d:=.fn 83 q20) M))<|aD ?_)
    refine bB ?_
    refine rG (S':=⟨[(2,.ref 8 0),(6,.fn 83 [.ref 4 0,.ref 5 0])],[(2,.blk 3 (D.flat (x25.2.2.2.2.2.2.2.map (eInt .i64).d))),(4,.blk 25 [.ref 1000 0]),(5,.blk 3 [.int .i64 x1]),(6,.kept 1 (.ref 1000 0::(.int .i64 a0::(dd_ 54 (.fn 83 [.ref 4 0,.ref 5 0]::(dd_ 14 [])))))),(7,.kept 2 [.dead,.dead,.dead,.fn 83 [.ref 4 0,.ref 5 0],.dead]),(8,.blk 30 [.nils]),(1000,.blk 67 (mixD aB.toEnc0 (w26 x25.1 x25.2.1 x25.2.2.1 x25.2.2.2.1 x25.2.2.2.2.1) x29 [.int .i64 x25.2.2.2.2.2.2.1,.osl 2 (eInt .i64).sz x25.2.2.2.2.2.2.2.length]))]⟩) (fun i=>i) ⟨(.sames M M),(.cons (EntW.lst M) (.cons (.blk M M M) (.cons (.blk M M M) (.cons (.kept M M M) (.cons (.kept M M M) (.cons (.blk M M M) (.cons (EntW.mix aB M (SubC.of_eq M) (SubC.of_eq M) M M) .nil))))))),bE [2,4,5,6,7,8,1000] M (by decide),fun _ _=>M⟩ ?_
    refine tR 3 9 10 (sv (d:=.fn 83 q20) M) cl83 func83 M M ntmps83 (nle M) M M hO2 (List.forall_mem_cons.2 ⟨⟨7,_,M⟩,List.forall_mem_cons.2 ⟨⟨6,_,M⟩,List.forall_mem_nil _⟩⟩) fun O3 hO3 hlc3=>?_
    show IWP _ _ _ _ ⟨[(0,.yld 9),(1,.ref 4 0),(2,.ref 5 0)],[(10,.kept 3 (.dead::(.dead::(.ref 8 0::(.dead::(.dead::(.dead::(.fn 83 [.ref 4 0,.ref 5 0]::(dd_ 6 []))))))))),(9,.loop 3 [.dead,.dead,.ref 8 0,.dead,.dead,.dead,.fn 83 [.ref 4 0,.ref 5 0],.dead,.dead,.dead,.dead,.dead,.dead] .ready none),(2,.blk 3 (D.flat (x25.2.2.2.2.2.2.2.map (eInt .i64).d))),(4,.blk 25 [.ref 1000 0]),(5,.blk 3 [.int .i64 x1]),(6,.kept 1 (.ref 1000 0::(.int .i64 a0::(dd_ 54 (.fn 83 [.ref 4 0,.ref 5 0]::(dd_ 14 [])))))),(7,.kept 2 [.dead,.dead,.dead,.fn 83 [.ref 4 0,.ref 5 0],.dead]),(8,.blk 30 [.nils]),(1000,.blk 67 (mixD aB.toEnc0 (w26 x25.1 x25.2.1 x25.2.2.1 x25.2.2.2.1 x25.2.2.2.2.1) x29 [.int .i64 x25.2.2.2.2.2.2.1,.osl 2 (eInt .i64).sz x25.2.2.2.2.2.2.2.length]))]⟩ _
    refine aF (aA M (aI (d:=.ref _ _) M M (lb M) underlying25 ag25 ti25 (by decide) (svR M) M (nle M) M)<|aA M (aI (d:=.int _ _) M M (lb M) underlying3 ag3 ti3 (by decide) (svR M) M (nle M) M) <|?_)
    refine jE (S':=⟨[(0,.yld 9),(1,.ref 4 0),(6,.ref 1000 0),(7,.int .i64 x1)],[(2,.blk 3 (D.flat (x25.2.2.2.2.2.2.2.map (eInt .i64).d))),(4,.blk 25 [.ref 1000 0]),(5,.blk 3 [.int .i64 x1]),(6,.kept 1 (.ref 1000 0::(.int .i64 a0::(dd_ 54 (.fn 83 [.ref 4 0,.ref 5 0]::(dd_ 14 [])))))),(7,.kept 2 [.dead,.dead,.dead,.fn 83 [.ref 4 0,.ref 5 0],.dead]),(8,.blk 30 [.nils]),(9,.loop 3 [.dead,.dead,.ref 8 0,.dead,.dead,.dead,.fn 83 [.ref 4 0,.ref 5 0],.dead,.dead,.dead,.dead,.dead,.dead] .ready none),(10,.kept 3 (.dead::(.dead::(.ref 8 0::(.dead::(.dead::(.dead::(.fn 83 [.ref 4 0,.ref 5 0]::(dd_ 6 []))))))))),(1000,.blk 67 (mixD aB.toEnc0 (w26 x25.1 x25.2.1 x25.2.2.1 x25.2.2.2.1 x25.2.2.2.2.1) x29 [.int .i64 x25.2.2.2.2.2.2.1,.osl 2 (eInt .i64).sz x25.2.2.2.2.2.2.2.length]))]⟩) (fun i=>i) ⟨(.sames M M),(.cons (EntW.lst M) (.cons (.blk M M M) (.cons (.blk M M M) (.cons (.kept M M M) (.cons (.kept M M M) (.cons (.blk M M M) (.cons (.loop M M M) (.cons (.kept M M M) (.cons (EntW.mix aB M (SubC.of_eq M) (SubC.of_eq M) M M) .nil))))))))),bE [2,4,5,6,7,8,9,10,1000] M (by decide),fun _ _=>M⟩ ?_
    refine mO 4 11 M M M (by decide) cl81 func81 M (.cons (svR M) (.cons (svI M) .nil)) ntmps81 (nle M) M hO3 fun O4 hO4=>?_
    show IWP _ _ _ _ ⟨[(0,.ref 1000 0),(1,.int .i64 x1)],[(11,.kept 4 (.yld 9::(.ref 4 0::(dd_ 4 (.ref 1000 0::(.int .i64 x1::(dd_ 17 []))))))),(2,.blk 3 (D.flat (x25.2.2.2.2.2.2.2.map (eInt .i64).d))),(4,.blk 25 [.ref 1000 0]),(5,.blk 3 [.int .i64 x1]),(6,.kept 1 (.ref 1000 0::(.int .i64 a0::(dd_ 54 (.fn 83 [.ref 4 0,.ref 5 0]::(dd_ 14 [])))))),(7,.kept 2 [.dead,.dead,.dead,.fn 83 [.ref 4 0,.ref 5 0],.dead]),(8,.blk 30 [.nils]),(9,.loop 3 [.dead,.dead,.ref 8 0,.dead,.dead,.dead,.fn 83 [.ref 4 0,.ref 5 0],.dead,.dead,.dead,.dead,.dead,.dead] .ready none),(10,.kept 3 (.dead::(.dead::(.ref 8 0::(.dead::(.dead::(.dead::(.fn 83 [.ref 4 0,.ref 5 0]::(dd_ 6 []))))))))),(1000,.blk 67 (mixD aB.toEnc0 (w26 x25.1 x25.2.1 x25.2.2.1 x25.2.2.2.1 x25.2.2.2.2.1) x29 [.int .i64 x25.2.2.2.2.2.2.1,.osl 2 (eInt .i64).sz x25.2.2.2.2.2.2.2.length]))]⟩ _
    refine aF (aA M (aG M M (lb M) (sv (d:=.nilp) M))<|aD ?_)
    refine aT ?_
    obtain ⟨x31,hx31,h⟩:=bC h
    refine aF (aA M (mvI M M M M)<|aA M (aQ M M (lb M) (svI M) (sv (d:=.int _ (-1)) M) M hx31)<|aD ?_)
    refine aR (b:=_) M (fun hc32=>?_) (fun hc32=>?_)
    ·
     replace h:=cA h hc32
     refine aF (aA M (mvR M M M M)<|aA M (aL M M (lb M) (svR M))<|aA M (faR 389 M M M underlying67 M ti3 (lb M) M M)<|aA M (aG M M (lb M) (svR M))<|aD ?_)
     refine aY ?_
     refine bG ?_
     refine ⟨.inr M,11,_,[.ref 1000 389],(.cons (sv M) .nil),M,M,⟨[(0,.yld 9),(1,.ref 4 0),(8,.ref 1000 389)],[(2,.blk 3 (D.flat (x25.2.2.2.2.2.2.2.map (eInt .i64).d))),(4,.blk 25 [.ref 1000 0]),(5,.blk 3 [.int .i64 x1]),(6,.kept 1 (.ref 1000 0::(.int .i64 a0::(dd_ 54 (.fn 83 [.ref 4 0,.ref 5 0]::(dd_ 14 [])))))),(7,.kept 2 [.dead,.dead,.dead,.fn 83 [.ref 4 0,.ref 5 0],.dead]),(8,.blk 30 [.nils]),(9,.loop 3 [.dead,.dead,.ref 8 0,.dead,.dead,.dead,.fn 83 [.ref 4 0,.ref 5 0],.dead,.dead,.dead,.dead,.dead,.dead] .ready none),(10,.kept 3 (.dead::(.dead::(.ref 8 0::(.dead::(.dead::(.dead::(.fn 83 [.ref 4 0,.ref 5 0]::(dd_ 6 []))))))))),(1000,.blk 67 (mixD aB.toEnc0 (w26 x25.1 x25.2.1 x25.2.2.1 x25.2.2.2.1 x25.2.2.2.2.1) x29 [.int .i64 x25.2.2.2.2.2.2.1,.osl 2 (eInt .i64).sz x25.2.2.2.2.2.2.2.length]))]⟩,(fun i=>i),⟨(.sames M M),(.cons (EntW.lst M) (.cons (.blk M M M) (.cons (.blk M M M) (.cons (.kept M M M) (.cons (.kept M M M) (.cons (.blk M M M) (.cons (.loop M M M) (.cons (.kept M M M) (.cons (EntW.mix aB M (SubC.of_eq M) (SubC.of_eq M) M M) .nil))))))))),bE [2,4,5,6,7,8,9,10,1000] M (by decide),fun _ _=>M⟩,?_⟩
     refine aA M (aL M M (lb M) (svR M))<|aA M (iD aB.toEnc0 (d:=.int _ _) (n:=64) (k:=0) M M (lb M) underlying3 ag3 ti3 (by decide) (svR M) M (iQ hx29 hk27) (by rfl) (nle M) (by rfl))<|aA M (asI M M M M)<|aD ?_
     refine bB ?_
     refine cP (α:=Nat × Int × (List Int)) (fun z=>⟨[(0,.yld 9),(1,.ref 4 0),(4,.int .i64 z.2.1)],[(9,.loop 3 [.dead,.dead,.ref 8 0,.dead,.dead,.dead,.fn 83 [.ref 4 0,.ref 5 0],.dead,.dead,.dead,.dead,.dead,.dead] .ready none),(4,.blk 25 [.ref 1000 0]),(6,.kept 1 (.ref 1000 0::(.int .i64 a0::(dd_ 54 (.fn 83 [.ref 4 0,.ref 5 0]::(dd_ 14 [])))))),(7,.kept 2 [.dead,.dead,.dead,.fn 83 [.ref 4 0,.ref 5 0],.dead]),(10,.kept 3 (.dead::(.dead::(.ref 8 0::(.dead::(.dead::(.dead::(.fn 83 [.ref 4 0,.ref 5 0]::(dd_ 6 []))))))))),(1000,.blk 67 (mixD aB.toEnc0 (w26 x25.1 x25.2.1 x25.2.2.1 x25.2.2.2.1 x25.2.2.2.2.1) x29 [.int .i64 x25.2.2.2.2.2.2.1,.osl 2 (eInt .i64).sz x25.2.2.2.2.2.2.2.length])),(8,.blk 30 [.osl 32 (eInt .i64).sz z.2.2.length]),(5,.blk 3 [.int .i64 x1]),(2,.blk 3 (D.flat (x25.2.2.2.2.2.2.2.map (eInt .i64).d))),(32,.blk 3 (D.flat (z.2.2.map (eInt .i64).d)))]⟩) (fun z=>fH a0 x25 x29 z.1 z.2.1 z.2.2=some r) (fun z=>z.1) (fuel,x25.2.2.2.2.2.2.1,([]:(List Int))) (fun i=>if i=32 then 94 else i) ⟨(.sames M M),(.cons (.loop M M M) (.cons (.blk M M M) (.cons (.kept M M M) (.cons (.kept M M M) (.cons (.kept M M M) (.cons (EntW.mix aB M (SubC.of_eq M) (SubC.of_eq M) M M) (.cons (.sub M (.nilo .nil) M) (.cons (.blk M M M) (.cons (EntW.lst M) (.cons (.nilb M) .nil)))))))))),bE [9,4,6,7,10,1000,8,5,2,94] M (by decide),(fun i hi=>by first | rfl | (show (if _ then _ else _)=_; (repeat' split) <;> omega))⟩ ?_ ?_
     ·exact h
     ·
      rintro ⟨n2,v38,v39⟩ h
      cases n2 with
      | zero=>exact absurd h (by unfold fH; exact nofun)
      | succ n2 =>
       unfold fH at h
       refine aT ?_
       obtain ⟨x45,hx45,h⟩:=bC h
       refine aF (aA M (mvI M M M M)<|aA M (aQ M M (lb M) (svI M) (sv (d:=.int _ (-1)) M) M hx45)<|aD ?_)
       refine aR (b:=_) M (fun hc46=>?_) (fun hc46=>?_)
       ·
        replace h:=cA h hc46
        refine aS ?_
        refine aM ?_
        refine bB ?_
        obtain ⟨x47,hx47,h⟩:=aX h
        obtain ⟨x48,hx48,h⟩:=aX h
        refine aF (aA M (aI (d:=.ref _ _) M M (lb M) underlying25 ag25 ti25 (by decide) (svR M) M (nle M) M)<|aA M (mvI M M M M)<|aA M (aL M M (lb M) (svR M))<|aA M (faR 5 M M M underlying67 M ti65 (lb M) M M)<|aA M (dO aB.toEnc0 M M (lb M) underlying65 ti64 (svR M) (iQ hx29 hk27) (svI M) hx47)<|aA M (bZ M M (lb M) underlying64 M ti3 (by decide) (svR M) (k':=3) M)<|aA M (cM aB.toEnc0 (b:=5) (k:=3) (d:=.int _ _) M M (lb M) underlying3 ag3 ti3 (by decide) (svR M) M M hx48 (nle M) M)<|aA M (asI M M M M)<|aD ?_)
        refine aT ?_
        refine aF (aA M (aO M M (lb M) (sv (d:=.yld _) M))<|aA M (mvI M M M M) <|?_)
        refine jE (S':=⟨[(0,.yld 9),(1,.ref 4 0),(5,.int .i64 x48.next),(20,.yld 9),(21,.int .i64 v38)],[(2,.blk 3 (D.flat (x25.2.2.2.2.2.2.2.map (eInt .i64).d))),(4,.blk 25 [.ref 1000 0]),(5,.blk 3 [.int .i64 x1]),(6,.kept 1 (.ref 1000 0::(.int .i64 a0::(dd_ 54 (.fn 83 [.ref 4 0,.ref 5 0]::(dd_ 14 [])))))),(7,.kept 2 [.dead,.dead,.dead,.fn 83 [.ref 4 0,.ref 5 0],.dead]),(8,.blk 30 [.osl 32 (eInt .i64).sz v39.length]),(9,.loop 3 [.dead,.dead,.ref 8 0,.dead,.dead,.dead,.fn 83 [.ref 4 0,.ref 5 0],.dead,.dead,.dead,.dead,.dead,.dead] .ready none),(10,.kept 3 (.dead::(.dead::(.ref 8 0::(.dead::(.dead::(.dead::(.fn 83 [.ref 4 0,.ref 5 0]::(dd_ 6 []))))))))),(32,.blk 3 (D.flat (v39.map (eInt .i64).d))),(1000,.blk 67 (mixD aB.toEnc0 (w26 x25.1 x25.2.1 x25.2.2.1 x25.2.2.2.1 x25.2.2.2.2.1) x29 [.int .i64 x25.2.2.2.2.2.2.1,.osl 2 (eInt .i64).sz x25.2.2.2.2.2.2.2.length]))]⟩) (fun i=>i) ⟨(.sames M M),(.cons (EntW.lst M) (.cons (.blk M M M) (.cons (.blk M M M) (.cons (.kept M M M) (.cons (.kept M M M) (.cons (.blk M M M) (.cons (.loop M M M) (.cons (.kept M M M) (.cons (EntW.lst M) (.cons (EntW.mix aB M (SubC.of_eq M) (SubC.of_eq M) M M) .nil)))))))))),bE [2,4,5,6,7,8,9,10,32,1000] M (by decide),fun _ _=>M⟩ ?_
        refine pX 4 9 33 M M M (by decide) M (.cons (svI M) .nil) M M M M M M hO3.round hlc3 ⟨[(7,.int .i64 v38),(2,.ref 8 0)],[(2,.blk 3 (D.flat (x25.2.2.2.2.2.2.2.map (eInt .i64).d))),(4,.blk 25 [.ref 1000 0]),(5,.blk 3 [.int .i64 x1]),(6,.kept 1 (.ref 1000 0::(.int .i64 a0::(dd_ 54 (.fn 83 [.ref 4 0,.ref 5 0]::(dd_ 14 [])))))),(7,.kept 2 [.dead,.dead,.dead,.fn 83 [.ref 4 0,.ref 5 0],.dead]),(8,.blk 30 [.osl 32 (eInt .i64).sz v39.length]),(9,.loop 3 [.dead,.dead,.ref 8 0,.dead,.dead,.dead,.fn 83 [.ref 4 0,.ref 5 0],.dead,.dead,.dead,.dead,.dead,.dead] .ready none),(10,.kept 3 (.dead::(.dead::(.ref 8 0::(.dead::(.dead::(.dead::(.fn 83 [.ref 4 0,.ref 5 0]::(dd_ 6 []))))))))),(32,.blk 3 (D.flat (v39.map (eInt .i64).d))),(33,.kept 4 (.yld 9::(.ref 4 0::(.dead::(.dead::(.dead::(.int .i64 x48.next::(dd_ 14 (.yld 9::(.int .i64 v38::(.dead::(.dead::(.dead::[]))))))))))))),(1000,.blk 67 (mixD aB.toEnc0 (w26 x25.1 x25.2.1 x25.2.2.1 x25.2.2.2.1 x25.2.2.2.2.1) x29 [.int .i64 x25.2.2.2.2.2.2.1,.osl 2 (eInt .i64).sz x25.2.2.2.2.2.2.2.length]))]⟩ (fun i=>i) ⟨(.sames M M),(.cons (EntW.lst M) (.cons (.blk M M M) (.cons (.blk M M M) (.cons (.kept M M M) (.cons (.kept M M M) (.cons (.blk M M M) (.cons (.loop M M M) (.cons (.kept M M M) (.cons (EntW.lst M) (.cons (.kept M M M) (.cons (EntW.mix aB M (SubC.of_eq M) (SubC.of_eq M) M M) .nil))))))))))),bE [2,4,5,6,7,8,9,10,32,33,1000] M (by decide),fun _ _=>M⟩ fun O4=>?_
        refine bA (aA M (asI M M M M)<|bL ?_)
        refine ⟨M,9,_,M,⟨[(2,.ref 8 0),(5,.int .i64 v38)],[(2,.blk 3 (D.flat (x25.2.2.2.2.2.2.2.map (eInt .i64).d))),(4,.blk 25 [.ref 1000 0]),(5,.blk 3 [.int .i64 x1]),(6,.kept 1 (.ref 1000 0::(.int .i64 a0::(dd_ 54 (.fn 83 [.ref 4 0,.ref 5 0]::(dd_ 14 [])))))),(7,.kept 2 [.dead,.dead,.dead,.fn 83 [.ref 4 0,.ref 5 0],.dead]),(8,.blk 30 [.osl 32 (eInt .i64).sz v39.length]),(9,.loop 3 [.dead,.dead,.ref 8 0,.dead,.dead,.dead,.fn 83 [.ref 4 0,.ref 5 0],.dead,.dead,.dead,.dead,.dead,.dead] .busy none),(10,.kept 3 (.dead::(.dead::(.ref 8 0::(.dead::(.dead::(.dead::(.fn 83 [.ref 4 0,.ref 5 0]::(dd_ 6 []))))))))),(32,.blk 3 (D.flat (v39.map (eInt .i64).d))),(33,.kept 4 (.yld 9::(.ref 4 0::(.dead::(.dead::(.dead::(.int .i64 x48.next::(dd_ 14 (.yld 9::(.int .i64 v38::(.dead::(.dead::(.dead::[]))))))))))))),(1000,.blk 67 (mixD aB.toEnc0 (w26 x25.1 x25.2.1 x25.2.2.1 x25.2.2.2.1 x25.2.2.2.2.1) x29 [.int .i64 x25.2.2.2.2.2.2.1,.osl 2 (eInt .i64).sz x25.2.2.2.2.2.2.2.length]))]⟩,(fun i=>i),⟨(.sames M M),(.cons (EntW.lst M) (.cons (.blk M M M) (.cons (.blk M M M) (.cons (.kept M M M) (.cons (.kept M M M) (.cons (.blk M M M) (.cons (.loop M M M) (.cons (.kept M M M) (.cons (EntW.lst M) (.cons (.kept M M M) (.cons (EntW.mix aB M (SubC.of_eq M) (SubC.of_eq M) M M) .nil))))))))))),bE [2,4,5,6,7,8,9,10,32,33,1000] M (by decide),fun _ _=>M⟩,?_⟩
        refine bB ?_
        obtain ⟨x49,hx49,h⟩:=aX h
        refine bA (aA M (aI (d:=.osl _ _ _) M M (lb M) underlying30 ag30 ti30 (by decide) (svR M) M (nle M) M)<|aA M (mvI M M M M)<|aA M (lD (eInt .i64).toEnc0 ([v38]:(List Int)) 34 M M (lb M) underlying30 ti3 M (.cons (svI M) .nil) M M (by decide))<|aA M (iH (eInt .i64).toEnc0 35 M M (lb M) underlying30 ti3 M M M M M (qP (eInt .i64).toEnc0 M M M) hx49)<|aA M (dZ (ds':=[.osl _ _ _]) M M ti30 (svR M) M (sv (d:=.osl _ _ _) M) M M M (nle M) M)<|bL ?_)
        refine bJ ?_
        refine ⟨9,33,_,_,none,M,M,M,M,(by decide),⟨[(0,.yld 9),(1,.ref 4 0),(5,.int .i64 x48.next),(22,.bool true)],[(2,.blk 3 (D.flat (x25.2.2.2.2.2.2.2.map (eInt .i64).d))),(4,.blk 25 [.ref 1000 0]),(5,.blk 3 [.int .i64 x1]),(6,.kept 1 (.ref 1000 0::(.int .i64 a0::(dd_ 54 (.fn 83 [.ref 4 0,.ref 5 0]::(dd_ 14 [])))))),(7,.kept 2 [.dead,.dead,.dead,.fn 83 [.ref 4 0,.ref 5 0],.dead]),(8,.blk 30 [.osl 35 (eInt .i64).sz x49.length]),(9,.loop 3 [.dead,.dead,.ref 8 0,.dead,.dead,.dead,.fn 83 [.ref 4 0,.ref 5 0],.dead,.dead,.dead,.dead,.dead,.dead] .ready none),(10,.kept 3 (.dead::(.dead::(.ref 8 0::(.dead::(.dead::(.dead::(.fn 83 [.ref 4 0,.ref 5 0]::(dd_ 6 []))))))))),(35,.blk 3 (D.flat (x49.map (eInt .i64).d))),(1000,.blk 67 (mixD aB.toEnc0 (w26 x25.1 x25.2.1 x25.2.2.1 x25.2.2.2.1 x25.2.2.2.2.1) x29 [.int .i64 x25.2.2.2.2.2.2.1,.osl 2 (eInt .i64).sz x25.2.2.2.2.2.2.2.length]))]⟩,(fun i=>i),⟨(.sames M M),(.cons (EntW.lst M) (.cons (.blk M M M) (.cons (.blk M M M) (.cons (.kept M M M) (.cons (.kept M M M) (.cons (.blk M M M) (.cons (.loop M M M) (.cons (.kept M M M) (.cons (EntW.lst M) (.cons (EntW.mix aB M (SubC.of_eq M) (SubC.of_eq M) M M) .nil)))))))))),bE [2,4,5,6,7,8,9,10,35,1000] M (by decide),fun _ _=>M⟩,?_⟩
        refine aA M (gD M M (lb M) (svB M))<|aD ?_
        refine jD M M ?_
        refine aS ?_
        refine aM ?_
        refine bA (aA M (mvI M M M M)<|aA M (asI M M M M)<|bL ?_)
        refine bJ ?_
        refine aM ⟨(n2,x48.next,x49),(fun i=>if i=32 then 35 else i),⟨(.sames M M),(.cons (.loop M M M) (.cons (.blk M M M) (.cons (.kept M M M) (.cons (.kept M M M) (.cons (.kept M M M) (.cons (EntW.mix aB M (SubC.of_eq M) (SubC.of_eq M) M M) (.cons (.blk M M M) (.cons (.blk M M M) (.cons (EntW.lst M) (.cons (EntW.lst M) .nil)))))))))),bE [9,4,6,7,10,1000,8,5,2,35] M (by decide),(fun i hi=>by first | rfl | (show (if _ then _ else _)=_; (repeat' split) <;> omega))⟩,?_,?_⟩
        exact h
        exact Nat.lt_succ_self _
       ·
        replace h:=cB h hc46
        refine cU ?_
        refine bK ?_
        refine bK ?_
        refine cW ?_
        refine ⟨.inl M,9,10,_,_,_,_,M,(by simp),M,M,⟨[(2,.ref 8 0)],[(2,.blk 3 (D.flat (x25.2.2.2.2.2.2.2.map (eInt .i64).d))),(4,.blk 25 [.ref 1000 0]),(5,.blk 3 [.int .i64 x1]),(6,.kept 1 (.ref 1000 0::(.int .i64 a0::(dd_ 54 (.fn 83 [.ref 4 0,.ref 5 0]::(dd_ 14 [])))))),(7,.kept 2 [.dead,.dead,.dead,.fn 83 [.ref 4 0,.ref 5 0],.dead]),(8,.blk 30 [.osl 32 (eInt .i64).sz v39.length]),(32,.blk 3 (D.flat (v39.map (eInt .i64).d))),(1000,.blk 67 (mixD aB.toEnc0 (w26 x25.1 x25.2.1 x25.2.2.1 x25.2.2.2.1 x25.2.2.2.2.1) x29 [.int .i64 x25.2.2.2.2.2.2.1,.osl 2 (eInt .i64).sz x25.2.2.2.2.2.2.2.length]))]⟩,(fun i=>i),⟨(.sames M M),(.cons (EntW.lst M) (.cons (.blk M M M) (.cons (.blk M M M) (.cons (.kept M M M) (.cons (.kept M M M) (.cons (.blk M M M) (.cons (EntW.lst M) (.cons (EntW.mix aB M (SubC.of_eq M) (SubC.of_eq M) M M) .nil)))))))),bE [2,4,5,6,7,8,32,1000] M (by decide),fun _ _=>M⟩,?_⟩
        refine bJ ?_
        refine aM ?_
        refine aF (aA M (aI (d:=.osl _ _ _) M M (lb M) underlying30 ag30 ti30 (by decide) (svR M) M (nle M) M)<|aA M (aG M M (lb M) (sv (d:=.osl _ _ _) M))<|aD ?_)
        refine aY ?_
        refine ⟨.inr M,7,_,[.osl 32 (eInt .i64).sz v39.length],(.cons (sv M) .nil),M,M,⟨[(4,.osl 32 (eInt .i64).sz v39.length)],[(2,.blk 3 (D.flat (x25.2.2.2.2.2.2.2.map (eInt .i64).d))),(4,.blk 25 [.ref 1000 0]),(5,.blk 3 [.int .i64 x1]),(6,.kept 1 (.ref 1000 0::(.int .i64 a0::(dd_ 54 (.fn 83 [.ref 4 0,.ref 5 0]::(dd_ 14 [])))))),(32,.blk 3 (D.flat (v39.map (eInt .i64).d))),(1000,.blk 67 (mixD aB.toEnc0 (w26 x25.1 x25.2.1 x25.2.2.1 x25.2.2.2.1 x25.2.2.2.2.1) x29 [.int .i64 x25.2.2.2.2.2.2.1,.osl 2 (eInt .i64).sz x25.2.2.2.2.2.2.2.length]))]⟩,(fun i=>i),⟨(.sames M M),(.cons (EntW.lst M) (.cons (.blk M M M) (.cons (.blk M M M) (.cons (.kept M M M) (.cons (EntW.lst M) (.cons (EntW.mix aB M (SubC.of_eq M) (SubC.of_eq M) M M) .nil)))))),bE [2,4,5,6,32,1000] M (by decide),fun _ _=>M⟩,?_⟩
        refine aA M (aG M M (lb M) (sv (d:=.osl _ _ _) M))<|aD ?_
        refine aY ?_
        refine ⟨.inr M,6,_,[.osl 32 (eInt .i64).sz v39.length],(.cons (sv M) .nil),M,M,⟨[(0,.ref 1000 0),(1,.int .i64 a0),(57,.osl 32 (eInt .i64).sz v39.length)],[(2,.blk 3 (D.flat (x25.2.2.2.2.2.2.2.map (eInt .i64).d))),(32,.blk 3 (D.flat (v39.map (eInt .i64).d))),(1000,.blk 67 (mixD aB.toEnc0 (w26 x25.1 x25.2.1 x25.2.2.1 x25.2.2.2.1 x25.2.2.2.2.1) x29 [.int .i64 x25.2.2.2.2.2.2.1,.osl 2 (eInt .i64).sz x25.2.2.2.2.2.2.2.length]))]⟩,(fun i=>i),⟨(.sames M M),(.cons (EntW.lst M) (.cons (EntW.lst M) (.cons (EntW.mix aB M (SubC.of_eq M) (SubC.of_eq M) M M) .nil))),bE [2,32,1000] M (by decide),fun _ _=>M⟩,?_⟩
        refine aA M (kV M M (lb M) underlying30 (sv (d:=.osl _ _ _) M))<|aA M (aO M M (lb M) (sv (d:=.int _ 0) M))<|aD ?_
        refine bB ?_
        refine cP (α:=Nat × Int × Int × Int × (List aK) × Int × Int × (List aJ) × Int × (List Int)) (fun z=>⟨[(0,.ref 1000 0),(1,.int .i64 a0),(57,.osl 32 (eInt .i64).sz v39.length),(58,.int .i64 (v39.length:Int)),(59,.int .i64 z.2.1)],[(1000,.blk 67 (mixD aB.toEnc0 (w26 z.2.2.1 z.2.2.2.1 z.2.2.2.2.1 z.2.2.2.2.2.1 z.2.2.2.2.2.2.1) z.2.2.2.2.2.2.2.1 [.int .i64 z.2.2.2.2.2.2.2.2.1,.osl 2 (eInt .i64).sz z.2.2.2.2.2.2.2.2.2.length])),(32,.blk 3 (D.flat (v39.map (eInt .i64).d))),(2,.blk 3 (D.flat (z.2.2.2.2.2.2.2.2.2.map (eInt .i64).d)))]⟩) (fun z=>eG a0 v39 z.1 z.2.1 z.2.2.1 z.2.2.2.1 z.2.2.2.2.1 z.2.2.2.2.2.1 z.2.2.2.2.2.2.1 z.2.2.2.2.2.2.2.1 z.2.2.2.2.2.2.2.2.1 z.2.2.2.2.2.2.2.2.2=some r) (fun z=>z.1) (fuel,0,x25.1,x25.2.1,x25.2.2.1,x25.2.2.2.1,x25.2.2.2.2.1,x29,x25.2.2.2.2.2.2.1,x25.2.2.2.2.2.2.2) (fun i=>i) ⟨(.sames M M),(.cons (EntW.mix aB M (SubC.of_eq M) (SubC.of_eq M) M M) (.cons (EntW.lst M) (.cons (EntW.lst M) .nil))),bE [1000,32,2] M (by decide),fun _ _=>M⟩ ?_ ?_
        ·exact h
        ·
         rintro ⟨n3,v59,v60,v61,v62,v63,v64,v65,v66,v67⟩ h
         cases n3 with
         | zero=>exact absurd h (by unfold eG; exact nofun)
         | succ n3 =>
          unfold eG at h
          obtain ⟨x77,hx77,h⟩:=bC h
          refine aF (aA M (aQ M M (lb M) (svI M) (svI M) M hx77)<|aD ?_)
          refine aT ?_
          refine aR (b:=_) M (fun hc78=>?_) (fun hc78=>?_)
          ·
           replace h:=cA h hc78
           refine aS ?_
           refine aM ?_
           refine aT ?_
           refine bB ?_
           obtain ⟨x79,hx79,h⟩:=aX h
           obtain ⟨x80,hx80,h⟩:=aX h
           refine aF (aA M (fY (eInt .i64).toEnc0 M M (lb M) underlying30 ti3 (sv (d:=.osl _ _ _) M) M (svI M) hx79)<|aA M (fP (eInt .i64).toEnc0 (d:=.int _ _) M M (lb M) underlying3 ag3 ti3 (by decide) (svR M) M hx80 (nle M) M)<|aA M (asI M M M M)<|aD ?_)
           obtain ⟨x81,hx81,h⟩:=bC h
           refine aF (aA M (mvI M M M M)<|aA M (mvI M M M M)<|aA M (aQ M M (lb M) (svI M) (svI M) M hx81)<|aD ?_)
           refine aR (b:=_) M (fun hc82=>?_) (fun hc82=>?_)
           ·
            replace h:=cA h hc82
            obtain ⟨x83,hx83,h⟩:=aX h
            refine bA (aA M (mvR M M M M)<|aA M (mvI M M M M)<|aA M (mvI M M M M)<|aA M (cQ (r':=.tuple []) (H1':=[(1000,.blk 67 (mixD aB.toEnc0 (w26 x83.1 x83.2.1 x83.2.2.1 x83.2.2.2.1 x83.2.2.2.2.1) x83.2.2.2.2.2.1 [.int .i64 x83.2.2.2.2.2.2.1,.osl 33 (eInt .i64).sz x83.2.2.2.2.2.2.2.length])),(33,.blk 3 (D.flat (x83.2.2.2.2.2.2.2.map (eInt .i64).d)))]) 33 [1000,2] M M (lb M) cl65 (.cons (svR M) (.cons (svI M) (.cons (svI M) .nil))) M M ⟨M,M,by decide,M,List.forall_mem_cons.2 ⟨⟨M,M,(mT aB M M M),(eA aB M M)⟩,List.forall_mem_cons.2 ⟨⟨M,M,(iF (eInt .i64) M),(bP (eInt .i64))⟩,List.forall_mem_nil _⟩⟩⟩ (iP _ _ _ _ _ _ _ _ _ _ _ hx83) M M (List.forall_mem_cons.2 ⟨⟨M,(eA aB M M)⟩,List.forall_mem_cons.2 ⟨⟨M,(bP (eInt .i64))⟩,List.forall_mem_nil _⟩⟩) (by simp only [List.map_cons,List.map_nil,Ent.ren,bT,cE,eL]; rfl))<|bL ?_)
            refine bJ ?_
            refine aM ?_
            obtain ⟨x84,hx84,h⟩:=bC h
            refine bA (aA M (bO M M (lb M) (svI M) (sv (d:=.int _ 1) M) M hx84)<|aA M (mvI M M M M)<|bL ?_)
            refine aM ⟨(n3,x84,x83.1,x83.2.1,x83.2.2.1,x83.2.2.2.1,x83.2.2.2.2.1,x83.2.2.2.2.2.1,x83.2.2.2.2.2.2.1,x83.2.2.2.2.2.2.2),(fun i=>if i=2 then 33 else i),⟨(.sames M M),(.cons (EntW.mix aB M (SubC.of_eq M) (SubC.of_eq M) M M) (.cons (EntW.lst M) (.cons (EntW.lst M) .nil))),bE [1000,32,33] M (by decide),(fun i hi=>by first | rfl | (show (if _ then _ else _)=_; (repeat' split) <;> omega))⟩,?_,?_⟩
            exact h
            exact Nat.lt_succ_self _
           ·
            replace h:=cB h hc82
            refine aS ?_
            refine bJ ?_
            refine aM ?_
            obtain ⟨x85,hx85,h⟩:=bC h
            refine bA (aA M (bO M M (lb M) (svI M) (sv (d:=.int _ 1) M) M hx85)<|aA M (mvI M M M M)<|bL ?_)
            refine aM ⟨(n3,x85,v60,v61,v62,v63,v64,v65,v66,v67),(fun i=>i),⟨(.sames M M),(.cons (EntW.mix aB M (SubC.of_eq M) (SubC.of_eq M) M M) (.cons (EntW.lst M) (.cons (EntW.lst M) .nil))),bE [1000,32,2] M (by decide),fun _ _=>M⟩,?_,?_⟩
            exact h
            exact Nat.lt_succ_self _
          ·
           replace h:=cB h hc78
           refine cU ?_
           refine bK ?_
           refine bK ?_
           refine cW ?_
           obtain rfl:=sj_ h
           refine ⟨.inl M,(fun i=>if i=0 then 2 else i),⟨.nil,(.cons (EntW.mix aB M (SubC.of_eq M) (SubC.of_eq M) M M) (.cons (EntW.lst M) .nil)),bE [1000,2] M (by decide),(fun i hi=>by first | rfl | (show (if _ then _ else _)=_; (repeat' split) <;> omega))⟩,.nil,M⟩
    ·
     replace h:=cB h hc32
     refine aS ?_
     refine aM ?_
     obtain ⟨x86,hx86,h⟩:=aX h
     refine aF (aA M (mvR M M M M)<|aA M (mvI M M M M)<|aA M (aL M M (lb M) (svR M))<|aA M (faR 5 M M M underlying67 M ti65 (lb M) M M)<|aA M (dO aB.toEnc0 M M (lb M) underlying65 ti64 (svR M) (iQ hx29 hk27) (svI M) hx86)<|aA M (bZ M M (lb M) underlying64 M ti3 (by decide) (svR M) (k':=2) M)<|aA M (aG M M (lb M) (svR M))<|aD ?_)
     refine aY ?_
     refine ⟨.inr M,11,_,[.ref 1000 (5 + (((x1:Int).toNat) * aB.sz + 2))],(.cons (sv M) .nil),M,M,⟨[(0,.yld 9),(1,.ref 4 0),(8,.ref 1000 (5 + (((x1:Int).toNat) * aB.sz + 2)))],[(2,.blk 3 (D.flat (x25.2.2.2.2.2.2.2.map (eInt .i64).d))),(4,.blk 25 [.ref 1000 0]),(5,.blk 3 [.int .i64 x1]),(6,.kept 1 (.ref 1000 0::(.int .i64 a0::(dd_ 54 (.fn 83 [.ref 4 0,.ref 5 0]::(dd_ 14 [])))))),(7,.kept 2 [.dead,.dead,.dead,.fn 83 [.ref 4 0,.ref 5 0],.dead]),(8,.blk 30 [.nils]),(9,.loop 3 [.dead,.dead,.ref 8 0,.dead,.dead,.dead,.fn 83 [.ref 4 0,.ref 5 0],.dead,.dead,.dead,.dead,.dead,.dead] .ready none),(10,.kept 3 (.dead::(.dead::(.ref 8 0::(.dead::(.dead::(.dead::(.fn 83 [.ref 4 0,.ref 5 0]::(dd_ 6 []))))))))),(1000,.blk 67 (mixD aB.toEnc0 (w26 x25.1 x25.2.1 x25.2.2.1 x25.2.2.2.1 x25.2.2.2.2.1) x29 [.int .i64 x25.2.2.2.2.2.2.1,.osl 2 (eInt .i64).sz x25.2.2.2.2.2.2.2.length]))]⟩,(fun i=>i),⟨(.sames M M),(.cons (EntW.lst M) (.cons (.blk M M M) (.cons (.blk M M M) (.cons (.kept M M M) (.cons (.kept M M M) (.cons (.blk M M M) (.cons (.loop M M M) (.cons (.kept M M M) (.cons (EntW.mix aB M (SubC.of_eq M) (SubC.of_eq M) M M) .nil))))))))),bE [2,4,5,6,7,8,9,10,1000] M (by decide),fun _ _=>M⟩,?_⟩
     obtain ⟨x87,hx87,h⟩:=aX h
     refine aA M (aL M M (lb M) (svR M))<|aA M (cM aB.toEnc0 (b:=5) (k:=2) (d:=.int _ _) M M (lb M) underlying3 ag3 ti3 (by decide) (svR M) M M hx87 (nle M) M)<|aA M (asI M M M M)<|aD ?_
     refine bB ?_
     refine cP (α:=Nat × Int × (List Int)) (fun z=>⟨[(0,.yld 9),(1,.ref 4 0),(4,.int .i64 z.2.1)],[(9,.loop 3 [.dead,.dead,.ref 8 0,.dead,.dead,.dead,.fn 83 [.ref 4 0,.ref 5 0],.dead,.dead,.dead,.dead,.dead,.dead] .ready none),(4,.blk 25 [.ref 1000 0]),(6,.kept 1 (.ref 1000 0::(.int .i64 a0::(dd_ 54 (.fn 83 [.ref 4 0,.ref 5 0]::(dd_ 14 [])))))),(7,.kept 2 [.dead,.dead,.dead,.fn 83 [.ref 4 0,.ref 5 0],.dead]),(10,.kept 3 (.dead::(.dead::(.ref 8 0::(.dead::(.dead::(.dead::(.fn 83 [.ref 4 0,.ref 5 0]::(dd_ 6 []))))))))),(1000,.blk 67 (mixD aB.toEnc0 (w26 x25.1 x25.2.1 x25.2.2.1 x25.2.2.2.1 x25.2.2.2.2.1) x29 [.int .i64 x25.2.2.2.2.2.2.1,.osl 2 (eInt .i64).sz x25.2.2.2.2.2.2.2.length])),(8,.blk 30 [.osl 32 (eInt .i64).sz z.2.2.length]),(5,.blk 3 [.int .i64 x1]),(2,.blk 3 (D.flat (x25.2.2.2.2.2.2.2.map (eInt .i64).d))),(32,.blk 3 (D.flat (z.2.2.map (eInt .i64).d)))]⟩) (fun z=>fG a0 x25 x29 z.1 z.2.1 z.2.2=some r) (fun z=>z.1) (fuel,x87.first,([]:(List Int))) (fun i=>if i=32 then 94 else i) ⟨(.sames M M),(.cons (.loop M M M) (.cons (.blk M M M) (.cons (.kept M M M) (.cons (.kept M M M) (.cons (.kept M M M) (.cons (EntW.mix aB M (SubC.of_eq M) (SubC.of_eq M) M M) (.cons (.sub M (.nilo .nil) M) (.cons (.blk M M M) (.cons (EntW.lst M) (.cons (.nilb M) .nil)))))))))),bE [9,4,6,7,10,1000,8,5,2,94] M (by decide),(fun i hi=>by first | rfl | (show (if _ then _ else _)=_; (repeat' split) <;> omega))⟩ ?_ ?_
     ·exact h
     ·
      rintro ⟨n4,v93,v94⟩ h
      cases n4 with
      | zero=>exact absurd h (by unfold fG; exact nofun)
      | succ n4 =>
       unfold fG at h
       refine aT ?_
       obtain ⟨x100,hx100,h⟩:=bC h
       refine aF (aA M (mvI M M M M)<|aA M (aQ M M (lb M) (svI M) (sv (d:=.int _ (-1)) M) M hx100)<|aD ?_)
       refine aR (b:=_) M (fun hc101=>?_) (fun hc101=>?_)
       ·
        replace h:=cA h hc101
        refine aS ?_
        refine aM ?_
        refine bB ?_
        obtain ⟨x102,hx102,h⟩:=aX h
        obtain ⟨x103,hx103,h⟩:=aX h
        refine aF (aA M (aI (d:=.ref _ _) M M (lb M) underlying25 ag25 ti25 (by decide) (svR M) M (nle M) M)<|aA M (mvI M M M M)<|aA M (aL M M (lb M) (svR M))<|aA M (faR 5 M M M underlying67 M ti65 (lb M) M M)<|aA M (dO aB.toEnc0 M M (lb M) underlying65 ti64 (svR M) (iQ hx29 hk27) (svI M) hx102)<|aA M (bZ M M (lb M) underlying64 M ti3 (by decide) (svR M) (k':=3) M)<|aA M (cM aB.toEnc0 (b:=5) (k:=3) (d:=.int _ _) M M (lb M) underlying3 ag3 ti3 (by decide) (svR M) M M hx103 (nle M) M)<|aA M (asI M M M M)<|aD ?_)
        refine aT ?_
        refine aF (aA M (aO M M (lb M) (sv (d:=.yld _) M))<|aA M (mvI M M M M) <|?_)
        refine jE (S':=⟨[(0,.yld 9),(1,.ref 4 0),(5,.int .i64 x103.next),(20,.yld 9),(21,.int .i64 v93)],[(2,.blk 3 (D.flat (x25.2.2.2.2.2.2.2.map (eInt .i64).d))),(4,.blk 25 [.ref 1000 0]),(5,.blk 3 [.int .i64 x1]),(6,.kept 1 (.ref 1000 0::(.int .i64 a0::(dd_ 54 (.fn 83 [.ref 4 0,.ref 5 0]::(dd_ 14 [])))))),(7,.kept 2 [.dead,.dead,.dead,.fn 83 [.ref 4 0,.ref 5 0],.dead]),(8,.blk 30 [.osl 32 (eInt .i64).sz v94.length]),(9,.loop 3 [.dead,.dead,.ref 8 0,.dead,.dead,.dead,.fn 83 [.ref 4 0,.ref 5 0],.dead,.dead,.dead,.dead,.dead,.dead] .ready none),(10,.kept 3 (.dead::(.dead::(.ref 8 0::(.dead::(.dead::(.dead::(.fn 83 [.ref 4 0,.ref 5 0]::(dd_ 6 []))))))))),(32,.blk 3 (D.flat (v94.map (eInt .i64).d))),(1000,.blk 67 (mixD aB.toEnc0 (w26 x25.1 x25.2.1 x25.2.2.1 x25.2.2.2.1 x25.2.2.2.2.1) x29 [.int .i64 x25.2.2.2.2.2.2.1,.osl 2 (eInt .i64).sz x25.2.2.2.2.2.2.2.length]))]⟩) (fun i=>i) ⟨(.sames M M),(.cons (EntW.lst M) (.cons (.blk M M M) (.cons (.blk M M M) (.cons (.kept M M M) (.cons (.kept M M M) (.cons (.blk M M M) (.cons (.loop M M M) (.cons (.kept M M M) (.cons (EntW.lst M) (.cons (EntW.mix aB M (SubC.of_eq M) (SubC.of_eq M) M M) .nil)))))))))),bE [2,4,5,6,7,8,9,10,32,1000] M (by decide),fun _ _=>M⟩ ?_
        refine pX 4 9 33 M M M (by decide) M (.cons (svI M) .nil) M M M M M M hO3.round hlc3 ⟨[(7,.int .i64 v93),(2,.ref 8 0)],[(2,.blk 3 (D.flat (x25.2.2.2.2.2.2.2.map (eInt .i64).d))),(4,.blk 25 [.ref 1000 0]),(5,.blk 3 [.int .i64 x1]),(6,.kept 1 (.ref 1000 0::(.int .i64 a0::(dd_ 54 (.fn 83 [.ref 4 0,.ref 5 0]::(dd_ 14 [])))))),(7,.kept 2 [.dead,.dead,.dead,.fn 83 [.ref 4 0,.ref 5 0],.dead]),(8,.blk 30 [.osl 32 (eInt .i64).sz v94.length]),(9,.loop 3 [.dead,.dead,.ref 8 0,.dead,.dead,.dead,.fn 83 [.ref 4 0,.ref 5 0],.dead,.dead,.dead,.dead,.dead,.dead] .ready none),(10,.kept 3 (.dead::(.dead::(.ref 8 0::(.dead::(.dead::(.dead::(.fn 83 [.ref 4 0,.ref 5 0]::(dd_ 6 []))))))))),(32,.blk 3 (D.flat (v94.map (eInt .i64).d))),(33,.kept 4 (.yld 9::(.ref 4 0::(.dead::(.dead::(.dead::(.int .i64 x103.next::(dd_ 14 (.yld 9::(.int .i64 v93::(.dead::(.dead::(.dead::[]))))))))))))),(1000,.blk 67 (mixD aB.toEnc0 (w26 x25.1 x25.2.1 x25.2.2.1 x25.2.2.2.1 x25.2.2.2.2.1) x29 [.int .i64 x25.2.2.2.2.2.2.1,.osl 2 (eInt .i64).sz x25.2.2.2.2.2.2.2.length]))]⟩ (fun i=>i) ⟨(.sames M M),(.cons (EntW.lst M) (.cons (.blk M M M) (.cons (.blk M M M) (.cons (.kept M M M) (.cons (.kept M M M) (.cons (.blk M M M) (.cons (.loop M M M) (.cons (.kept M M M) (.cons (EntW.lst M) (.cons (.kept M M M) (.cons (EntW.mix aB M (SubC.of_eq M) (SubC.of_eq M) M M) .nil))))))))))),bE [2,4,5,6,7,8,9,10,32,33,1000] M (by decide),fun _ _=>M⟩ fun O4=>?_
        refine bA (aA M (asI M M M M)<|bL ?_)
        refine ⟨M,9,_,M,⟨[(2,.ref 8 0),(5,.int .i64 v93)],[(2,.blk 3 (D.flat (x25.2.2.2.2.2.2.2.map (eInt .i64).d))),(4,.blk 25 [.ref 1000 0]),(5,.blk 3 [.int .i64 x1]),(6,.kept 1 (.ref 1000 0::(.int .i64 a0::(dd_ 54 (.fn 83 [.ref 4 0,.ref 5 0]::(dd_ 14 [])))))),(7,.kept 2 [.dead,.dead,.dead,.fn 83 [.ref 4 0,.ref 5 0],.dead]),(8,.blk 30 [.osl 32 (eInt .i64).sz v94.length]),(9,.loop 3 [.dead,.dead,.ref 8 0,.dead,.dead,.dead,.fn 83 [.ref 4 0,.ref 5 0],.dead,.dead,.dead,.dead,.dead,.dead] .busy none),(10,.kept 3 (.dead::(.dead::(.ref 8 0::(.dead::(.dead::(.dead::(.fn 83 [.ref 4 0,.ref 5 0]::(dd_ 6 []))))))))),(32,.blk 3 (D.flat (v94.map (eInt .i64).d))),(33,.kept 4 (.yld 9::(.ref 4 0::(.dead::(.dead::(.dead::(.int .i64 x103.next::(dd_ 14 (.yld 9::(.int .i64 v93::(.dead::(.dead::(.dead::[]))))))))))))),(1000,.blk 67 (mixD aB.toEnc0 (w26 x25.1 x25.2.1 x25.2.2.1 x25.2.2.2.1 x25.2.2.2.2.1) x29 [.int .i64 x25.2.2.2.2.2.2.1,.osl 2 (eInt .i64).sz x25.2.2.2.2.2.2.2.length]))]⟩,(fun i=>i),⟨(.sames M M),(.cons (EntW.lst M) (.cons (.blk M M M) (.cons (.blk M M M) (.cons (.kept M M M) (.cons (.kept M M M) (.cons (.blk M M M) (.cons (.loop M M M) (.cons (.kept M M M) (.cons (EntW.lst M) (.cons (.kept M M M) (.cons (EntW.mix aB M (SubC.of_eq M) (SubC.of_eq M) M M) .nil))))))))))),bE [2,4,5,6,7,8,9,10,32,33,1000] M (by decide),fun _ _=>M⟩,?_⟩
        refine bB ?_
        obtain ⟨x104,hx104,h⟩:=aX h
        refine bA (aA M (aI (d:=.osl _ _ _) M M (lb M) underlying30 ag30 ti30 (by decide) (svR M) M (nle M) M)<|aA M (mvI M M M M)<|aA M (lD (eInt .i64).toEnc0 ([v93]:(List Int)) 34 M M (lb M) underlying30 ti3 M (.cons (svI M) .nil) M M (by decide))<|aA M (iH (eInt .i64).toEnc0 35 M M (lb M) underlying30 ti3 M M M M M (qP (eInt .i64).toEnc0 M M M) hx104)<|aA M (dZ (ds':=[.osl _ _ _]) M M ti30 (svR M) M (sv (d:=.osl _ _ _) M) M M M (nle M) M)<|bL ?_)
        refine bJ ?_
        refine ⟨9,33,_,_,none,M,M,M,M,(by decide),⟨[(0,.yld 9),(1,.ref 4 0),(5,.int .i64 x103.next),(22,.bool true)],[(2,.blk 3 (D.flat (x25.2.2.2.2.2.2.2.map (eInt .i64).d))),(4,.blk 25 [.ref 1000 0]),(5,.blk 3 [.int .i64 x1]),(6,.kept 1 (.ref 1000 0::(.int .i64 a0::(dd_ 54 (.fn 83 [.ref 4 0,.ref 5 0]::(dd_ 14 [])))))),(7,.kept 2 [.dead,.dead,.dead,.fn 83 [.ref 4 0,.ref 5 0],.dead]),(8,.blk 30 [.osl 35 (eInt .i64).sz x104.length]),(9,.loop 3 [.dead,.dead,.ref 8 0,.dead,.dead,.dead,.fn 83 [.ref 4 0,.ref 5 0],.dead,.dead,.dead,.dead,.dead,.dead] .ready none),(10,.kept 3 (.dead::(.dead::(.ref 8 0::(.dead::(.dead::(.dead::(.fn 83 [.ref 4 0,.ref 5 0]::(dd_ 6 []))))))))),(35,.blk 3 (D.flat (x104.map (eInt .i64).d))),(1000,.blk 67 (mixD aB.toEnc0 (w26 x25.1 x25.2.1 x25.2.2.1 x25.2.2.2.1 x25.2.2.2.2.1) x29 [.int .i64 x25.2.2.2.2.2.2.1,.osl 2 (eInt .i64).sz x25.2.2.2.2.2.2.2.length]))]⟩,(fun i=>i),⟨(.sames M M),(.cons (EntW.lst M) (.cons (.blk M M M) (.cons (.blk M M M) (.cons (.kept M M M) (.cons (.kept M M M) (.cons (.blk M M M) (.cons (.loop M M M) (.cons (.kept M M M) (.cons (EntW.lst M) (.cons (EntW.mix aB M (SubC.of_eq M) (SubC.of_eq M) M M) .nil)))))))))),bE [2,4,5,6,7,8,9,10,35,1000] M (by decide),fun _ _=>M⟩,?_⟩
        refine aA M (gD M M (lb M) (svB M))<|aD ?_
        refine jD M M ?_
        refine aS ?_
        refine aM ?_
        refine bA (aA M (mvI M M M M)<|aA M (asI M M M M)<|bL ?_)
        refine bJ ?_
        refine aM ⟨(n4,x103.next,x104),(fun i=>if i=32 then 35 else i),⟨(.sames M M),(.cons (.loop M M M) (.cons (.blk M M M) (.cons (.kept M M M) (.cons (.kept M M M) (.cons (.kept M M M) (.cons (EntW.mix aB M (SubC.of_eq M) (SubC.of_eq M) M M) (.cons (.blk M M M) (.cons (.blk M M M) (.cons (EntW.lst M) (.cons (EntW.lst M) .nil)))))))))),bE [9,4,6,7,10,1000,8,5,2,35] M (by decide),(fun i hi=>by first | rfl | (show (if _ then _ else _)=_; (repeat' split) <;> omega))⟩,?_,?_⟩
        exact h
        exact Nat.lt_succ_self _
       ·
        replace h:=cB h hc101
        refine cU ?_
        refine bK ?_
        refine bK ?_
        refine cW ?_
        refine ⟨.inl M,9,10,_,_,_,_,M,(by simp),M,M,⟨[(2,.ref 8 0)],[(2,.blk 3 (D.flat (x25.2.2.2.2.2.2.2.map (eInt .i64).d))),(4,.blk 25 [.ref 1000 0]),(5,.blk 3 [.int .i64 x1]),(6,.kept 1 (.ref 1000 0::(.int .i64 a0::(dd_ 54 (.fn 83 [.ref 4 0,.ref 5 0]::(dd_ 14 [])))))),(7,.kept 2 [.dead,.dead,.dead,.fn 83 [.ref 4 0,.ref 5 0],.dead]),(8,.blk 30 [.osl 32 (eInt .i64).sz v94.length]),(32,.blk 3 (D.flat (v94.map (eInt .i64).d))),(1000,.blk 67 (mixD aB.toEnc0 (w26 x25.1 x25.2.1 x25.2.2.1 x25.2.2.2.1 x25.2.2.2.2.1) x29 [.int .i64 x25.2.2.2.2.2.2.1,.osl 2 (eInt .i64).sz x25.2.2.2.2.2.2.2.length]))]⟩,(fun i=>i),⟨(.sames M M),(.cons (EntW.lst M) (.cons (.blk M M M) (.cons (.blk M M M) (.cons (.kept M M M) (.cons (.kept M M M) (.cons (.blk M M M) (.cons (EntW.lst M) (.cons (EntW.mix aB M (SubC.of_eq M) (SubC.of_eq M) M M) .nil)))))))),bE [2,4,5,6,7,8,32,1000] M (by decide),fun _ _=>M⟩,?_⟩
        refine bJ ?_
        refine aM ?_
        refine aF (aA M (aI (d:=.osl _ _ _) M M (lb M) underlying30 ag30 ti30 (by decide) (svR M) M (nle M) M)<|aA M (aG M M (lb M) (sv (d:=.osl _ _ _) M))<|aD ?_)
        refine aY ?_
        refine ⟨.inr M,7,_,[.osl 32 (eInt .i64).sz v94.length],(.cons (sv M) .nil),M,M,⟨[(4,.osl 32 (eInt .i64).sz v94.length)],[(2,.blk 3 (D.flat (x25.2.2.2.2.2.2.2.map (eInt .i64).d))),(4,.blk 25 [.ref 1000 0]),(5,.blk 3 [.int .i64 x1]),(6,.kept 1 (.ref 1000 0::(.int .i64 a0::(dd_ 54 (.fn 83 [.ref 4 0,.ref 5 0]::(dd_ 14 [])))))),(32,.blk 3 (D.flat (v94.map (eInt .i64).d))),(1000,.blk 67 (mixD aB.toEnc0 (w26 x25.1 x25.2.1 x25.2.2.1 x25.2.2.2.1 x25.2.2.2.2.1) x29 [.int .i64 x25.2.2.2.2.2.2.1,.osl 2 (eInt .i64).sz x25.2.2.2.2.2.2.2.length]))]⟩,(fun i=>i),⟨(.sames M M),(.cons (EntW.lst M) (.cons (.blk M M M) (.cons (.blk M M M) (.cons (.kept M M M) (.cons (EntW.lst M) (.cons (EntW.mix aB M (SubC.of_eq M) (SubC.of_eq M) M M) .nil)))))),bE [2,4,5,6,32,1000] M (by decide),fun _ _=>M⟩,?_⟩
        refine aA M (aG M M (lb M) (sv (d:=.osl _ _ _) M))<|aD ?_
        refine aY ?_
        refine ⟨.inr M,6,_,[.osl 32 (eInt .i64).sz v94.length],(.cons (sv M) .nil),M,M,⟨[(0,.ref 1000 0),(1,.int .i64 a0),(57,.osl 32 (eInt .i64).sz v94.length)],[(2,.blk 3 (D.flat (x25.2.2.2.2.2.2.2.map (eInt .i64).d))),(32,.blk 3 (D.flat (v94.map (eInt .i64).d))),(1000,.blk 67 (mixD aB.toEnc0 (w26 x25.1 x25.2.1 x25.2.2.1 x25.2.2.2.1 x25.2.2.2.2.1) x29 [.int .i64 x25.2.2.2.2.2.2.1,.osl 2 (eInt .i64).sz x25.2.2.2.2.2.2.2.length]))]⟩,(fun i=>i),⟨(.sames M M),(.cons (EntW.lst M) (.cons (EntW.lst M) (.cons (EntW.mix aB M (SubC.of_eq M) (SubC.of_eq M) M M) .nil))),bE [2,32,1000] M (by decide),fun _ _=>M⟩,?_⟩
        refine aA M (kV M M (lb M) underlying30 (sv (d:=.osl _ _ _) M))<|aA M (aO M M (lb M) (sv (d:=.int _ 0) M))<|aD ?_
        refine bB ?_
        refine cP (α:=Nat × Int × Int × Int × (List aK) × Int × Int × (List aJ) × Int × (List Int)) (fun z=>⟨[(0,.ref 1000 0),(1,.int .i64 a0),(57,.osl 32 (eInt .i64).sz v94.length),(58,.int .i64 (v94.length:Int)),(59,.int .i64 z.2.1)],[(1000,.blk 67 (mixD aB.toEnc0 (w26 z.2.2.1 z.2.2.2.1 z.2.2.2.2.1 z.2.2.2.2.2.1 z.2.2.2.2.2.2.1) z.2.2.2.2.2.2.2.1 [.int .i64 z.2.2.2.2.2.2.2.2.1,.osl 2 (eInt .i64).sz z.2.2.2.2.2.2.2.2.2.length])),(32,.blk 3 (D.flat (v94.map (eInt .i64).d))),(2,.blk 3 (D.flat (z.2.2.2.2.2.2.2.2.2.map (eInt .i64).d)))]⟩) (fun z=>eF a0 v94 z.1 z.2.1 z.2.2.1 z.2.2.2.1 z.2.2.2.2.1 z.2.2.2.2.2.1 z.2.2.2.2.2.2.1 z.2.2.2.2.2.2.2.1 z.2.2.2.2.2.2.2.2.1 z.2.2.2.2.2.2.2.2.2=some r) (fun z=>z.1) (fuel,0,x25.1,x25.2.1,x25.2.2.1,x25.2.2.2.1,x25.2.2.2.2.1,x29,x25.2.2.2.2.2.2.1,x25.2.2.2.2.2.2.2) (fun i=>i) ⟨(.sames M M),(.cons (EntW.mix aB M (SubC.of_eq M) (SubC.of_eq M) M M) (.cons (EntW.lst M) (.cons (EntW.lst M) .nil))),bE [1000,32,2] M (by decide),fun _ _=>M⟩ ?_ ?_
        ·exact h
        ·
         rintro ⟨n5,v114,v115,v116,v117,v118,v119,v120,v121,v122⟩ h
         cases n5 with
         | zero=>exact absurd h (by unfold eF; exact nofun)
         | succ n5 =>
          unfold eF at h
          obtain ⟨x132,hx132,h⟩:=bC h
          refine aF (aA M (aQ M M (lb M) (svI M) (svI M) M hx132)<|aD ?_)
          refine aT ?_
          refine aR (b:=_) M (fun hc133=>?_) (fun hc133=>?_)
          ·
           replace h:=cA h hc133
           refine aS ?_
           refine aM ?_
           refine aT ?_
           refine bB ?_
           obtain ⟨x134,hx134,h⟩:=aX h
           obtain ⟨x135,hx135,h⟩:=aX h
           refine aF (aA M (fY (eInt .i64).toEnc0 M M (lb M) underlying30 ti3 (sv (d:=.osl _ _ _) M) M (svI M) hx134)<|aA M (fP (eInt .i64).toEnc0 (d:=.int _ _) M M (lb M) underlying3 ag3 ti3 (by decide) (svR M) M hx135 (nle M) M)<|aA M (asI M M M M)<|aD ?_)
           obtain ⟨x136,hx136,h⟩:=bC h
           refine aF (aA M (mvI M M M M)<|aA M (mvI M M M M)<|aA M (aQ M M (lb M) (svI M) (svI M) M hx136)<|aD ?_)
           refine aR (b:=_) M (fun hc137=>?_) (fun hc137=>?_)
           ·
            replace h:=cA h hc137
            obtain ⟨x138,hx138,h⟩:=aX h
            refine bA (aA M (mvR M M M M)<|aA M (mvI M M M M)<|aA M (mvI M M M M)<|aA M (cQ (r':=.tuple []) (H1':=[(1000,.blk 67 (mixD aB.toEnc0 (w26 x138.1 x138.2.1 x138.2.2.1 x138.2.2.2.1 x138.2.2.2.2.1) x138.2.2.2.2.2.1 [.int .i64 x138.2.2.2.2.2.2.1,.osl 33 (eInt .i64).sz x138.2.2.2.2.2.2.2.length])),(33,.blk 3 (D.flat (x138.2.2.2.2.2.2.2.map (eInt .i64).d)))]) 33 [1000,2] M M (lb M) cl65 (.cons (svR M) (.cons (svI M) (.cons (svI M) .nil))) M M ⟨M,M,by decide,M,List.forall_mem_cons.2 ⟨⟨M,M,(mT aB M M M),(eA aB M M)⟩,List.forall_mem_cons.2 ⟨⟨M,M,(iF (eInt .i64) M),(bP (eInt .i64))⟩,List.forall_mem_nil _⟩⟩⟩ (iP _ _ _ _ _ _ _ _ _ _ _ hx138) M M (List.forall_mem_cons.2 ⟨⟨M,(eA aB M M)⟩,List.forall_mem_cons.2 ⟨⟨M,(bP (eInt .i64))⟩,List.forall_mem_nil _⟩⟩) (by simp only [List.map_cons,List.map_nil,Ent.ren,bT,cE,eL]; rfl))<|bL ?_)
            refine bJ ?_
            refine aM ?_
            obtain ⟨x139,hx139,h⟩:=bC h
            refine bA (aA M (bO M M (lb M) (svI M) (sv (d:=.int _ 1) M) M hx139)<|aA M (mvI M M M M)<|bL ?_)
            refine aM ⟨(n5,x139,x138.1,x138.2.1,x138.2.2.1,x138.2.2.2.1,x138.2.2.2.2.1,x138.2.2.2.2.2.1,x138.2.2.2.2.2.2.1,x138.2.2.2.2.2.2.2),(fun i=>if i=2 then 33 else i),⟨(.sames M M),(.cons (EntW.mix aB M (SubC.of_eq M) (SubC.of_eq M) M M) (.cons (EntW.lst M) (.cons (EntW.lst M) .nil))),bE [1000,32,33] M (by decide),(fun i hi=>by first | rfl | (show (if _ then _ else _)=_; (repeat' split) <;> omega))⟩,?_,?_⟩
            exact h
            exact Nat.lt_succ_self _
           ·
            replace h:=cB h hc137
            refine aS ?_
            refine bJ ?_
            refine aM ?_
            obtain ⟨x140,hx140,h⟩:=bC h
            refine bA (aA M (bO M M (lb M) (svI M) (sv (d:=.int _ 1) M) M hx140)<|aA M (mvI M M M M)<|bL ?_)
            refine aM ⟨(n5,x140,v115,v116,v117,v118,v119,v120,v121,v122),(fun i=>i),⟨(.sames M M),(.cons (EntW.mix aB M (SubC.of_eq M) (SubC.of_eq M) M M) (.cons (EntW.lst M) (.cons (EntW.lst M) .nil))),bE [1000,32,2] M (by decide),fun _ _=>M⟩,?_,?_⟩
            exact h
            exact Nat.lt_succ_self _
          ·
           replace h:=cB h hc133
           refine cU ?_
           refine bK ?_
           refine bK ?_
           refine cW ?_
           obtain rfl:=sj_ h
           refine ⟨.inl M,(fun i=>if i=0 then 2 else i),⟨.nil,(.cons (EntW.mix aB M (SubC.of_eq M) (SubC.of_eq M) M M) (.cons (EntW.lst M) .nil)),bE [1000,2] M (by decide),(fun i hi=>by first | rfl | (show (if _ then _ else _)=_; (repeat' split) <;> omega))⟩,.nil,M⟩
end Go.Proofs.YtknpfbfkaccgmaaGreat
