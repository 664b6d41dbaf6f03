/-
  A part of the proof: rules and plain facts. No condition.
-/
import Derived.Test.YtknpfbfkaccgmaaGreatProg
import Derived.KernelRfl
import Derived.Test.YtknpfbfkaccgmaaGreatIlPn
import Derived.Test.YtknpfbfkaccgmaaGreatIlA34tD
import Derived.Test.YtknpfbfkaccgmaaGreatIlIt34t
import Derived.Test.YtknpfbfkaccgmaaGreatIlA34tC1
set_option linter.all false
set_option maxRecDepth 8000
set_option maxHeartbeats 2000000
open Go Go.IL Go.Fn Go.Proofs
open Go.Proofs.Tryz
namespace Go.Proofs.YtknpfbfkaccgmaaGreat
theorem ti59:TI prog 59 (some (.slice none 0 0)) 1 24:=by unfold TI; kernel_rfl
theorem ti61:TI prog 61 (some (.agg #[.slice none 0 0,.int .i64 0,.int .i64 0])) 3 40:=by unfold TI; kernel_rfl
theorem ti64:TI prog 64 (some (.agg #[.int .i64 0,.int .i64 0,.int .i64 0,.int .i64 0,.int .i64 0,.bool false])) 6 48:=by unfold TI; kernel_rfl
theorem ti65:TI prog 65 (some (.agg #[.int .i64 0,.int .i64 0,.int .i64 0,.int .i64 0,.int .i64 0,.bool false,.int .i64 0,.int .i64 0,.int .i64 0,.int .i64 0,.int .i64 0,.bool false,.int .i64 0,.int .i64 0,.int .i64 0,.int .i64 0,.int .i64 0,.bool false,.int .i64 0,.int .i64 0,.int .i64 0,.int .i64 0,.int .i64 0,.bool false,.int .i64 0,.int .i64 0,.int .i64 0,.int .i64 0,.int .i64 0,.bool false,.int .i64 0,.int .i64 0,.int .i64 0,.int .i64 0,.int .i64 0,.bool false,.int .i64 0,.int .i64 0,.int .i64 0,.int .i64 0,.int .i64 0,.bool false,.int .i64 0,.int .i64 0,.int .i64 0,.int .i64 0,.int .i64 0,.bool false,.int .i64 0,.int .i64 0,.int .i64 0,.int .i64 0,.int .i64 0,.bool false,.int .i64 0,.int .i64 0,.int .i64 0,.int .i64 0,.int .i64 0,.bool false,.int .i64 0,.int .i64 0,.int .i64 0,.int .i64 0,.int .i64 0,.bool false,.int .i64 0,.int .i64 0,.int .i64 0,.int .i64 0,.int .i64 0,.bool false,.int .i64 0,.int .i64 0,.int .i64 0,.int .i64 0,.int .i64 0,.bool false,.int .i64 0,.int .i64 0,.int .i64 0,.int .i64 0,.int .i64 0,.bool false,.int .i64 0,.int .i64 0,.int .i64 0,.int .i64 0,.int .i64 0,.bool false,.int .i64 0,.int .i64 0,.int .i64 0,.int .i64 0,.int .i64 0,.bool false,.int .i64 0,.int .i64 0,.int .i64 0,.int .i64 0,.int .i64 0,.bool false,.int .i64 0,.int .i64 0,.int .i64 0,.int .i64 0,.int .i64 0,.bool false,.int .i64 0,.int .i64 0,.int .i64 0,.int .i64 0,.int .i64 0,.bool false,.int .i64 0,.int .i64 0,.int .i64 0,.int .i64 0,.int .i64 0,.bool false,.int .i64 0,.int .i64 0,.int .i64 0,.int .i64 0,.int .i64 0,.bool false,.int .i64 0,.int .i64 0,.int .i64 0,.int .i64 0,.int .i64 0,.bool false,.int .i64 0,.int .i64 0,.int .i64 0,.int .i64 0,.int .i64 0,.bool false,.int .i64 0,.int .i64 0,.int .i64 0,.int .i64 0,.int .i64 0,.bool false,.int .i64 0,.int .i64 0,.int .i64 0,.int .i64 0,.int .i64 0,.bool false,.int .i64 0,.int .i64 0,.int .i64 0,.int .i64 0,.int .i64 0,.bool false,.int .i64 0,.int .i64 0,.int .i64 0,.int .i64 0,.int .i64 0,.bool false,.int .i64 0,.int .i64 0,.int .i64 0,.int .i64 0,.int .i64 0,.bool false,.int .i64 0,.int .i64 0,.int .i64 0,.int .i64 0,.int .i64 0,.bool false,.int .i64 0,.int .i64 0,.int .i64 0,.int .i64 0,.int .i64 0,.bool false,.int .i64 0,.int .i64 0,.int .i64 0,.int .i64 0,.int .i64 0,.bool false,.int .i64 0,.int .i64 0,.int .i64 0,.int .i64 0,.int .i64 0,.bool false,.int .i64 0,.int .i64 0,.int .i64 0,.int .i64 0,.int .i64 0,.bool false,.int .i64 0,.int .i64 0,.int .i64 0,.int .i64 0,.int .i64 0,.bool false,.int .i64 0,.int .i64 0,.int .i64 0,.int .i64 0,.int .i64 0,.bool false,.int .i64 0,.int .i64 0,.int .i64 0,.int .i64 0,.int .i64 0,.bool false,.int .i64 0,.int .i64 0,.int .i64 0,.int .i64 0,.int .i64 0,.bool false,.int .i64 0,.int .i64 0,.int .i64 0,.int .i64 0,.int .i64 0,.bool false,.int .i64 0,.int .i64 0,.int .i64 0,.int .i64 0,.int .i64 0,.bool false,.int .i64 0,.int .i64 0,.int .i64 0,.int .i64 0,.int .i64 0,.bool false,.int .i64 0,.int .i64 0,.int .i64 0,.int .i64 0,.int .i64 0,.bool false,.int .i64 0,.int .i64 0,.int .i64 0,.int .i64 0,.int .i64 0,.bool false,.int .i64 0,.int .i64 0,.int .i64 0,.int .i64 0,.int .i64 0,.bool false,.int .i64 0,.int .i64 0,.int .i64 0,.int .i64 0,.int .i64 0,.bool false,.int .i64 0,.int .i64 0,.int .i64 0,.int .i64 0,.int .i64 0,.bool false,.int .i64 0,.int .i64 0,.int .i64 0,.int .i64 0,.int .i64 0,.bool false,.int .i64 0,.int .i64 0,.int .i64 0,.int .i64 0,.int .i64 0,.bool false,.int .i64 0,.int .i64 0,.int .i64 0,.int .i64 0,.int .i64 0,.bool false,.int .i64 0,.int .i64 0,.int .i64 0,.int .i64 0,.int .i64 0,.bool false,.int .i64 0,.int .i64 0,.int .i64 0,.int .i64 0,.int .i64 0,.bool false,.int .i64 0,.int .i64 0,.int .i64 0,.int .i64 0,.int .i64 0,.bool false,.int .i64 0,.int .i64 0,.int .i64 0,.int .i64 0,.int .i64 0,.bool false,.int .i64 0,.int .i64 0,.int .i64 0,.int .i64 0,.int .i64 0,.bool false,.int .i64 0,.int .i64 0,.int .i64 0,.int .i64 0,.int .i64 0,.bool false,.int .i64 0,.int .i64 0,.int .i64 0,.int .i64 0,.int .i64 0,.bool false,.int .i64 0,.int .i64 0,.int .i64 0,.int .i64 0,.int .i64 0,.bool false,.int .i64 0,.int .i64 0,.int .i64 0,.int .i64 0,.int .i64 0,.bool false,.int .i64 0,.int .i64 0,.int .i64 0,.int .i64 0,.int .i64 0,.bool false,.int .i64 0,.int .i64 0,.int .i64 0,.int .i64 0,.int .i64 0,.bool false,.int .i64 0,.int .i64 0,.int .i64 0,.int .i64 0,.int .i64 0,.bool false,.int .i64 0,.int .i64 0,.int .i64 0,.int .i64 0,.int .i64 0,.bool false,.int .i64 0,.int .i64 0,.int .i64 0,.int .i64 0,.int .i64 0,.bool false,.int .i64 0,.int .i64 0,.int .i64 0,.int .i64 0,.int .i64 0,.bool false,.int .i64 0,.int .i64 0,.int .i64 0,.int .i64 0,.int .i64 0,.bool false])) 384 3072:=by unfold TI; kernel_rfl
theorem ti79:TI prog 79 (some (.nilFunc)) 1 8:=by unfold TI; kernel_rfl
theorem nK:TI prog 114 (some (.agg #[.bool false,.int .i64 0,.int .i64 0])) 3 24:=by unfold TI; kernel_rfl
theorem ag26:kM prog 26=false:=by kernel_rfl
theorem ag59:kM prog 59=false:=by kernel_rfl
theorem ag61:kM prog 61=true:=by kernel_rfl
theorem ag79:kM prog 79=false:=by kernel_rfl
theorem aDA:kM prog 114=true:=by kernel_rfl
theorem pl114:∀ w,(Array.mapM (m:=Sem) (fun (f:Field)=>Functor.map (Prod.mk f.offset) (sizeOf f.type)) (fieldsOf prog 114)).run prog w = .ok #[(0,1),(1,1),(2,1)] w:=fun w=>by kernel_rfl
theorem pl32:∀ w,(Array.mapM (m:=Sem) (fun (f:Field)=>Functor.map (Prod.mk f.offset) (sizeOf f.type)) (fieldsOf prog 32)).run prog w = .ok #[(0,1),(1,1),(2,1),(3,1)] w:=fun w=>by kernel_rfl
theorem pl61:∀ w,(Array.mapM (m:=Sem) (fun (f:Field)=>Functor.map (Prod.mk f.offset) (sizeOf f.type)) (fieldsOf prog 61)).run prog w = .ok #[(0,1),(1,1),(2,1)] w:=fun w=>by kernel_rfl
theorem st53:prog.stoodInHeld 53=false ∧ prog.eqGuardType prog.depth 53=false:=⟨by kernel_rfl,by kernel_rfl⟩
theorem cl15:bI prog 15:=⟨f15,func15,rfl,rfl⟩
theorem cl17:bI prog 17:=⟨f17,func17,rfl,rfl⟩
theorem cl18:bI prog 18:=⟨f18,func18,rfl,rfl⟩
theorem cl19:bI prog 19:=⟨f19,func19,rfl,rfl⟩
theorem cl20:bI prog 20:=⟨f20,func20,rfl,rfl⟩
theorem cl21:bI prog 21:=⟨f21,func21,rfl,rfl⟩
theorem cl22:bI prog 22:=⟨f22,func22,rfl,rfl⟩
theorem cl23:bI prog 23:=⟨f23,func23,rfl,rfl⟩
theorem cl40:bI prog 40:=⟨f40,func40,rfl,rfl⟩
theorem cl47:bI prog 47:=⟨f47,func47,rfl,rfl⟩
theorem cl48:bI prog 48:=⟨f48,func48,rfl,rfl⟩
theorem cl50:bI prog 50:=⟨f50,func50,rfl,rfl⟩
theorem cl51:bI prog 51:=⟨f51,func51,rfl,rfl⟩
theorem cl63:bI prog 63:=⟨f63,func63,rfl,rfl⟩
theorem cl68:bI prog 68:=⟨f68,func68,rfl,rfl⟩
theorem cl70:bI prog 70:=⟨f70,func70,rfl,rfl⟩
theorem cl72:bI prog 72:=⟨f72,func72,rfl,rfl⟩
theorem cl80:bI prog 80:=⟨f80,func80,rfl,rfl⟩
theorem cl81:bI prog 81:=⟨f81,func81,rfl,rfl⟩
theorem cl84:bI prog 84:=⟨f84,func84,rfl,rfl⟩
theorem cl85:bI prog 85:=⟨f85,func85,rfl,rfl⟩
theorem cl86:bI prog 86:=⟨f86,func86,rfl,rfl⟩
theorem cl87:bI prog 87:=⟨f87,func87,rfl,rfl⟩
theorem cl88:bI prog 88:=⟨f88,func88,rfl,rfl⟩
theorem cl89:bI prog 89:=⟨f89,func89,rfl,rfl⟩
theorem cl110:bI prog 110:=⟨f110,func110,rfl,rfl⟩
theorem cl111:bI prog 111:=⟨f111,func111,rfl,rfl⟩
def la59:=LA.mk underlying59 ag59 ti59 (by decide)
def la61:=LA.mk underlying61 ag61 ti61 (by decide)


theorem rY (nr:Nat):∀ (a0:Int) (a1:aV) (a2:(List Int)) (r:(List Int)) (h:lO nr a0 a1 a2=some r),FnH prog 47 [.int .i64 a0,.ref 1000 0,.ref 1001 0,.ref 1002 0] [(1000,.blk 32 (v0 a1)),(1001,.blk 30 [.osl 1003 (eInt .i64).sz a2.length]),(1002,.blk 79 [.fn 47 [.ref 1000 0,.ref 1001 0,.ref 1002 0]]),(1003,.blk 3 (D.flat (a2.map (eInt .i64).d)))] (retD []) [(1000,.blk 32 (v0 a1)),(1001,.blk 30 [.osl 0 (eInt .i64).sz r.length]),(1002,.blk 79 [.fn 47 [.ref 1000 0,.ref 1001 0,.ref 1002 0]]),(0,.blk 3 (D.flat (r.map (eInt .i64).d)))]:=by
 induction nr with
 | zero=>intro a0 a1 a2 r h; cases h
 | succ nr ih =>
 intro a0 a1 a2 r h
 replace h:nC (lO nr) a0 a1 a2=some r:=h
 refine dB (rs:=[]) func47 M ntmps47 (nle M) fun O hO=>?_
 show IWP _ _ _ _ ⟨[(0,.int .i64 a0),(1,.ref 1000 0),(2,.ref 1001 0),(3,.ref 1002 0)],[(1000,.blk 32 (v0 a1)),(1001,.blk 30 [.osl 1003 (eInt .i64).sz a2.length]),(1002,.blk 79 [.fn 47 [.ref 1000 0,.ref 1001 0,.ref 1002 0]]),(1003,.blk 3 (D.flat (a2.map (eInt .i64).d)))]⟩ _
 unfold nC at h
 refine aF (aA M (faR 2 M M M underlying32 M ti29 (lb M) M M)<|aA M (lrL la29 M M M M M (nle M) M)<|aA M (cV aC (l:=a1.Nodes) M M (lb M) underlying29 (svL M))<|aA M (aO M M (lb M) (sv (d:=.int _ 0) M))<|aD ?_)
 refine bB ?_
 refine cP (α:=Nat × Int × (List Int)) (fun z=>⟨[(0,.int .i64 a0),(2,.ref 1001 0),(3,.ref 1002 0),(8,.slice false (a1.Nodes.map aC.d)),(9,.int .i64 (a1.Nodes.length:Int)),(10,.int .i64 z.2.1)],[(1001,.blk 30 [.osl 21 (eInt .i64).sz z.2.2.length]),(1002,.blk 79 [.fn 47 [.ref 1000 0,.ref 1001 0,.ref 1002 0]]),(1000,.blk 32 (v0 a1)),(21,.blk 3 (D.flat (z.2.2.map (eInt .i64).d)))]⟩) (fun z=>iE (lO nr) a0 a1 z.1 z.2.1 z.2.2=some r) (fun z=>z.1) (fuel,0,a2) (fun i=>if i=21 then 1003 else i) ⟨(.sames M M),(.cons (.blk M M M) (.cons (.blk M M M) (.cons (.blk M M M) (.cons (EntW.lst M) .nil)))),bE [1001,1002,1000,1003] M (by decide),(fun i hi=>by first | rfl | (show (if _ then _ else _)=_; (repeat' split) <;> omega))⟩ ?_ ?_
 ·exact h
 ·
  rintro ⟨n0,v10,v11⟩ h
  cases n0 with
  | zero=>exact absurd h (by unfold iE; exact nofun)
  | succ n0 =>
   unfold iE at h
   obtain ⟨x21,hx21,h⟩:=bC h
   refine aF (aA M (aQ M M (lb M) (svI M) (svI M) M hx21)<|aD ?_)
   refine aT ?_
   refine aR (b:=_) M (fun hc22=>?_) (fun hc22=>?_)
   ·
    replace h:=cA h hc22
    refine aS ?_
    refine aM ?_
    refine aT ?_
    refine bB ?_
    obtain ⟨x23,hx23,h⟩:=aX h
    refine aF (aA M (dW aC (cs:=q11) M M (lb M) underlying29 ti53 (svL M) (svI M) hx23 M M)<|aA M (fD (cs:=q11) M M (lb M) underlying53 ag53 ti53 (by decide) (sv (d:=.fptr q11) M) (nle M) M)<|aA M (cT (cs:=q11) (cs':=(w28 0 0 0 false)) 22 M M (lb M) M ti53 M M (.all _))<|aA M (stA q11 q11 ti53 M M M M M M M M (nle M) M)<|aD ?_)
    obtain ⟨x24,hx24,h⟩:=bC h
    refine aF (aA M (faR 1 M M M underlying53 M ti3 (lb M) M M)<|aA M (aI (d:=.int _ _) M M (lb M) underlying3 ag3 ti3 (by decide) (svR M) M (nle M) M)<|aA M (mvI M M M M)<|aA M (aQ M M (lb M) (svI M) (svI M) M hx24)<|aD ?_)
    refine aR (b:=_) M (fun hc25=>?_) (fun hc25=>?_)
    ·
     replace h:=cA h hc25
     obtain ⟨x26,hx26,h⟩:=aX h
     refine aF (aA M (aI (d:=.osl _ _ _) M M (lb M) underlying30 ag30 ti30 (by decide) (svR M) M (nle M) M)<|aA M (faR 0 M M M underlying53 M ti3 (lb M) M M)<|aA M (aI (d:=.int _ _) M M (lb M) underlying3 ag3 ti3 (by decide) (svR M) M (nle M) M)<|aA M (lD (eInt .i64).toEnc0 ([x23.ID]:(List Int)) 23 M M (lb M) underlying30 ti3 M (.cons (svI M) .nil) M M (by decide))<|aA M (iH (eInt .i64).toEnc0 24 M M (lb M) underlying30 ti3 M M M M M (qP (eInt .i64).toEnc0 M M M) hx26)<|aA M (dZ (ds':=[.osl _ _ _]) M M ti30 (svR M) M (sv (d:=.osl _ _ _) M) M M M (nle M) M)<|aD ?_)
     obtain ⟨x27,hx27,h⟩:=aX h
     refine bA (aA M (aI (d:=.fn 47 q15) M M (lb M) underlying79 ag79 ti79 (by decide) (svR M) M (nle M) M)<|aA M (faR 0 M M M underlying53 M ti3 (lb M) M M)<|aA M (aI (d:=.int _ _) M M (lb M) underlying3 ag3 ti3 (by decide) (svR M) M (nle M) M)<|aA M (sC (r':=.tuple []) (H1':=[(1000,.blk 32 (v0 a1)),(1001,.blk 30 [.osl 25 (eInt .i64).sz x27.length]),(1002,.blk 79 [.fn 47 [.ref 1000 0,.ref 1001 0,.ref 1002 0]]),(25,.blk 3 (D.flat (x27.map (eInt .i64).d)))]) 25 [1000,1001,1002,24] M M (lb M) cl47 (sv (d:=.fn 47 q15) M) (.cons (svI M) .nil) M M ⟨M,M,by decide,M,List.forall_mem_cons.2 ⟨⟨M,M,M,M⟩,List.forall_mem_cons.2 ⟨⟨M,M,M,M⟩,List.forall_mem_cons.2 ⟨⟨M,M,M,M⟩,List.forall_mem_cons.2 ⟨⟨M,M,(iF (eInt .i64) M),(bP (eInt .i64))⟩,List.forall_mem_nil _⟩⟩⟩⟩⟩ (ih _ _ _ _ hx27) M M (List.forall_mem_cons.2 ⟨⟨M,M⟩,List.forall_mem_cons.2 ⟨⟨M,M⟩,List.forall_mem_cons.2 ⟨⟨M,M⟩,List.forall_mem_cons.2 ⟨⟨M,(bP (eInt .i64))⟩,List.forall_mem_nil _⟩⟩⟩⟩) (by simp only [List.map_cons,List.map_nil,Ent.ren,bT,cE]; rfl))<|bL ?_)
     refine bJ ?_
     refine aM ?_
     obtain ⟨x28,hx28,h⟩:=bC h
     refine bA (aA M (bO M M (lb M) (svI M) (sv (d:=.int _ 1) M) M hx28)<|aA M (mvI M M M M)<|bL ?_)
     refine aM ⟨(n0,x28,x27),(fun i=>if i=21 then 25 else i),⟨(.sames M M),(.cons (.blk M M M) (.cons (.blk M M M) (.cons (.blk M M M) (.cons (EntW.lst M) .nil)))),bE [1001,1002,1000,25] M (by decide),(fun i hi=>by first | rfl | (show (if _ then _ else _)=_; (repeat' split) <;> omega))⟩,?_,?_⟩
     exact h
     exact Nat.lt_succ_self _
    ·
     replace h:=cB h hc25
     refine aS ?_
     refine bJ ?_
     refine aM ?_
     obtain ⟨x29,hx29,h⟩:=bC h
     refine bA (aA M (bO M M (lb M) (svI M) (sv (d:=.int _ 1) M) M hx29)<|aA M (mvI M M M M)<|bL ?_)
     refine aM ⟨(n0,x29,v11),(fun i=>i),⟨(.sames M M),(.cons (.blk M M M) (.cons (.blk M M M) (.cons (.blk M M M) (.cons (EntW.lst M) .nil)))),bE [1001,1002,1000,21] M (by decide),fun _ _=>M⟩,?_,?_⟩
     exact h
     exact Nat.lt_succ_self _
   ·
    replace h:=cB h hc22
    refine cU ?_
    refine bK ?_
    refine bK ?_
    refine cW ?_
    obtain rfl:=sj_ h
    refine ⟨.inl M,(fun i=>if i=0 then 21 else i),⟨.nil,(.cons (.blk M M M) (.cons (.blk M M M) (.cons (.blk M M M) (.cons (EntW.lst M) .nil)))),bE [1000,1001,1002,21] M (by decide),(fun i hi=>by first | rfl | (show (if _ then _ else _)=_; (repeat' split) <;> omega))⟩,.nil,M⟩

theorem uM (a0:Int) (a1:aV) (r:(List Int)) (h:pK a0 a1=some r):FnH prog 47 [.int .i64 a0,.ref 1000 0,.ref 1001 0,.ref 1002 0] [(1000,.blk 32 (v0 a1)),(1001,.blk 30 [.nils]),(1002,.blk 79 [.fn 47 [.ref 1000 0,.ref 1001 0,.ref 1002 0]])] (retD []) [(1000,.blk 32 (v0 a1)),(1001,.blk 30 [.osl 0 (eInt .i64).sz r.length]),(1002,.blk 79 [.fn 47 [.ref 1000 0,.ref 1001 0,.ref 1002 0]]),(0,.blk 3 (D.flat (r.map (eInt .i64).d)))]:=by
 refine dB (rs:=[]) func47 M ntmps47 (nle M) fun O hO=>?_
 show IWP _ _ _ _ ⟨[(0,.int .i64 a0),(1,.ref 1000 0),(2,.ref 1001 0),(3,.ref 1002 0)],[(1000,.blk 32 (v0 a1)),(1001,.blk 30 [.nils]),(1002,.blk 79 [.fn 47 [.ref 1000 0,.ref 1001 0,.ref 1002 0]])]⟩ _
 unfold pK at h
 refine aF (aA M (faR 2 M M M underlying32 M ti29 (lb M) M M)<|aA M (lrL la29 M M M M M (nle M) M)<|aA M (cV aC (l:=a1.Nodes) M M (lb M) underlying29 (svL M))<|aA M (aO M M (lb M) (sv (d:=.int _ 0) M))<|aD ?_)
 refine bB ?_
 refine cP (α:=Nat × Int × (List Int)) (fun z=>⟨[(0,.int .i64 a0),(2,.ref 1001 0),(3,.ref 1002 0),(8,.slice false (a1.Nodes.map aC.d)),(9,.int .i64 (a1.Nodes.length:Int)),(10,.int .i64 z.2.1)],[(1001,.blk 30 [.osl 21 (eInt .i64).sz z.2.2.length]),(1002,.blk 79 [.fn 47 [.ref 1000 0,.ref 1001 0,.ref 1002 0]]),(1000,.blk 32 (v0 a1)),(21,.blk 3 (D.flat (z.2.2.map (eInt .i64).d)))]⟩) (fun z=>jS a0 a1 z.1 z.2.1 z.2.2=some r) (fun z=>z.1) (fuel,0,([]:(List Int))) (fun i=>if i=21 then 71 else i) ⟨(.sames M M),(.cons (.sub M (.nilo .nil) M) (.cons (.blk M M M) (.cons (.blk M M M) (.cons (.nilb M) .nil)))),bE [1001,1002,1000,71] M (by decide),(fun i hi=>by first | rfl | (show (if _ then _ else _)=_; (repeat' split) <;> omega))⟩ ?_ ?_
 ·exact h
 ·
  rintro ⟨n0,v10,v11⟩ h
  cases n0 with
  | zero=>exact absurd h (by unfold jS; exact nofun)
  | succ n0 =>
   unfold jS at h
   obtain ⟨x21,hx21,h⟩:=bC h
   refine aF (aA M (aQ M M (lb M) (svI M) (svI M) M hx21)<|aD ?_)
   refine aT ?_
   refine aR (b:=_) M (fun hc22=>?_) (fun hc22=>?_)
   ·
    replace h:=cA h hc22
    refine aS ?_
    refine aM ?_
    refine aT ?_
    refine bB ?_
    obtain ⟨x23,hx23,h⟩:=aX h
    refine aF (aA M (dW aC (cs:=q11) M M (lb M) underlying29 ti53 (svL M) (svI M) hx23 M M)<|aA M (fD (cs:=q11) M M (lb M) underlying53 ag53 ti53 (by decide) (sv (d:=.fptr q11) M) (nle M) M)<|aA M (cT (cs:=q11) (cs':=(w28 0 0 0 false)) 22 M M (lb M) M ti53 M M (.all _))<|aA M (stA q11 q11 ti53 M M M M M M M M (nle M) M)<|aD ?_)
    obtain ⟨x24,hx24,h⟩:=bC h
    refine aF (aA M (faR 1 M M M underlying53 M ti3 (lb M) M M)<|aA M (aI (d:=.int _ _) M M (lb M) underlying3 ag3 ti3 (by decide) (svR M) M (nle M) M)<|aA M (mvI M M M M)<|aA M (aQ M M (lb M) (svI M) (svI M) M hx24)<|aD ?_)
    refine aR (b:=_) M (fun hc25=>?_) (fun hc25=>?_)
    ·
     replace h:=cA h hc25
     obtain ⟨x26,hx26,h⟩:=aX h
     refine aF (aA M (aI (d:=.osl _ _ _) M M (lb M) underlying30 ag30 ti30 (by decide) (svR M) M (nle M) M)<|aA M (faR 0 M M M underlying53 M ti3 (lb M) M M)<|aA M (aI (d:=.int _ _) M M (lb M) underlying3 ag3 ti3 (by decide) (svR M) M (nle M) M)<|aA M (lD (eInt .i64).toEnc0 ([x23.ID]:(List Int)) 23 M M (lb M) underlying30 ti3 M (.cons (svI M) .nil) M M (by decide))<|aA M (iH (eInt .i64).toEnc0 24 M M (lb M) underlying30 ti3 M M M M M (qP (eInt .i64).toEnc0 M M M) hx26)<|aA M (dZ (ds':=[.osl _ _ _]) M M ti30 (svR M) M (sv (d:=.osl _ _ _) M) M M M (nle M) M)<|aD ?_)
     obtain ⟨x27,hx27,h⟩:=aX h
     refine bA (aA M (aI (d:=.fn 47 q15) M M (lb M) underlying79 ag79 ti79 (by decide) (svR M) M (nle M) M)<|aA M (faR 0 M M M underlying53 M ti3 (lb M) M M)<|aA M (aI (d:=.int _ _) M M (lb M) underlying3 ag3 ti3 (by decide) (svR M) M (nle M) M)<|aA M (sC (r':=.tuple []) (H1':=[(1000,.blk 32 (v0 a1)),(1001,.blk 30 [.osl 25 (eInt .i64).sz x27.length]),(1002,.blk 79 [.fn 47 [.ref 1000 0,.ref 1001 0,.ref 1002 0]]),(25,.blk 3 (D.flat (x27.map (eInt .i64).d)))]) 25 [1000,1001,1002,24] M M (lb M) cl47 (sv (d:=.fn 47 q15) M) (.cons (svI M) .nil) M M ⟨M,M,by decide,M,List.forall_mem_cons.2 ⟨⟨M,M,M,M⟩,List.forall_mem_cons.2 ⟨⟨M,M,M,M⟩,List.forall_mem_cons.2 ⟨⟨M,M,M,M⟩,List.forall_mem_cons.2 ⟨⟨M,M,(iF (eInt .i64) M),(bP (eInt .i64))⟩,List.forall_mem_nil _⟩⟩⟩⟩⟩ (rY _ _ _ _ _ hx27) M M (List.forall_mem_cons.2 ⟨⟨M,M⟩,List.forall_mem_cons.2 ⟨⟨M,M⟩,List.forall_mem_cons.2 ⟨⟨M,M⟩,List.forall_mem_cons.2 ⟨⟨M,(bP (eInt .i64))⟩,List.forall_mem_nil _⟩⟩⟩⟩) (by simp only [List.map_cons,List.map_nil,Ent.ren,bT,cE]; rfl))<|bL ?_)
     refine bJ ?_
     refine aM ?_
     obtain ⟨x28,hx28,h⟩:=bC h
     refine bA (aA M (bO M M (lb M) (svI M) (sv (d:=.int _ 1) M) M hx28)<|aA M (mvI M M M M)<|bL ?_)
     refine aM ⟨(n0,x28,x27),(fun i=>if i=21 then 25 else i),⟨(.sames M M),(.cons (.blk M M M) (.cons (.blk M M M) (.cons (.blk M M M) (.cons (EntW.lst M) .nil)))),bE [1001,1002,1000,25] M (by decide),(fun i hi=>by first | rfl | (show (if _ then _ else _)=_; (repeat' split) <;> omega))⟩,?_,?_⟩
     exact h
     exact Nat.lt_succ_self _
    ·
     replace h:=cB h hc25
     refine aS ?_
     refine bJ ?_
     refine aM ?_
     obtain ⟨x29,hx29,h⟩:=bC h
     refine bA (aA M (bO M M (lb M) (svI M) (sv (d:=.int _ 1) M) M hx29)<|aA M (mvI M M M M)<|bL ?_)
     refine aM ⟨(n0,x29,v11),(fun i=>i),⟨(.sames M M),(.cons (.blk M M M) (.cons (.blk M M M) (.cons (.blk M M M) (.cons (EntW.lst M) .nil)))),bE [1001,1002,1000,21] M (by decide),fun _ _=>M⟩,?_,?_⟩
     exact h
     exact Nat.lt_succ_self _
   ·
    replace h:=cB h hc22
    refine cU ?_
    refine bK ?_
    refine bK ?_
    refine cW ?_
    obtain rfl:=sj_ h
    refine ⟨.inl M,(fun i=>if i=0 then 21 else i),⟨.nil,(.cons (.blk M M M) (.cons (.blk M M M) (.cons (.blk M M M) (.cons (EntW.lst M) .nil)))),bE [1000,1001,1002,21] M (by decide),(fun i hi=>by first | rfl | (show (if _ then _ else _)=_; (repeat' split) <;> omega))⟩,.nil,M⟩

theorem pI (a0:(List Int)) (r:(List Int)) (h:nL a0=some r):FnH prog 48 [.osl 1000 (eInt .i64).sz a0.length] [(1000,.blk 3 (D.flat (a0.map (eInt .i64).d)))] (retD []) [(1000,.blk 3 (D.flat (r.map (eInt .i64).d)))]:=p_sortI a0 r h

theorem rQ (a0:aV) (a1:Int) (r:(List Int)) (h:pG a0 a1=some r):eK prog 20 [.agg (v0 a0),.int .i64 a1] (.slice false (r.map (eInt .i64).d)):=by
 refine mB (rs:=[.slice false (r.map (eInt .i64).d)]) func20 M ntmps20 (nle M) M fun O hO=>?_
 show IWP _ _ _ _ ⟨[(0,.agg (v0 a0)),(1,.int .i64 a1)],[]⟩ _
 unfold pG at h
 refine aF (aA M (cK (cs:=q9) 0 M M (lb M) M (svA q9 M) M M)<|aA M (aG M M (lb M) (sv (d:=.nils) M))<|aD ?_)
 refine aT ?_
 obtain ⟨x1,hx1,h⟩:=aX h
 obtain ⟨x2,hx2,h⟩:=bC h
 obtain ⟨x3,hx3,h⟩:=bC h
 obtain ⟨x4,hx4,h⟩:=aX h
 obtain ⟨x5,hx5,h⟩:=bC h
 obtain ⟨x6,hx6,h⟩:=bC h
 refine aF (aA M (lra q9 la32 M M M M M (nle M) M)<|aA M (bU (r:=.int _ _) M M (lb M) cl11 (.cons (svA q9 M) .nil) M (mF _ _ hx1))<|aA M (aQ M M (lb M) (svI M) (sv (d:=.int _ 0) M) M hx2)<|aA M (mvB M M M M)<|aN M M (.one M) M (by decide) (fun hb=>(mvI M M M M))<|aN M M (.one M) M (by decide) (fun hb=>(aQ M M (lb M) (svcI M hb) (sv (d:=.int _ 0) M) M hx3))<|aN M M (.one M) M (by decide) (fun hb=>(aO M M (lb M) (svcB M hb)))<|aN M M (.two M) M (by decide) (fun hb=>(lra q9 la32 M M M M M (nle M) M))<|aN M M (.two M) M (by decide) (fun hb=>(mvI M M M M))<|aN M M (.two M) M (by decide) (fun hb=>(bU (r:=.bool _) M M (lb M) cl44 (.cons (svcA (v0 a0) M hb) (.cons (svcI M hb) .nil)) M (kU _ _ _ (gd_t hx4 hb))))<|aN M M (.two M) M (by decide) (fun hb=>(gD M M (lb M) (svcB M hb)))<|aN M M (.one M) M (by decide) (fun hb=>(aAI M M (lb M) hb (svcB M hb) M M hx5))<|aA M (kL M M (lb M) (svB M) M M hx6)<|aD ?_)
 refine aR (b:=_) M (fun hc7=>?_) (fun hc7=>?_)
 ·
  replace h:=cA h hc7
  refine aF (aA M (aG M M (lb M) (sv (d:=.nils) M))<|aD ?_)
  refine aY ?_
  refine bG ?_
  obtain rfl:=sj_ h
  refine ⟨.inr M,_,(.cons (sv M) .nil),(.cons (.nils _) .nil)⟩
 ·
  replace h:=cB h hc7
  refine aS ?_
  refine aM ?_
  refine aF (aA M (cT (cs:=[.nils]) (cs':=[.nils]) 1 M M (lb M) M ti30 M M (.all _))<|aD ?_)
  refine aF (aA M (cT (cs:=[.nilf]) (cs':=[.nilf]) 2 M M (lb M) M ti79 M M (.all _))<|aD ?_)
  refine aF (aA M (mG M M (lb M) (.cons (svR M) (.cons (svR M) (.cons (svR M) .nil))))<|aA M (dZ (ds':=[.fn 47 q15]) M M ti79 (svR M) M (sv (d:=.fn 47 q15) M) M M M (nle M) M)<|aD ?_)
  obtain ⟨x8,hx8,h⟩:=aX h
  refine aF (aA M (aI (d:=.fn 47 q15) M M (lb M) underlying79 ag79 ti79 (by decide) (svR M) M (nle M) M)<|aA M (mvI M M M M)<|aA M (sC (r':=.tuple []) (H1':=[(0,.blk 32 (v0 a0)),(1,.blk 30 [.osl 3 (eInt .i64).sz x8.length]),(2,.blk 79 [.fn 47 [.ref 0 0,.ref 1 0,.ref 2 0]]),(3,.blk 3 (D.flat (x8.map (eInt .i64).d)))]) 3 [0,1,2] M M (lb M) cl47 (sv (d:=.fn 47 q15) M) (.cons (svI M) .nil) M M ⟨M,M,by decide,M,List.forall_mem_cons.2 ⟨⟨M,M,M,M⟩,List.forall_mem_cons.2 ⟨⟨M,M,M,M⟩,List.forall_mem_cons.2 ⟨⟨M,M,M,M⟩,List.forall_mem_nil _⟩⟩⟩⟩ (uM _ _ _ hx8) M M (List.forall_mem_cons.2 ⟨⟨M,M⟩,List.forall_mem_cons.2 ⟨⟨M,M⟩,List.forall_mem_cons.2 ⟨⟨M,M⟩,List.forall_mem_cons.2 ⟨⟨M,(bP (eInt .i64))⟩,List.forall_mem_nil _⟩⟩⟩⟩) (by simp only [List.map_cons,List.map_nil,Ent.ren,bT,cE]; rfl))<|aD ?_)
  obtain ⟨x9,hx9,h⟩:=aX h
  obtain ⟨hk10,h⟩:=oZ h
  refine aF (aA M (aI (d:=.osl _ _ _) M M (lb M) underlying30 ag30 ti30 (by decide) (svR M) M (nle M) M)<|aA M (cQ (r':=.tuple []) (H1':=[(3,.blk 3 (D.flat (x9.map (eInt .i64).d)))]) 4 [3] M M (lb M) cl48 (.cons (sv (d:=.osl _ _ _) M) .nil) M M ⟨M,M,by decide,M,List.forall_mem_cons.2 ⟨⟨M,M,(iF (eInt .i64) M),(bP (eInt .i64))⟩,List.forall_mem_nil _⟩⟩ (pI _ _ hx9) M M (List.forall_mem_cons.2 ⟨⟨M,(bP (eInt .i64))⟩,List.forall_mem_nil _⟩) (by simp only [List.map_cons,List.map_nil,Ent.ren,bT,cE]; rfl))<|aD ?_)
  refine aF (aA M (aI (d:=.osl _ _ _) M M (lb M) underlying30 ag30 ti30 (by decide) (svR M) M (nle M) M)<|aA M (aG M M (lb M) (sv (d:=.osl _ _ _) M))<|aD ?_)
  refine aY ?_
  obtain rfl:=sj_ h
  refine ⟨.inr M,_,(.cons (sv M) .nil),(.cons (FDT (eInt .i64) M hk10) .nil)⟩

theorem lX (a0:(List Int)) (a1:(List Int)) (r:Bool) (h:gM a0 a1=some r):eK prog 15 [.slice false (a0.map (eInt .i64).d),.slice false (a1.map (eInt .i64).d)] (.bool r):=by
 refine bW (rs:=[.bool r]) func15 M ntmps15 (nle M) M fun O hO=>?_
 show IWP _ _ _ _ ⟨[(0,.slice false (a0.map (eInt .i64).d)),(1,.slice false (a1.map (eInt .i64).d))],[]⟩ _
 unfold gM at h
 refine aF (aA M (aG M M (lb M) (sv (d:=.bool false) M))<|aD ?_)
 refine aT ?_
 obtain ⟨x1,hx1,h⟩:=bC h
 refine aF (aA M (mvL M M M M)<|aA M (cV (eInt .i64) (l:=a0) M M (lb M) underlying30 (svL M))<|aA M (mvL M M M M)<|aA M (cV (eInt .i64) (l:=a1) M M (lb M) underlying30 (svL M))<|aA M (aQ M M (lb M) (svI M) (svI M) M hx1)<|aD ?_)
 refine aR (b:=_) M (fun hc2=>?_) (fun hc2=>?_)
 ·
  replace h:=cA h hc2
  refine aF (aA M (aG M M (lb M) (sv (d:=.bool false) M))<|aD ?_)
  refine aY ?_
  refine bG ?_
  obtain rfl:=sj_ h
  refine ⟨.inr M,(.cons (sv M) .nil)⟩
 ·
  replace h:=cB h hc2
  refine aS ?_
  refine aM ?_
  refine aT ?_
  refine aF (aA M (aG M M (lb M) (sv (d:=.int _ 0) M))<|aD ?_)
  refine bB ?_
  refine cP (α:=Nat × Int) (fun z=>⟨[(0,.slice false (a0.map (eInt .i64).d)),(1,.slice false (a1.map (eInt .i64).d)),(5,.int .i64 z.2)],[]⟩) (fun z=>eP a0 a1 z.1 z.2=some r) (fun z=>z.1) (fuel,0) (fun i=>i) ⟨(.sames M M),.nil,bE [] M (by decide),fun _ _=>M⟩ ?_ ?_
  ·exact h
  ·
   rintro ⟨n0,v10⟩ h
   cases n0 with
   | zero=>exact absurd h (by unfold eP; exact nofun)
   | succ n0 =>
    unfold eP at h
    refine aT ?_
    obtain ⟨x18,hx18,h⟩:=bC h
    refine aF (aA M (mvI M M M M)<|aA M (mvL M M M M)<|aA M (cV (eInt .i64) (l:=a0) M M (lb M) underlying30 (svL M))<|aA M (aQ M M (lb M) (svI M) (svI M) M hx18)<|aD ?_)
    refine aR (b:=_) M (fun hc19=>?_) (fun hc19=>?_)
    ·
     replace h:=cA h hc19
     refine aS ?_
     refine aM ?_
     refine aT ?_
     refine bB ?_
     obtain ⟨x20,hx20,h⟩:=aX h
     obtain ⟨x21,hx21,h⟩:=aX h
     obtain ⟨x22,hx22,h⟩:=bC h
     refine iR M [⟨[0],[],[(17,.slice false (a0.map (eInt .i64).d))],[]⟩,
      ⟨[5],[],[(18,.int .i64 v10)],[]⟩,
      ⟨[17,18],[],[(19,.fptr [.int .i64 x20])],[]⟩,
      ⟨[19],[],[(20,.int .i64 x20)],[]⟩,
      ⟨[1],[],[(21,.slice false (a1.map (eInt .i64).d))],[]⟩,
      ⟨[5],[],[(22,.int .i64 v10)],[]⟩,
      ⟨[21,22],[],[(23,.fptr [.int .i64 x21])],[]⟩,
      ⟨[23],[],[(24,.int .i64 x21)],[]⟩,
      ⟨[20,24],[],[(25,.bool x22)],[]⟩] M ?_ (by kernel_rfl) ?_
     ·refine .cons (lop M M fun S hA=>(aO M M (lb M) (svaL hA M M))) ?_
      refine .cons (lop M M fun S hA=>(aO M M (lb M) (svaI hA M M))) ?_
      refine .cons (lop M M fun S hA=>(dW (eInt .i64) (cs:=[.int _ _]) M M (lb M) underlying30 ti3 (svaL hA M M) (svaI hA M M) hx20 M M)) ?_
      refine .cons (lop M M fun S hA=>(eM M M (lb M) underlying3 ag3 ti3 (by decide) (sv (d:=.fptr [.int _ _]) (agr hA M M)) (nle M))) ?_
      refine .cons (lop M M fun S hA=>(aO M M (lb M) (svaL hA M M))) ?_
      refine .cons (lop M M fun S hA=>(aO M M (lb M) (svaI hA M M))) ?_
      refine .cons (lop M M fun S hA=>(dW (eInt .i64) (cs:=[.int _ _]) M M (lb M) underlying30 ti3 (svaL hA M M) (svaI hA M M) hx21 M M)) ?_
      refine .cons (lop M M fun S hA=>(eM M M (lb M) underlying3 ag3 ti3 (by decide) (sv (d:=.fptr [.int _ _]) (agr hA M M)) (nle M))) ?_
      refine .cons (lop M M fun S hA=>(aQ M M (lb M) (svaI hA M M) (svaI hA M M) M hx22)) ?_
      exact .nil
     refine aR (b:=_) M (fun hc23=>?_) (fun hc23=>?_)
     ·
      replace h:=cA h hc23
      refine aF (aA M (aG M M (lb M) (sv (d:=.bool false) M))<|aD ?_)
      refine aY ?_
      refine cO ?_
      refine bG ?_
      refine bG ?_
      refine cO ?_
      refine bG ?_
      obtain rfl:=sj_ h
      refine ⟨.inr M,(.cons (sv M) .nil)⟩
     ·
      replace h:=cB h hc23
      refine aS ?_
      refine bJ ?_
      refine aM ?_
      obtain ⟨x24,hx24,h⟩:=bC h
      refine bA (aA M (mvI M M M M)<|aA M (bO M M (lb M) (svI M) (sv (d:=.int _ 1) M) M hx24)<|aA M (asI M M M M)<|bL ?_)
      refine aM ⟨(n0,x24),(fun i=>i),⟨(.sames M M),.nil,bE [] M (by decide),fun _ _=>M⟩,?_,?_⟩
      exact h
      exact Nat.lt_succ_self _
    ·
     replace h:=cB h hc19
     refine cU ?_
     refine bK ?_
     refine bK ?_
     refine cW ?_
     refine aM ?_
     refine aF (aA M (aG M M (lb M) (sv (d:=.bool true) M))<|aD ?_)
     refine aY ?_
     obtain rfl:=sj_ h
     refine ⟨.inr M,(.cons (sv M) .nil)⟩

theorem aBW (a0:aV) (a1:Int) (r:Int) (h:yY a0 a1=some r):eK prog 21 [.agg (v0 a0),.int .i64 a1] (.int .i64 r):=by
 refine bW (rs:=[.int .i64 r]) func21 M ntmps21 (nle M) M fun O hO=>?_
 show IWP _ _ _ _ ⟨[(0,.agg (v0 a0)),(1,.int .i64 a1)],[]⟩ _
 unfold yY at h
 refine aF (aA M (cK (cs:=q9) 0 M M (lb M) M (svA q9 M) M M)<|aA M (aG M M (lb M) (sv (d:=.int _ 0) M))<|aD ?_)
 refine aT ?_
 obtain ⟨x1,hx1,h⟩:=aX h
 obtain ⟨x2,hx2,h⟩:=bC h
 obtain ⟨x3,hx3,h⟩:=bC h
 obtain ⟨x4,hx4,h⟩:=aX h
 obtain ⟨x5,hx5,h⟩:=bC h
 obtain ⟨x6,hx6,h⟩:=bC h
 refine aF (aA M (lra q9 la32 M M M M M (nle M) M)<|aA M (bU (r:=.int _ _) M M (lb M) cl11 (.cons (svA q9 M) .nil) M (mF _ _ hx1))<|aA M (aQ M M (lb M) (svI M) (sv (d:=.int _ 0) M) M hx2)<|aA M (mvB M M M M)<|aN M M (.one M) M (by decide) (fun hb=>(mvI M M M M))<|aN M M (.one M) M (by decide) (fun hb=>(aQ M M (lb M) (svcI M hb) (sv (d:=.int _ 0) M) M hx3))<|aN M M (.one M) M (by decide) (fun hb=>(aO M M (lb M) (svcB M hb)))<|aN M M (.two M) M (by decide) (fun hb=>(lra q9 la32 M M M M M (nle M) M))<|aN M M (.two M) M (by decide) (fun hb=>(mvI M M M M))<|aN M M (.two M) M (by decide) (fun hb=>(bU (r:=.bool _) M M (lb M) cl44 (.cons (svcA (v0 a0) M hb) (.cons (svcI M hb) .nil)) M (kU _ _ _ (gd_t hx4 hb))))<|aN M M (.two M) M (by decide) (fun hb=>(gD M M (lb M) (svcB M hb)))<|aN M M (.one M) M (by decide) (fun hb=>(aAI M M (lb M) hb (svcB M hb) M M hx5))<|aA M (kL M M (lb M) (svB M) M M hx6)<|aD ?_)
 refine aR (b:=_) M (fun hc7=>?_) (fun hc7=>?_)
 ·
  replace h:=cA h hc7
  refine aF (aA M (aG M M (lb M) (sv (d:=.int _ 0) M))<|aD ?_)
  refine aY ?_
  refine bG ?_
  obtain rfl:=sj_ h
  refine ⟨.inr M,(.cons (sv M) .nil)⟩
 ·
  replace h:=cB h hc7
  refine aS ?_
  refine aM ?_
  obtain ⟨x8,hx8,h⟩:=aX h
  refine aF (aA M (lra q9 la32 M M M M M (nle M) M)<|aA M (mvI M M M M)<|aA M (bU (r:=.int _ _) M M (lb M) cl49 (.cons (svA q9 M) (.cons (svI M) .nil)) M (qN _ _ _ hx8))<|aA M (asI M M M M)<|aD ?_)
  refine aY ?_
  obtain rfl:=sj_ h
  refine ⟨.inr M,(.cons (sv M) .nil)⟩

theorem mU (a0:(List aH)) (a1:(List aH)) (r:Bool) (h:iA a0 a1=some r):eK prog 50 [.slice false (a0.map aC.d),.slice false (a1.map aC.d)] (.bool r):=by
 refine bW (rs:=[.bool r]) func50 M ntmps50 (nle M) M fun O hO=>?_
 show IWP _ _ _ _ ⟨[(0,.slice false (a0.map aC.d)),(1,.slice false (a1.map aC.d))],[]⟩ _
 unfold iA at h
 refine aF (aA M (aG M M (lb M) (sv (d:=.bool false) M))<|aD ?_)
 refine aT ?_
 obtain ⟨x1,hx1,h⟩:=bC h
 refine aF (aA M (mvL M M M M)<|aA M (cV aC (l:=a0) M M (lb M) underlying29 (svL M))<|aA M (mvL M M M M)<|aA M (cV aC (l:=a1) M M (lb M) underlying29 (svL M))<|aA M (aQ M M (lb M) (svI M) (svI M) M hx1)<|aD ?_)
 refine aR (b:=_) M (fun hc2=>?_) (fun hc2=>?_)
 ·
  replace h:=cA h hc2
  refine aF (aA M (aG M M (lb M) (sv (d:=.bool false) M))<|aD ?_)
  refine aY ?_
  refine bG ?_
  obtain rfl:=sj_ h
  refine ⟨.inr M,(.cons (sv M) .nil)⟩
 ·
  replace h:=cB h hc2
  refine aS ?_
  refine aM ?_
  refine aT ?_
  refine aF (aA M (mvL M M M M)<|aA M (cV aC (l:=a0) M M (lb M) underlying29 (svL M))<|aA M (aO M M (lb M) (sv (d:=.int _ 0) M))<|aD ?_)
  refine bB ?_
  refine cP (α:=Nat × Int) (fun z=>⟨[(0,.slice false (a0.map aC.d)),(1,.slice false (a1.map aC.d)),(12,.int .i64 (a0.length:Int)),(13,.int .i64 z.2)],[]⟩) (fun z=>dX a0 a1 z.1 z.2=some r) (fun z=>z.1) (fuel,0) (fun i=>i) ⟨(.sames M M),.nil,bE [] M (by decide),fun _ _=>M⟩ ?_ ?_
  ·exact h
  ·
   rintro ⟨n0,v10⟩ h
   cases n0 with
   | zero=>exact absurd h (by unfold dX; exact nofun)
   | succ n0 =>
    unfold dX at h
    obtain ⟨x18,hx18,h⟩:=bC h
    refine aF (aA M (aQ M M (lb M) (svI M) (svI M) M hx18)<|aD ?_)
    refine aT ?_
    refine aR (b:=_) M (fun hc19=>?_) (fun hc19=>?_)
    ·
     replace h:=cA h hc19
     refine aS ?_
     refine aM ?_
     refine aT ?_
     refine bB ?_
     refine aF (aA M (mvI M M M M)<|aA M (asI M M M M)<|aD ?_)
     obtain ⟨x20,hx20,h⟩:=aX h
     obtain ⟨x21,hx21,h⟩:=aX h
     obtain ⟨x22,hx22,h⟩:=bC h
     refine iR M [⟨[0],[],[(16,.slice false (a0.map aC.d))],[]⟩,
      ⟨[5],[],[(17,.int .i64 v10)],[]⟩,
      ⟨[16,17],[],[(18,.fptr (v3 x20))],[]⟩,
      ⟨[18],[],[(19,.agg (v3 x20))],[]⟩,
      ⟨[1],[],[(20,.slice false (a1.map aC.d))],[]⟩,
      ⟨[5],[],[(21,.int .i64 v10)],[]⟩,
      ⟨[20,21],[],[(22,.fptr (v3 x21))],[]⟩,
      ⟨[22],[],[(23,.agg (v3 x21))],[]⟩,
      ⟨[19,23],[],[(24,.bool (!x22))],[]⟩] M ?_ (by kernel_rfl) ?_
     ·refine .cons (lop M M fun S hA=>(aO M M (lb M) (svaL hA M M))) ?_
      refine .cons (lop M M fun S hA=>(aO M M (lb M) (svaI hA M M))) ?_
      refine .cons (lop M M fun S hA=>(dW aC (cs:=q11) M M (lb M) underlying29 ti53 (svaL hA M M) (svaI hA M M) hx20 M M)) ?_
      refine .cons (lop M M fun S hA=>(fD (cs:=q11) M M (lb M) underlying53 ag53 ti53 (by decide) (sv (d:=.fptr q11) (agr hA M M)) (nle M) M)) ?_
      refine .cons (lop M M fun S hA=>(aO M M (lb M) (svaL hA M M))) ?_
      refine .cons (lop M M fun S hA=>(aO M M (lb M) (svaI hA M M))) ?_
      refine .cons (lop M M fun S hA=>(dW aC (cs:=q11) M M (lb M) underlying29 ti53 (svaL hA M M) (svaI hA M M) hx21 M M)) ?_
      refine .cons (lop M M fun S hA=>(fD (cs:=q11) M M (lb M) underlying53 ag53 ti53 (by decide) (sv (d:=.fptr q11) (agr hA M M)) (nle M) M)) ?_
      refine .cons (lop M M fun S hA=>(aCi M M (lb M) underlying53 st53.1 st53.2 (svaA q11 hA M M) (svaA q11 hA M M) (congrArg some hx22))) ?_
      exact .nil
     refine aR (b:=_) M (fun hc23=>?_) (fun hc23=>?_)
     ·
      replace h:=cA h hc23
      refine aF (aA M (aG M M (lb M) (sv (d:=.bool false) M))<|aD ?_)
      refine aY ?_
      refine cO ?_
      refine bG ?_
      refine bG ?_
      refine cO ?_
      refine bG ?_
      obtain rfl:=sj_ h
      refine ⟨.inr M,(.cons (sv M) .nil)⟩
     ·
      replace h:=cB h hc23
      refine aS ?_
      refine bJ ?_
      refine aM ?_
      obtain ⟨x24,hx24,h⟩:=bC h
      refine bA (aA M (bO M M (lb M) (svI M) (sv (d:=.int _ 1) M) M hx24)<|aA M (mvI M M M M)<|bL ?_)
      refine aM ⟨(n0,x24),(fun i=>i),⟨(.sames M M),.nil,bE [] M (by decide),fun _ _=>M⟩,?_,?_⟩
      exact h
      exact Nat.lt_succ_self _
    ·
     replace h:=cB h hc19
     refine cU ?_
     refine bK ?_
     refine bK ?_
     refine cW ?_
     refine aM ?_
     refine aF (aA M (aG M M (lb M) (sv (d:=.bool true) M))<|aD ?_)
     refine aY ?_
     obtain rfl:=sj_ h
     refine ⟨.inr M,(.cons (sv M) .nil)⟩

theorem qR (a0:(List Int)) (a1:(List Int)) (r:Bool) (h:mS a0 a1=some r):eK prog 51 [.slice false (a0.map (eInt .i64).d),.slice false (a1.map (eInt .i64).d)] (.bool r):=by
 refine bW (rs:=[.bool r]) func51 M ntmps51 (nle M) M fun O hO=>?_
 show IWP _ _ _ _ ⟨[(0,.slice false (a0.map (eInt .i64).d)),(1,.slice false (a1.map (eInt .i64).d))],[]⟩ _
 unfold mS at h
 refine aF (aA M (aG M M (lb M) (sv (d:=.bool false) M))<|aD ?_)
 refine aT ?_
 obtain ⟨x1,hx1,h⟩:=bC h
 refine aF (aA M (mvL M M M M)<|aA M (cV (eInt .i64) (l:=a0) M M (lb M) underlying30 (svL M))<|aA M (mvL M M M M)<|aA M (cV (eInt .i64) (l:=a1) M M (lb M) underlying30 (svL M))<|aA M (aQ M M (lb M) (svI M) (svI M) M hx1)<|aD ?_)
 refine aR (b:=_) M (fun hc2=>?_) (fun hc2=>?_)
 ·
  replace h:=cA h hc2
  refine aF (aA M (aG M M (lb M) (sv (d:=.bool false) M))<|aD ?_)
  refine aY ?_
  refine bG ?_
  obtain rfl:=sj_ h
  refine ⟨.inr M,(.cons (sv M) .nil)⟩
 ·
  replace h:=cB h hc2
  refine aS ?_
  refine aM ?_
  refine aT ?_
  refine aF (aA M (mvL M M M M)<|aA M (cV (eInt .i64) (l:=a0) M M (lb M) underlying30 (svL M))<|aA M (aO M M (lb M) (sv (d:=.int _ 0) M))<|aD ?_)
  refine bB ?_
  refine cP (α:=Nat × Int) (fun z=>⟨[(0,.slice false (a0.map (eInt .i64).d)),(1,.slice false (a1.map (eInt .i64).d)),(12,.int .i64 (a0.length:Int)),(13,.int .i64 z.2)],[]⟩) (fun z=>iB a0 a1 z.1 z.2=some r) (fun z=>z.1) (fuel,0) (fun i=>i) ⟨(.sames M M),.nil,bE [] M (by decide),fun _ _=>M⟩ ?_ ?_
  ·exact h
  ·
   rintro ⟨n0,v10⟩ h
   cases n0 with
   | zero=>exact absurd h (by unfold iB; exact nofun)
   | succ n0 =>
    unfold iB at h
    obtain ⟨x18,hx18,h⟩:=bC h
    refine aF (aA M (aQ M M (lb M) (svI M) (svI M) M hx18)<|aD ?_)
    refine aT ?_
    refine aR (b:=_) M (fun hc19=>?_) (fun hc19=>?_)
    ·
     replace h:=cA h hc19
     refine aS ?_
     refine aM ?_
     refine aT ?_
     refine bB ?_
     refine aF (aA M (mvI M M M M)<|aA M (asI M M M M)<|aD ?_)
     obtain ⟨x20,hx20,h⟩:=aX h
     obtain ⟨x21,hx21,h⟩:=aX h
     obtain ⟨x22,hx22,h⟩:=bC h
     refine iR M [⟨[0],[],[(16,.slice false (a0.map (eInt .i64).d))],[]⟩,
      ⟨[5],[],[(17,.int .i64 v10)],[]⟩,
      ⟨[16,17],[],[(18,.fptr [.int .i64 x20])],[]⟩,
      ⟨[18],[],[(19,.int .i64 x20)],[]⟩,
      ⟨[1],[],[(20,.slice false (a1.map (eInt .i64).d))],[]⟩,
      ⟨[5],[],[(21,.int .i64 v10)],[]⟩,
      ⟨[20,21],[],[(22,.fptr [.int .i64 x21])],[]⟩,
      ⟨[22],[],[(23,.int .i64 x21)],[]⟩,
      ⟨[19,23],[],[(24,.bool x22)],[]⟩] M ?_ (by kernel_rfl) ?_
     ·refine .cons (lop M M fun S hA=>(aO M M (lb M) (svaL hA M M))) ?_
      refine .cons (lop M M fun S hA=>(aO M M (lb M) (svaI hA M M))) ?_
      refine .cons (lop M M fun S hA=>(dW (eInt .i64) (cs:=[.int _ _]) M M (lb M) underlying30 ti3 (svaL hA M M) (svaI hA M M) hx20 M M)) ?_
      refine .cons (lop M M fun S hA=>(eM M M (lb M) underlying3 ag3 ti3 (by decide) (sv (d:=.fptr [.int _ _]) (agr hA M M)) (nle M))) ?_
      refine .cons (lop M M fun S hA=>(aO M M (lb M) (svaL hA M M))) ?_
      refine .cons (lop M M fun S hA=>(aO M M (lb M) (svaI hA M M))) ?_
      refine .cons (lop M M fun S hA=>(dW (eInt .i64) (cs:=[.int _ _]) M M (lb M) underlying30 ti3 (svaL hA M M) (svaI hA M M) hx21 M M)) ?_
      refine .cons (lop M M fun S hA=>(eM M M (lb M) underlying3 ag3 ti3 (by decide) (sv (d:=.fptr [.int _ _]) (agr hA M M)) (nle M))) ?_
      refine .cons (lop M M fun S hA=>(aQ M M (lb M) (svaI hA M M) (svaI hA M M) M hx22)) ?_
      exact .nil
     refine aR (b:=_) M (fun hc23=>?_) (fun hc23=>?_)
     ·
      replace h:=cA h hc23
      refine aF (aA M (aG M M (lb M) (sv (d:=.bool false) M))<|aD ?_)
      refine aY ?_
      refine cO ?_
      refine bG ?_
      refine bG ?_
      refine cO ?_
      refine bG ?_
      obtain rfl:=sj_ h
      refine ⟨.inr M,(.cons (sv M) .nil)⟩
     ·
      replace h:=cB h hc23
      refine aS ?_
      refine bJ ?_
      refine aM ?_
      obtain ⟨x24,hx24,h⟩:=bC h
      refine bA (aA M (bO M M (lb M) (svI M) (sv (d:=.int _ 1) M) M hx24)<|aA M (mvI M M M M)<|bL ?_)
      refine aM ⟨(n0,x24),(fun i=>i),⟨(.sames M M),.nil,bE [] M (by decide),fun _ _=>M⟩,?_,?_⟩
      exact h
      exact Nat.lt_succ_self _
    ·
     replace h:=cB h hc19
     refine cU ?_
     refine bK ?_
     refine bK ?_
     refine cW ?_
     refine aM ?_
     refine aF (aA M (aG M M (lb M) (sv (d:=.bool true) M))<|aD ?_)
     refine aY ?_
     obtain rfl:=sj_ h
     refine ⟨.inr M,(.cons (sv M) .nil)⟩

theorem vQ (a0:aV) (a1:aV) (r:Bool) (h:tB a0 a1=some r):eK prog 22 [.agg (v0 a0),.agg (v0 a1)] (.bool r):=by
 refine bW (rs:=[.bool r]) func22 M ntmps22 (nle M) M fun O hO=>?_
 show IWP _ _ _ _ ⟨[(0,.agg (v0 a0)),(1,.agg (v0 a1))],[]⟩ _
 unfold tB at h
 refine aF (aA M (cK (cs:=q9) 0 M M (lb M) M (svA q9 M) M M)<|aA M (cK (cs:=q9) 1 M M (lb M) M (svA q9 M) M M)<|aA M (aG M M (lb M) (sv (d:=.bool false) M))<|aD ?_)
 obtain ⟨x1,hx1,h⟩:=bC h
 obtain ⟨x2,hx2,h⟩:=bC h
 obtain ⟨x3,hx3,h⟩:=bC h
 obtain ⟨x4,hx4,h⟩:=aX h
 obtain ⟨x5,hx5,h⟩:=bC h
 obtain ⟨x6,hx6,h⟩:=aX h
 obtain ⟨x7,hx7,h⟩:=bC h
 refine aF (aA M (faR 0 M M M underlying32 M ti3 (lb M) M M)<|aA M (aI (d:=.int _ _) M M (lb M) underlying3 ag3 ti3 (by decide) (svR M) M (nle M) M)<|aA M (faR 0 M M M underlying32 M ti3 (lb M) M M)<|aA M (aI (d:=.int _ _) M M (lb M) underlying3 ag3 ti3 (by decide) (svR M) M (nle M) M)<|aA M (aQ M M (lb M) (svI M) (svI M) M hx1)<|aA M (mvB M M M M)<|aN M M (.one M) M (by decide) (fun hb=>(faR 1 M M M underlying32 M ti3 (lb M) M M))<|aN M M (.one M) M (by decide) (fun hb=>(aI (d:=.int _ _) M M (lb M) underlying3 ag3 ti3 (by decide) (svcR M hb) M (nle M) M))<|aN M M (.one M) M (by decide) (fun hb=>(faR 1 M M M underlying32 M ti3 (lb M) M M))<|aN M M (.one M) M (by decide) (fun hb=>(aI (d:=.int _ _) M M (lb M) underlying3 ag3 ti3 (by decide) (svcR M hb) M (nle M) M))<|aN M M (.one M) M (by decide) (fun hb=>(aQ M M (lb M) (svcI M hb) (svcI M hb) M hx2))<|aA M (fE M M (lb M) (svB M) M M hx3)<|aA M (mvB M M M M)<|aN M M (.one M) M (by decide) (fun hb=>(faR 2 M M M underlying32 M ti29 (lb M) M M))<|aN M M (.one M) M (by decide) (fun hb=>(aI (d:=.slice _ _) M M (lb M) underlying29 ag29 ti29 (by decide) (svcR M hb) M (nle M) M))<|aN M M (.one M) M (by decide) (fun hb=>(faR 2 M M M underlying32 M ti29 (lb M) M M))<|aN M M (.one M) M (by decide) (fun hb=>(aI (d:=.slice _ _) M M (lb M) underlying29 ag29 ti29 (by decide) (svcR M hb) M (nle M) M))<|aN M M (.one M) M (by decide) (fun hb=>(bU (r:=.bool _) M M (lb M) cl50 (.cons (svcL M hb) (.cons (svcL M hb) .nil)) M (mU _ _ _ (gd_t hx4 hb))))<|aA M (fE M M (lb M) (svB M) M M hx5)<|aA M (mvB M M M M)<|aN M M (.one M) M (by decide) (fun hb=>(faR 3 M M M underlying32 M ti30 (lb M) M M))<|aN M M (.one M) M (by decide) (fun hb=>(aI (d:=.slice _ _) M M (lb M) underlying30 ag30 ti30 (by decide) (svcR M hb) M (nle M) M))<|aN M M (.one M) M (by decide) (fun hb=>(faR 3 M M M underlying32 M ti30 (lb M) M M))<|aN M M (.one M) M (by decide) (fun hb=>(aI (d:=.slice _ _) M M (lb M) underlying30 ag30 ti30 (by decide) (svcR M hb) M (nle M) M))<|aN M M (.one M) M (by decide) (fun hb=>(bU (r:=.bool _) M M (lb M) cl51 (.cons (svcL M hb) (.cons (svcL M hb) .nil)) M (qR _ _ _ (gd_t hx6 hb))))<|aA M (fE M M (lb M) (svB M) M M hx7)<|aA M (asB M M M M)<|aD ?_)
 refine aY ?_
 obtain rfl:=sj_ h
 refine ⟨.inr M,(.cons (sv M) .nil)⟩

theorem oB  (r:Bool) (h:jU=some r):eK prog 4 [] (.bool r):=by
 refine bW (rs:=[.bool r]) func4 M ntmps4 (nle M) M fun O hO=>?_
 show IWP _ _ _ _ ⟨[],[]⟩ _
 unfold jU at h
 refine aF (aA M (aG M M (lb M) (sv (d:=.bool false) M))<|aD ?_)
 obtain ⟨x1,hx1,h⟩:=aX h
 refine aF (aA M (vY (d':=.agg (w25 8 1 ([]:List aH) ([]:List Int))) (cJ (cs:=q12) M M (lb M) underlying32 ti32 pl32 M (.cons (sv (d:=.int _ 8) M) (.cons (sv (d:=.int _ 1) M) .nil)) M) (.agg (.k (.k (.cons (.nils _) (.cons (.nils _) .nil))))))<|aA M (cJ (cs:=q8) M M (lb M) underlying37 ti37 pl37 M (.cons (sv (d:=.int _ 1) M) (.cons (sv (d:=.int _ 16) M) .nil)) M)<|aA M (cJ (cs:=q8) M M (lb M) underlying37 ti37 pl37 M (.cons (sv (d:=.int _ 3) M) (.cons (sv (d:=.int _ 1) M) (.cons (sv (d:=.int _ 5) M) .nil))) M)<|aA M (cJ (cs:=q8) M M (lb M) underlying37 ti37 pl37 M (.cons (sv (d:=.int _ 5) M) (.cons (sv (d:=.int _ 1) M) (.cons (sv (d:=.int _ 7) M) .nil))) M)<|aA M (cJ (cs:=q8) M M (lb M) underlying37 ti37 pl37 M (.cons (sv (d:=.int _ 2) M) (.cons (sv (d:=.int _ 3) M) .nil)) M)<|aA M (cJ (cs:=q8) M M (lb M) underlying37 ti37 pl37 M (.cons (sv (d:=.int _ 9) M) .nil) M)<|aA M (cJ (cs:=q8) M M (lb M) underlying37 ti37 pl37 M (.cons (sv (d:=.int _ 1) M) (.cons (sv (d:=.int _ 5) M) (.cons (sv (d:=.int _ 2) M) .nil))) M)<|aA M (aAp hG ([(⟨0,1,0,16,false⟩:dD),(⟨0,3,1,5,false⟩:dD),(⟨0,5,1,7,false⟩:dD),(⟨2,3,0,0,false⟩:dD),(⟨9,0,0,0,false⟩:dD),(⟨1,5,0,2,false⟩:dD)]:(List dD)) 0 M M (lb M) underlying51 ti37 M (.cons (svA q8 M) (.cons (svA q8 M) (.cons (svA q8 M) (.cons (svA q8 M) (.cons (svA q8 M) (.cons (svA q8 M) .nil)))))) M M (by decide))<|aA M (bU (r:=.tuple [.agg q9,.slice _ _]) M M (lb M) cl17 (.cons (svA q9 M) (.cons (svg M) .nil)) M (aBX _ _ _ hx1))<|aA M (aO M M (lb M) (sv (d:=.tuple [.agg q9,.slice _ _]) M))<|aA M (bQ (d:=.agg q9) M M (lb M) (sv (d:=.tuple [.agg q9,.slice _ _]) M) M)<|aA M (bQ (d:=.slice _ _) M M (lb M) (sv (d:=.tuple [.agg q9,.slice _ _]) M) M)<|aA M (cT (cs:=q12) (cs':=(w25 0 0 ([]:List aH) ([]:List Int))) 1 M M (lb M) M ti32 M M (.k (.k (.cons (.nils _) (.cons (.nils _) .nil)))))<|aA M (stA q9 q9 ti32 M M M M M M M M (nle M) M)<|aA M (aG M M (lb M) (svL M))<|aD ?_)
 refine aT ?_
 obtain ⟨x2,hx2,h⟩:=bC h
 refine aF (aA M (mvL M M M M)<|aA M (cV (eInt .i64) (l:=x1.2) M M (lb M) underlying48 (svL M))<|aA M (aQ M M (lb M) (svI M) (sv (d:=.int _ 6) M) M hx2)<|aD ?_)
 refine aR (b:=_) M (fun hc3=>?_) (fun hc3=>?_)
 ·
  replace h:=cA h hc3
  refine aF (aA M (aG M M (lb M) (sv (d:=.bool false) M))<|aD ?_)
  refine aY ?_
  refine bG ?_
  obtain rfl:=sj_ h
  refine ⟨.inr M,(.cons (sv M) .nil)⟩
 ·
  replace h:=cB h hc3
  refine aS ?_
  refine aM ?_
  obtain ⟨x4,hx4,h⟩:=aX h
  obtain ⟨x5,hx5,h⟩:=bC h
  obtain ⟨x6,hx6,h⟩:=aX h
  obtain ⟨x7,hx7,h⟩:=bC h
  obtain ⟨x8,hx8,h⟩:=bC h
  obtain ⟨x9,hx9,h⟩:=aX h
  obtain ⟨x10,hx10,h⟩:=bC h
  obtain ⟨x11,hx11,h⟩:=bC h
  obtain ⟨x12,hx12,h⟩:=bC h
  obtain ⟨x13,hx13,h⟩:=bC h
  obtain ⟨x14,hx14,h⟩:=aX h
  obtain ⟨x15,hx15,h⟩:=bC h
  obtain ⟨x16,hx16,h⟩:=aX h
  obtain ⟨x17,hx17,h⟩:=bC h
  obtain ⟨x18,hx18,h⟩:=bC h
  obtain ⟨x19,hx19,h⟩:=aX h
  obtain ⟨x20,hx20,h⟩:=bC h
  obtain ⟨x21,hx21,h⟩:=bC h
  obtain ⟨x22,hx22,h⟩:=aX h
  obtain ⟨x23,hx23,h⟩:=bC h
  obtain ⟨x24,hx24,h⟩:=bC h
  obtain ⟨x25,hx25,h⟩:=aX h
  obtain ⟨x26,hx26,h⟩:=bC h
  obtain ⟨x27,hx27,h⟩:=bC h
  obtain ⟨x28,hx28,h⟩:=aX h
  obtain ⟨x29,hx29,h⟩:=aX h
  obtain ⟨x30,hx30,h⟩:=bC h
  obtain ⟨x31,hx31,h⟩:=aX h
  obtain ⟨x32,hx32,h⟩:=aX h
  obtain ⟨x33,hx33,h⟩:=bC h
  obtain ⟨x34,hx34,h⟩:=aX h
  obtain ⟨x35,hx35,h⟩:=bC h
  obtain ⟨x36,hx36,h⟩:=bC h
  obtain ⟨x37,hx37,h⟩:=aX h
  obtain ⟨x38,hx38,h⟩:=bC h
  obtain ⟨x39,hx39,h⟩:=bC h
  obtain ⟨x40,hx40,h⟩:=aX h
  obtain ⟨x41,hx41,h⟩:=bC h
  obtain ⟨x42,hx42,h⟩:=bC h
  obtain ⟨x43,hx43,h⟩:=aX h
  obtain ⟨x44,hx44,h⟩:=bC h
  obtain ⟨x45,hx45,h⟩:=aX h
  obtain ⟨x46,hx46,h⟩:=bC h
  obtain ⟨x47,hx47,h⟩:=bC h
  obtain ⟨x48,hx48,h⟩:=bC h
  obtain ⟨x49,hx49,h⟩:=bC h
  refine aF (aA M (mvL M M M M)<|aA M (dW (eInt .i64) (cs:=[.int _ _]) M M (lb M) underlying48 ti26 (svL M) (sv (d:=.int _ 0) M) hx4 M M)<|aA M (eM M M (lb M) underlying26 ag26 ti26 (by decide) (sv (d:=.fptr [.int _ _]) M) (nle M))<|aA M (aQ M M (lb M) (svI M) (sv (d:=.int _ 0) M) M hx5)<|aA M (mvB M M M M)<|aN M M (.one M) M (by decide) (fun hb=>(mvL M M M M))<|aN M M (.one M) M (by decide) (fun hb=>(dW (eInt .i64) (cs:=[.int _ _]) M M (lb M) underlying48 ti26 (svcL M hb) (sv (d:=.int _ 3) M) (gd_t hx6 hb) M M))<|aN M M (.one M) M (by decide) (fun hb=>(eM M M (lb M) underlying26 ag26 ti26 (by decide) (svc (d:=.fptr [.int _ _]) M hb) (nle M)))<|aN M M (.one M) M (by decide) (fun hb=>(aQ M M (lb M) (svcI M hb) (sv (d:=.int _ 0) M) M hx7))<|aA M (fE M M (lb M) (svB M) M M hx8)<|aA M (mvB M M M M)<|aN M M (.one M) M (by decide) (fun hb=>(mvL M M M M))<|aN M M (.one M) M (by decide) (fun hb=>(dW (eInt .i64) (cs:=[.int _ _]) M M (lb M) underlying48 ti26 (svcL M hb) (sv (d:=.int _ 4) M) (gd_t hx9 hb) M M))<|aN M M (.one M) M (by decide) (fun hb=>(eM M M (lb M) underlying26 ag26 ti26 (by decide) (svc (d:=.fptr [.int _ _]) M hb) (nle M)))<|aN M M (.one M) M (by decide) (fun hb=>(aQ M M (lb M) (svcI M hb) (sv (d:=.int _ 12) M) M hx10))<|aA M (fE M M (lb M) (svB M) M M hx11)<|aA M (mvB M M M M)<|aN M M (.one M) M (by decide) (fun hb=>(faR 2 M M M underlying32 M ti29 (lb M) M M))<|aN M M (.one M) M (by decide) (fun hb=>(aI (d:=.slice _ _) M M (lb M) underlying29 ag29 ti29 (by decide) (svcR M hb) M (nle M) M))<|aN M M (.one M) M (by decide) (fun hb=>(cV aC (l:=x1.1.Nodes) M M (lb M) underlying29 (svcL M hb)))<|aN M M (.one M) M (by decide) (fun hb=>(aQ M M (lb M) (svcI M hb) (sv (d:=.int _ 3) M) M hx12))<|aA M (fE M M (lb M) (svB M) M M hx13)<|aA M (mvB M M M M)<|aN M M (.one M) M (by decide) (fun hb=>(faR 2 M M M underlying32 M ti29 (lb M) M M))<|aN M M (.one M) M (by decide) (fun hb=>(aI (d:=.slice _ _) M M (lb M) underlying29 ag29 ti29 (by decide) (svcR M hb) M (nle M) M))<|aN M M (.one M) M (by decide) (fun hb=>(dW aC (cs:=q11) M M (lb M) underlying29 ti53 (svcL M hb) (sv (d:=.int _ 1) M) (gd_t hx14 hb) M M))<|aN M M (.one M) M (by decide) (fun hb=>(gR (cs':=[.bool _]) M M (lb M) underlying53 M ti4 (by decide) (svc (d:=.fptr q11) M hb) M))<|aN M M (.one M) M (by decide) (fun hb=>(eM M M (lb M) underlying4 ag4 ti4 (by decide) (svc (d:=.fptr [.bool _]) M hb) (nle M)))<|aA M (fE M M (lb M) (svB M) M M hx15)<|aA M (mvB M M M M)<|aN M M (.one M) M (by decide) (fun hb=>(lra q9 la32 M M M M M (nle M) M))<|aN M M (.one M) M (by decide) (fun hb=>(bU (r:=.int _ _) M M (lb M) cl18 (.cons (svcA (v0 x1.1) M hb) (.cons (sv (d:=.int _ 3) M) .nil)) M (uD _ _ _ (gd_t hx16 hb))))<|aN M M (.one M) M (by decide) (fun hb=>(aQ M M (lb M) (svcI M hb) (sv (d:=.int _ 2) M) M hx17))<|aA M (fE M M (lb M) (svB M) M M hx18)<|aA M (mvB M M M M)<|aN M M (.one M) M (by decide) (fun hb=>(lra q9 la32 M M M M M (nle M) M))<|aN M M (.one M) M (by decide) (fun hb=>(bU (r:=.int _ _) M M (lb M) cl18 (.cons (svcA (v0 x1.1) M hb) (.cons (sv (d:=.int _ 5) M) .nil)) M (uD _ _ _ (gd_t hx19 hb))))<|aN M M (.one M) M (by decide) (fun hb=>(aQ M M (lb M) (svcI M hb) (sv (d:=.int _ 1) M) M hx20))<|aA M (fE M M (lb M) (svB M) M M hx21)<|aA M (mvB M M M M)<|aN M M (.one M) M (by decide) (fun hb=>(lra q9 la32 M M M M M (nle M) M))<|aN M M (.one M) M (by decide) (fun hb=>(bU (r:=.int _ _) M M (lb M) cl19 (.cons (svcA (v0 x1.1) M hb) (.cons (sv (d:=.int _ 1) M) (.cons (sv (d:=.int _ 3) M) .nil))) M (vR _ _ _ _ (gd_t hx22 hb))))<|aN M M (.one M) M (by decide) (fun hb=>(aQ M M (lb M) (svcI M hb) (sv (d:=.int _ 1) M) M hx23))<|aA M (fE M M (lb M) (svB M) M M hx24)<|aA M (mvB M M M M)<|aN M M (.one M) M (by decide) (fun hb=>(lra q9 la32 M M M M M (nle M) M))<|aN M M (.one M) M (by decide) (fun hb=>(bU (r:=.int _ _) M M (lb M) cl19 (.cons (svcA (v0 x1.1) M hb) (.cons (sv (d:=.int _ 5) M) (.cons (sv (d:=.int _ 3) M) .nil))) M (vR _ _ _ _ (gd_t hx25 hb))))<|aN M M (.one M) M (by decide) (fun hb=>(aQ M M (lb M) (svcI M hb) (sv (d:=.int _ 0) M) M hx26))<|aA M (fE M M (lb M) (svB M) M M hx27)<|aA M (mvB M M M M)<|aN M M (.one M) M (by decide) (fun hb=>(lra q9 la32 M M M M M (nle M) M))<|aN M M (.one M) M (by decide) (fun hb=>(bU (r:=.slice _ _) M M (lb M) cl20 (.cons (svcA (v0 x1.1) M hb) (.cons (sv (d:=.int _ 1) M) .nil)) M (rQ _ _ _ (gd_t hx28 hb))))<|aN M M (.one M) M (by decide) (fun hb=>(aCk (eInt .i64) ([3]:(List Int)) M M (lb M) underlying30 ti3 (.cons (sv (d:=.int _ 3) M) .nil) M M (by decide)))<|aN M M (.one M) M (by decide) (fun hb=>(bU (r:=.bool _) M M (lb M) cl15 (.cons (svcL M hb) (.cons (svcL M hb) .nil)) M (lX _ _ _ (gd_t hx29 hb))))<|aA M (fE M M (lb M) (svB M) M M hx30)<|aA M (mvB M M M M)<|aN M M (.one M) M (by decide) (fun hb=>(lra q9 la32 M M M M M (nle M) M))<|aN M M (.one M) M (by decide) (fun hb=>(bU (r:=.slice _ _) M M (lb M) cl20 (.cons (svcA (v0 x1.1) M hb) (.cons (sv (d:=.int _ 0) M) .nil)) M (rQ _ _ _ (gd_t hx31 hb))))<|aN M M (.one M) M (by decide) (fun hb=>(aCk (eInt .i64) ([1,3,5]:(List Int)) M M (lb M) underlying30 ti3 (.cons (sv (d:=.int _ 1) M) (.cons (sv (d:=.int _ 3) M) (.cons (sv (d:=.int _ 5) M) .nil))) M M (by decide)))<|aN M M (.one M) M (by decide) (fun hb=>(bU (r:=.bool _) M M (lb M) cl15 (.cons (svcL M hb) (.cons (svcL M hb) .nil)) M (lX _ _ _ (gd_t hx32 hb))))<|aA M (fE M M (lb M) (svB M) M M hx33)<|aA M (mvB M M M M)<|aN M M (.one M) M (by decide) (fun hb=>(lra q9 la32 M M M M M (nle M) M))<|aN M M (.one M) M (by decide) (fun hb=>(bU (r:=.int _ _) M M (lb M) cl21 (.cons (svcA (v0 x1.1) M hb) (.cons (sv (d:=.int _ 0) M) .nil)) M (aBW _ _ _ (gd_t hx34 hb))))<|aN M M (.one M) M (by decide) (fun hb=>(aQ M M (lb M) (svcI M hb) (sv (d:=.int _ 18) M) M hx35))<|aA M (fE M M (lb M) (svB M) M M hx36)<|aA M (mvB M M M M)<|aN M M (.one M) M (by decide) (fun hb=>(lra q9 la32 M M M M M (nle M) M))<|aN M M (.one M) M (by decide) (fun hb=>(bU (r:=.int _ _) M M (lb M) cl11 (.cons (svcA (v0 x1.1) M hb) .nil) M (mF _ _ (gd_t hx37 hb))))<|aN M M (.one M) M (by decide) (fun hb=>(aQ M M (lb M) (svcI M hb) (sv (d:=.int _ 0) M) M hx38))<|aA M (fE M M (lb M) (svB M) M M hx39)<|aA M (mvB M M M M)<|aN M M (.one M) M (by decide) (fun hb=>(vY (d':=.agg (w25 0 0 ([]:List aH) ([]:List Int))) (cJ (cs:=q12) M M (lb M) underlying32 ti32 pl32 M .nil M) (.agg (.k (.k (.cons (.nils _) (.cons (.nils _) .nil)))))))<|aN M M (.one M) M (by decide) (fun hb=>(bU (r:=.int _ _) M M (lb M) cl11 (.cons (svc (d:=.agg (w25 0 0 ([]:List aH) ([]:List Int))) M hb) .nil) M (mF _ _ (gd_t hx40 hb))))<|aN M M (.one M) M (by decide) (fun hb=>(aQ M M (lb M) (svcI M hb) (sv (d:=.int _ 8) M) M hx41))<|aA M (fE M M (lb M) (svB M) M M hx42)<|aA M (mvB M M M M)<|aN M M (.one M) M (by decide) (fun hb=>(lra q9 la32 M M M M M (nle M) M))<|aN M M (.one M) M (by decide) (fun hb=>(vY (d':=.agg (w25 0 0 ([]:List aH) ([]:List Int))) (cJ (cs:=q12) M M (lb M) underlying32 ti32 pl32 M .nil M) (.agg (.k (.k (.cons (.nils _) (.cons (.nils _) .nil)))))))<|aN M M (.one M) M (by decide) (fun hb=>(bU (r:=.bool _) M M (lb M) cl22 (.cons (svcA (v0 x1.1) M hb) (.cons (svc (d:=.agg (w25 0 0 ([]:List aH) ([]:List Int))) M hb) .nil)) M (vQ _ _ _ (gd_t hx43 hb))))<|aN M M (.one M) M (by decide) (fun hb=>(gD M M (lb M) (svcB M hb)))<|aA M (fE M M (lb M) (svB M) M M hx44)<|aA M (mvB M M M M)<|aN M M (.one M) M (by decide) (fun hb=>(lra q9 la32 M M M M M (nle M) M))<|aN M M (.one M) M (by decide) (fun hb=>(lra q9 la32 M M M M M (nle M) M))<|aN M M (.one M) M (by decide) (fun hb=>(bU (r:=.bool _) M M (lb M) cl22 (.cons (svcA (v0 x1.1) M hb) (.cons (svcA (v0 x1.1) M hb) .nil)) M (vQ _ _ _ (gd_t hx45 hb))))<|aA M (fE M M (lb M) (svB M) M M hx46)<|aA M (mvB M M M M)<|aA M (sX M M (lb M) (svB M) M M hx47)<|aA M (mvB M M M M)<|aA M (sX M M (lb M) (svB M) M M hx48)<|aA M (mvB M M M M)<|aA M (sX M M (lb M) (svB M) M M hx49)<|aA M (asB M M M M)<|aD ?_)
  refine aY ?_
  obtain rfl:=sj_ h
  refine ⟨.inr M,(.cons (sv M) .nil)⟩

theorem pT (a0:Int) (a1:Int) (a2:Int) (r:Bool) (h:oH a0 a1 a2=some r):eK prog 23 [.int .i64 a0,.int .i64 a1,.int .i64 a2] (.bool r):=by
 refine bW (rs:=[.bool r]) func23 M ntmps23 (nle M) M fun O hO=>?_
 show IWP _ _ _ _ ⟨[(0,.int .i64 a0),(1,.int .i64 a1),(2,.int .i64 a2)],[]⟩ _
 unfold oH at h
 refine aF (aA M (aG M M (lb M) (sv (d:=.bool false) M))<|aD ?_)
 obtain ⟨x1,hx1,h⟩:=bC h
 obtain ⟨x2,hx2,h⟩:=bC h
 obtain ⟨x3,hx3,h⟩:=bC h
 refine aF (aA M (mvI M M M M)<|aA M (mvI M M M M)<|aA M (aQ M M (lb M) (svI M) (svI M) M hx1)<|aA M (mvB M M M M)<|aN M M (.one M) M (by decide) (fun hb=>(mvI M M M M))<|aN M M (.one M) M (by decide) (fun hb=>(mvI M M M M))<|aN M M (.one M) M (by decide) (fun hb=>(aQ M M (lb M) (svcI M hb) (svcI M hb) M hx2))<|aA M (fE M M (lb M) (svB M) M M hx3)<|aA M (asB M M M M)<|aD ?_)
 refine aY ?_
 obtain rfl:=sj_ h
 refine ⟨.inr M,(.cons (sv M) .nil)⟩

theorem aAg  (r:bH) (h:wO=some r):eK prog 24 [] (.agg (v2 r)):=by
 refine bW (rs:=[.agg (v2 r)]) func24 M ntmps24 (nle M) M fun O hO=>?_
 show IWP _ _ _ _ ⟨[],[]⟩ _
 unfold wO at h
 refine aF (aA M (cT (cs:=q18) (cs':=[.slice false (([]:List aK).map aZ.d),.int .i64 0,.int .i64 0]) 0 M M (lb M) M ti61 M M (.cons (.nils _) (.all _)))<|aD ?_)
 refine aF (aA M (vY (d':=.agg [.slice false (([]:List aK).map aZ.d),.int .i64 (-1),.int .i64 0]) (cJ (cs:=q18) M M (lb M) underlying61 ti61 pl61 M (.cons (sv (d:=.int _ (-1)) M) .nil) M) (.agg (.cons (.nils _) (.all _))))<|aA M (dZ (ds':=[.slice false (([]:List aK).map aZ.d),.int _ _,.int _ _]) M M ti61 (svR M) M (svA q13 M) M M M (nle M) M)<|aD ?_)
 refine aY ?_
 obtain rfl:=sj_ h
 refine ⟨.inr M,(.cons (rva la61 M M (nle M) M) .nil)⟩

theorem pB (a0:gE) (a1:Int) (r:Int) (h:kN a0 a1=some r):eK prog 30 [.agg (v5 a0),.int .i64 a1] (.int .i64 r):=by
 refine bW (rs:=[.int .i64 r]) func30 M ntmps30 (nle M) M fun O hO=>?_
 show IWP _ _ _ _ ⟨[(0,.agg (v5 a0)),(1,.int .i64 a1)],[]⟩ _
 unfold kN at h
 refine aF (aA M (cK (cs:=q16) 0 M M (lb M) M (svA q16 M) M M)<|aA M (aG M M (lb M) (sv (d:=.int _ 0) M))<|aD ?_)
 refine aT ?_
 refine bB ?_
 refine mN (α:=Bool) (fun z=>⟨[(1,.int .i64 a1),(2,.ref 0 0),(5,.bool z)],[(0,.blk 75 (v5 a0))]⟩) (fun z=>iM a0 a1 z=some r) ?_ ?_
 ·
  obtain ⟨x10,hx10,h⟩:=aX h
  refine aF (aA M (mvI M M M M)<|aA M (bU (r:=.bool _) M M (lb M) cl23 (.cons (svI M) (.cons (sv (d:=.int _ 1) M) (.cons (sv (d:=.int _ 1048576) M) .nil))) M (pT _ _ _ _ hx10))<|aA M (gD M M (lb M) (svB M))<|aA M (asB M M M M)<|aD ?_)
  refine aR (b:=_) M (fun hc11=>?_) (fun hc11=>?_)
  ·
   replace h:=cA h hc11
   refine aS ?_
   refine aM ⟨(!x10),(fun i=>i),⟨(.sames M M),(.cons (.blk M M M) .nil),bE [0] M (by decide),fun _ _=>M⟩,?_⟩
   exact h
  ·
   replace h:=cB h hc11
   obtain ⟨x12,hx12,h⟩:=aX h
   refine aF (aA M (faR 0 M M M underlying75 M ti3 (lb M) M M)<|aA M (aI (d:=.int _ _) M M (lb M) underlying3 ag3 ti3 (by decide) (svR M) M (nle M) M)<|aA M (bU (r:=.bool _) M M (lb M) cl23 (.cons (svI M) (.cons (sv (d:=.int _ 0) M) (.cons (sv (d:=.int _ 1048576) M) .nil))) M (pT _ _ _ _ hx12))<|aA M (gD M M (lb M) (svB M))<|aA M (asB M M M M)<|aD ?_)
   refine aR (b:=_) M (fun hc13=>?_) (fun hc13=>?_)
   ·
    replace h:=cA h hc13
    refine aS ?_
    refine aM ⟨(!x12),(fun i=>i),⟨(.sames M M),(.cons (.blk M M M) .nil),bE [0] M (by decide),fun _ _=>M⟩,?_⟩
    exact h
   ·
    replace h:=cB h hc13
    obtain ⟨x14,hx14,h⟩:=aX h
    refine bA (aA M (faR 1 M M M underlying75 M ti3 (lb M) M M)<|aA M (aI (d:=.int _ _) M M (lb M) underlying3 ag3 ti3 (by decide) (svR M) M (nle M) M)<|aA M (bU (r:=.bool _) M M (lb M) cl23 (.cons (svI M) (.cons (sv (d:=.int _ 1) M) (.cons (sv (d:=.int _ 256) M) .nil))) M (pT _ _ _ _ hx14))<|aA M (gD M M (lb M) (svB M))<|aA M (asB M M M M)<|bL ?_)
    refine aM ⟨(!x14),(fun i=>i),⟨(.sames M M),(.cons (.blk M M M) .nil),bE [0] M (by decide),fun _ _=>M⟩,?_⟩
    exact h
 ·
  rintro v6 h
  unfold iM at h
  refine aR (b:=_) M (fun hc7=>?_) (fun hc7=>?_)
  ·
   replace h:=cA h hc7
   refine aF (aA M (aG M M (lb M) (sv (d:=.int _ 8) M))<|aD ?_)
   refine aY ?_
   refine cO ?_
   refine bG ?_
   obtain rfl:=sj_ h
   refine ⟨.inr M,(.cons (sv M) .nil)⟩
  ·
   replace h:=cB h hc7
   obtain ⟨x8,hx8,h⟩:=bC h
   refine aF (aA M (mvI M M M M)<|aA M (faR 0 M M M underlying75 M ti3 (lb M) M M)<|aA M (aI (d:=.int _ _) M M (lb M) underlying3 ag3 ti3 (by decide) (svR M) M (nle M) M)<|aA M (aQ M M (lb M) (svI M) (svI M) M hx8)<|aA M (asB M M M M)<|aD ?_)
   refine aR (b:=_) M (fun hc9=>?_) (fun hc9=>?_)
   ·
    replace h:=cA h hc9
    refine aF (aA M (aG M M (lb M) (sv (d:=.int _ 4) M))<|aD ?_)
    refine aY ?_
    refine cO ?_
    refine bG ?_
    obtain rfl:=sj_ h
    refine ⟨.inr M,(.cons (sv M) .nil)⟩
   ·
    replace h:=cB h hc9
    refine aS ?_
    refine bJ ?_
    refine aM ?_
    refine aF (aA M (aG M M (lb M) (sv (d:=.int _ 0) M))<|aD ?_)
    refine aY ?_
    obtain rfl:=sj_ h
    refine ⟨.inr M,(.cons (sv M) .nil)⟩

theorem oR (a0:bH) (a1:Int) (r:Bool) (h:iV a0 a1=some r):eK prog 85 [.agg (v2 a0),.int .i64 a1] (.bool r):=by
 refine bW (rs:=[.bool r]) func85 M ntmps85 (nle M) M fun O hO=>?_
 show IWP _ _ _ _ ⟨[(0,.agg (v2 a0)),(1,.int .i64 a1)],[]⟩ _
 unfold iV at h
 refine aF (aA M (cK (cs:=q13) 0 M M (lb M) M (svA q13 M) M M)<|aA M (aG M M (lb M) (sv (d:=.bool false) M))<|aD ?_)
 obtain ⟨x1,hx1,h⟩:=bC h
 obtain ⟨x2,hx2,h⟩:=bC h
 obtain ⟨x3,hx3,h⟩:=bC h
 refine aF (aA M (mvI M M M M)<|aA M (aQ M M (lb M) (sv (d:=.int _ (-1)) M) (svI M) M hx1)<|aA M (mvB M M M M)<|aN M M (.one M) M (by decide) (fun hb=>(mvI M M M M))<|aN M M (.one M) M (by decide) (fun hb=>(faR 0 M M M underlying61 M ti59 (lb M) M M))<|aN M M (.one M) M (by decide) (fun hb=>(aI (d:=.slice _ _) M M (lb M) underlying59 ag59 ti59 (by decide) (svcR M hb) M (nle M) M))<|aN M M (.one M) M (by decide) (fun hb=>(cV aZ (l:=a0.Cells) M M (lb M) underlying59 (svcL M hb)))<|aN M M (.one M) M (by decide) (fun hb=>(aQ M M (lb M) (svcI M hb) (svcI M hb) M hx2))<|aA M (fE M M (lb M) (svB M) M M hx3)<|aA M (asB M M M M)<|aD ?_)
 refine aY ?_
 obtain rfl:=sj_ h
 refine ⟨.inr M,(.cons (sv M) .nil)⟩

theorem rO (a0:bH) (a1:aK) (r:Bool) (h:kW a0 a1=some r):eK prog 87 [.agg (v2 a0),.agg (v4 a1)] (.bool r):=by
 refine bW (rs:=[.bool r]) func87 M ntmps87 (nle M) M fun O hO=>?_
 show IWP _ _ _ _ ⟨[(0,.agg (v2 a0)),(1,.agg (v4 a1))],[]⟩ _
 unfold kW at h
 refine aF (aA M (cK (cs:=q13) 0 M M (lb M) M (svA q13 M) M M)<|aA M (cK (cs:=q17) 1 M M (lb M) M (svA q17 M) M M)<|aA M (aG M M (lb M) (sv (d:=.bool false) M))<|aD ?_)
 obtain ⟨x1,hx1,h⟩:=aX h
 obtain ⟨x2,hx2,h⟩:=bC h
 refine aF (aA M (faR 0 M M M underlying114 M ti4 (lb M) M M)<|aA M (aI (d:=.bool _) M M (lb M) underlying4 ag4 ti4 (by decide) (svR M) M (nle M) M)<|aA M (gD M M (lb M) (svB M))<|aA M (mvB M M M M)<|aN M M (.one M) M (by decide) (fun hb=>(lra q13 la61 M M M M M (nle M) M))<|aN M M (.one M) M (by decide) (fun hb=>(faR 2 M M M underlying114 M ti3 (lb M) M M))<|aN M M (.one M) M (by decide) (fun hb=>(aI (d:=.int _ _) M M (lb M) underlying3 ag3 ti3 (by decide) (svcR M hb) M (nle M) M))<|aN M M (.one M) M (by decide) (fun hb=>(bU (r:=.bool _) M M (lb M) cl85 (.cons (svcA (v2 a0) M hb) (.cons (svcI M hb) .nil)) M (oR _ _ _ (gd_t hx1 hb))))<|aN M M (.one M) M (by decide) (fun hb=>(gD M M (lb M) (svcB M hb)))<|aA M (fE M M (lb M) (svB M) M M hx2)<|aA M (asB M M M M)<|aD ?_)
 refine aY ?_
 obtain rfl:=sj_ h
 refine ⟨.inr M,(.cons (sv M) .nil)⟩

theorem kZ (a0:(List aK)) (a1:bH) (r:Int) (h:dQ a0 a1=some r):eK prog 111 [.slice false (a0.map aZ.d),.mv 87 [.agg (v2 a1)]] (.int .i64 r):=by
 refine bW (rs:=[.int .i64 r]) func111 M ntmps111 (nle M) M fun O hO=>?_
 show IWP _ _ _ _ ⟨[(0,.slice false (a0.map aZ.d)),(1,.mv 87 [.agg (v2 a1)])],[]⟩ _
 unfold dQ at h
 refine aF (aA M (aG M M (lb M) (sv (d:=.int _ 0) M))<|aD ?_)
 refine aT ?_
 refine aF (aA M (mvL M M M M)<|aA M (cV aZ (l:=a0) M M (lb M) underlying59 (svL M))<|aA M (aO M M (lb M) (sv (d:=.int _ 0) M))<|aD ?_)
 refine bB ?_
 refine cP (α:=Nat × Int) (fun z=>⟨[(0,.slice false (a0.map aZ.d)),(1,.mv 87 [.agg (v2 a1)]),(7,.int .i64 (a0.length:Int)),(8,.int .i64 z.2)],[]⟩) (fun z=>bN a0 a1 z.1 z.2=some r) (fun z=>z.1) (fuel,0) (fun i=>i) ⟨(.sames M M),.nil,bE [] M (by decide),fun _ _=>M⟩ ?_ ?_
 ·exact h
 ·
  rintro ⟨n0,v7⟩ h
  cases n0 with
  | zero=>exact absurd h (by unfold bN; exact nofun)
  | succ n0 =>
   unfold bN at h
   obtain ⟨x14,hx14,h⟩:=bC h
   refine aF (aA M (aQ M M (lb M) (svI M) (svI M) M hx14)<|aD ?_)
   refine aT ?_
   refine aR (b:=_) M (fun hc15=>?_) (fun hc15=>?_)
   ·
    replace h:=cA h hc15
    refine aS ?_
    refine aM ?_
    refine aT ?_
    refine bB ?_
    refine aF (aA M (mvI M M M M)<|aA M (asI M M M M)<|aD ?_)
    obtain ⟨x16,hx16,h⟩:=aX h
    obtain ⟨x17,hx17,h⟩:=aX h
    refine aF (aA M (aO M M (lb M) (sv (d:=.mv 87 [.agg q13]) M))<|aA M (mvL M M M M)<|aA M (mvI M M M M)<|aA M (dW aZ (cs:=q17) M M (lb M) underlying59 nK (svL M) (svI M) hx16 M M)<|aA M (fD (cs:=q17) M M (lb M) underlying114 aDA nK (by decide) (sv (d:=.fptr q17) M) (nle M) M)<|aA M (wD (r:=.bool _) M M (lb M) cl87 (sv (d:=.mv 87 [.agg q13]) M) (.cons (svA q17 M) .nil) M (rO _ _ _ hx17))<|aD ?_)
    refine aR (b:=_) M (fun hc18=>?_) (fun hc18=>?_)
    ·
     replace h:=cA h hc18
     refine aF (aA M (mvI M M M M)<|aA M (asI M M M M)<|aD ?_)
     refine aY ?_
     refine cO ?_
     refine bG ?_
     refine bG ?_
     refine cO ?_
     refine bG ?_
     obtain rfl:=sj_ h
     refine ⟨.inr M,(.cons (sv M) .nil)⟩
    ·
     replace h:=cB h hc18
     refine aS ?_
     refine bJ ?_
     refine aM ?_
     obtain ⟨x19,hx19,h⟩:=bC h
     refine bA (aA M (bO M M (lb M) (svI M) (sv (d:=.int _ 1) M) M hx19)<|aA M (mvI M M M M)<|bL ?_)
     refine aM ⟨(n0,x19),(fun i=>i),⟨(.sames M M),.nil,bE [] M (by decide),fun _ _=>M⟩,?_,?_⟩
     exact h
     exact Nat.lt_succ_self _
   ·
    replace h:=cB h hc15
    refine cU ?_
    refine bK ?_
    refine bK ?_
    refine cW ?_
    refine aM ?_
    refine aF (aA M (aG M M (lb M) (sv (d:=.int _ (-1)) M))<|aD ?_)
    refine aY ?_
    obtain rfl:=sj_ h
    refine ⟨.inr M,(.cons (sv M) .nil)⟩

theorem kH (a0:(List aK)) (a1:bH) (r:Bool) (h:dF a0 a1=some r):eK prog 86 [.slice false (a0.map aZ.d),.mv 87 [.agg (v2 a1)]] (.bool r):=by
 refine bW (rs:=[.bool r]) func86 M ntmps86 (nle M) M fun O hO=>?_
 show IWP _ _ _ _ ⟨[(0,.slice false (a0.map aZ.d)),(1,.mv 87 [.agg (v2 a1)])],[]⟩ _
 unfold dF at h
 refine aF (aA M (aG M M (lb M) (sv (d:=.bool false) M))<|aD ?_)
 obtain ⟨x1,hx1,h⟩:=aX h
 obtain ⟨x2,hx2,h⟩:=bC h
 refine aF (aA M (mvL M M M M)<|aA M (aO M M (lb M) (sv (d:=.mv 87 [.agg q13]) M))<|aA M (bU (r:=.int _ _) M M (lb M) cl111 (.cons (svL M) (.cons (sv (d:=.mv 87 [.agg q13]) M) .nil)) M (kZ _ _ _ hx1))<|aA M (aQ M M (lb M) (svI M) (sv (d:=.int _ 0) M) M hx2)<|aA M (asB M M M M)<|aD ?_)
 refine aY ?_
 obtain rfl:=sj_ h
 refine ⟨.inr M,(.cons (sv M) .nil)⟩

theorem aAf (a0:aK) (r:Bool) (h:rE a0=some r):eK prog 88 [.agg (v4 a0)] (.bool r):=by
 refine bW (rs:=[.bool r]) func88 M ntmps88 (nle M) M fun O hO=>?_
 show IWP _ _ _ _ ⟨[(0,.agg (v4 a0))],[]⟩ _
 unfold rE at h
 refine aF (aA M (cK (cs:=q17) 0 M M (lb M) M (svA q17 M) M M)<|aA M (aG M M (lb M) (sv (d:=.bool false) M))<|aD ?_)
 refine aT ?_
 refine aF (aA M (faR 0 M M M underlying114 M ti4 (lb M) M M)<|aA M (aI (d:=.bool _) M M (lb M) underlying4 ag4 ti4 (by decide) (svR M) M (nle M) M)<|aD ?_)
 refine aR (b:=_) M (fun hc1=>?_) (fun hc1=>?_)
 ·
  replace h:=cA h hc1
  obtain ⟨x2,hx2,h⟩:=bC h
  refine aF (aA M (faR 2 M M M underlying114 M ti3 (lb M) M M)<|aA M (aI (d:=.int _ _) M M (lb M) underlying3 ag3 ti3 (by decide) (svR M) M (nle M) M)<|aA M (aQ M M (lb M) (svI M) (sv (d:=.int _ 0) M) M hx2)<|aA M (asB M M M M)<|aD ?_)
  refine aY ?_
  refine bG ?_
  obtain rfl:=sj_ h
  refine ⟨.inr M,(.cons (sv M) .nil)⟩
 ·
  replace h:=cB h hc1
  refine aS ?_
  refine aM ?_
  obtain ⟨x3,hx3,h⟩:=bC h
  refine aF (aA M (faR 1 M M M underlying114 M ti3 (lb M) M M)<|aA M (aI (d:=.int _ _) M M (lb M) underlying3 ag3 ti3 (by decide) (svR M) M (nle M) M)<|aA M (aQ M M (lb M) (svI M) (sv (d:=.int _ 0) M) M hx3)<|aA M (asB M M M M)<|aD ?_)
  refine aY ?_
  obtain rfl:=sj_ h
  refine ⟨.inr M,(.cons (sv M) .nil)⟩

theorem lP (a0:(List aK)) (r:Int) (h:eI a0=some r):eK prog 111 [.slice false (a0.map aZ.d),.fn 88 []] (.int .i64 r):=by
 refine bW (rs:=[.int .i64 r]) func111 M ntmps111 (nle M) M fun O hO=>?_
 show IWP _ _ _ _ ⟨[(0,.slice false (a0.map aZ.d)),(1,.fn 88 [])],[]⟩ _
 unfold eI at h
 refine aF (aA M (aG M M (lb M) (sv (d:=.int _ 0) M))<|aD ?_)
 refine aT ?_
 refine aF (aA M (mvL M M M M)<|aA M (cV aZ (l:=a0) M M (lb M) underlying59 (svL M))<|aA M (aO M M (lb M) (sv (d:=.int _ 0) M))<|aD ?_)
 refine bB ?_
 refine cP (α:=Nat × Int) (fun z=>⟨[(0,.slice false (a0.map aZ.d)),(1,.fn 88 []),(7,.int .i64 (a0.length:Int)),(8,.int .i64 z.2)],[]⟩) (fun z=>bS a0 z.1 z.2=some r) (fun z=>z.1) (fuel,0) (fun i=>i) ⟨(.sames M M),.nil,bE [] M (by decide),fun _ _=>M⟩ ?_ ?_
 ·exact h
 ·
  rintro ⟨n0,v7⟩ h
  cases n0 with
  | zero=>exact absurd h (by unfold bS; exact nofun)
  | succ n0 =>
   unfold bS at h
   obtain ⟨x14,hx14,h⟩:=bC h
   refine aF (aA M (aQ M M (lb M) (svI M) (svI M) M hx14)<|aD ?_)
   refine aT ?_
   refine aR (b:=_) M (fun hc15=>?_) (fun hc15=>?_)
   ·
    replace h:=cA h hc15
    refine aS ?_
    refine aM ?_
    refine aT ?_
    refine bB ?_
    refine aF (aA M (mvI M M M M)<|aA M (asI M M M M)<|aD ?_)
    obtain ⟨x16,hx16,h⟩:=aX h
    obtain ⟨x17,hx17,h⟩:=aX h
    refine aF (aA M (aO M M (lb M) (sv (d:=.fn 88 []) M))<|aA M (mvL M M M M)<|aA M (mvI M M M M)<|aA M (dW aZ (cs:=q17) M M (lb M) underlying59 nK (svL M) (svI M) hx16 M M)<|aA M (fD (cs:=q17) M M (lb M) underlying114 aDA nK (by decide) (sv (d:=.fptr q17) M) (nle M) M)<|aA M (pW (r:=.bool _) M M (lb M) cl88 (sv (d:=.fn 88 []) M) (.cons (svA q17 M) .nil) M (aAf _ _ hx17))<|aD ?_)
    refine aR (b:=_) M (fun hc18=>?_) (fun hc18=>?_)
    ·
     replace h:=cA h hc18
     refine aF (aA M (mvI M M M M)<|aA M (asI M M M M)<|aD ?_)
     refine aY ?_
     refine cO ?_
     refine bG ?_
     refine bG ?_
     refine cO ?_
     refine bG ?_
     obtain rfl:=sj_ h
     refine ⟨.inr M,(.cons (sv M) .nil)⟩
    ·
     replace h:=cB h hc18
     refine aS ?_
     refine bJ ?_
     refine aM ?_
     obtain ⟨x19,hx19,h⟩:=bC h
     refine bA (aA M (bO M M (lb M) (svI M) (sv (d:=.int _ 1) M) M hx19)<|aA M (mvI M M M M)<|bL ?_)
     refine aM ⟨(n0,x19),(fun i=>i),⟨(.sames M M),.nil,bE [] M (by decide),fun _ _=>M⟩,?_,?_⟩
     exact h
     exact Nat.lt_succ_self _
   ·
    replace h:=cB h hc15
    refine cU ?_
    refine bK ?_
    refine bK ?_
    refine cW ?_
    refine aM ?_
    refine aF (aA M (aG M M (lb M) (sv (d:=.int _ (-1)) M))<|aD ?_)
    refine aY ?_
    obtain rfl:=sj_ h
    refine ⟨.inr M,(.cons (sv M) .nil)⟩

theorem lA (a0:(List aK)) (r:Bool) (h:dR a0=some r):eK prog 86 [.slice false (a0.map aZ.d),.fn 88 []] (.bool r):=by
 refine bW (rs:=[.bool r]) func86 M ntmps86 (nle M) M fun O hO=>?_
 show IWP _ _ _ _ ⟨[(0,.slice false (a0.map aZ.d)),(1,.fn 88 [])],[]⟩ _
 unfold dR at h
 refine aF (aA M (aG M M (lb M) (sv (d:=.bool false) M))<|aD ?_)
 obtain ⟨x1,hx1,h⟩:=aX h
 obtain ⟨x2,hx2,h⟩:=bC h
 refine aF (aA M (mvL M M M M)<|aA M (aO M M (lb M) (sv (d:=.fn 88 []) M))<|aA M (bU (r:=.int _ _) M M (lb M) cl111 (.cons (svL M) (.cons (sv (d:=.fn 88 []) M) .nil)) M (lP _ _ hx1))<|aA M (aQ M M (lb M) (svI M) (sv (d:=.int _ 0) M) M hx2)<|aA M (asB M M M M)<|aD ?_)
 refine aY ?_
 obtain rfl:=sj_ h
 refine ⟨.inr M,(.cons (sv M) .nil)⟩

theorem rZ (a0:bH) (r:((List Int) × Bool)) (h:mP a0=some r):eK prog 89 [.agg (v2 a0)] (retD [.slice false (r.1.map (eInt .i64).d),.bool r.2]):=by
 refine mB (rs:=[.slice false (r.1.map (eInt .i64).d),.bool r.2]) func89 M ntmps89 (nle M) M fun O hO=>?_
 show IWP _ _ _ _ ⟨[(0,.agg (v2 a0))],[]⟩ _
 unfold mP at h
 refine aF (aA M (cK (cs:=q13) 0 M M (lb M) M (svA q13 M) M M)<|aA M (aG M M (lb M) (sv (d:=.nils) M))<|aA M (aG M M (lb M) (sv (d:=.bool false) M))<|aD ?_)
 refine wR (α:=Nat × (List Int) × Int) 0 (fun z=>⟨[(1,.ref 0 0),(4,.osl 22 (eInt .i64).sz z.2.1.length),(5,.int .i64 z.2.2)],[(0,.blk 61 (v2 a0)),(22,.blk 3 (D.flat (z.2.1.map (eInt .i64).d)))]⟩) (fun z=>fU a0 z.1 z.2.1 z.2.2=some r) (fun z=>z.1) M ?_ ?_
 ·
  rintro ⟨n0,v9,v10⟩ h
  cases n0 with
  | zero=>exact absurd h (by unfold fU; exact nofun)
  | succ n0 =>
   unfold fU at h
   refine aT ?_
   obtain ⟨x19,hx19,h⟩:=bC h
   refine aF (aA M (mvI M M M M)<|aA M (aQ M M (lb M) (svI M) (sv (d:=.int _ (-1)) M) M hx19)<|aD ?_)
   refine aR (b:=_) M (fun hc20=>?_) (fun hc20=>?_)
   ·
    replace h:=cA h hc20
    refine aF (aA M (aO M M (lb M) (sv (d:=.osl _ _ _) M))<|aA M (aG M M (lb M) (sv (d:=.osl _ _ _) M))<|aA M (aG M M (lb M) (sv (d:=.bool true) M))<|aD ?_)
    refine aY ?_
    refine bG ?_
    refine aCv ?_
    obtain rfl:=sj_ h
    refine ⟨.inr M,_,(.cons (sv M) (.cons (sv M) .nil)),(.cons (FDT (eInt .i64) M M) (.all _))⟩
   ·
    replace h:=cB h hc20
    refine aS ?_
    refine aM ?_
    refine aT ?_
    obtain ⟨x21,hx21,h⟩:=aX h
    obtain ⟨x22,hx22,h⟩:=aX h
    obtain ⟨x23,hx23,h⟩:=bC h
    refine aF (aA M (faR 0 M M M underlying61 M ti59 (lb M) M M)<|aA M (lrL la59 M M M M M (nle M) M)<|aA M (mvI M M M M)<|aA M (dW aZ (cs:=q17) M M (lb M) underlying59 nK (svL M) (svI M) hx21 M M)<|aA M (gR (cs':=[.bool _]) M M (lb M) underlying114 M ti4 (by decide) (sv (d:=.fptr q17) M) M)<|aA M (eM M M (lb M) underlying4 ag4 ti4 (by decide) (sv (d:=.fptr [.bool _]) M) (nle M))<|aA M (mvB M M M M)<|aN M M (.one M) M (by decide) (fun hb=>(aO M M (lb M) (sv (d:=.osl _ _ _) M)))<|aN M M (.one M) M (by decide) (fun hb=>(mvI M M M M))<|aN M M (.one M) M (by decide) (fun hb=>(kF (r:=.bool x22) M M (lb M) cl46 (.cons (svc (d:=.osl _ _ _) M hb) (.cons (svcI M hb) .nil)) (.cons (FDT (eInt .i64) M M) (.all _)) M M (gU _ _ _ (gd_t hx22 hb))))<|aA M (kL M M (lb M) (svB M) M M hx23)<|aD ?_)
    refine aR (b:=_) M (fun hc24=>?_) (fun hc24=>?_)
    ·
     replace h:=cA h hc24
     refine aF (aA M (aO M M (lb M) (sv (d:=.osl _ _ _) M))<|aA M (aG M M (lb M) (sv (d:=.osl _ _ _) M))<|aA M (aG M M (lb M) (sv (d:=.bool false) M))<|aD ?_)
     refine aY ?_
     refine bG ?_
     refine aCv ?_
     obtain rfl:=sj_ h
     refine ⟨.inr M,_,(.cons (sv M) (.cons (sv M) .nil)),(.cons (FDT (eInt .i64) M M) (.all _))⟩
    ·
     replace h:=cB h hc24
     refine aS ?_
     refine aM ?_
     obtain ⟨x25,hx25,h⟩:=aX h
     refine aF (aA M (aO M M (lb M) (sv (d:=.osl _ _ _) M))<|aA M (mvI M M M M)<|aA M (lD (eInt .i64).toEnc0 ([v10]:(List Int)) 23 M M (lb M) underlying30 ti3 M (.cons (svI M) .nil) M M (by decide))<|aA M (iH (eInt .i64).toEnc0 24 M M (lb M) underlying30 ti3 M M M M M (qP (eInt .i64).toEnc0 M M M) hx25)<|aA M (aG M M (lb M) (sv (d:=.osl _ _ _) M))<|aD ?_)
     obtain ⟨x26,hx26,h⟩:=aX h
     refine aF (aA M (faR 0 M M M underlying61 M ti59 (lb M) M M)<|aA M (lrL la59 M M M M M (nle M) M)<|aA M (mvI M M M M)<|aA M (dW aZ (cs:=q17) M M (lb M) underlying59 nK (svL M) (svI M) hx26 M M)<|aA M (gR (cs':=[.int _ _]) M M (lb M) underlying114 M ti3 (by decide) (sv (d:=.fptr q17) M) M)<|aA M (eM M M (lb M) underlying3 ag3 ti3 (by decide) (sv (d:=.fptr [.int _ _]) M) (nle M))<|aA M (asI M M M M)<|aD ?_)
     refine aDY ?_
     refine ⟨M,(n0,x25,x26.Link),(fun i=>if i=22 then 24 else i),⟨(.sames M M),(.cons (.blk M M M) (.cons (EntW.lst M) .nil)),bE [0,24] M (by decide),(fun i hi=>by first | rfl | (show (if _ then _ else _)=_; (repeat' split) <;> omega))⟩,?_,?_⟩
     exact h
     exact Nat.lt_succ_self _
 ·
  intro hgo
  refine aF (aA M (aG M M (lb M) (sv (d:=.nils) M))<|aD ?_)
  refine aF (aA M (faR 1 M M M underlying61 M ti3 (lb M) M M)<|aA M (aI (d:=.int _ _) M M (lb M) underlying3 ag3 ti3 (by decide) (svR M) M (nle M) M)<|aA M (asI M M M M)<|aD ?_)
  refine aT (aCf ?_)
  exact hgo _ ⟨(fuel,([]:(List Int)),a0.Free),(fun i=>if i=22 then 73 else i),⟨(.s M M (.cons (.nilo M) (.sames M M))),(.cons (.blk M M M) (.cons (.nilb M) .nil)),bE [0,73] M (by decide),(fun i hi=>by first | rfl | (show (if _ then _ else _)=_; (repeat' split) <;> omega))⟩,h⟩

theorem qE (a0:bH) (r:Int) (h:nF a0=some r):eK prog 72 [.agg (v2 a0)] (.int .i64 r):=by
 refine bW (rs:=[.int .i64 r]) func72 M ntmps72 (nle M) M fun O hO=>?_
 show IWP _ _ _ _ ⟨[(0,.agg (v2 a0))],[]⟩ _
 unfold nF at h
 refine aF (aA M (cK (cs:=q13) 0 M M (lb M) M (svA q13 M) M M)<|aA M (aG M M (lb M) (sv (d:=.int _ 0) M))<|aD ?_)
 refine aT ?_
 refine bB ?_
 obtain ⟨x1,hx1,h⟩:=bC h
 refine aF (aA M (faR 0 M M M underlying61 M ti59 (lb M) M M)<|aA M (lrL la59 M M M M M (nle M) M)<|aA M (cV aZ (l:=a0.Cells) M M (lb M) underlying59 (svL M))<|aA M (aQ M M (lb M) (svI M) (sv (d:=.int _ 64) M) M hx1)<|aA M (asB M M M M)<|aD ?_)
 refine aR (b:=_) M (fun hc2=>?_) (fun hc2=>?_)
 ·
  replace h:=cA h hc2
  refine aF (aA M (aG M M (lb M) (sv (d:=.int _ 5) M))<|aD ?_)
  refine aY ?_
  refine cO ?_
  refine bG ?_
  obtain rfl:=sj_ h
  refine ⟨.inr M,(.cons (sv M) .nil)⟩
 ·
  replace h:=cB h hc2
  refine mN (α:=Bool) (fun z=>⟨[(1,.ref 0 0),(13,.bool z)],[(0,.blk 61 (v2 a0))]⟩) (fun z=>mX a0 z=some r) ?_ ?_
  ·
   obtain ⟨x40,hx40,h⟩:=aX h
   refine aF (aA M (lra q13 la61 M M M M M (nle M) M)<|aA M (faR 1 M M M underlying61 M ti3 (lb M) M M)<|aA M (aI (d:=.int _ _) M M (lb M) underlying3 ag3 ti3 (by decide) (svR M) M (nle M) M)<|aA M (bU (r:=.bool _) M M (lb M) cl85 (.cons (svA q13 M) (.cons (svI M) .nil)) M (oR _ _ _ hx40))<|aA M (gD M M (lb M) (svB M))<|aA M (asB M M M M)<|aD ?_)
   refine aR (b:=_) M (fun hc41=>?_) (fun hc41=>?_)
   ·
    replace h:=cA h hc41
    refine aS ?_
    refine aM ⟨(!x40),(fun i=>i),⟨(.sames M M),(.cons (.blk M M M) .nil),bE [0] M (by decide),fun _ _=>M⟩,?_⟩
    exact h
   ·
    replace h:=cB h hc41
    obtain ⟨x42,hx42,h⟩:=aX h
    refine bA (aA M (faR 0 M M M underlying61 M ti59 (lb M) M M)<|aA M (lrL la59 M M M M M (nle M) M)<|aA M (lra q13 la61 M M M M M (nle M) M)<|aA M (tT M M (lb M) (.cons (svA q13 M) .nil))<|aA M (bU (r:=.bool _) M M (lb M) cl86 (.cons (svL M) (.cons (sv (d:=.mv 87 [.agg q13]) M) .nil)) M (kH _ _ _ hx42))<|aA M (asB M M M M)<|bL ?_)
    refine aM ⟨x42,(fun i=>i),⟨(.sames M M),(.cons (.blk M M M) .nil),bE [0] M (by decide),fun _ _=>M⟩,?_⟩
    exact h
  ·
   rintro v6 h
   unfold mX at h
   refine aR (b:=_) M (fun hc7=>?_) (fun hc7=>?_)
   ·
    replace h:=cA h hc7
    refine aF (aA M (aG M M (lb M) (sv (d:=.int _ 8) M))<|aD ?_)
    refine aY ?_
    refine cO ?_
    refine bG ?_
    obtain rfl:=sj_ h
    refine ⟨.inr M,(.cons (sv M) .nil)⟩
   ·
    replace h:=cB h hc7
    obtain ⟨x8,hx8,h⟩:=aX h
    refine aF (aA M (faR 0 M M M underlying61 M ti59 (lb M) M M)<|aA M (lrL la59 M M M M M (nle M) M)<|aA M (bU (r:=.bool _) M M (lb M) cl86 (.cons (svL M) (.cons (sv (d:=.fn 88 []) M) .nil)) M (lA _ _ hx8))<|aA M (asB M M M M)<|aD ?_)
    refine aR (b:=_) M (fun hc9=>?_) (fun hc9=>?_)
    ·
     replace h:=cA h hc9
     refine aF (aA M (aG M M (lb M) (sv (d:=.int _ 4) M))<|aD ?_)
     refine aY ?_
     refine cO ?_
     refine bG ?_
     obtain rfl:=sj_ h
     refine ⟨.inr M,(.cons (sv M) .nil)⟩
    ·
     replace h:=cB h hc9
     refine aS ?_
     refine bJ ?_
     refine aM ?_
     refine aF (aA M (aG M M (lb M) (sv (d:=.int _ 0) M))<|aD ?_)
     refine aT ?_
     refine aF (aA M (faR 0 M M M underlying61 M ti59 (lb M) M M)<|aA M (lrL la59 M M M M M (nle M) M)<|aA M (cV aZ (l:=a0.Cells) M M (lb M) underlying59 (svL M))<|aA M (aO M M (lb M) (sv (d:=.int _ 0) M))<|aD ?_)
     refine bB ?_
     refine cP (α:=Nat × Int × Int) (fun z=>⟨[(1,.ref 0 0),(3,.int .i64 z.2.1),(29,.slice false (a0.Cells.map aZ.d)),(30,.int .i64 (a0.Cells.length:Int)),(31,.int .i64 z.2.2)],[(0,.blk 61 (v2 a0))]⟩) (fun z=>iZ a0 z.1 z.2.1 z.2.2=some r) (fun z=>z.1) (fuel,0,0) (fun i=>i) ⟨(.sames M M),(.cons (.blk M M M) .nil),bE [0] M (by decide),fun _ _=>M⟩ ?_ ?_
     ·exact h
     ·
      rintro ⟨n1,v17,v18⟩ h
      cases n1 with
      | zero=>exact absurd h (by unfold iZ; exact nofun)
      | succ n1 =>
       unfold iZ at h
       obtain ⟨x26,hx26,h⟩:=bC h
       refine aF (aA M (aQ M M (lb M) (svI M) (svI M) M hx26)<|aD ?_)
       refine aT ?_
       refine aR (b:=_) M (fun hc27=>?_) (fun hc27=>?_)
       ·
        replace h:=cA h hc27
        refine aS ?_
        refine aM ?_
        refine aT ?_
        refine bB ?_
        obtain ⟨x28,hx28,h⟩:=aX h
        refine aF (aA M (dW aZ (cs:=q17) M M (lb M) underlying59 nK (svL M) (svI M) hx28 M M)<|aA M (fD (cs:=q17) M M (lb M) underlying114 aDA nK (by decide) (sv (d:=.fptr q17) M) (nle M) M)<|aA M (cT (cs:=q17) (cs':=[.bool false,.int .i64 0,.int .i64 0]) 1 M M (lb M) M nK M M (.all _))<|aA M (stA q17 q17 nK M M M M M M M M (nle M) M)<|aD ?_)
        refine aF (aA M (faR 0 M M M underlying114 M ti4 (lb M) M M)<|aA M (aI (d:=.bool _) M M (lb M) underlying4 ag4 ti4 (by decide) (svR M) M (nle M) M)<|aD ?_)
        refine aR (b:=_) M (fun hc29=>?_) (fun hc29=>?_)
        ·
         replace h:=cA h hc29
         obtain ⟨x30,hx30,h⟩:=bC h
         refine bA (aA M (mvI M M M M)<|aA M (bO M M (lb M) (svI M) (sv (d:=.int _ 1) M) M hx30)<|aA M (asI M M M M)<|bL ?_)
         refine bJ ?_
         refine aM ?_
         obtain ⟨x31,hx31,h⟩:=bC h
         refine bA (aA M (bO M M (lb M) (svI M) (sv (d:=.int _ 1) M) M hx31)<|aA M (mvI M M M M)<|bL ?_)
         refine aM ⟨(n1,x30,x31),(fun i=>i),⟨(.sames M M),(.cons (.blk M M M) .nil),bE [0] M (by decide),fun _ _=>M⟩,?_,?_⟩
         exact h
         exact Nat.lt_succ_self _
        ·
         replace h:=cB h hc29
         refine aS ?_
         refine bJ ?_
         refine aM ?_
         obtain ⟨x32,hx32,h⟩:=bC h
         refine bA (aA M (bO M M (lb M) (svI M) (sv (d:=.int _ 1) M) M hx32)<|aA M (mvI M M M M)<|bL ?_)
         refine aM ⟨(n1,v17,x32),(fun i=>i),⟨(.sames M M),(.cons (.blk M M M) .nil),bE [0] M (by decide),fun _ _=>M⟩,?_,?_⟩
         exact h
         exact Nat.lt_succ_self _
       ·
        replace h:=cB h hc27
        refine cU ?_
        refine bK ?_
        refine bK ?_
        refine cW ?_
        refine aM ?_
        obtain ⟨x33,hx33,h⟩:=aX h
        refine aF (aA M (lra q13 la61 M M M M M (nle M) M)<|aA M (bU (r:=.tuple [.slice _ _,.bool _]) M M (lb M) cl89 (.cons (svA q13 M) .nil) M (rZ _ _ hx33))<|aA M (aO M M (lb M) (sv (d:=.tuple [.slice _ _,.bool _]) M))<|aA M (bQ (d:=.slice _ _) M M (lb M) (sv (d:=.tuple [.slice _ _,.bool _]) M) M)<|aA M (bQ (d:=.bool _) M M (lb M) (sv (d:=.tuple [.slice _ _,.bool _]) M) M)<|aA M (aG M M (lb M) (svL M))<|aA M (asB M M M M)<|aD ?_)
        refine aT ?_
        obtain ⟨x34,hx34,h⟩:=bC h
        obtain ⟨x35,hx35,h⟩:=bC h
        obtain ⟨x36,hx36,h⟩:=bC h
        obtain ⟨x37,hx37,h⟩:=bC h
        obtain ⟨x38,hx38,h⟩:=bC h
        refine aF (aA M (mvB M M M M)<|aA M (gD M M (lb M) (svB M))<|aA M (mvB M M M M)<|aN M M (.one M) M (by decide) (fun hb=>(mvI M M M M))<|aN M M (.one M) M (by decide) (fun hb=>(faR 2 M M M underlying61 M ti3 (lb M) M M))<|aN M M (.one M) M (by decide) (fun hb=>(aI (d:=.int _ _) M M (lb M) underlying3 ag3 ti3 (by decide) (svcR M hb) M (nle M) M))<|aN M M (.one M) M (by decide) (fun hb=>(aQ M M (lb M) (svcI M hb) (svcI M hb) M hx34))<|aA M (kL M M (lb M) (svB M) M M hx35)<|aA M (mvB M M M M)<|aN M M (.one M) M (by decide) (fun hb=>(mvI M M M M))<|aN M M (.one M) M (by decide) (fun hb=>(mvL M M M M))<|aN M M (.one M) M (by decide) (fun hb=>(cV (eInt .i64) (l:=x33.1) M M (lb M) underlying30 (svcL M hb)))<|aN M M (.one M) M (by decide) (fun hb=>(bO M M (lb M) (svcI M hb) (svcI M hb) M hx36))<|aN M M (.one M) M (by decide) (fun hb=>(faR 0 M M M underlying61 M ti59 (lb M) M M))<|aN M M (.one M) M (by decide) (fun hb=>(aI (d:=.slice _ _) M M (lb M) underlying59 ag59 ti59 (by decide) (svcR M hb) M (nle M) M))<|aN M M (.one M) M (by decide) (fun hb=>(cV aZ (l:=a0.Cells) M M (lb M) underlying59 (svcL M hb)))<|aN M M (.one M) M (by decide) (fun hb=>(aQ M M (lb M) (svcI M hb) (svcI M hb) M hx37))<|aA M (kL M M (lb M) (svB M) M M hx38)<|aD ?_)
        refine aR (b:=_) M (fun hc39=>?_) (fun hc39=>?_)
        ·
         replace h:=cA h hc39
         refine aF (aA M (aG M M (lb M) (sv (d:=.int _ 10) M))<|aD ?_)
         refine aY ?_
         refine bG ?_
         obtain rfl:=sj_ h
         refine ⟨.inr M,(.cons (sv M) .nil)⟩
        ·
         replace h:=cB h hc39
         refine aS ?_
         refine aM ?_
         refine aF (aA M (aG M M (lb M) (sv (d:=.int _ 0) M))<|aD ?_)
         refine aY ?_
         obtain rfl:=sj_ h
         refine ⟨.inr M,(.cons (sv M) .nil)⟩

theorem uE (a0:bH) (r:(List Int)) (h:oL a0=some r):eK prog 40 [.agg (v2 a0)] (.slice false (r.map (eInt .i64).d)):=by
 refine mB (rs:=[.slice false (r.map (eInt .i64).d)]) func40 M ntmps40 (nle M) M fun O hO=>?_
 show IWP _ _ _ _ ⟨[(0,.agg (v2 a0))],[]⟩ _
 unfold oL at h
 refine aF (aA M (cK (cs:=q13) 0 M M (lb M) M (svA q13 M) M M)<|aA M (aG M M (lb M) (sv (d:=.nils) M))<|aD ?_)
 refine aT ?_
 obtain ⟨x1,hx1,h⟩:=aX h
 obtain ⟨x2,hx2,h⟩:=bC h
 refine aF (aA M (lra q13 la61 M M M M M (nle M) M)<|aA M (bU (r:=.int _ _) M M (lb M) cl72 (.cons (svA q13 M) .nil) M (qE _ _ hx1))<|aA M (aQ M M (lb M) (svI M) (sv (d:=.int _ 0) M) M hx2)<|aD ?_)
 refine aR (b:=_) M (fun hc3=>?_) (fun hc3=>?_)
 ·
  replace h:=cA h hc3
  refine aF (aA M (aG M M (lb M) (sv (d:=.nils) M))<|aD ?_)
  refine aY ?_
  refine bG ?_
  obtain rfl:=sj_ h
  refine ⟨.inr M,_,(.cons (sv M) .nil),(.cons (.nils _) .nil)⟩
 ·
  replace h:=cB h hc3
  refine aS ?_
  refine aM ?_
  refine aF (aA M (aG M M (lb M) (sv (d:=.nils) M))<|aD ?_)
  refine aT ?_
  refine aF (aA M (faR 0 M M M underlying61 M ti59 (lb M) M M)<|aA M (lrL la59 M M M M M (nle M) M)<|aA M (cV aZ (l:=a0.Cells) M M (lb M) underlying59 (svL M))<|aA M (aO M M (lb M) (sv (d:=.int _ 0) M))<|aD ?_)
  refine bB ?_
  refine cP (α:=Nat × (List Int) × Int) (fun z=>⟨[(3,.osl 21 (eInt .i64).sz z.2.1.length),(10,.slice false (a0.Cells.map aZ.d)),(11,.int .i64 (a0.Cells.length:Int)),(12,.int .i64 z.2.2)],[(21,.blk 3 (D.flat (z.2.1.map (eInt .i64).d)))]⟩) (fun z=>jN a0 z.1 z.2.1 z.2.2=some r) (fun z=>z.1) (fuel,([]:(List Int)),0) (fun i=>if i=21 then 72 else i) ⟨(.cons (.nilo M) (.sames M M)),(.cons (.nilb M) .nil),bE [72] M (by decide),(fun i hi=>by first | rfl | (show (if _ then _ else _)=_; (repeat' split) <;> omega))⟩ ?_ ?_
  ·exact h
  ·
   rintro ⟨n0,v11,v12⟩ h
   cases n0 with
   | zero=>exact absurd h (by unfold jN; exact nofun)
   | succ n0 =>
    unfold jN at h
    obtain ⟨x20,hx20,h⟩:=bC h
    refine aF (aA M (aQ M M (lb M) (svI M) (svI M) M hx20)<|aD ?_)
    refine aT ?_
    refine aR (b:=_) M (fun hc21=>?_) (fun hc21=>?_)
    ·
     replace h:=cA h hc21
     refine aS ?_
     refine aM ?_
     refine aT ?_
     refine bB ?_
     obtain ⟨x22,hx22,h⟩:=aX h
     refine aF (aA M (mvI M M M M)<|aA M (dW aZ (cs:=q17) M M (lb M) underlying59 nK (svL M) (svI M) hx22 M M)<|aA M (fD (cs:=q17) M M (lb M) underlying114 aDA nK (by decide) (sv (d:=.fptr q17) M) (nle M) M)<|aA M (cT (cs:=q17) (cs':=[.bool false,.int .i64 0,.int .i64 0]) 22 M M (lb M) M nK M M (.all _))<|aA M (asI M M M M)<|aA M (stA q17 q17 nK M M M M M M M M (nle M) M)<|aD ?_)
     refine aF (aA M (faR 0 M M M underlying114 M ti4 (lb M) M M)<|aA M (aI (d:=.bool _) M M (lb M) underlying4 ag4 ti4 (by decide) (svR M) M (nle M) M)<|aD ?_)
     refine aR (b:=_) M (fun hc23=>?_) (fun hc23=>?_)
     ·
      replace h:=cA h hc23
      obtain ⟨x24,hx24,h⟩:=aX h
      refine bA (aA M (aO M M (lb M) (sv (d:=.osl _ _ _) M))<|aA M (mvI M M M M)<|aA M (lD (eInt .i64).toEnc0 ([v12]:(List Int)) 23 M M (lb M) underlying30 ti3 M (.cons (svI M) .nil) M M (by decide))<|aA M (iH (eInt .i64).toEnc0 24 M M (lb M) underlying30 ti3 M M M M M (qP (eInt .i64).toEnc0 M M M) hx24)<|aA M (aG M M (lb M) (sv (d:=.osl _ _ _) M))<|bL ?_)
      refine bJ ?_
      refine aM ?_
      obtain ⟨x25,hx25,h⟩:=bC h
      refine bA (aA M (bO M M (lb M) (svI M) (sv (d:=.int _ 1) M) M hx25)<|aA M (mvI M M M M)<|bL ?_)
      refine aM ⟨(n0,x24,x25),(fun i=>if i=21 then 24 else i),⟨(.sames M M),(.cons (EntW.lst M) .nil),bE [24] M (by decide),(fun i hi=>by first | rfl | (show (if _ then _ else _)=_; (repeat' split) <;> omega))⟩,?_,?_⟩
      exact h
      exact Nat.lt_succ_self _
     ·
      replace h:=cB h hc23
      refine aS ?_
      refine bJ ?_
      refine aM ?_
      obtain ⟨x26,hx26,h⟩:=bC h
      refine bA (aA M (bO M M (lb M) (svI M) (sv (d:=.int _ 1) M) M hx26)<|aA M (mvI M M M M)<|bL ?_)
      refine aM ⟨(n0,v11,x26),(fun i=>i),⟨(.sames M M),(.cons (EntW.lst M) .nil),bE [21] M (by decide),fun _ _=>M⟩,?_,?_⟩
      exact h
      exact Nat.lt_succ_self _
    ·
     replace h:=cB h hc21
     refine cU ?_
     refine bK ?_
     refine bK ?_
     refine cW ?_
     refine aM ?_
     refine aF (aA M (aO M M (lb M) (sv (d:=.osl _ _ _) M))<|aA M (aG M M (lb M) (sv (d:=.osl _ _ _) M))<|aD ?_)
     refine aY ?_
     obtain rfl:=sj_ h
     refine ⟨.inr M,_,(.cons (sv M) .nil),(.cons (FDT (eInt .i64) M M) .nil)⟩

theorem kD (a0:Int) (a1:Int) (a2:Int) (a3:(List aK)) (a4:Int) (a5:Int) (a6:(List aJ)) (a7:Int) (a8:(List Int)) (r:Int) (h:eH a0 a1 a2 a3 a4 a5 a6 a7 a8=some r):FnH prog 31 [.ref 1000 0,.int .i64 a0] [(1000,.blk 67 (mixD aB.toEnc0 (w26 a1 a2 a3 a4 a5) a6 [.int .i64 a7,.osl 1001 (eInt .i64).sz a8.length])),(1001,.blk 3 (D.flat (a8.map (eInt .i64).d)))] (.int .i64 r) [(1000,.blk 67 (mixD aB.toEnc0 (w26 a1 a2 a3 a4 a5) a6 [.int .i64 a7,.osl 1001 (eInt .i64).sz a8.length])),(1001,.blk 3 (D.flat (a8.map (eInt .i64).d)))]:=by
 refine dB (rs:=[.int .i64 r]) func31 M ntmps31 (nle M) fun O hO=>?_
 show IWP _ _ _ _ ⟨[(0,.ref 1000 0),(1,.int .i64 a0)],[(1000,.blk 67 (mixD aB.toEnc0 (w26 a1 a2 a3 a4 a5) a6 [.int .i64 a7,.osl 1001 (eInt .i64).sz a8.length])),(1001,.blk 3 (D.flat (a8.map (eInt .i64).d)))]⟩ _
 unfold eH at h
 refine aF (aA M (aG M M (lb M) (sv (d:=.int _ 0) M))<|aD ?_)
 refine aT ?_
 obtain ⟨x1,hx1,h⟩:=aX h
 refine aF (aA M (mvR M M M M)<|aA M (aL M M (lb M) (svR M))<|aA M (faR 2 M M M underlying67 M ti61 (lb M) M M)<|aA M (oW aB.toEnc0 (cs:=q13) M M (lb M) underlying61 ag61 ti61 (by decide) (svR M) M (nle M) (by rfl))<|aA M (bU (r:=.slice _ _) M M (lb M) cl40 (.cons (svA q13 M) .nil) M (uE _ _ hx1))<|aA M (cV (eInt .i64) (l:=x1) M M (lb M) underlying30 (svL M))<|aA M (aO M M (lb M) (sv (d:=.int _ 0) M))<|aD ?_)
 refine bB ?_
 refine cP (α:=Nat × Int) (fun z=>⟨[(0,.ref 1000 0),(1,.int .i64 a0),(11,.slice false (x1.map (eInt .i64).d)),(12,.int .i64 (x1.length:Int)),(13,.int .i64 z.2)],[(1000,.blk 67 (mixD aB.toEnc0 (w26 a1 a2 a3 a4 a5) a6 [.int .i64 a7,.osl 1001 (eInt .i64).sz a8.length])),(1001,.blk 3 (D.flat (a8.map (eInt .i64).d)))]⟩) (fun z=>fR a0 a6 x1 z.1 z.2=some r) (fun z=>z.1) (fuel,0) (fun i=>i) ⟨(.sames M M),(.cons (EntW.mix aB M (SubC.of_eq M) (SubC.of_eq M) M M) (.cons (EntW.lst M) .nil)),bE [1000,1001] M (by decide),fun _ _=>M⟩ ?_ ?_
 ·exact h
 ·
  rintro ⟨n0,v11⟩ h
  cases n0 with
  | zero=>exact absurd h (by unfold fR; exact nofun)
  | succ n0 =>
   unfold fR at h
   obtain ⟨x21,hx21,h⟩:=bC h
   refine aF (aA M (aQ M M (lb M) (svI M) (svI M) M hx21)<|aD ?_)
   refine aT ?_
   refine aR (b:=_) M (fun hc22=>?_) (fun hc22=>?_)
   ·
    replace h:=cA h hc22
    refine aS ?_
    refine aM ?_
    refine aT ?_
    refine bB ?_
    obtain ⟨x23,hx23,h⟩:=aX h
    refine aF (aA M (dW (eInt .i64) (cs:=[.int _ _]) M M (lb M) underlying30 ti3 (svL M) (svI M) hx23 M M)<|aA M (eM M M (lb M) underlying3 ag3 ti3 (by decide) (sv (d:=.fptr [.int _ _]) M) (nle M))<|aA M (asI M M M M)<|aD ?_)
    obtain ⟨x24,hx24,h⟩:=aX h
    obtain ⟨hk25,h⟩:=oZ h
    obtain ⟨x26,hx26,h⟩:=aX h
    obtain ⟨x27,hx27,h⟩:=bC h
    refine aF (aA M (mvR M M M M)<|aA M (mvI M M M M)<|aA M (aL M M (lb M) (svR M))<|aA M (faR 5 M M M underlying67 M ti65 (lb M) M M)<|aA M (dO aB.toEnc0 M M (lb M) underlying65 ti64 (svR M) hk25 (svI M) hx24)<|aA M (bZ M M (lb M) underlying64 M ti3 (by decide) (svR M) (k':=0) M)<|aA M (cM aB.toEnc0 (b:=5) (k:=0) (d:=.int _ _) M M (lb M) underlying3 ag3 ti3 (by decide) (svR M) M M hx26 (nle M) M)<|aA M (mvI M M M M)<|aA M (aQ M M (lb M) (svI M) (svI M) M hx27)<|aD ?_)
    refine aR (b:=_) M (fun hc28=>?_) (fun hc28=>?_)
    ·
     replace h:=cA h hc28
     refine aF (aA M (mvI M M M M)<|aA M (asI M M M M)<|aD ?_)
     refine aY ?_
     refine cO ?_
     refine bG ?_
     refine bG ?_
     refine cO ?_
     refine bG ?_
     obtain rfl:=sj_ h
     refine ⟨.inr M,(fun i=>i),⟨.nil,(.cons (EntW.mix aB M (SubC.of_eq M) (SubC.of_eq M) M M) (.cons (EntW.lst M) .nil)),bE [1000,1001] M (by decide),fun _ _=>M⟩,(.cons (sv M) .nil),M⟩
    ·
     replace h:=cB h hc28
     refine aS ?_
     refine bJ ?_
     refine aM ?_
     obtain ⟨x29,hx29,h⟩:=bC h
     refine bA (aA M (bO M M (lb M) (svI M) (sv (d:=.int _ 1) M) M hx29)<|aA M (mvI M M M M)<|bL ?_)
     refine aM ⟨(n0,x29),(fun i=>i),⟨(.sames M M),(.cons (EntW.mix aB M (SubC.of_eq M) (SubC.of_eq M) M M) (.cons (EntW.lst M) .nil)),bE [1000,1001] M (by decide),fun _ _=>M⟩,?_,?_⟩
     exact h
     exact Nat.lt_succ_self _
   ·
    replace h:=cB h hc22
    refine cU ?_
    refine bK ?_
    refine bK ?_
    refine cW ?_
    refine aM ?_
    refine aF (aA M (aG M M (lb M) (sv (d:=.int _ (-1)) M))<|aD ?_)
    refine aY ?_
    obtain rfl:=sj_ h
    refine ⟨.inr M,(fun i=>i),⟨.nil,(.cons (EntW.mix aB M (SubC.of_eq M) (SubC.of_eq M) M M) (.cons (EntW.lst M) .nil)),bE [1000,1001] M (by decide),fun _ _=>M⟩,(.cons (sv M) .nil),M⟩

theorem sM (a0:Int) (a1:Int) (a2:(List aK)) (a3:Int) (a4:Int) (a5:(List aJ)) (a6:Int) (a7:(List Int)) (r:Int) (h:mZ a0 a1 a2 a3 a4 a5 a6 a7=some r):FnH prog 61 [.ref 1000 0] [(1000,.blk 67 (mixD aB.toEnc0 (w26 a0 a1 a2 a3 a4) a5 [.int .i64 a6,.osl 1001 (eInt .i64).sz a7.length])),(1001,.blk 3 (D.flat (a7.map (eInt .i64).d)))] (.int .i64 r) [(1000,.blk 67 (mixD aB.toEnc0 (w26 a0 a1 a2 a3 a4) a5 [.int .i64 a6,.osl 1001 (eInt .i64).sz a7.length])),(1001,.blk 3 (D.flat (a7.map (eInt .i64).d)))]:=by
 refine dB (rs:=[.int .i64 r]) func61 M ntmps61 (nle M) fun O hO=>?_
 show IWP _ _ _ _ ⟨[(0,.ref 1000 0)],[(1000,.blk 67 (mixD aB.toEnc0 (w26 a0 a1 a2 a3 a4) a5 [.int .i64 a6,.osl 1001 (eInt .i64).sz a7.length])),(1001,.blk 3 (D.flat (a7.map (eInt .i64).d)))]⟩ _
 unfold mZ at h
 refine aF (aA M (aG M M (lb M) (sv (d:=.int _ 0) M))<|aD ?_)
 refine aT ?_
 refine aF (aA M (mvR M M M M)<|aA M (rD M M (lb M) underlying25 (svR M) (sv (d:=.nilp) M))<|aD ?_)
 refine jD M M ?_
 refine aS ?_
 refine aM ?_
 refine aF (aA M (mvR M M M M)<|aA M (aL M M (lb M) (svR M))<|aA M (faR 2 M M M underlying67 M ti61 (lb M) M M)<|aA M (faR 4 M M M underlying61 M ti3 (lb M) M M)<|aA M (sB aB.toEnc0 (d:=.int _ _) M M (lb M) underlying3 ag3 ti3 (by decide) (svR M) M (nle M) (by rfl))<|aA M (asI M M M M)<|aD ?_)
 refine aY ?_
 obtain rfl:=sj_ h
 refine ⟨.inr M,(fun i=>i),⟨.nil,(.cons (EntW.mix aB M (SubC.of_eq M) (SubC.of_eq M) M M) (.cons (EntW.lst M) .nil)),bE [1000,1001] M (by decide),fun _ _=>M⟩,(.cons (sv M) .nil),M⟩

theorem mE (a0:Int) (a1:Int) (a2:Int) (a3:(List aK)) (a4:Int) (a5:Int) (a6:(List aJ)) (a7:Int) (a8:(List Int)) (r:(Int × Int × (List aK) × Int × Int × (List aJ) × Int × (List Int))) (h:gV a0 a1 a2 a3 a4 a5 a6 a7 a8=some r):FnH prog 68 [.ref 1000 0,.int .i64 a0] [(1000,.blk 67 (mixD aB.toEnc0 (w26 a1 a2 a3 a4 a5) a6 [.int .i64 a7,.osl 1001 (eInt .i64).sz a8.length])),(1001,.blk 3 (D.flat (a8.map (eInt .i64).d)))] (retD []) [(1000,.blk 67 (mixD aB.toEnc0 (w26 r.1 r.2.1 r.2.2.1 r.2.2.2.1 r.2.2.2.2.1) r.2.2.2.2.2.1 [.int .i64 r.2.2.2.2.2.2.1,.osl 0 (eInt .i64).sz r.2.2.2.2.2.2.2.length])),(0,.blk 3 (D.flat (r.2.2.2.2.2.2.2.map (eInt .i64).d)))]:=by
 refine dB (rs:=[]) func68 M ntmps68 (nle M) fun O hO=>?_
 show IWP _ _ _ _ ⟨[(0,.ref 1000 0),(1,.int .i64 a0)],[(1000,.blk 67 (mixD aB.toEnc0 (w26 a1 a2 a3 a4 a5) a6 [.int .i64 a7,.osl 1001 (eInt .i64).sz a8.length])),(1001,.blk 3 (D.flat (a8.map (eInt .i64).d)))]⟩ _
 unfold gV at h
 obtain ⟨x1,hx1,h⟩:=aX h
 obtain ⟨hk2,h⟩:=oZ h
 obtain ⟨x3,hx3,h⟩:=aX h
 refine aF (aA M (mvR M M M M)<|aA M (mvR M M M M)<|aA M (mvI M M M M)<|aA M (aL M M (lb M) (svR M))<|aA M (faR 5 M M M underlying67 M ti65 (lb M) M M)<|aA M (dO aB.toEnc0 M M (lb M) underlying65 ti64 (svR M) hk2 (svI M) hx1)<|aA M (bZ M M (lb M) underlying64 M ti3 (by decide) (svR M) (k':=1) M)<|aA M (cM aB.toEnc0 (b:=5) (k:=1) (d:=.int _ _) M M (lb M) underlying3 ag3 ti3 (by decide) (svR M) M M hx3 (nle M) M) <|?_)
 refine jE (S':=⟨[(0,.ref 1000 0),(1,.int .i64 a0),(5,.ref 1000 0),(12,.int .i64 x3.up)],[(1000,.blk 67 (mixD aB.toEnc0 (w26 a1 a2 a3 a4 a5) a6 [.int .i64 a7,.osl 1001 (eInt .i64).sz a8.length])),(1001,.blk 3 (D.flat (a8.map (eInt .i64).d)))]⟩) (fun i=>i) ⟨(.sames M M),(.cons (EntW.mix aB M (SubC.of_eq M) (SubC.of_eq M) M M) (.cons (EntW.lst M) .nil)),bE [1000,1001] M (by decide),fun _ _=>M⟩ ?_
 refine mO 1 0 M M M (by decide) cl81 func81 M (.cons (svR M) (.cons (svI M) .nil)) ntmps81 (nle M) M hO.semiL fun O1 hO1=>?_
 show IWP _ _ _ _ ⟨[(0,.ref 1000 0),(1,.int .i64 x3.up)],[(0,.kept 1 (.ref 1000 0::(.int .i64 a0::(.dead::(.dead::(.dead::(.ref 1000 0::(dd_ 6 (.int .i64 x3.up::(dd_ 23 [])))))))))),(1000,.blk 67 (mixD aB.toEnc0 (w26 a1 a2 a3 a4 a5) a6 [.int .i64 a7,.osl 1001 (eInt .i64).sz a8.length])),(1001,.blk 3 (D.flat (a8.map (eInt .i64).d)))]⟩ _
 refine aF (aA M (aG M M (lb M) (sv (d:=.nilp) M))<|aD ?_)
 refine aT ?_
 obtain ⟨x4,hx4,h⟩:=bC h
 refine aF (aA M (mvI M M M M)<|aA M (aQ M M (lb M) (svI M) (sv (d:=.int _ (-1)) M) M hx4)<|aD ?_)
 refine aR (b:=_) M (fun hc5=>?_) (fun hc5=>?_)
 ·
  replace h:=cA h hc5
  refine aF (aA M (mvR M M M M)<|aA M (aL M M (lb M) (svR M))<|aA M (faR 389 M M M underlying67 M ti3 (lb M) M M)<|aA M (aG M M (lb M) (svR M))<|aD ?_)
  refine aY ?_
  refine bG ?_
  refine ⟨.inr M,0,_,[.ref 1000 389],(.cons (sv M) .nil),M,M,⟨[(0,.ref 1000 0),(1,.int .i64 a0),(13,.ref 1000 389)],[(1000,.blk 67 (mixD aB.toEnc0 (w26 a1 a2 a3 a4 a5) a6 [.int .i64 a7,.osl 1001 (eInt .i64).sz a8.length])),(1001,.blk 3 (D.flat (a8.map (eInt .i64).d)))]⟩,(fun i=>i),⟨(.sames M M),(.cons (EntW.mix aB M (SubC.of_eq M) (SubC.of_eq M) M M) (.cons (EntW.lst M) .nil)),bE [1000,1001] M (by decide),fun _ _=>M⟩,?_⟩
  refine aA M (aG M M (lb M) (svR M))<|aD ?_
  refine aT ?_
  refine bB ?_
  refine vX (aA9 ?_)
  refine aT ?_
  obtain ⟨x6,hx6,h⟩:=bC h
  refine aF (aA M (mvR M M M M)<|aA M (aL M M (lb M) (svR M))<|aA M (iD aB.toEnc0 (d:=.int _ _) (n:=64) (k:=0) M M (lb M) underlying3 ag3 ti3 (by decide) (svR M) M hk2 (by rfl) (nle M) (by rfl))<|aA M (mvI M M M M)<|aA M (aQ M M (lb M) (svI M) (svI M) M hx6)<|aD ?_)
  refine aR (b:=_) M (fun hc7=>?_) (fun hc7=>?_)
  ·
   replace h:=cA h hc7
   refine aS ?_
   refine aM ?_
   refine bB ?_
   obtain ⟨x8,hx8,h⟩:=aX h
   refine lH M [⟨[0],[],[(19,.ref 1000 0)],[]⟩,
    ⟨[4],[],[(20,.ref 1000 389)],[]⟩,
    ⟨[20],[],[(21,.ref 1000 389)],[]⟩,
    ⟨[21],[1000],[(22,.int .i64 a7)],[]⟩,
    ⟨[19],[],[(23,.ref 1000 0)],[]⟩,
    ⟨[23],[],[(24,.ref 1000 5)],[]⟩,
    ⟨[22,24],[],[(25,.ref 1000 (5 + (((a7:Int).toNat) * aB.sz + 0)))],[]⟩,
    ⟨[25],[],[(26,.ref 1000 (5 + (((a7:Int).toNat) * aB.sz + 3)))],[]⟩,
    ⟨[26],[],[(4,.ref 1000 (5 + (((a7:Int).toNat) * aB.sz + 3)))],[]⟩] M ?_ (by kernel_rfl) ?_
   ·refine .cons (lop M M fun S hA=>(aO M M (lb M) (svaR hA M M))) ?_
    refine .cons (lop M M fun S hA=>(aO M M (lb M) (svaR hA M M))) ?_
    refine .cons (lop M M fun S hA=>(aL M M (lb M) (svaR hA M M))) ?_
    refine .cons (lop M M fun S hA=>(iD aB.toEnc0 (d:=.int _ _) (n:=64) (k:=0) M M (lb M) underlying3 ag3 ti3 (by decide) (svaR hA M M) (agi hA M M) hk2 (by rfl) (nle M) (by rfl))) ?_
    refine .cons (lop M M fun S hA=>(aL M M (lb M) (svaR hA M M))) ?_
    refine .cons (lop M M fun S hA=>(aP M M (lb M) underlying67 M ti65 (by decide) (svaR hA M M) (off':=5) M)) ?_
    refine .cons (lop M M fun S hA=>(dO aB.toEnc0 M M (lb M) underlying65 ti64 (svaR hA M M) hk2 (svaI hA M M) hx8)) ?_
    refine .cons (lop M M fun S hA=>(bZ M M (lb M) underlying64 M ti3 (by decide) (svaR hA M M) (k':=3) M)) ?_
    refine .cons (lop M M fun S hA=>(aG M M (lb M) (svaR hA M M))) ?_
    exact .nil
   refine bJ ?_
   refine aM ?_
   refine aBA (α:=Nat × Nat) (fun z=>⟨[(0,.ref 1000 0),(1,.int .i64 a0),(4,.ref 1000 (5 + (z.2 * aB.sz + 3)))],[(1000,.blk 67 (mixD aB.toEnc0 (w26 a1 a2 a3 a4 a5) a6 [.int .i64 a7,.osl 1001 (eInt .i64).sz a8.length])),(1001,.blk 3 (D.flat (a8.map (eInt .i64).d)))]⟩) (fun z=>eW a0 a1 a2 a3 a4 a5 a6 a7 a8 z.1 z.2=some r) (fun z=>z.1) (fuel,(a7:Int).toNat) (fun i=>i) ⟨(.sames M M),(.cons (EntW.mix aB M (SubC.of_eq M) (SubC.of_eq M) M M) (.cons (EntW.lst M) .nil)),bE [1000,1001] M (by decide),fun _ _=>M⟩ ?_ ?_
   ·exact h
   ·
    rintro ⟨n0,v14⟩ h
    cases n0 with
    | zero=>exact absurd h (by unfold eW; exact nofun)
    | succ n0 =>
     unfold eW at h
     refine aT ?_
     obtain ⟨x20,hx20,h⟩:=aX h
     obtain ⟨x21,hx21,h⟩:=bC h
     refine aF (aA M (mvR M M M M)<|aA M (aL M M (lb M) (svR M))<|aA M (cM aB.toEnc0 (b:=5) (k:=3) (d:=.int _ _) M M (lb M) underlying3 ag3 ti3 (by decide) (svR M) M M hx20 (nle M) M)<|aA M (mvI M M M M)<|aA M (aQ M M (lb M) (svI M) (svI M) M hx21)<|aD ?_)
     refine aR (b:=_) M (fun hc22=>?_) (fun hc22=>?_)
     ·
      replace h:=cA h hc22
      refine aS ?_
      refine aM ?_
      refine bB ?_
      obtain ⟨x23,hx23,h⟩:=aX h
      obtain ⟨x24,hx24,h⟩:=aX h
      refine lH M [⟨[0],[],[(19,.ref 1000 0)],[]⟩,
       ⟨[4],[],[(20,.ref 1000 (5 + (v14 * aB.sz + 3)))],[]⟩,
       ⟨[20],[],[(21,.ref 1000 (5 + (v14 * aB.sz + 3)))],[]⟩,
       ⟨[21],[1000],[(22,.int .i64 x23.next)],[]⟩,
       ⟨[19],[],[(23,.ref 1000 0)],[]⟩,
       ⟨[23],[],[(24,.ref 1000 5)],[]⟩,
       ⟨[22,24],[],[(25,.ref 1000 (5 + (((x23.next:Int).toNat) * aB.sz + 0)))],[]⟩,
       ⟨[25],[],[(26,.ref 1000 (5 + (((x23.next:Int).toNat) * aB.sz + 3)))],[]⟩,
       ⟨[26],[],[(4,.ref 1000 (5 + (((x23.next:Int).toNat) * aB.sz + 3)))],[]⟩] M ?_ (by kernel_rfl) ?_
      ·refine .cons (lop M M fun S hA=>(aO M M (lb M) (svaR hA M M))) ?_
       refine .cons (lop M M fun S hA=>(aO M M (lb M) (svaR hA M M))) ?_
       refine .cons (lop M M fun S hA=>(aL M M (lb M) (svaR hA M M))) ?_
       refine .cons (lop M M fun S hA=>(cM aB.toEnc0 (b:=5) (k:=3) (d:=.int _ _) M M (lb M) underlying3 ag3 ti3 (by decide) (svaR hA M M) (agi hA M M) M hx23 (nle M) M)) ?_
       refine .cons (lop M M fun S hA=>(aL M M (lb M) (svaR hA M M))) ?_
       refine .cons (lop M M fun S hA=>(aP M M (lb M) underlying67 M ti65 (by decide) (svaR hA M M) (off':=5) M)) ?_
       refine .cons (lop M M fun S hA=>(dO aB.toEnc0 M M (lb M) underlying65 ti64 (svaR hA M M) hk2 (svaI hA M M) hx24)) ?_
       refine .cons (lop M M fun S hA=>(bZ M M (lb M) underlying64 M ti3 (by decide) (svaR hA M M) (k':=3) M)) ?_
       refine .cons (lop M M fun S hA=>(aG M M (lb M) (svaR hA M M))) ?_
       exact .nil
      refine bJ ?_
      refine aM ⟨(n0,(x23.next:Int).toNat),(fun i=>i),⟨(.sames M M),(.cons (EntW.mix aB M (SubC.of_eq M) (SubC.of_eq M) M M) (.cons (EntW.lst M) .nil)),bE [1000,1001] M (by decide),fun _ _=>M⟩,?_,?_⟩
      exact h
      exact Nat.lt_succ_self _
     ·
      replace h:=cB h hc22
      refine cU ?_
      refine bK ?_
      refine bK ?_
      refine cW ?_
      refine aM ?_
      obtain ⟨x25,hx25,h⟩:=aX h
      obtain ⟨x26,hx26,h⟩:=aX h
      obtain ⟨x27,hx27,h⟩:=aX h
      obtain ⟨x28,hx28,h⟩:=bC h
      refine bA (aA M (mvR M M M M)<|aA M (mvR M M M M)<|aA M (mvI M M M M)<|aA M (aL M M (lb M) (svR M))<|aA M (faR 5 M M M underlying67 M ti65 (lb M) M M)<|aA M (dO aB.toEnc0 M M (lb M) underlying65 ti64 (svR M) hk2 (svI M) hx25)<|aA M (bZ M M (lb M) underlying64 M ti3 (by decide) (svR M) (k':=3) M)<|aA M (cM aB.toEnc0 (b:=5) (k:=3) (d:=.int _ _) M M (lb M) underlying3 ag3 ti3 (by decide) (svR M) M M hx26 (nle M) M)<|aA M (aL M M (lb M) (svR M))<|aA M (jQ aB.toEnc0 (b:=5) (k:=3) (a':=(⟨x27.id,x27.up,x27.first,x26.next,x27.weight,x27.closed⟩:aJ)) M M ti3 (svR M) M (svI M) M M M M hx27 (nle M) M hx28)<|bL ?_)
      obtain rfl:=sj_ h
      refine ⟨.inl M,(fun i=>if i=0 then 1001 else i),⟨.nil,(.cons (EntW.mix aB M (SubC.of_eq M) (SubC.of_eq M) M M) (.cons (EntW.lst M) .nil)),bE [1000,1001] M (by decide),(fun i hi=>by first | rfl | (show (if _ then _ else _)=_; (repeat' split) <;> omega))⟩,.nil,M⟩
  ·
   replace h:=cB h hc7
   refine cU ?_
   refine bK ?_
   refine bK ?_
   refine cW ?_
   refine aM ?_
   obtain ⟨x29,hx29,h⟩:=aX h
   obtain ⟨x30,hx30,h⟩:=aX h
   refine bA (aA M (mvR M M M M)<|aA M (mvR M M M M)<|aA M (mvI M M M M)<|aA M (aL M M (lb M) (svR M))<|aA M (faR 5 M M M underlying67 M ti65 (lb M) M M)<|aA M (dO aB.toEnc0 M M (lb M) underlying65 ti64 (svR M) hk2 (svI M) hx29)<|aA M (bZ M M (lb M) underlying64 M ti3 (by decide) (svR M) (k':=3) M)<|aA M (cM aB.toEnc0 (b:=5) (k:=3) (d:=.int _ _) M M (lb M) underlying3 ag3 ti3 (by decide) (svR M) M M hx30 (nle M) M)<|aA M (aL M M (lb M) (svR M))<|aA M (pV aB.toEnc0 (post:=q19) (post':=q19) (n:=64) (k:=0) M M ti3 (svR M) M (svI M) M M M hk2 (by rfl) (nle M) (by rfl))<|bL ?_)
   obtain rfl:=sj_ h
   refine ⟨.inl M,(fun i=>if i=0 then 1001 else i),⟨.nil,(.cons (EntW.mix aB M (SubC.of_eq M) (SubC.of_eq M) M M) (.cons (EntW.lst M) .nil)),bE [1000,1001] M (by decide),(fun i hi=>by first | rfl | (show (if _ then _ else _)=_; (repeat' split) <;> omega))⟩,.nil,M⟩
 ·
  replace h:=cB h hc5
  refine aS ?_
  refine aM ?_
  obtain ⟨x31,hx31,h⟩:=aX h
  refine aF (aA M (mvR M M M M)<|aA M (mvI M M M M)<|aA M (aL M M (lb M) (svR M))<|aA M (faR 5 M M M underlying67 M ti65 (lb M) M M)<|aA M (dO aB.toEnc0 M M (lb M) underlying65 ti64 (svR M) hk2 (svI M) hx31)<|aA M (bZ M M (lb M) underlying64 M ti3 (by decide) (svR M) (k':=2) M)<|aA M (aG M M (lb M) (svR M))<|aD ?_)
  refine aY ?_
  refine ⟨.inr M,0,_,[.ref 1000 (5 + (((x3.up:Int).toNat) * aB.sz + 2))],(.cons (sv M) .nil),M,M,⟨[(0,.ref 1000 0),(1,.int .i64 a0),(13,.ref 1000 (5 + (((x3.up:Int).toNat) * aB.sz + 2)))],[(1000,.blk 67 (mixD aB.toEnc0 (w26 a1 a2 a3 a4 a5) a6 [.int .i64 a7,.osl 1001 (eInt .i64).sz a8.length])),(1001,.blk 3 (D.flat (a8.map (eInt .i64).d)))]⟩,(fun i=>i),⟨(.sames M M),(.cons (EntW.mix aB M (SubC.of_eq M) (SubC.of_eq M) M M) (.cons (EntW.lst M) .nil)),bE [1000,1001] M (by decide),fun _ _=>M⟩,?_⟩
  refine aA M (aG M M (lb M) (svR M))<|aD ?_
  refine aT ?_
  refine bB ?_
  refine vX (aA9 ?_)
  refine aT ?_
  obtain ⟨x32,hx32,h⟩:=aX h
  obtain ⟨x33,hx33,h⟩:=bC h
  refine aF (aA M (mvR M M M M)<|aA M (aL M M (lb M) (svR M))<|aA M (cM aB.toEnc0 (b:=5) (k:=2) (d:=.int _ _) M M (lb M) underlying3 ag3 ti3 (by decide) (svR M) M M hx32 (nle M) M)<|aA M (mvI M M M M)<|aA M (aQ M M (lb M) (svI M) (svI M) M hx33)<|aD ?_)
  refine aR (b:=_) M (fun hc34=>?_) (fun hc34=>?_)
  ·
   replace h:=cA h hc34
   refine aS ?_
   refine aM ?_
   refine bB ?_
   obtain ⟨x35,hx35,h⟩:=aX h
   obtain ⟨x36,hx36,h⟩:=aX h
   refine lH M [⟨[0],[],[(19,.ref 1000 0)],[]⟩,
    ⟨[4],[],[(20,.ref 1000 (5 + (((x3.up:Int).toNat) * aB.sz + 2)))],[]⟩,
    ⟨[20],[],[(21,.ref 1000 (5 + (((x3.up:Int).toNat) * aB.sz + 2)))],[]⟩,
    ⟨[21],[1000],[(22,.int .i64 x35.first)],[]⟩,
    ⟨[19],[],[(23,.ref 1000 0)],[]⟩,
    ⟨[23],[],[(24,.ref 1000 5)],[]⟩,
    ⟨[22,24],[],[(25,.ref 1000 (5 + (((x35.first:Int).toNat) * aB.sz + 0)))],[]⟩,
    ⟨[25],[],[(26,.ref 1000 (5 + (((x35.first:Int).toNat) * aB.sz + 3)))],[]⟩,
    ⟨[26],[],[(4,.ref 1000 (5 + (((x35.first:Int).toNat) * aB.sz + 3)))],[]⟩] M ?_ (by kernel_rfl) ?_
   ·refine .cons (lop M M fun S hA=>(aO M M (lb M) (svaR hA M M))) ?_
    refine .cons (lop M M fun S hA=>(aO M M (lb M) (svaR hA M M))) ?_
    refine .cons (lop M M fun S hA=>(aL M M (lb M) (svaR hA M M))) ?_
    refine .cons (lop M M fun S hA=>(cM aB.toEnc0 (b:=5) (k:=2) (d:=.int _ _) M M (lb M) underlying3 ag3 ti3 (by decide) (svaR hA M M) (agi hA M M) M hx35 (nle M) M)) ?_
    refine .cons (lop M M fun S hA=>(aL M M (lb M) (svaR hA M M))) ?_
    refine .cons (lop M M fun S hA=>(aP M M (lb M) underlying67 M ti65 (by decide) (svaR hA M M) (off':=5) M)) ?_
    refine .cons (lop M M fun S hA=>(dO aB.toEnc0 M M (lb M) underlying65 ti64 (svaR hA M M) hk2 (svaI hA M M) hx36)) ?_
    refine .cons (lop M M fun S hA=>(bZ M M (lb M) underlying64 M ti3 (by decide) (svaR hA M M) (k':=3) M)) ?_
    refine .cons (lop M M fun S hA=>(aG M M (lb M) (svaR hA M M))) ?_
    exact .nil
   refine bJ ?_
   refine aM ?_
   refine aBA (α:=Nat × Nat) (fun z=>⟨[(0,.ref 1000 0),(1,.int .i64 a0),(4,.ref 1000 (5 + (z.2 * aB.sz + 3)))],[(1000,.blk 67 (mixD aB.toEnc0 (w26 a1 a2 a3 a4 a5) a6 [.int .i64 a7,.osl 1001 (eInt .i64).sz a8.length])),(1001,.blk 3 (D.flat (a8.map (eInt .i64).d)))]⟩) (fun z=>eV a0 a1 a2 a3 a4 a5 a6 a7 a8 z.1 z.2=some r) (fun z=>z.1) (fuel,(x35.first:Int).toNat) (fun i=>i) ⟨(.sames M M),(.cons (EntW.mix aB M (SubC.of_eq M) (SubC.of_eq M) M M) (.cons (EntW.lst M) .nil)),bE [1000,1001] M (by decide),fun _ _=>M⟩ ?_ ?_
   ·exact h
   ·
    rintro ⟨n1,v42⟩ h
    cases n1 with
    | zero=>exact absurd h (by unfold eV; exact nofun)
    | succ n1 =>
     unfold eV at h
     refine aT ?_
     obtain ⟨x48,hx48,h⟩:=aX h
     obtain ⟨x49,hx49,h⟩:=bC h
     refine aF (aA M (mvR M M M M)<|aA M (aL M M (lb M) (svR M))<|aA M (cM aB.toEnc0 (b:=5) (k:=3) (d:=.int _ _) M M (lb M) underlying3 ag3 ti3 (by decide) (svR M) M M hx48 (nle M) M)<|aA M (mvI M M M M)<|aA M (aQ M M (lb M) (svI M) (svI M) M hx49)<|aD ?_)
     refine aR (b:=_) M (fun hc50=>?_) (fun hc50=>?_)
     ·
      replace h:=cA h hc50
      refine aS ?_
      refine aM ?_
      refine bB ?_
      obtain ⟨x51,hx51,h⟩:=aX h
      obtain ⟨x52,hx52,h⟩:=aX h
      refine lH M [⟨[0],[],[(19,.ref 1000 0)],[]⟩,
       ⟨[4],[],[(20,.ref 1000 (5 + (v42 * aB.sz + 3)))],[]⟩,
       ⟨[20],[],[(21,.ref 1000 (5 + (v42 * aB.sz + 3)))],[]⟩,
       ⟨[21],[1000],[(22,.int .i64 x51.next)],[]⟩,
       ⟨[19],[],[(23,.ref 1000 0)],[]⟩,
       ⟨[23],[],[(24,.ref 1000 5)],[]⟩,
       ⟨[22,24],[],[(25,.ref 1000 (5 + (((x51.next:Int).toNat) * aB.sz + 0)))],[]⟩,
       ⟨[25],[],[(26,.ref 1000 (5 + (((x51.next:Int).toNat) * aB.sz + 3)))],[]⟩,
       ⟨[26],[],[(4,.ref 1000 (5 + (((x51.next:Int).toNat) * aB.sz + 3)))],[]⟩] M ?_ (by kernel_rfl) ?_
      ·refine .cons (lop M M fun S hA=>(aO M M (lb M) (svaR hA M M))) ?_
       refine .cons (lop M M fun S hA=>(aO M M (lb M) (svaR hA M M))) ?_
       refine .cons (lop M M fun S hA=>(aL M M (lb M) (svaR hA M M))) ?_
       refine .cons (lop M M fun S hA=>(cM aB.toEnc0 (b:=5) (k:=3) (d:=.int _ _) M M (lb M) underlying3 ag3 ti3 (by decide) (svaR hA M M) (agi hA M M) M hx51 (nle M) M)) ?_
       refine .cons (lop M M fun S hA=>(aL M M (lb M) (svaR hA M M))) ?_
       refine .cons (lop M M fun S hA=>(aP M M (lb M) underlying67 M ti65 (by decide) (svaR hA M M) (off':=5) M)) ?_
       refine .cons (lop M M fun S hA=>(dO aB.toEnc0 M M (lb M) underlying65 ti64 (svaR hA M M) hk2 (svaI hA M M) hx52)) ?_
       refine .cons (lop M M fun S hA=>(bZ M M (lb M) underlying64 M ti3 (by decide) (svaR hA M M) (k':=3) M)) ?_
       refine .cons (lop M M fun S hA=>(aG M M (lb M) (svaR hA M M))) ?_
       exact .nil
      refine bJ ?_
      refine aM ⟨(n1,(x51.next:Int).toNat),(fun i=>i),⟨(.sames M M),(.cons (EntW.mix aB M (SubC.of_eq M) (SubC.of_eq M) M M) (.cons (EntW.lst M) .nil)),bE [1000,1001] M (by decide),fun _ _=>M⟩,?_,?_⟩
      exact h
      exact Nat.lt_succ_self _
     ·
      replace h:=cB h hc50
      refine cU ?_
      refine bK ?_
      refine bK ?_
      refine cW ?_
      refine aM ?_
      obtain ⟨x53,hx53,h⟩:=aX h
      obtain ⟨x54,hx54,h⟩:=aX h
      obtain ⟨x55,hx55,h⟩:=aX h
      obtain ⟨x56,hx56,h⟩:=bC h
      refine bA (aA M (mvR M M M M)<|aA M (mvR M M M M)<|aA M (mvI M M M M)<|aA M (aL M M (lb M) (svR M))<|aA M (faR 5 M M M underlying67 M ti65 (lb M) M M)<|aA M (dO aB.toEnc0 M M (lb M) underlying65 ti64 (svR M) hk2 (svI M) hx53)<|aA M (bZ M M (lb M) underlying64 M ti3 (by decide) (svR M) (k':=3) M)<|aA M (cM aB.toEnc0 (b:=5) (k:=3) (d:=.int _ _) M M (lb M) underlying3 ag3 ti3 (by decide) (svR M) M M hx54 (nle M) M)<|aA M (aL M M (lb M) (svR M))<|aA M (jQ aB.toEnc0 (b:=5) (k:=3) (a':=(⟨x55.id,x55.up,x55.first,x54.next,x55.weight,x55.closed⟩:aJ)) M M ti3 (svR M) M (svI M) M M M M hx55 (nle M) M hx56)<|bL ?_)
      obtain rfl:=sj_ h
      refine ⟨.inl M,(fun i=>if i=0 then 1001 else i),⟨.nil,(.cons (EntW.mix aB M (SubC.of_eq M) (SubC.of_eq M) M M) (.cons (EntW.lst M) .nil)),bE [1000,1001] M (by decide),(fun i hi=>by first | rfl | (show (if _ then _ else _)=_; (repeat' split) <;> omega))⟩,.nil,M⟩
  ·
   replace h:=cB h hc34
   refine cU ?_
   refine bK ?_
   refine bK ?_
   refine cW ?_
   refine aM ?_
   obtain ⟨x57,hx57,h⟩:=aX h
   obtain ⟨x58,hx58,h⟩:=aX h
   obtain ⟨x59,hx59,h⟩:=aX h
   obtain ⟨x60,hx60,h⟩:=bC h
   refine bA (aA M (mvR M M M M)<|aA M (mvR M M M M)<|aA M (mvI M M M M)<|aA M (aL M M (lb M) (svR M))<|aA M (faR 5 M M M underlying67 M ti65 (lb M) M M)<|aA M (dO aB.toEnc0 M M (lb M) underlying65 ti64 (svR M) hk2 (svI M) hx57)<|aA M (bZ M M (lb M) underlying64 M ti3 (by decide) (svR M) (k':=3) M)<|aA M (cM aB.toEnc0 (b:=5) (k:=3) (d:=.int _ _) M M (lb M) underlying3 ag3 ti3 (by decide) (svR M) M M hx58 (nle M) M)<|aA M (aL M M (lb M) (svR M))<|aA M (jQ aB.toEnc0 (b:=5) (k:=2) (a':=(⟨x59.id,x59.up,x58.next,x59.next,x59.weight,x59.closed⟩:aJ)) M M ti3 (svR M) M (svI M) M M M M hx59 (nle M) M hx60)<|bL ?_)
   obtain rfl:=sj_ h
   refine ⟨.inl M,(fun i=>if i=0 then 1001 else i),⟨.nil,(.cons (EntW.mix aB M (SubC.of_eq M) (SubC.of_eq M) M M) (.cons (EntW.lst M) .nil)),bE [1000,1001] M (by decide),(fun i hi=>by first | rfl | (show (if _ then _ else _)=_; (repeat' split) <;> omega))⟩,.nil,M⟩

theorem oO (a0:Int) (a1:Int) (a2:Int) (a3:Int) (a4:(List aK)) (a5:Int) (a6:Int) (a7:(List aJ)) (a8:Int) (a9:(List Int)) (r:(Int × Int × (List aK) × Int × Int × (List aJ) × Int × (List Int))) (h:gI a0 a1 a2 a3 a4 a5 a6 a7 a8 a9=some r):FnH prog 63 [.ref 1000 0,.int .i64 a0,.int .i64 a1] [(1000,.blk 67 (mixD aB.toEnc0 (w26 a2 a3 a4 a5 a6) a7 [.int .i64 a8,.osl 1001 (eInt .i64).sz a9.length])),(1001,.blk 3 (D.flat (a9.map (eInt .i64).d)))] (retD []) [(1000,.blk 67 (mixD aB.toEnc0 (w26 r.1 r.2.1 r.2.2.1 r.2.2.2.1 r.2.2.2.2.1) r.2.2.2.2.2.1 [.int .i64 r.2.2.2.2.2.2.1,.osl 0 (eInt .i64).sz r.2.2.2.2.2.2.2.length])),(0,.blk 3 (D.flat (r.2.2.2.2.2.2.2.map (eInt .i64).d)))]:=by
 refine dB (rs:=[]) func63 M ntmps63 (nle M) fun O hO=>?_
 show IWP _ _ _ _ ⟨[(0,.ref 1000 0),(1,.int .i64 a0),(2,.int .i64 a1)],[(1000,.blk 67 (mixD aB.toEnc0 (w26 a2 a3 a4 a5 a6) a7 [.int .i64 a8,.osl 1001 (eInt .i64).sz a9.length])),(1001,.blk 3 (D.flat (a9.map (eInt .i64).d)))]⟩ _
 unfold gI at h
 refine aF (aA M (mvR M M M M)<|aA M (mvI M M M M) <|?_)
 refine jE (S':=⟨[(0,.ref 1000 0),(1,.int .i64 a0),(2,.int .i64 a1),(7,.ref 1000 0),(8,.int .i64 a1)],[(1000,.blk 67 (mixD aB.toEnc0 (w26 a2 a3 a4 a5 a6) a7 [.int .i64 a8,.osl 1001 (eInt .i64).sz a9.length])),(1001,.blk 3 (D.flat (a9.map (eInt .i64).d)))]⟩) (fun i=>i) ⟨(.sames M M),(.cons (EntW.mix aB M (SubC.of_eq M) (SubC.of_eq M) M M) (.cons (EntW.lst M) .nil)),bE [1000,1001] M (by decide),fun _ _=>M⟩ ?_
 refine mO 1 0 M M M (by decide) cl81 func81 M (.cons (svR M) (.cons (svI M) .nil)) ntmps81 (nle M) M hO.semiL fun O1 hO1=>?_
 show IWP _ _ _ _ ⟨[(0,.ref 1000 0),(1,.int .i64 a1)],[(0,.kept 1 (.ref 1000 0::(.int .i64 a0::(.int .i64 a1::(dd_ 4 (.ref 1000 0::(.int .i64 a1::(dd_ 20 [])))))))),(1000,.blk 67 (mixD aB.toEnc0 (w26 a2 a3 a4 a5 a6) a7 [.int .i64 a8,.osl 1001 (eInt .i64).sz a9.length])),(1001,.blk 3 (D.flat (a9.map (eInt .i64).d)))]⟩ _
 refine aF (aA M (aG M M (lb M) (sv (d:=.nilp) M))<|aD ?_)
 refine aT ?_
 obtain ⟨x1,hx1,h⟩:=bC h
 refine aF (aA M (mvI M M M M)<|aA M (aQ M M (lb M) (svI M) (sv (d:=.int _ (-1)) M) M hx1)<|aD ?_)
 refine aR (b:=_) M (fun hc2=>?_) (fun hc2=>?_)
 ·
  replace h:=cA h hc2
  refine aF (aA M (mvR M M M M)<|aA M (aL M M (lb M) (svR M))<|aA M (faR 389 M M M underlying67 M ti3 (lb M) M M)<|aA M (aG M M (lb M) (svR M))<|aD ?_)
  refine aY ?_
  refine bG ?_
  refine ⟨.inr M,0,_,[.ref 1000 389],(.cons (sv M) .nil),M,M,⟨[(0,.ref 1000 0),(1,.int .i64 a0),(2,.int .i64 a1),(9,.ref 1000 389)],[(1000,.blk 67 (mixD aB.toEnc0 (w26 a2 a3 a4 a5 a6) a7 [.int .i64 a8,.osl 1001 (eInt .i64).sz a9.length])),(1001,.blk 3 (D.flat (a9.map (eInt .i64).d)))]⟩,(fun i=>i),⟨(.sames M M),(.cons (EntW.mix aB M (SubC.of_eq M) (SubC.of_eq M) M M) (.cons (EntW.lst M) .nil)),bE [1000,1001] M (by decide),fun _ _=>M⟩,?_⟩
  refine aA M (aG M M (lb M) (svR M))<|aD ?_
  obtain ⟨hk3,h⟩:=oZ h
  obtain ⟨x4,hx4,h⟩:=aX h
  obtain ⟨x5,hx5,h⟩:=aX h
  obtain ⟨x6,hx6,h⟩:=bC h
  obtain ⟨x7,hx7,h⟩:=aX h
  obtain ⟨x8,hx8,h⟩:=aX h
  obtain ⟨x9,hx9,h⟩:=bC h
  refine iR M [⟨[0],[],[(10,.ref 1000 0)],[]⟩,
   ⟨[1],[],[(11,.int .i64 a0)],[]⟩,
   ⟨[0],[],[(12,.ref 1000 0)],[]⟩,
   ⟨[1],[],[(13,.int .i64 a0)],[]⟩,
   ⟨[2],[],[(14,.int .i64 a1)],[]⟩,
   ⟨[6],[],[(15,.ref 1000 389)],[]⟩,
   ⟨[15],[],[(16,.ref 1000 389)],[]⟩,
   ⟨[16],[1000],[(17,.int .i64 a8)],[]⟩,
   ⟨[10],[],[(18,.ref 1000 0)],[]⟩,
   ⟨[18],[],[(19,.ref 1000 5)],[]⟩,
   ⟨[11,19],[],[(20,.ref 1000 (5 + (((a0:Int).toNat) * aB.sz + 0)))],[]⟩,
   ⟨[20],[],[(21,.ref 1000 (5 + (((a0:Int).toNat) * aB.sz + 1)))],[]⟩,
   ⟨[14,21],[1000],[],[(1000,.blk 67 (mixD aB.toEnc0 (w26 a2 a3 a4 a5 a6) x6 [.int .i64 a8,.osl 1001 (eInt .i64).sz a9.length]))]⟩,
   ⟨[12],[],[(22,.ref 1000 0)],[]⟩,
   ⟨[22],[],[(23,.ref 1000 5)],[]⟩,
   ⟨[13,23],[],[(24,.ref 1000 (5 + (((a0:Int).toNat) * aB.sz + 0)))],[]⟩,
   ⟨[24],[],[(25,.ref 1000 (5 + (((a0:Int).toNat) * aB.sz + 3)))],[]⟩,
   ⟨[17,25],[1000],[],[(1000,.blk 67 (mixD aB.toEnc0 (w26 a2 a3 a4 a5 a6) x9 [.int .i64 a8,.osl 1001 (eInt .i64).sz a9.length]))]⟩] M ?_ (by kernel_rfl) ?_
  ·refine .cons (lop M M fun S hA=>(aO M M (lb M) (svaR hA M M))) ?_
   refine .cons (lop M M fun S hA=>(aO M M (lb M) (svaI hA M M))) ?_
   refine .cons (lop M M fun S hA=>(aO M M (lb M) (svaR hA M M))) ?_
   refine .cons (lop M M fun S hA=>(aO M M (lb M) (svaI hA M M))) ?_
   refine .cons (lop M M fun S hA=>(aO M M (lb M) (svaI hA M M))) ?_
   refine .cons (lop M M fun S hA=>(aO M M (lb M) (svaR hA M M))) ?_
   refine .cons (lop M M fun S hA=>(aL M M (lb M) (svaR hA M M))) ?_
   refine .cons (lop M M fun S hA=>(iD aB.toEnc0 (d:=.int _ _) (n:=64) (k:=0) M M (lb M) underlying3 ag3 ti3 (by decide) (svaR hA M M) (agi hA M M) hk3 (by rfl) (nle M) (by rfl))) ?_
   refine .cons (lop M M fun S hA=>(aL M M (lb M) (svaR hA M M))) ?_
   refine .cons (lop M M fun S hA=>(aP M M (lb M) underlying67 M ti65 (by decide) (svaR hA M M) (off':=5) M)) ?_
   refine .cons (lop M M fun S hA=>(dO aB.toEnc0 M M (lb M) underlying65 ti64 (svaR hA M M) hk3 (svaI hA M M) hx4)) ?_
   refine .cons (lop M M fun S hA=>(bZ M M (lb M) underlying64 M ti3 (by decide) (svaR hA M M) (k':=1) M)) ?_
   refine .cons (lop M M fun S hA=>(jQ aB.toEnc0 (b:=5) (k:=1) (a':=(⟨x5.id,a1,x5.first,x5.next,x5.weight,x5.closed⟩:aJ)) M M ti3 (svaR hA M M) (agi hA M M) (svaI hA M M) M M M M hx5 (nle M) M hx6)) ?_
   refine .cons (lop M M fun S hA=>(aL M M (lb M) (svaR hA M M))) ?_
   refine .cons (lop M M fun S hA=>(aP M M (lb M) underlying67 M ti65 (by decide) (svaR hA M M) (off':=5) M)) ?_
   refine .cons (lop M M fun S hA=>(dO aB.toEnc0 M M (lb M) underlying65 ti64 (svaR hA M M) (iQ hx6 hk3) (svaI hA M M) hx7)) ?_
   refine .cons (lop M M fun S hA=>(bZ M M (lb M) underlying64 M ti3 (by decide) (svaR hA M M) (k':=3) M)) ?_
   refine .cons (lop M M fun S hA=>(jQ aB.toEnc0 (b:=5) (k:=3) (a':=(⟨x8.id,x8.up,x8.first,a8,x8.weight,x8.closed⟩:aJ)) M M ti3 (svaR hA M M) (agi hA M M) (svaI hA M M) M M M M hx8 (nle M) M hx9)) ?_
   exact .nil
  refine bA (aA M (mvR M M M M)<|aA M (mvI M M M M)<|aA M (aL M M (lb M) (svR M))<|aA M (pV aB.toEnc0 (post:=q19) (post':=q19) (n:=64) (k:=0) M M ti3 (svR M) M (svI M) M M M (iQ hx9 (iQ hx6 hk3)) (by rfl) (nle M) (by rfl))<|bL ?_)
  obtain rfl:=sj_ h
  refine ⟨.inl M,(fun i=>if i=0 then 1001 else i),⟨.nil,(.cons (EntW.mix aB M (SubC.of_eq M) (SubC.of_eq M) M M) (.cons (EntW.lst M) .nil)),bE [1000,1001] M (by decide),(fun i hi=>by first | rfl | (show (if _ then _ else _)=_; (repeat' split) <;> omega))⟩,.nil,M⟩
 ·
  replace h:=cB h hc2
  refine aS ?_
  refine aM ?_
  obtain ⟨x10,hx10,h⟩:=aX h
  obtain ⟨hk11,h⟩:=oZ h
  refine aF (aA M (mvR M M M M)<|aA M (mvI M M M M)<|aA M (aL M M (lb M) (svR M))<|aA M (faR 5 M M M underlying67 M ti65 (lb M) M M)<|aA M (dO aB.toEnc0 M M (lb M) underlying65 ti64 (svR M) hk11 (svI M) hx10)<|aA M (bZ M M (lb M) underlying64 M ti3 (by decide) (svR M) (k':=2) M)<|aA M (aG M M (lb M) (svR M))<|aD ?_)
  refine aY ?_
  refine ⟨.inr M,0,_,[.ref 1000 (5 + (((a1:Int).toNat) * aB.sz + 2))],(.cons (sv M) .nil),M,M,⟨[(0,.ref 1000 0),(1,.int .i64 a0),(2,.int .i64 a1),(9,.ref 1000 (5 + (((a1:Int).toNat) * aB.sz + 2)))],[(1000,.blk 67 (mixD aB.toEnc0 (w26 a2 a3 a4 a5 a6) a7 [.int .i64 a8,.osl 1001 (eInt .i64).sz a9.length])),(1001,.blk 3 (D.flat (a9.map (eInt .i64).d)))]⟩,(fun i=>i),⟨(.sames M M),(.cons (EntW.mix aB M (SubC.of_eq M) (SubC.of_eq M) M M) (.cons (EntW.lst M) .nil)),bE [1000,1001] M (by decide),fun _ _=>M⟩,?_⟩
  refine aA M (aG M M (lb M) (svR M))<|aD ?_
  obtain ⟨x12,hx12,h⟩:=aX h
  obtain ⟨x13,hx13,h⟩:=aX h
  obtain ⟨x14,hx14,h⟩:=aX h
  obtain ⟨x15,hx15,h⟩:=bC h
  obtain ⟨x16,hx16,h⟩:=aX h
  obtain ⟨x17,hx17,h⟩:=aX h
  obtain ⟨x18,hx18,h⟩:=bC h
  refine iR M [⟨[0],[],[(10,.ref 1000 0)],[]⟩,
   ⟨[1],[],[(11,.int .i64 a0)],[]⟩,
   ⟨[0],[],[(12,.ref 1000 0)],[]⟩,
   ⟨[1],[],[(13,.int .i64 a0)],[]⟩,
   ⟨[2],[],[(14,.int .i64 a1)],[]⟩,
   ⟨[6],[],[(15,.ref 1000 (5 + (((a1:Int).toNat) * aB.sz + 2)))],[]⟩,
   ⟨[15],[],[(16,.ref 1000 (5 + (((a1:Int).toNat) * aB.sz + 2)))],[]⟩,
   ⟨[16],[1000],[(17,.int .i64 x12.first)],[]⟩,
   ⟨[10],[],[(18,.ref 1000 0)],[]⟩,
   ⟨[18],[],[(19,.ref 1000 5)],[]⟩,
   ⟨[11,19],[],[(20,.ref 1000 (5 + (((a0:Int).toNat) * aB.sz + 0)))],[]⟩,
   ⟨[20],[],[(21,.ref 1000 (5 + (((a0:Int).toNat) * aB.sz + 1)))],[]⟩,
   ⟨[14,21],[1000],[],[(1000,.blk 67 (mixD aB.toEnc0 (w26 a2 a3 a4 a5 a6) x15 [.int .i64 a8,.osl 1001 (eInt .i64).sz a9.length]))]⟩,
   ⟨[12],[],[(22,.ref 1000 0)],[]⟩,
   ⟨[22],[],[(23,.ref 1000 5)],[]⟩,
   ⟨[13,23],[],[(24,.ref 1000 (5 + (((a0:Int).toNat) * aB.sz + 0)))],[]⟩,
   ⟨[24],[],[(25,.ref 1000 (5 + (((a0:Int).toNat) * aB.sz + 3)))],[]⟩,
   ⟨[17,25],[1000],[],[(1000,.blk 67 (mixD aB.toEnc0 (w26 a2 a3 a4 a5 a6) x18 [.int .i64 a8,.osl 1001 (eInt .i64).sz a9.length]))]⟩] M ?_ (by kernel_rfl) ?_
  ·refine .cons (lop M M fun S hA=>(aO M M (lb M) (svaR hA M M))) ?_
   refine .cons (lop M M fun S hA=>(aO M M (lb M) (svaI hA M M))) ?_
   refine .cons (lop M M fun S hA=>(aO M M (lb M) (svaR hA M M))) ?_
   refine .cons (lop M M fun S hA=>(aO M M (lb M) (svaI hA M M))) ?_
   refine .cons (lop M M fun S hA=>(aO M M (lb M) (svaI hA M M))) ?_
   refine .cons (lop M M fun S hA=>(aO M M (lb M) (svaR hA M M))) ?_
   refine .cons (lop M M fun S hA=>(aL M M (lb M) (svaR hA M M))) ?_
   refine .cons (lop M M fun S hA=>(cM aB.toEnc0 (b:=5) (k:=2) (d:=.int _ _) M M (lb M) underlying3 ag3 ti3 (by decide) (svaR hA M M) (agi hA M M) M hx12 (nle M) M)) ?_
   refine .cons (lop M M fun S hA=>(aL M M (lb M) (svaR hA M M))) ?_
   refine .cons (lop M M fun S hA=>(aP M M (lb M) underlying67 M ti65 (by decide) (svaR hA M M) (off':=5) M)) ?_
   refine .cons (lop M M fun S hA=>(dO aB.toEnc0 M M (lb M) underlying65 ti64 (svaR hA M M) hk11 (svaI hA M M) hx13)) ?_
   refine .cons (lop M M fun S hA=>(bZ M M (lb M) underlying64 M ti3 (by decide) (svaR hA M M) (k':=1) M)) ?_
   refine .cons (lop M M fun S hA=>(jQ aB.toEnc0 (b:=5) (k:=1) (a':=(⟨x14.id,a1,x14.first,x14.next,x14.weight,x14.closed⟩:aJ)) M M ti3 (svaR hA M M) (agi hA M M) (svaI hA M M) M M M M hx14 (nle M) M hx15)) ?_
   refine .cons (lop M M fun S hA=>(aL M M (lb M) (svaR hA M M))) ?_
   refine .cons (lop M M fun S hA=>(aP M M (lb M) underlying67 M ti65 (by decide) (svaR hA M M) (off':=5) M)) ?_
   refine .cons (lop M M fun S hA=>(dO aB.toEnc0 M M (lb M) underlying65 ti64 (svaR hA M M) (iQ hx15 hk11) (svaI hA M M) hx16)) ?_
   refine .cons (lop M M fun S hA=>(bZ M M (lb M) underlying64 M ti3 (by decide) (svaR hA M M) (k':=3) M)) ?_
   refine .cons (lop M M fun S hA=>(jQ aB.toEnc0 (b:=5) (k:=3) (a':=(⟨x17.id,x17.up,x17.first,x12.first,x17.weight,x17.closed⟩:aJ)) M M ti3 (svaR hA M M) (agi hA M M) (svaI hA M M) M M M M hx17 (nle M) M hx18)) ?_
   exact .nil
  obtain ⟨x19,hx19,h⟩:=aX h
  obtain ⟨x20,hx20,h⟩:=bC h
  refine bA (aA M (mvR M M M M)<|aA M (mvI M M M M)<|aA M (aL M M (lb M) (svR M))<|aA M (jQ aB.toEnc0 (b:=5) (k:=2) (a':=(⟨x19.id,x19.up,a0,x19.next,x19.weight,x19.closed⟩:aJ)) M M ti3 (svR M) M (svI M) M M M M hx19 (nle M) M hx20)<|bL ?_)
  obtain rfl:=sj_ h
  refine ⟨.inl M,(fun i=>if i=0 then 1001 else i),⟨.nil,(.cons (EntW.mix aB M (SubC.of_eq M) (SubC.of_eq M) M M) (.cons (EntW.lst M) .nil)),bE [1000,1001] M (by decide),(fun i hi=>by first | rfl | (show (if _ then _ else _)=_; (repeat' split) <;> omega))⟩,.nil,M⟩

theorem iP (a0:Int) (a1:Int) (a2:Int) (a3:Int) (a4:(List aK)) (a5:Int) (a6:Int) (a7:(List aJ)) (a8:Int) (a9:(List Int)) (r:(Int × Int × (List aK) × Int × Int × (List aJ) × Int × (List Int))) (h:eN a0 a1 a2 a3 a4 a5 a6 a7 a8 a9=some r):FnH prog 65 [.ref 1000 0,.int .i64 a0,.int .i64 a1] [(1000,.blk 67 (mixD aB.toEnc0 (w26 a2 a3 a4 a5 a6) a7 [.int .i64 a8,.osl 1001 (eInt .i64).sz a9.length])),(1001,.blk 3 (D.flat (a9.map (eInt .i64).d)))] (retD []) [(1000,.blk 67 (mixD aB.toEnc0 (w26 r.1 r.2.1 r.2.2.1 r.2.2.2.1 r.2.2.2.2.1) r.2.2.2.2.2.1 [.int .i64 r.2.2.2.2.2.2.1,.osl 0 (eInt .i64).sz r.2.2.2.2.2.2.2.length])),(0,.blk 3 (D.flat (r.2.2.2.2.2.2.2.map (eInt .i64).d)))]:=by
 refine dB (rs:=[]) func65 M ntmps65 (nle M) fun O hO=>?_
 show IWP _ _ _ _ ⟨[(0,.ref 1000 0),(1,.int .i64 a0),(2,.int .i64 a1)],[(1000,.blk 67 (mixD aB.toEnc0 (w26 a2 a3 a4 a5 a6) a7 [.int .i64 a8,.osl 1001 (eInt .i64).sz a9.length])),(1001,.blk 3 (D.flat (a9.map (eInt .i64).d)))]⟩ _
 unfold eN at h
 obtain ⟨x1,hx1,h⟩:=aX h
 refine aF (aA M (mvR M M M M)<|aA M (mvI M M M M)<|aA M (cQ (r':=.tuple []) (H1':=[(1000,.blk 67 (mixD aB.toEnc0 (w26 x1.1 x1.2.1 x1.2.2.1 x1.2.2.2.1 x1.2.2.2.2.1) x1.2.2.2.2.2.1 [.int .i64 x1.2.2.2.2.2.2.1,.osl 0 (eInt .i64).sz x1.2.2.2.2.2.2.2.length])),(0,.blk 3 (D.flat (x1.2.2.2.2.2.2.2.map (eInt .i64).d)))]) 0 [1000,1001] M M (lb M) cl68 (.cons (svR M) (.cons (svI M) .nil)) M M ⟨M,M,by decide,M,List.forall_mem_cons.2 ⟨⟨M,M,(mT aB M M M),(eA aB M M)⟩,List.forall_mem_cons.2 ⟨⟨M,M,(iF (eInt .i64) M),(bP (eInt .i64))⟩,List.forall_mem_nil _⟩⟩⟩ (mE _ _ _ _ _ _ _ _ _ _ hx1) M M (List.forall_mem_cons.2 ⟨⟨M,(eA aB M M)⟩,List.forall_mem_cons.2 ⟨⟨M,(bP (eInt .i64))⟩,List.forall_mem_nil _⟩⟩) (by simp only [List.map_cons,List.map_nil,Ent.ren,bT,cE,eL]; rfl))<|aD ?_)
 obtain ⟨x2,hx2,h⟩:=aX h
 refine bA (aA M (mvR M M M M)<|aA M (mvI M M M M)<|aA M (mvI M M M M)<|aA M (cQ (r':=.tuple []) (H1':=[(1000,.blk 67 (mixD aB.toEnc0 (w26 x2.1 x2.2.1 x2.2.2.1 x2.2.2.2.1 x2.2.2.2.2.1) x2.2.2.2.2.2.1 [.int .i64 x2.2.2.2.2.2.2.1,.osl 1 (eInt .i64).sz x2.2.2.2.2.2.2.2.length])),(1,.blk 3 (D.flat (x2.2.2.2.2.2.2.2.map (eInt .i64).d)))]) 1 [1000,0] M M (lb M) cl63 (.cons (svR M) (.cons (svI M) (.cons (svI M) .nil))) M M ⟨M,M,by decide,M,List.forall_mem_cons.2 ⟨⟨M,M,(mT aB M M M),(eA aB M M)⟩,List.forall_mem_cons.2 ⟨⟨M,M,(iF (eInt .i64) M),(bP (eInt .i64))⟩,List.forall_mem_nil _⟩⟩⟩ (oO _ _ _ _ _ _ _ _ _ _ _ hx2) M M (List.forall_mem_cons.2 ⟨⟨M,(eA aB M M)⟩,List.forall_mem_cons.2 ⟨⟨M,(bP (eInt .i64))⟩,List.forall_mem_nil _⟩⟩) (by simp only [List.map_cons,List.map_nil,Ent.ren,bT,cE,eL]; rfl))<|bL ?_)
 obtain rfl:=sj_ h
 refine ⟨.inl M,(fun i=>if i=0 then 1 else i),⟨.nil,(.cons (EntW.mix aB M (SubC.of_eq M) (SubC.of_eq M) M M) (.cons (EntW.lst M) .nil)),bE [1000,1] M (by decide),(fun i hi=>by first | rfl | (show (if _ then _ else _)=_; (repeat' split) <;> omega))⟩,.nil,M⟩

theorem mM (a0:(List aK)) (r:(List aK)) (h:eC a0=some r):FnH prog 110 [.slice false (a0.map aZ.d)] [] (.osl 0 aZ.sz r.length) [(0,.blk 114 (D.flat (r.map aZ.d)))]:=by
 refine dB (rs:=[.osl 0 aZ.sz r.length]) func110 M ntmps110 (nle M) fun O hO=>?_
 show IWP _ _ _ _ ⟨[(0,.slice false (a0.map aZ.d))],[]⟩ _
 unfold eC at h
 refine aF (aA M (aG M M (lb M) (sv (d:=.nils) M))<|aD ?_)
 refine aT ?_
 refine aF (aA M (mvL M M M M)<|wG M M M (by decide) underlying59 (svL M) M <| fun bn1 hbn1 =>
  aD ?_)
 refine aR (b:=_) M (fun hc2=>?_) (fun hc2=>?_)
 ·
  replace h:=aAv h (mapE (hbn1 hc2))
  refine aF (aA M (aG M M (lb M) (sv (d:=.nils) M))<|aD ?_)
  refine aY ?_
  refine bG ?_
  obtain rfl:=sj_ h
  refine ⟨.inr M,(fun i=>if i=0 then 50 else i),⟨.nil,(.cons (.nilb M) .nil),bE [50] M (by decide),(fun i hi=>by first | rfl | (show (if _ then _ else _)=_; (repeat' split) <;> omega))⟩,(.cons (svno M) .nil),M⟩
 ·
  replace h:=aAw h
  refine aS ?_
  refine aM ?_
  obtain ⟨x3,hx3,h⟩:=aX h
  refine aF (aA M (lD aZ.toEnc0 ([]:(List aK)) 0 M M (lb M) underlying59 nK M .nil M M (by decide))<|aA M (mvL M M M M)<|aA M (iH aZ.toEnc0 1 M M (lb M) underlying59 nK M M M M M (aAY aZ (ys:=a0) (svL M)) hx3)<|aA M (aG M M (lb M) (sv (d:=.osl _ _ _) M))<|aD ?_)
  refine aY ?_
  obtain rfl:=sj_ h
  refine ⟨.inr M,(fun i=>if i=0 then 1 else i),⟨.nil,(.cons (EntW.lst M) .nil),bE [1] M (by decide),(fun i hi=>by first | rfl | (show (if _ then _ else _)=_; (repeat' split) <;> omega))⟩,(.cons (sv M) .nil),M⟩

theorem oS (a0:bH) (r:((List aK) × Int × Int)) (h:jT a0=some r):FnH prog 80 [.agg (v2 a0)] [] (.agg [.osl 0 aZ.sz r.1.length,.int .i64 r.2.1,.int .i64 r.2.2]) [(0,.blk 114 (D.flat (r.1.map aZ.d)))]:=by
 refine dB (rs:=[.agg [.osl 0 aZ.sz r.1.length,.int .i64 r.2.1,.int .i64 r.2.2]]) func80 M ntmps80 (nle M) fun O hO=>?_
 show IWP _ _ _ _ ⟨[(0,.agg (v2 a0))],[]⟩ _
 unfold jT at h
 refine aF (aA M (cK (cs:=q13) 0 M M (lb M) M (svA q13 M) M M)<|aA M (cT (cs:=q18) (cs':=[.slice false (([]:List aK).map aZ.d),.int .i64 0,.int .i64 0]) 1 M M (lb M) M ti61 M M (.cons (.nils _) (.all _)))<|aD ?_)
 obtain ⟨x1,hx1,h⟩:=aX h
 refine aF (aA M (faR 0 M M M underlying61 M ti59 (lb M) M M)<|aA M (lrL la59 M M M M M (nle M) M)<|aA M (cQ (r':=.osl 2 aZ.sz x1.length) (H1':=[(2,.blk 114 (D.flat (x1.map aZ.d)))]) 2 [] M M (lb M) cl110 (.cons (svL M) .nil) M M ⟨M,M,by decide,M,List.forall_mem_nil _⟩ (mM _ _ hx1) M M (List.forall_mem_cons.2 ⟨⟨M,(bP aZ)⟩,List.forall_mem_nil _⟩) (by simp only [List.map_cons,List.map_nil,Ent.ren,bT,cE]; rfl))<|aA M (faR 0 M M M underlying61 M ti59 (lb M) M M)<|aA M (dZ (ds':=q14) M M ti59 (svR M) M (sv (d:=.osl _ _ _) M) M M M (nle M) M)<|aD ?_)
 refine aF (aA M (lra q14 la61 M M M M M (nle M) M)<|aA M (stA q14 q14 ti61 M M M M M M M M (nle M) M)<|aD ?_)
 refine aY ?_
 obtain rfl:=sj_ h
 refine ⟨.inr M,(fun i=>if i=0 then 2 else i),⟨.nil,(.cons (EntW.lst M) .nil),bE [2] M (by decide),(fun i hi=>by first | rfl | (show (if _ then _ else _)=_; (repeat' split) <;> omega))⟩,(.cons (rva la61 M M (nle M) M) .nil),M⟩

theorem sQ (a0:bH) (a1:Int) (r:Bool) (h:lW a0 a1=some r):eK prog 84 [.agg (v2 a0),.int .i64 a1] (.bool r):=by
 refine bW (rs:=[.bool r]) func84 M ntmps84 (nle M) M fun O hO=>?_
 show IWP _ _ _ _ ⟨[(0,.agg (v2 a0)),(1,.int .i64 a1)],[]⟩ _
 unfold lW at h
 refine aF (aA M (cK (cs:=q13) 0 M M (lb M) M (svA q13 M) M M)<|aA M (aG M M (lb M) (sv (d:=.bool false) M))<|aD ?_)
 obtain ⟨x1,hx1,h⟩:=bC h
 obtain ⟨x2,hx2,h⟩:=bC h
 obtain ⟨x3,hx3,h⟩:=bC h
 obtain ⟨x4,hx4,h⟩:=aX h
 obtain ⟨x5,hx5,h⟩:=bC h
 refine aF (aA M (mvI M M M M)<|aA M (aQ M M (lb M) (svI M) (sv (d:=.int _ 0) M) M hx1)<|aA M (mvB M M M M)<|aN M M (.one M) M (by decide) (fun hb=>(mvI M M M M))<|aN M M (.one M) M (by decide) (fun hb=>(faR 0 M M M underlying61 M ti59 (lb M) M M))<|aN M M (.one M) M (by decide) (fun hb=>(aI (d:=.slice _ _) M M (lb M) underlying59 ag59 ti59 (by decide) (svcR M hb) M (nle M) M))<|aN M M (.one M) M (by decide) (fun hb=>(cV aZ (l:=a0.Cells) M M (lb M) underlying59 (svcL M hb)))<|aN M M (.one M) M (by decide) (fun hb=>(aQ M M (lb M) (svcI M hb) (svcI M hb) M hx2))<|aA M (fE M M (lb M) (svB M) M M hx3)<|aA M (mvB M M M M)<|aN M M (.one M) M (by decide) (fun hb=>(faR 0 M M M underlying61 M ti59 (lb M) M M))<|aN M M (.one M) M (by decide) (fun hb=>(aI (d:=.slice _ _) M M (lb M) underlying59 ag59 ti59 (by decide) (svcR M hb) M (nle M) M))<|aN M M (.one M) M (by decide) (fun hb=>(mvI M M M M))<|aN M M (.one M) M (by decide) (fun hb=>(dW aZ (cs:=q17) M M (lb M) underlying59 nK (svcL M hb) (svcI M hb) (gd_t hx4 hb) M M))<|aN M M (.one M) M (by decide) (fun hb=>(gR (cs':=[.bool _]) M M (lb M) underlying114 M ti4 (by decide) (svc (d:=.fptr q17) M hb) M))<|aN M M (.one M) M (by decide) (fun hb=>(eM M M (lb M) underlying4 ag4 ti4 (by decide) (svc (d:=.fptr [.bool _]) M hb) (nle M)))<|aA M (fE M M (lb M) (svB M) M M hx5)<|aA M (asB M M M M)<|aD ?_)
 refine aY ?_
 obtain rfl:=sj_ h
 refine ⟨.inr M,(.cons (sv M) .nil)⟩

theorem uF (a0:bH) (a1:Int) (r:(bH × Int)) (h:nW a0 a1=some r):eK prog 69 [.agg (v2 a0),.int .i64 a1] (retD [.agg (v2 r.1),.int .i64 r.2]):=by
 refine mB (rs:=[.agg (v2 r.1),.int .i64 r.2]) func69 M ntmps69 (nle M) M fun O hO=>?_
 show IWP _ _ _ _ ⟨[(0,.agg (v2 a0)),(1,.int .i64 a1)],[]⟩ _
 unfold nW at h
 refine aF (aA M (cK (cs:=q13) 0 M M (lb M) M (svA q13 M) M M)<|aA M (cT (cs:=q18) (cs':=[.slice false (([]:List aK).map aZ.d),.int .i64 0,.int .i64 0]) 1 M M (lb M) M ti61 M M (.cons (.nils _) (.all _)))<|aA M (aG M M (lb M) (sv (d:=.int _ 0) M))<|aD ?_)
 obtain ⟨x1,hx1,h⟩:=aX h
 refine aF (aA M (lra q13 la61 M M M M M (nle M) M)<|aA M (cQ (r':=.agg [.osl 2 aZ.sz x1.1.length,.int .i64 x1.2.1,.int .i64 x1.2.2]) (H1':=[(2,.blk 114 (D.flat (x1.1.map aZ.d)))]) 2 [] M M (lb M) cl80 (.cons (svA q13 M) .nil) M M ⟨M,M,by decide,M,List.forall_mem_nil _⟩ (oS _ _ hx1) M M (List.forall_mem_cons.2 ⟨⟨M,(bP aZ)⟩,List.forall_mem_nil _⟩) (by simp only [List.map_cons,List.map_nil,Ent.ren,bT,cE]; rfl))<|aA M (cT (cs:=q18) (cs':=[.slice false (([]:List aK).map aZ.d),.int .i64 0,.int .i64 0]) 3 M M (lb M) M ti61 M M (.cons (.nils _) (.all _)))<|aA M (stA q14 q14 ti61 M M M M M M M M (nle M) M)<|aD ?_)
 refine aT ?_
 obtain ⟨x2,hx2,h⟩:=aX h
 refine aF (aA M (lra q13 la61 M M M M M (nle M) M)<|aA M (bU (r:=.int _ _) M M (lb M) cl72 (.cons (svA q13 M) .nil) M (qE _ _ hx2))<|aA M (asI M M M M)<|aD ?_)
 obtain ⟨x3,hx3,h⟩:=bC h
 refine aF (aA M (mvI M M M M)<|aA M (aQ M M (lb M) (svI M) (sv (d:=.int _ 0) M) M hx3)<|aD ?_)
 refine aR (b:=_) M (fun hc4=>?_) (fun hc4=>?_)
 ·
  replace h:=cA h hc4
  refine aF (aA M (lra q14 la61 M M M M M (nle M) M)<|aA M (mvI M M M M)<|aA M (stA q14 q14 ti61 M M M M M M M M (nle M) M)<|aA M (asI M M M M)<|aD ?_)
  refine aY ?_
  refine bG ?_
  obtain rfl:=sj_ h
  refine ⟨.inr M,_,(.cons (rva la61 M M (nle M) M) (.cons (sv M) .nil)),(.cons (.agg (.cons (FDT aZ M M) (.all _))) (.all _))⟩
 ·
  replace h:=cB h hc4
  refine aS ?_
  refine aM ?_
  refine aT ?_
  obtain ⟨x5,hx5,h⟩:=aX h
  refine aF (aA M (lra q13 la61 M M M M M (nle M) M)<|aA M (mvI M M M M)<|aA M (bU (r:=.bool _) M M (lb M) cl84 (.cons (svA q13 M) (.cons (svI M) .nil)) M (sQ _ _ _ hx5))<|aA M (gD M M (lb M) (svB M))<|aD ?_)
  refine aR (b:=_) M (fun hc6=>?_) (fun hc6=>?_)
  ·
   replace h:=cA h hc6
   refine aF (aA M (lra q14 la61 M M M M M (nle M) M)<|aA M (stA q14 q14 ti61 M M M M M M M M (nle M) M)<|aA M (aG M M (lb M) (sv (d:=.int _ 6) M))<|aD ?_)
   refine aY ?_
   refine bG ?_
   obtain rfl:=sj_ h
   refine ⟨.inr M,_,(.cons (rva la61 M M (nle M) M) (.cons (sv M) .nil)),(.cons (.agg (.cons (FDT aZ M M) (.all _))) (.all _))⟩
  ·
   replace h:=cB h hc6
   refine aS ?_
   refine aM ?_
   obtain ⟨x7,hx7,h⟩:=aX h
   obtain ⟨x8,hx8,h⟩:=aX h
   obtain ⟨x9,hx9,h⟩:=bC h
   refine aF (aA M (faR 0 M M M underlying61 M ti59 (lb M) M M)<|aA M (aI (d:=.osl _ _ _) M M (lb M) underlying59 ag59 ti59 (by decide) (svR M) M (nle M) M)<|aA M (mvI M M M M)<|aA M (faR 1 M M M underlying61 M ti3 (lb M) M M)<|aA M (aI (d:=.int _ _) M M (lb M) underlying3 ag3 ti3 (by decide) (svR M) M (nle M) M)<|aA M (cJ (cs:=q17) M M (lb M) underlying114 nK pl114 M (.cons (svI M) .nil) M)<|aA M (fY aZ.toEnc0 M M (lb M) underlying59 nK (sv (d:=.osl _ _ _) M) M (svI M) hx7)<|aA M (lN aZ.toEnc0 (a':=(⟨false,0,x1.2.1⟩:aK)) M M nK (svR M) M (svA q17 M) M M M hx8 (nle M) M hx9)<|aD ?_)
   refine aF (aA M (mvI M M M M)<|aA M (faR 1 M M M underlying61 M ti3 (lb M) M M)<|aA M (dZ (ds':=q14) M M ti3 (svR M) M (svI M) M M M (nle M) M)<|aD ?_)
   obtain ⟨x10,hx10,h⟩:=bC h
   refine aF (aA M (faR 2 M M M underlying61 M ti3 (lb M) M M)<|aA M (aI (d:=.int _ _) M M (lb M) underlying3 ag3 ti3 (by decide) (svR M) M (nle M) M)<|aA M (bO M M (lb M) (svI M) (sv (d:=.int _ 1) M) M hx10)<|aA M (faR 2 M M M underlying61 M ti3 (lb M) M M)<|aA M (dZ (ds':=q14) M M ti3 (svR M) M (svI M) M M M (nle M) M)<|aD ?_)
   refine aF (aA M (lra q14 la61 M M M M M (nle M) M)<|aA M (stA q14 q14 ti61 M M M M M M M M (nle M) M)<|aA M (aG M M (lb M) (sv (d:=.int _ 0) M))<|aD ?_)
   refine aY ?_
   obtain rfl:=sj_ h
   refine ⟨.inr M,_,(.cons (rva la61 M M (nle M) M) (.cons (sv M) .nil)),(.cons (.agg (.cons (FDT aZ M (iQ hx9 M)) (.all _))) (.all _))⟩

theorem pC (a0:Int) (a1:Int) (r:Bool) (h:lS a0 a1=some r):eK prog 70 [.int .i64 a0,.fptr [.int .i64 a1]] (.bool r):=by
 refine bW (rs:=[.bool r]) func70 M ntmps70 (nle M) M fun O hO=>?_
 show IWP _ _ _ _ ⟨[(0,.int .i64 a0),(1,.fptr [.int .i64 a1])],[]⟩ _
 unfold lS at h
 refine aF (aA M (aG M M (lb M) (sv (d:=.bool false) M))<|aD ?_)
 obtain ⟨x1,hx1,h⟩:=bC h
 refine aF (aA M (mvI M M M M)<|aA M (eM M M (lb M) underlying3 ag3 ti3 (by decide) (sv (d:=.fptr [.int _ _]) M) (nle M))<|aA M (aQ M M (lb M) (svI M) (svI M) M hx1)<|aA M (asB M M M M)<|aD ?_)
 refine aY ?_
 obtain rfl:=sj_ h
 refine ⟨.inr M,(.cons (sv M) .nil)⟩

theorem nI (a0:(List Int)) (a1:Int) (r:Int) (h:iG a0 a1=some r):eK prog 79 [.slice false (a0.map (eInt .i64).d),.fn 70 [.fptr [.int .i64 a1]]] (.int .i64 r):=by
 refine bW (rs:=[.int .i64 r]) func79 M ntmps79 (nle M) M fun O hO=>?_
 show IWP _ _ _ _ ⟨[(0,.slice false (a0.map (eInt .i64).d)),(1,.fn 70 [.fptr [.int .i64 a1]])],[]⟩ _
 unfold iG at h
 refine aF (aA M (aG M M (lb M) (sv (d:=.int _ 0) M))<|aD ?_)
 refine aT ?_
 refine aF (aA M (mvL M M M M)<|aA M (cV (eInt .i64) (l:=a0) M M (lb M) underlying30 (svL M))<|aA M (aO M M (lb M) (sv (d:=.int _ 0) M))<|aD ?_)
 refine bB ?_
 refine cP (α:=Nat × Int) (fun z=>⟨[(0,.slice false (a0.map (eInt .i64).d)),(1,.fn 70 [.fptr [.int .i64 a1]]),(7,.int .i64 (a0.length:Int)),(8,.int .i64 z.2)],[]⟩) (fun z=>dG a0 a1 z.1 z.2=some r) (fun z=>z.1) (fuel,0) (fun i=>i) ⟨(.sames M M),.nil,bE [] M (by decide),fun _ _=>M⟩ ?_ ?_
 ·exact h
 ·
  rintro ⟨n0,v7⟩ h
  cases n0 with
  | zero=>exact absurd h (by unfold dG; exact nofun)
  | succ n0 =>
   unfold dG at h
   obtain ⟨x14,hx14,h⟩:=bC h
   refine aF (aA M (aQ M M (lb M) (svI M) (svI M) M hx14)<|aD ?_)
   refine aT ?_
   refine aR (b:=_) M (fun hc15=>?_) (fun hc15=>?_)
   ·
    replace h:=cA h hc15
    refine aS ?_
    refine aM ?_
    refine aT ?_
    refine bB ?_
    refine aF (aA M (mvI M M M M)<|aA M (asI M M M M)<|aD ?_)
    obtain ⟨x16,hx16,h⟩:=aX h
    obtain ⟨x17,hx17,h⟩:=aX h
    refine aF (aA M (aO M M (lb M) (sv (d:=.fn 70 [.fptr [.int _ _]]) M))<|aA M (mvL M M M M)<|aA M (mvI M M M M)<|aA M (dW (eInt .i64) (cs:=[.int _ _]) M M (lb M) underlying30 ti3 (svL M) (svI M) hx16 M M)<|aA M (eM M M (lb M) underlying3 ag3 ti3 (by decide) (sv (d:=.fptr [.int _ _]) M) (nle M))<|aA M (pW (r:=.bool _) M M (lb M) cl70 (sv (d:=.fn 70 [.fptr [.int _ _]]) M) (.cons (svI M) .nil) M (pC _ _ _ hx17))<|aD ?_)
    refine aR (b:=_) M (fun hc18=>?_) (fun hc18=>?_)
    ·
     replace h:=cA h hc18
     refine aF (aA M (mvI M M M M)<|aA M (asI M M M M)<|aD ?_)
     refine aY ?_
     refine cO ?_
     refine bG ?_
     refine bG ?_
     refine cO ?_
     refine bG ?_
     obtain rfl:=sj_ h
     refine ⟨.inr M,(.cons (sv M) .nil)⟩
    ·
     replace h:=cB h hc18
     refine aS ?_
     refine bJ ?_
     refine aM ?_
     obtain ⟨x19,hx19,h⟩:=bC h
     refine bA (aA M (bO M M (lb M) (svI M) (sv (d:=.int _ 1) M) M hx19)<|aA M (mvI M M M M)<|bL ?_)
     refine aM ⟨(n0,x19),(fun i=>i),⟨(.sames M M),.nil,bE [] M (by decide),fun _ _=>M⟩,?_,?_⟩
     exact h
     exact Nat.lt_succ_self _
   ·
    replace h:=cB h hc15
    refine cU ?_
    refine bK ?_
    refine bK ?_
    refine cW ?_
    refine aM ?_
    refine aF (aA M (aG M M (lb M) (sv (d:=.int _ (-1)) M))<|aD ?_)
    refine aY ?_
    obtain rfl:=sj_ h
    refine ⟨.inr M,(.cons (sv M) .nil)⟩

theorem jI (a0:(List Int)) (a1:Int) (r:(List Int)) (h:dH a0 a1=some r):FnH prog 59 [.osl 1000 (eInt .i64).sz a0.length,.fn 70 [.ref 1001 0]] [(1000,.blk 3 (D.flat (a0.map (eInt .i64).d))),(1001,.blk 3 [.int .i64 a1])] (.osl 0 (eInt .i64).sz r.length) [(1001,.blk 3 [.int .i64 a1]),(0,.blk 3 (D.flat (r.map (eInt .i64).d)))]:=by
 refine dB (rs:=[.osl 0 (eInt .i64).sz r.length]) func59 M ntmps59 (nle M) fun O hO=>?_
 show IWP _ _ _ _ ⟨[(0,.osl 1000 (eInt .i64).sz a0.length),(1,.fn 70 [.ref 1001 0])],[(1000,.blk 3 (D.flat (a0.map (eInt .i64).d))),(1001,.blk 3 [.int .i64 a1])]⟩ _
 unfold dH at h
 refine aF (aA M (aG M M (lb M) (sv (d:=.nils) M))<|aD ?_)
 obtain ⟨x1,hx1,h⟩:=aX h
 refine aF (aA M (aO M M (lb M) (sv (d:=.osl _ _ _) M))<|aA M (aO M M (lb M) (sv (d:=.fn 70 [.ref _ _]) M))<|aA M (kF (r:=.int .i64 x1) M M (lb M) cl79 (.cons (sv (d:=.osl _ _ _) M) (.cons (sv (d:=.fn 70 [.ref _ _]) M) .nil)) (.cons (FDT (eInt .i64) M M) (.cons (.fn (.cons (.ref M M (rJ _) M) .nil)) .nil)) M M (nI _ _ _ hx1))<|aA M (asI M M M M)<|aD ?_)
 refine aT ?_
 obtain ⟨x2,hx2,h⟩:=bC h
 refine aF (aA M (mvI M M M M)<|aA M (aQ M M (lb M) (svI M) (sv (d:=.int _ (-1)) M) M hx2)<|aD ?_)
 refine aR (b:=_) M (fun hc3=>?_) (fun hc3=>?_)
 ·
  replace h:=cA h hc3
  refine aF (aA M (aO M M (lb M) (sv (d:=.osl _ _ _) M))<|aA M (aG M M (lb M) (sv (d:=.osl _ _ _) M))<|aD ?_)
  refine aY ?_
  refine bG ?_
  obtain rfl:=sj_ h
  refine ⟨.inr M,(fun i=>if i=0 then 1000 else i),⟨.nil,(.cons (.blk M M M) (.cons (EntW.lst M) .nil)),bE [1001,1000] M (by decide),(fun i hi=>by first | rfl | (show (if _ then _ else _)=_; (repeat' split) <;> omega))⟩,(.cons (sv M) .nil),M⟩
 ·
  replace h:=cB h hc3
  refine aS ?_
  refine aM ?_
  refine aT ?_
  obtain ⟨x4,hx4,h⟩:=bC h
  refine aF (aA M (mvI M M M M)<|aA M (bO M M (lb M) (svI M) (sv (d:=.int _ 1) M) M hx4)<|aA M (asI M M M M)<|aD ?_)
  refine bB ?_
  refine cP (α:=Nat × (List Int) × Int × Int) (fun z=>⟨[(0,.osl 1000 (eInt .i64).sz z.2.1.length),(1,.fn 70 [.ref 1001 0]),(5,.int .i64 z.2.2.1),(6,.int .i64 z.2.2.2)],[(1000,.blk 3 (D.flat (z.2.1.map (eInt .i64).d))),(1001,.blk 3 [.int .i64 a1])]⟩) (fun z=>cL a1 z.1 z.2.1 z.2.2.1 z.2.2.2=some r) (fun z=>z.1) (fuel,a0,x1,x4) (fun i=>i) ⟨(.sames M M),(.cons (EntW.lst M) (.cons (.blk M M M) .nil)),bE [1000,1001] M (by decide),fun _ _=>M⟩ ?_ ?_
  ·exact h
  ·
   rintro ⟨n0,v17,v18,v19⟩ h
   cases n0 with
   | zero=>exact absurd h (by unfold cL; exact nofun)
   | succ n0 =>
    unfold cL at h
    refine aT ?_
    obtain ⟨x32,hx32,h⟩:=bC h
    refine aF (aA M (mvI M M M M)<|aA M (aO M M (lb M) (sv (d:=.osl _ _ _) M))<|aA M (kV M M (lb M) underlying30 (sv (d:=.osl _ _ _) M))<|aA M (aQ M M (lb M) (svI M) (svI M) M hx32)<|aD ?_)
    refine aR (b:=_) M (fun hc33=>?_) (fun hc33=>?_)
    ·
     replace h:=cA h hc33
     refine aS ?_
     refine aM ?_
     refine aT ?_
     refine bB ?_
     obtain ⟨x34,hx34,h⟩:=aX h
     obtain ⟨x35,hx35,h⟩:=aX h
     refine aF (aA M (aO M M (lb M) (sv (d:=.osl _ _ _) M))<|aA M (mvI M M M M)<|aA M (fY (eInt .i64).toEnc0 M M (lb M) underlying30 ti3 (sv (d:=.osl _ _ _) M) M (svI M) hx34)<|aA M (fP (eInt .i64).toEnc0 (d:=.int _ _) M M (lb M) underlying3 ag3 ti3 (by decide) (svR M) M hx35 (nle M) M)<|aA M (asI M M M M)<|aD ?_)
     obtain ⟨x36,hx36,h⟩:=aX h
     refine aF (aA M (aO M M (lb M) (sv (d:=.fn 70 [.ref _ _]) M))<|aA M (mvI M M M M)<|aA M (xP (r:=.bool x36) M M (lb M) cl70 (sv (d:=.fn 70 [.ref _ _]) M) (.cons (svI M) .nil) (.k (.cons (.ref M M (rJ _) M) .nil)) M M (pC _ _ _ hx36))<|aA M (gD M M (lb M) (svB M))<|aD ?_)
     refine aR (b:=_) M (fun hc37=>?_) (fun hc37=>?_)
     ·
      replace h:=cA h hc37
      obtain ⟨x38,hx38,h⟩:=aX h
      obtain ⟨x39,hx39,h⟩:=aX h
      obtain ⟨x40,hx40,h⟩:=bC h
      refine aF (aA M (aO M M (lb M) (sv (d:=.osl _ _ _) M))<|aA M (mvI M M M M)<|aA M (mvI M M M M)<|aA M (fY (eInt .i64).toEnc0 M M (lb M) underlying30 ti3 (sv (d:=.osl _ _ _) M) M (svI M) hx38)<|aA M (lN (eInt .i64).toEnc0 (a':=x35) M M ti3 (svR M) M (svI M) M M M hx39 (nle M) M hx40)<|aD ?_)
      obtain ⟨x41,hx41,h⟩:=bC h
      refine bA (aA M (mvI M M M M)<|aA M (bO M M (lb M) (svI M) (sv (d:=.int _ 1) M) M hx41)<|aA M (asI M M M M)<|bL ?_)
      refine bJ ?_
      refine aM ?_
      obtain ⟨x42,hx42,h⟩:=bC h
      refine bA (aA M (mvI M M M M)<|aA M (bO M M (lb M) (svI M) (sv (d:=.int _ 1) M) M hx42)<|aA M (asI M M M M)<|bL ?_)
      refine aM ⟨(n0,x40,x41,x42),(fun i=>i),⟨(.cons (.same (congrArg (D.osl _ _) (iQ hx40 M).symm) M) (.sames M M)),(.cons (EntW.lst M) (.cons (.blk M M M) .nil)),bE [1000,1001] M (by decide),fun _ _=>M⟩,?_,?_⟩
      exact h
      exact Nat.lt_succ_self _
     ·
      replace h:=cB h hc37
      refine aS ?_
      refine bJ ?_
      refine aM ?_
      obtain ⟨x43,hx43,h⟩:=bC h
      refine bA (aA M (mvI M M M M)<|aA M (bO M M (lb M) (svI M) (sv (d:=.int _ 1) M) M hx43)<|aA M (asI M M M M)<|bL ?_)
      refine aM ⟨(n0,v17,v18,x43),(fun i=>i),⟨(.sames M M),(.cons (EntW.lst M) (.cons (.blk M M M) .nil)),bE [1000,1001] M (by decide),fun _ _=>M⟩,?_,?_⟩
      exact h
      exact Nat.lt_succ_self _
    ·
     replace h:=cB h hc33
     refine cU ?_
     refine bK ?_
     refine bK ?_
     refine cW ?_
     refine aM ?_
     obtain ⟨x44,hx44,h⟩:=aX h
     refine aF (aA M (aO M M (lb M) (sv (d:=.osl _ _ _) M))<|aA M (mvI M M M M)<|wH (eInt .i64).toEnc0 M M M M (by decide) M M underlying30 ti3 M M M M M (fun S1 h9=>sv ((h9 37 (by decide)).trans M)) hx44<|aD ?_)
     obtain ⟨x45,hx45,h⟩:=aX h
     refine aF (aA M (aO M M (lb M) (sv (d:=.osl _ _ _) M))<|aA M (mvI M M M M)<|aA M (xM (eInt .i64).toEnc0 M M (lb M) underlying30 ti3 (sv (d:=.osl _ _ _) M) M (Nat.le_trans (aEC hx44) (Nat.le_of_eq M)) (svI M) hx45)<|aA M (aG M M (lb M) (sv (d:=.osl _ _ _) M))<|aD ?_)
     refine aY ?_
     obtain rfl:=sj_ h
     refine ⟨.inr M,(fun i=>if i=0 then 1000 else i),⟨.nil,(.cons (.blk M M M) (.cons (EntW.lst M) .nil)),bE [1001,1000] M (by decide),(fun i hi=>by first | rfl | (show (if _ then _ else _)=_; (repeat' split) <;> omega))⟩,(.cons (sv M) .nil),M⟩
end Go.Proofs.YtknpfbfkaccgmaaGreat
