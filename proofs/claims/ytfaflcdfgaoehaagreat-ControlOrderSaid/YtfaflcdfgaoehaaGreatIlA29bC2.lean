/-
  A part of the proof: rules and plain facts. No condition.
-/
import Derived.Test.YtfaflcdfgaoehaaGreatProg
import Derived.KernelRfl
import Derived.Test.YtfaflcdfgaoehaaGreatIlEq
import Derived.Test.YtfaflcdfgaoehaaGreatIlA29bD
import Derived.Test.YtfaflcdfgaoehaaGreatIlA29bC1
set_option linter.all false
set_option maxRecDepth 8000
set_option maxHeartbeats 2000000
open Go Go.IL Go.Fn Go.Proofs
open Go.Proofs.Tryz
namespace Go.Proofs.YtfaflcdfgaoehaaGreat
theorem ti34:TI prog 34 (some (.int .i64 0)) 1 8:=by unfold TI; kernel_rfl
theorem ti36:TI prog 36 (some (.agg #[.string ⟨#[]⟩,.int .i64 0,.int .i64 0])) 3 32:=by unfold TI; kernel_rfl
theorem ag34:gJ prog 34=false:=by kernel_rfl
theorem ag36:gJ prog 36=true:=by kernel_rfl
theorem ex92:aAf prog 92 (Extern.SlicesOverlaps.overlaps #[24,24] #[4]):=⟨f92,func92,by kernel_rfl,by kernel_rfl,by kernel_rfl,by kernel_rfl⟩
theorem pl165:∀ w,(Array.mapM (m:=Sem) (fun (f:Field)=>Functor.map (Prod.mk f.offset) (sizeOf f.type)) (fieldsOf prog 165)).run prog w = .ok #[(0,1),(1,1)] w:=fun w=>by kernel_rfl
theorem pl50:∀ w,(Array.mapM (m:=Sem) (fun (f:Field)=>Functor.map (Prod.mk f.offset) (sizeOf f.type)) (fieldsOf prog 50)).run prog w = .ok #[(0,1),(1,1),(2,1),(3,1),(4,1),(5,1),(6,1),(7,1),(8,1),(9,1)] w:=fun w=>by kernel_rfl
theorem pl52:∀ w,(Array.mapM (m:=Sem) (fun (f:Field)=>Functor.map (Prod.mk f.offset) (sizeOf f.type)) (fieldsOf prog 52)).run prog w = .ok #[(0,1),(1,1),(2,1),(3,1)] w:=fun w=>by kernel_rfl
theorem aEj:prog.stoodInHeld 136=false ∧ prog.eqGuardType prog.depth 136=false:=⟨by kernel_rfl,by kernel_rfl⟩
theorem cl16:bH prog 16:=⟨f16,func16,rfl,rfl⟩
theorem cl21:bH prog 21:=⟨f21,func21,rfl,rfl⟩
theorem cl22:bH prog 22:=⟨f22,func22,rfl,rfl⟩
theorem cl23:bH prog 23:=⟨f23,func23,rfl,rfl⟩
theorem cl24:bH prog 24:=⟨f24,func24,rfl,rfl⟩
theorem cl25:bH prog 25:=⟨f25,func25,rfl,rfl⟩
theorem cl26:bH prog 26:=⟨f26,func26,rfl,rfl⟩
theorem cl27:bH prog 27:=⟨f27,func27,rfl,rfl⟩
theorem cl39:bH prog 39:=⟨f39,func39,rfl,rfl⟩
theorem cl40:bH prog 40:=⟨f40,func40,rfl,rfl⟩
theorem cl41:bH prog 41:=⟨f41,func41,rfl,rfl⟩
theorem cl46:bH prog 46:=⟨f46,func46,rfl,rfl⟩
theorem cl47:bH prog 47:=⟨f47,func47,rfl,rfl⟩
theorem cl48:bH prog 48:=⟨f48,func48,rfl,rfl⟩
theorem cl49:bH prog 49:=⟨f49,func49,rfl,rfl⟩
theorem cl50:bH prog 50:=⟨f50,func50,rfl,rfl⟩
theorem cl53:bH prog 53:=⟨f53,func53,rfl,rfl⟩
theorem cl56:bH prog 56:=⟨f56,func56,rfl,rfl⟩
theorem cl57:bH prog 57:=⟨f57,func57,rfl,rfl⟩
theorem cl58:bH prog 58:=⟨f58,func58,rfl,rfl⟩
theorem cl74:bH prog 74:=⟨f74,func74,rfl,rfl⟩
theorem cl79:bH prog 79:=⟨f79,func79,rfl,rfl⟩
theorem cl80:bH prog 80:=⟨f80,func80,rfl,rfl⟩
theorem cl81:bH prog 81:=⟨f81,func81,rfl,rfl⟩
theorem cl83:bH prog 83:=⟨f83,func83,rfl,rfl⟩
theorem cl85:bH prog 85:=⟨f85,func85,rfl,rfl⟩
theorem cl86:bH prog 86:=⟨f86,func86,rfl,rfl⟩
theorem cl94:bH prog 94:=⟨f94,func94,rfl,rfl⟩
theorem cl95:bH prog 95:=⟨f95,func95,rfl,rfl⟩
theorem cl96:bH prog 96:=⟨f96,func96,rfl,rfl⟩
theorem cl108:bH prog 108:=⟨f108,func108,rfl,rfl⟩
theorem cl109:bH prog 109:=⟨f109,func109,rfl,rfl⟩
theorem cl115:bH prog 115:=⟨f115,func115,rfl,rfl⟩
theorem cl116:bH prog 116:=⟨f116,func116,rfl,rfl⟩
theorem cl117:bH prog 117:=⟨f117,func117,rfl,rfl⟩
def la36:=LA.mk underlying36 ag36 ti36 (by decide)


theorem xR (a0:Int) (r:Bool) (h:mQ a0=some r):cJ prog 116 [.int .u8 a0] (.bool r):=by
 refine bC (rs:=[.bool r]) func116 M ntmps116 (nle M) M fun O hO=>?_
 show IWP _ _ _ _ ⟨[(0,.int .u8 a0)],[]⟩ _
 unfold mQ at h
 refine aC (aA M (aE M M (lb M) (sv (d:=.bool false) M))<|aB ?_)
 refine aW ?_
 refine aC (aA M (mvI M M M M)<|aB ?_)
 refine bG ?_
 refine aW ?_
 obtain ⟨x1,hx1,h⟩:=aS h
 refine aC (aA M (aP M M (lb M) (svI M) (sv (d:=.int _ 0) M) M hx1)<|aA M (asB M M M M)<|aB ?_)
 refine aR (b:=_) M (fun hc2=>?_) (fun hc2=>?_)
 ·
  replace h:=bS h hc2
  refine aV ?_
  refine aM ?_
  refine fV M hc2 ?_
  refine aC (aA M (aE M M (lb M) (sv (d:=.bool true) M))<|aB ?_)
  refine aT ?_
  refine bP ?_
  refine bA ?_
  obtain rfl:=sj_ h
  refine ⟨.inr M,(.cons (sv M) .nil)⟩
 ·
  replace h:=bT h hc2
  obtain ⟨x3,hx3,h⟩:=aS h
  refine aC (aA M (aP M M (lb M) (svI M) (sv (d:=.int _ 1) M) M hx3)<|aA M (asB M M M M)<|aB ?_)
  refine aR (b:=_) M (fun hc4=>?_) (fun hc4=>?_)
  ·
   replace h:=bS h hc4
   refine aV ?_
   refine aM ?_
   refine fV M hc4 ?_
   refine aC (aA M (aE M M (lb M) (sv (d:=.bool true) M))<|aB ?_)
   refine aT ?_
   refine bP ?_
   refine bA ?_
   obtain rfl:=sj_ h
   refine ⟨.inr M,(.cons (sv M) .nil)⟩
  ·
   replace h:=bT h hc4
   obtain ⟨x5,hx5,h⟩:=aS h
   refine aC (aA M (aP M M (lb M) (svI M) (sv (d:=.int _ 2) M) M hx5)<|aA M (asB M M M M)<|aB ?_)
   refine aR (b:=_) M (fun hc6=>?_) (fun hc6=>?_)
   ·
    replace h:=bS h hc6
    refine aV ?_
    refine aM ?_
    refine fV M hc6 ?_
    refine aC (aA M (aE M M (lb M) (sv (d:=.bool true) M))<|aB ?_)
    refine aT ?_
    refine bP ?_
    refine bA ?_
    obtain rfl:=sj_ h
    refine ⟨.inr M,(.cons (sv M) .nil)⟩
   ·
    replace h:=bT h hc6
    obtain ⟨x7,hx7,h⟩:=aS h
    refine aC (aA M (aP M M (lb M) (svI M) (sv (d:=.int _ 4) M) M hx7)<|aA M (asB M M M M)<|aB ?_)
    refine aR (b:=_) M (fun hc8=>?_) (fun hc8=>?_)
    ·
     replace h:=bS h hc8
     refine aV ?_
     refine aM ?_
     refine fV M hc8 ?_
     refine aC (aA M (aE M M (lb M) (sv (d:=.bool true) M))<|aB ?_)
     refine aT ?_
     refine bP ?_
     refine bA ?_
     obtain rfl:=sj_ h
     refine ⟨.inr M,(.cons (sv M) .nil)⟩
    ·
     replace h:=bT h hc8
     obtain ⟨x9,hx9,h⟩:=aS h
     refine aC (aA M (aP M M (lb M) (svI M) (sv (d:=.int _ 6) M) M hx9)<|aA M (asB M M M M)<|aB ?_)
     refine aR (b:=_) M (fun hc10=>?_) (fun hc10=>?_)
     ·
      replace h:=bS h hc10
      refine aV ?_
      refine aM ?_
      refine fV M hc10 ?_
      refine aC (aA M (aE M M (lb M) (sv (d:=.bool true) M))<|aB ?_)
      refine aT ?_
      refine bP ?_
      refine bA ?_
      obtain rfl:=sj_ h
      refine ⟨.inr M,(.cons (sv M) .nil)⟩
     ·
      replace h:=bT h hc10
      obtain ⟨x11,hx11,h⟩:=aS h
      refine bE (aA M (aP M M (lb M) (svI M) (sv (d:=.int _ 9) M) M hx11)<|aA M (asB M M M M)<|cB ?_)
      refine aM ?_
      refine aR (b:=_) M (fun hc12=>?_) (fun hc12=>?_)
      ·
       replace h:=bS h hc12
       refine aC (aA M (aE M M (lb M) (sv (d:=.bool true) M))<|aB ?_)
       refine aT ?_
       refine bP ?_
       refine bA ?_
       obtain rfl:=sj_ h
       refine ⟨.inr M,(.cons (sv M) .nil)⟩
      ·
       replace h:=bT h hc12
       refine aV ?_
       refine bZ ?_
       refine aM ?_
       refine aC (aA M (aE M M (lb M) (sv (d:=.bool false) M))<|aB ?_)
       refine aT ?_
       obtain rfl:=sj_ h
       refine ⟨.inr M,(.cons (sv M) .nil)⟩

theorem uD (a0:aH) (r:aH) (h:kM a0=some r):cJ prog 81 [.agg (v2 a0)] (.agg (v2 r)):=by
 refine bC (rs:=[.agg (v2 r)]) func81 M ntmps81 (nle M) M fun O hO=>?_
 show IWP _ _ _ _ ⟨[(0,.agg (v2 a0))],[]⟩ _
 unfold kM at h
 refine aC (aA M (bV (cs:=q12) 0 M M (lb M) M (svA q12 M) M M)<|aA M (bI (cs:=q13) (cs':=(w39 0 false 0 0 0 0 0 0 ([]:List bL) [])) 1 M M (lb M) M ti50 M M (.k4 (.k4 (.cons (.nils _) (.all _)))))<|aB ?_)
 refine aW ?_
 obtain ⟨x1,hx1,h⟩:=aZ h
 refine aC (aA M (eN (r':=.osl 2 (eRef 0).sz x1.length) (H1':=[(0,.blk 50 (v2 a0)),(2,.blk 150 (D.flat (x1.map (eRef 0).d)))]) 2 [0] M M (lb M) cl82 (.cons (svR M) .nil) M M ⟨M,M,by decide,M,List.forall_mem_cons.2 ⟨⟨M,M,M,M⟩,List.forall_mem_nil _⟩⟩ (kE _ _ hx1) M M (List.forall_mem_cons.2 ⟨⟨M,M⟩,List.forall_mem_cons.2 ⟨⟨M,(aD8 M)⟩,List.forall_mem_nil _⟩⟩) (by simp only [List.map_cons,List.map_nil,Ent.ren,fR,gL]; rfl))<|aA M (nH M M (lb M) underlying148 (sv (d:=.osl _ _ _) M))<|aA M (aK M M (lb M) (sv (d:=.int _ 0) M))<|aB ?_)
 refine bG ?_
 refine dA (α:=Nat × Int × Int × Int × Int × Int × Int × Int) (fun z=>⟨[(1,.ref 0 0),(2,.ref 1 0),(5,.osl 2 (eRef 0).sz x1.length),(6,.int .i64 (x1.length:Int)),(7,.int .i64 z.2.1)],[(0,.blk 50 (w39 a0.Kind a0.Flag z.2.2.1 z.2.2.2.1 z.2.2.2.2.1 z.2.2.2.2.2.1 z.2.2.2.2.2.2.1 z.2.2.2.2.2.2.2 a0.Pairs a0.Data)),(1,.blk 50 (w39 0 false 0 0 0 0 0 0 ([]:List bL) [])),(2,.blk 150 (D.flat (x1.map (eRef 0).d)))]⟩) (fun z=>eJ a0 x1 z.1 z.2.1 z.2.2.1 z.2.2.2.1 z.2.2.2.2.1 z.2.2.2.2.2.1 z.2.2.2.2.2.2.1 z.2.2.2.2.2.2.2=some r) (fun z=>z.1) (fuel,0,a0.Stream,a0.Offset,a0.Dep,a0.Weight,a0.N,a0.Code) (fun i=>i) ⟨(.sames M M),(.cons (.blk M M M) (.cons (.blk M M M) (.cons (EntW.lstR M M) .nil))),cA [0,1,2] M (by decide),fun _ _=>M⟩ ?_ ?_
 ·exact h
 ·
  rintro ⟨n0,v8,v9,v10,v11,v12,v13,v14⟩ h
  cases n0 with
  | zero=>exact absurd h (by unfold eJ; exact nofun)
  | succ n0 =>
   unfold eJ at h
   obtain ⟨x21,hx21,h⟩:=aS h
   refine aC (aA M (aP M M (lb M) (svI M) (svI M) M hx21)<|aB ?_)
   refine aW ?_
   refine aR (b:=_) M (fun hc22=>?_) (fun hc22=>?_)
   ·
    replace h:=bS h hc22
    refine aV ?_
    refine aM ?_
    refine aW ?_
    refine bG ?_
    obtain ⟨x23,hx23,h⟩:=aZ h
    obtain ⟨x24,hx24,h⟩:=aZ h
    refine aC (aA M (jN (eRef 0) M M (lb M) underlying148 nY (sv (d:=.osl _ _ _) M) M (svI M) hx23)<|aA M (lJ (eRef 0) (d:=.ref _ _) M M (lb M) underlying150 ag150 nY (by decide) (svR M) M hx24 (nle M) M)<|aA M (aE M M (lb M) (svR M))<|aB ?_)
    obtain ⟨x25,hx25,h⟩:=aZ h
    refine bE (aA M (mvR M M M M)<|aA M (bO M M (lb M) (svR M))<|aA M (uL (cs':=(w39 a0.Kind a0.Flag (bif Nat.beq x24 2 then 0 else v9) (bif Nat.beq x24 3 then 0 else v10) (bif Nat.beq x24 4 then 0 else v11) (bif Nat.beq x24 5 then 0 else v12) (bif Nat.beq x24 6 then 0 else v13) (bif Nat.beq x24 7 then 0 else v14) a0.Pairs a0.Data)) M M ti3 (svR M) M (sv (d:=.int _ 0) M) hx25 M)<|cB ?_)
    refine bZ ?_
    refine aM ?_
    obtain ⟨x26,hx26,h⟩:=aS h
    refine bE (aA M (bN M M (lb M) (svI M) (sv (d:=.int _ 1) M) M hx26)<|aA M (mvI M M M M)<|cB ?_)
    refine aM ⟨(n0,x26,(bif Nat.beq x24 2 then 0 else v9),(bif Nat.beq x24 3 then 0 else v10),(bif Nat.beq x24 4 then 0 else v11),(bif Nat.beq x24 5 then 0 else v12),(bif Nat.beq x24 6 then 0 else v13),(bif Nat.beq x24 7 then 0 else v14)),(fun i=>i),⟨(.sames M M),(.cons (.blk M M M) (.cons (.blk M M M) (.cons (EntW.lstR M M) .nil))),cA [0,1,2] M (by decide),fun _ _=>M⟩,?_,?_⟩
    exact h
    exact Nat.lt_succ_self _
   ·
    replace h:=bT h hc22
    refine cQ ?_
    refine bJ ?_
    refine bJ ?_
    refine cR ?_
    refine aM ?_
    refine gP (α:=(List bL) × (List UInt8)) (fun z=>⟨[(1,.ref 0 0),(2,.ref 1 0)],[(0,.blk 50 (w39 a0.Kind a0.Flag v9 v10 v11 v12 v13 v14 z.1 z.2)),(1,.blk 50 (w39 0 false 0 0 0 0 0 0 ([]:List bL) []))]⟩) (fun z=>eY a0 v9 v10 v11 v12 v13 v14 z.1 z.2=some r) ?_ ?_
    ·
     refine aC (aA M (faR 0 M M M underlying50 M ti5 (lb M) M M)<|aA M (aG (d:=.int _ _) M M (lb M) underlying5 ag5 ti5 (by decide) (svR M) M (nle M) M)<|aB ?_)
     refine bG ?_
     obtain ⟨x36,hx36,h⟩:=aS h
     refine aC (aA M (aP M M (lb M) (svI M) (sv (d:=.int _ 0) M) M hx36)<|aA M (asB M M M M)<|aB ?_)
     refine aR (b:=_) M (fun hc37=>?_) (fun hc37=>?_)
     ·
      replace h:=bS h hc37
      refine bE (aA M (faR 9 M M M underlying50 M ti9 (lb M) M M)<|aA M (bQ (ds':=q12) M M ti9 (svR M) M (sv (d:=.str []) M) M M M (nle M) M)<|cB ?_)
      refine bZ ?_
      refine aM ⟨(a0.Pairs,([]:(List UInt8))),(fun i=>i),⟨(.sames M M),(.cons (.blk M M M) (.cons (.blk M M M) .nil)),cA [0,1] M (by decide),fun _ _=>M⟩,?_⟩
      exact h
     ·
      replace h:=bT h hc37
      obtain ⟨x38,hx38,h⟩:=aS h
      refine aC (aA M (aP M M (lb M) (svI M) (sv (d:=.int _ 4) M) M hx38)<|aA M (asB M M M M)<|aB ?_)
      refine aR (b:=_) M (fun hc39=>?_) (fun hc39=>?_)
      ·
       replace h:=bS h hc39
       refine aC (aA M (faR 1 M M M underlying50 M ti4 (lb M) M M)<|aA M (aG (d:=.bool _) M M (lb M) underlying4 ag4 ti4 (by decide) (svR M) M (nle M) M)<|aA M (dN M M (lb M) (svB M))<|aB ?_)
       refine aR (b:=_) M (fun hc40=>?_) (fun hc40=>?_)
       ·
        replace h:=bS h hc40
        refine bE (aA M (faR 8 M M M underlying50 M ti42 (lb M) M M)<|aA M (bQ (ds':=[.int _ _,.bool _,.int _ _,.int _ _,.int _ _,.int _ _,.int _ _,.int _ _,.slice false (([]:List bL).map bR.d),.str _]) M M ti42 (svR M) M (svn M) M M M (nle M) M)<|cB ?_)
        refine bZ ?_
        refine aM ⟨(([]:(List bL)),a0.Data),(fun i=>i),⟨(.sames M M),(.cons (.blk M M M) (.cons (.blk M M M) .nil)),cA [0,1] M (by decide),fun _ _=>M⟩,?_⟩
        exact h
       ·
        replace h:=bT h hc40
        refine aV ?_
        refine bZ ?_
        refine aM ⟨(a0.Pairs,a0.Data),(fun i=>i),⟨(.sames M M),(.cons (.blk M M M) (.cons (.blk M M M) .nil)),cA [0,1] M (by decide),fun _ _=>M⟩,?_⟩
        exact h
      ·
       replace h:=bT h hc39
       refine aV ?_
       refine bZ ?_
       refine aM ⟨(a0.Pairs,a0.Data),(fun i=>i),⟨(.sames M M),(.cons (.blk M M M) (.cons (.blk M M M) .nil)),cA [0,1] M (by decide),fun _ _=>M⟩,?_⟩
       exact h
    ·
     rintro ⟨v32,v33⟩ h
     unfold eY at h
     refine aW ?_
     obtain ⟨x34,hx34,h⟩:=aZ h
     refine aC (aA M (faR 0 M M M underlying50 M ti5 (lb M) M M)<|aA M (aG (d:=.int _ _) M M (lb M) underlying5 ag5 ti5 (by decide) (svR M) M (nle M) M)<|aA M (aX (r:=.bool _) M M (lb M) cl116 (.cons (svI M) .nil) M (xR _ _ hx34))<|aB ?_)
     refine aR (b:=_) M (fun hc35=>?_) (fun hc35=>?_)
     ·
      replace h:=bS h hc35
      refine bE (aA M (faR 1 M M M underlying50 M ti4 (lb M) M M)<|aA M (bQ (ds':=q12) M M ti4 (svR M) M (sv (d:=.bool false) M) M M M (nle M) M)<|cB ?_)
      refine aM ?_
      refine aC (aA M (lra q12 la50 M M M M M (nle M) M)<|aA M (stA q12 q12 ti50 M M M M M M M M (nle M) M)<|aB ?_)
      refine aT ?_
      obtain rfl:=sj_ h
      refine ⟨.inr M,(.cons (rva la50 M M (nle M) M) .nil)⟩
     ·
      replace h:=bT h hc35
      refine aV ?_
      refine aM ?_
      refine aC (aA M (lra q12 la50 M M M M M (nle M) M)<|aA M (stA q12 q12 ti50 M M M M M M M M (nle M) M)<|aB ?_)
      refine aT ?_
      obtain rfl:=sj_ h
      refine ⟨.inr M,(.cons (rva la50 M M (nle M) M) .nil)⟩

theorem mS (a0:(List bL)) (a1:(List bL)) (r:Bool) (h:eG a0 a1=some r):cJ prog 115 [.slice false (a0.map bR.d),.slice false (a1.map bR.d)] (.bool r):=by
 refine bC (rs:=[.bool r]) func115 M ntmps115 (nle M) M fun O hO=>?_
 show IWP _ _ _ _ ⟨[(0,.slice false (a0.map bR.d)),(1,.slice false (a1.map bR.d))],[]⟩ _
 unfold eG at h
 refine aC (aA M (aE M M (lb M) (sv (d:=.bool false) M))<|aB ?_)
 refine aW ?_
 obtain ⟨x1,hx1,h⟩:=aS h
 refine aC (aA M (mvL M M M M)<|aA M (cN bR (l:=a0) M M (lb M) underlying42 (svL M))<|aA M (mvL M M M M)<|aA M (cN bR (l:=a1) M M (lb M) underlying42 (svL M))<|aA M (aP M M (lb M) (svI M) (svI M) M hx1)<|aB ?_)
 refine aR (b:=_) M (fun hc2=>?_) (fun hc2=>?_)
 ·
  replace h:=bS h hc2
  refine aC (aA M (aE M M (lb M) (sv (d:=.bool false) M))<|aB ?_)
  refine aT ?_
  refine bA ?_
  obtain rfl:=sj_ h
  refine ⟨.inr M,(.cons (sv M) .nil)⟩
 ·
  replace h:=bT h hc2
  refine aV ?_
  refine aM ?_
  refine aW ?_
  refine aC (aA M (mvL M M M M)<|aA M (cN bR (l:=a0) M M (lb M) underlying42 (svL M))<|aA M (aK M M (lb M) (sv (d:=.int _ 0) M))<|aB ?_)
  refine bG ?_
  refine dA (α:=Nat × Int) (fun z=>⟨[(0,.slice false (a0.map bR.d)),(1,.slice false (a1.map bR.d)),(12,.int .i64 (a0.length:Int)),(13,.int .i64 z.2)],[]⟩) (fun z=>dE a0 a1 z.1 z.2=some r) (fun z=>z.1) (fuel,0) (fun i=>i) ⟨(.sames M M),.nil,cA [] M (by decide),fun _ _=>M⟩ ?_ ?_
  ·exact h
  ·
   rintro ⟨n0,v10⟩ h
   cases n0 with
   | zero=>exact absurd h (by unfold dE; exact nofun)
   | succ n0 =>
    unfold dE at h
    obtain ⟨x18,hx18,h⟩:=aS h
    refine aC (aA M (aP M M (lb M) (svI M) (svI M) M hx18)<|aB ?_)
    refine aW ?_
    refine aR (b:=_) M (fun hc19=>?_) (fun hc19=>?_)
    ·
     replace h:=bS h hc19
     refine aV ?_
     refine aM ?_
     refine aW ?_
     refine bG ?_
     refine aC (aA M (mvI M M M M)<|aA M (asI M M M M)<|aB ?_)
     obtain ⟨x20,hx20,h⟩:=aZ h
     obtain ⟨x21,hx21,h⟩:=aZ h
     obtain ⟨x22,hx22,h⟩:=aS h
     refine dH M [⟨[0],[],[(16,.slice false (a0.map bR.d))],[]⟩,
      ⟨[5],[],[(17,.int .i64 v10)],[]⟩,
      ⟨[16,17],[],[(18,.fptr [.int .i64 x20.ID,.int .i64 x20.Value])],[]⟩,
      ⟨[18],[],[(19,.agg [.int .i64 x20.ID,.int .i64 x20.Value])],[]⟩,
      ⟨[1],[],[(20,.slice false (a1.map bR.d))],[]⟩,
      ⟨[5],[],[(21,.int .i64 v10)],[]⟩,
      ⟨[20,21],[],[(22,.fptr [.int .i64 x21.ID,.int .i64 x21.Value])],[]⟩,
      ⟨[22],[],[(23,.agg [.int .i64 x21.ID,.int .i64 x21.Value])],[]⟩,
      ⟨[19,23],[],[(24,.bool (!x22))],[]⟩] M ?_ (by kernel_rfl) ?_
     ·refine .cons (lop M M fun S hA=>(aK M M (lb M) (svaL hA M M))) ?_
      refine .cons (lop M M fun S hA=>(aK M M (lb M) (svaI hA M M))) ?_
      refine .cons (lop M M fun S hA=>(dB bR (cs:=q27) M M (lb M) underlying42 rC (svaL hA M M) (svaI hA M M) hx20 M M)) ?_
      refine .cons (lop M M fun S hA=>(cX (cs:=q27) M M (lb M) underlying136 aC7 rC (by decide) (sv (d:=.fptr q27) (agr hA M M)) (nle M) M)) ?_
      refine .cons (lop M M fun S hA=>(aK M M (lb M) (svaL hA M M))) ?_
      refine .cons (lop M M fun S hA=>(aK M M (lb M) (svaI hA M M))) ?_
      refine .cons (lop M M fun S hA=>(dB bR (cs:=q27) M M (lb M) underlying42 rC (svaL hA M M) (svaI hA M M) hx21 M M)) ?_
      refine .cons (lop M M fun S hA=>(cX (cs:=q27) M M (lb M) underlying136 aC7 rC (by decide) (sv (d:=.fptr q27) (agr hA M M)) (nle M) M)) ?_
      refine .cons (lop M M fun S hA=>(xY M M (lb M) underlying136 aEj.1 aEj.2 (svaA q27 hA M M) (svaA q27 hA M M) (congrArg some hx22))) ?_
      exact .nil
     refine aR (b:=_) M (fun hc23=>?_) (fun hc23=>?_)
     ·
      replace h:=bS h hc23
      refine aC (aA M (aE M M (lb M) (sv (d:=.bool false) M))<|aB ?_)
      refine aT ?_
      refine bP ?_
      refine bA ?_
      refine bA ?_
      refine bP ?_
      refine bA ?_
      obtain rfl:=sj_ h
      refine ⟨.inr M,(.cons (sv M) .nil)⟩
     ·
      replace h:=bT h hc23
      refine aV ?_
      refine bZ ?_
      refine aM ?_
      obtain ⟨x24,hx24,h⟩:=aS h
      refine bE (aA M (bN M M (lb M) (svI M) (sv (d:=.int _ 1) M) M hx24)<|aA M (mvI M M M M)<|cB ?_)
      refine aM ⟨(n0,x24),(fun i=>i),⟨(.sames M M),.nil,cA [] M (by decide),fun _ _=>M⟩,?_,?_⟩
      exact h
      exact Nat.lt_succ_self _
    ·
     replace h:=bT h hc19
     refine cQ ?_
     refine bJ ?_
     refine bJ ?_
     refine cR ?_
     refine aM ?_
     refine aC (aA M (aE M M (lb M) (sv (d:=.bool true) M))<|aB ?_)
     refine aT ?_
     obtain rfl:=sj_ h
     refine ⟨.inr M,(.cons (sv M) .nil)⟩

theorem aA8 (a0:aH) (a1:aH) (r:Bool) (h:pZ a0 a1=some r):cJ prog 80 [.agg (v2 a0),.agg (v2 a1)] (.bool r):=by
 refine bC (rs:=[.bool r]) func80 M ntmps80 (nle M) M fun O hO=>?_
 show IWP _ _ _ _ ⟨[(0,.agg (v2 a0)),(1,.agg (v2 a1))],[]⟩ _
 unfold pZ at h
 refine aC (aA M (bV (cs:=q12) 0 M M (lb M) M (svA q12 M) M M)<|aA M (bV (cs:=q12) 1 M M (lb M) M (svA q12 M) M M)<|aA M (aE M M (lb M) (sv (d:=.bool false) M))<|aB ?_)
 refine aW ?_
 obtain ⟨x1,hx1,h⟩:=aS h
 obtain ⟨x2,hx2,h⟩:=aS h
 obtain ⟨x3,hx3,h⟩:=aS h
 obtain ⟨x4,hx4,h⟩:=aZ h
 obtain ⟨x5,hx5,h⟩:=aS h
 refine aC (aA M (faR 0 M M M underlying50 M ti5 (lb M) M M)<|aA M (aG (d:=.int _ _) M M (lb M) underlying5 ag5 ti5 (by decide) (svR M) M (nle M) M)<|aA M (faR 0 M M M underlying50 M ti5 (lb M) M M)<|aA M (aG (d:=.int _ _) M M (lb M) underlying5 ag5 ti5 (by decide) (svR M) M (nle M) M)<|aA M (aP M M (lb M) (svI M) (svI M) M hx1)<|aA M (mvB M M M M)<|aF M M (.one M) M (by decide) (fun hb=>(faR 1 M M M underlying50 M ti4 (lb M) M M))<|aF M M (.one M) M (by decide) (fun hb=>(aG (d:=.bool _) M M (lb M) underlying4 ag4 ti4 (by decide) (svcR M hb) M (nle M) M))<|aF M M (.one M) M (by decide) (fun hb=>(faR 1 M M M underlying50 M ti4 (lb M) M M))<|aF M M (.one M) M (by decide) (fun hb=>(aG (d:=.bool _) M M (lb M) underlying4 ag4 ti4 (by decide) (svcR M hb) M (nle M) M))<|aF M M (.one M) M (by decide) (fun hb=>(aE8 M M (lb M) underlying4 (svcB M hb) (svcB M hb) hx2))<|aA M (dT M M (lb M) (svB M) M M hx3)<|aA M (mvB M M M M)<|aF M M (.one M) M (by decide) (fun hb=>(faR 8 M M M underlying50 M ti42 (lb M) M M))<|aF M M (.one M) M (by decide) (fun hb=>(aG (d:=.slice _ _) M M (lb M) underlying42 ag42 ti42 (by decide) (svcR M hb) M (nle M) M))<|aF M M (.one M) M (by decide) (fun hb=>(faR 8 M M M underlying50 M ti42 (lb M) M M))<|aF M M (.one M) M (by decide) (fun hb=>(aG (d:=.slice _ _) M M (lb M) underlying42 ag42 ti42 (by decide) (svcR M hb) M (nle M) M))<|aF M M (.one M) M (by decide) (fun hb=>(aX (r:=.bool _) M M (lb M) cl115 (.cons (svcL M hb) (.cons (svcL M hb) .nil)) M (mS _ _ _ (gd_t hx4 hb))))<|aF M M (.one M) M (by decide) (fun hb=>(dN M M (lb M) (svcB M hb)))<|aA M (dT M M (lb M) (svB M) M M hx5)<|aB ?_)
 refine aR (b:=_) M (fun hc6=>?_) (fun hc6=>?_)
 ·
  replace h:=bS h hc6
  refine aC (aA M (aE M M (lb M) (sv (d:=.bool false) M))<|aB ?_)
  refine aT ?_
  refine bA ?_
  obtain rfl:=sj_ h
  refine ⟨.inr M,(.cons (sv M) .nil)⟩
 ·
  replace h:=bT h hc6
  refine aV ?_
  refine aM ?_
  obtain ⟨x7,hx7,h⟩:=aS h
  obtain ⟨x8,hx8,h⟩:=aS h
  obtain ⟨x9,hx9,h⟩:=aS h
  obtain ⟨x10,hx10,h⟩:=aS h
  obtain ⟨x11,hx11,h⟩:=aS h
  obtain ⟨x12,hx12,h⟩:=aS h
  obtain ⟨x13,hx13,h⟩:=aS h
  refine aC (aA M (faR 2 M M M underlying50 M ti3 (lb M) M M)<|aA M (aG (d:=.int _ _) M M (lb M) underlying3 ag3 ti3 (by decide) (svR M) M (nle M) M)<|aA M (faR 2 M M M underlying50 M ti3 (lb M) M M)<|aA M (aG (d:=.int _ _) M M (lb M) underlying3 ag3 ti3 (by decide) (svR M) M (nle M) M)<|aA M (aP M M (lb M) (svI M) (svI M) M hx7)<|aA M (mvB M M M M)<|aF M M (.one M) M (by decide) (fun hb=>(faR 3 M M M underlying50 M ti3 (lb M) M M))<|aF M M (.one M) M (by decide) (fun hb=>(aG (d:=.int _ _) M M (lb M) underlying3 ag3 ti3 (by decide) (svcR M hb) M (nle M) M))<|aF M M (.one M) M (by decide) (fun hb=>(faR 3 M M M underlying50 M ti3 (lb M) M M))<|aF M M (.one M) M (by decide) (fun hb=>(aG (d:=.int _ _) M M (lb M) underlying3 ag3 ti3 (by decide) (svcR M hb) M (nle M) M))<|aF M M (.one M) M (by decide) (fun hb=>(aP M M (lb M) (svcI M hb) (svcI M hb) M hx8))<|aA M (cC M M (lb M) (svB M) M M hx9)<|aA M (mvB M M M M)<|aF M M (.one M) M (by decide) (fun hb=>(faR 4 M M M underlying50 M ti3 (lb M) M M))<|aF M M (.one M) M (by decide) (fun hb=>(aG (d:=.int _ _) M M (lb M) underlying3 ag3 ti3 (by decide) (svcR M hb) M (nle M) M))<|aF M M (.one M) M (by decide) (fun hb=>(faR 4 M M M underlying50 M ti3 (lb M) M M))<|aF M M (.one M) M (by decide) (fun hb=>(aG (d:=.int _ _) M M (lb M) underlying3 ag3 ti3 (by decide) (svcR M hb) M (nle M) M))<|aF M M (.one M) M (by decide) (fun hb=>(aP M M (lb M) (svcI M hb) (svcI M hb) M hx10))<|aA M (cC M M (lb M) (svB M) M M hx11)<|aA M (mvB M M M M)<|aF M M (.one M) M (by decide) (fun hb=>(faR 5 M M M underlying50 M ti3 (lb M) M M))<|aF M M (.one M) M (by decide) (fun hb=>(aG (d:=.int _ _) M M (lb M) underlying3 ag3 ti3 (by decide) (svcR M hb) M (nle M) M))<|aF M M (.one M) M (by decide) (fun hb=>(faR 5 M M M underlying50 M ti3 (lb M) M M))<|aF M M (.one M) M (by decide) (fun hb=>(aG (d:=.int _ _) M M (lb M) underlying3 ag3 ti3 (by decide) (svcR M hb) M (nle M) M))<|aF M M (.one M) M (by decide) (fun hb=>(aP M M (lb M) (svcI M hb) (svcI M hb) M hx12))<|aA M (cC M M (lb M) (svB M) M M hx13)<|aA M (asB M M M M)<|aB ?_)
  obtain ⟨x14,hx14,h⟩:=aS h
  obtain ⟨x15,hx15,h⟩:=aS h
  obtain ⟨x16,hx16,h⟩:=aS h
  obtain ⟨x17,hx17,h⟩:=aS h
  obtain ⟨x18,hx18,h⟩:=aS h
  obtain ⟨x19,hx19,h⟩:=aS h
  refine aC (aA M (mvB M M M M)<|aA M (mvB M M M M)<|aF M M (.one M) M (by decide) (fun hb=>(faR 6 M M M underlying50 M ti3 (lb M) M M))<|aF M M (.one M) M (by decide) (fun hb=>(aG (d:=.int _ _) M M (lb M) underlying3 ag3 ti3 (by decide) (svcR M hb) M (nle M) M))<|aF M M (.one M) M (by decide) (fun hb=>(faR 6 M M M underlying50 M ti3 (lb M) M M))<|aF M M (.one M) M (by decide) (fun hb=>(aG (d:=.int _ _) M M (lb M) underlying3 ag3 ti3 (by decide) (svcR M hb) M (nle M) M))<|aF M M (.one M) M (by decide) (fun hb=>(aP M M (lb M) (svcI M hb) (svcI M hb) M hx14))<|aA M (cC M M (lb M) (svB M) M M hx15)<|aA M (mvB M M M M)<|aF M M (.one M) M (by decide) (fun hb=>(faR 7 M M M underlying50 M ti3 (lb M) M M))<|aF M M (.one M) M (by decide) (fun hb=>(aG (d:=.int _ _) M M (lb M) underlying3 ag3 ti3 (by decide) (svcR M hb) M (nle M) M))<|aF M M (.one M) M (by decide) (fun hb=>(faR 7 M M M underlying50 M ti3 (lb M) M M))<|aF M M (.one M) M (by decide) (fun hb=>(aG (d:=.int _ _) M M (lb M) underlying3 ag3 ti3 (by decide) (svcR M hb) M (nle M) M))<|aF M M (.one M) M (by decide) (fun hb=>(aP M M (lb M) (svcI M hb) (svcI M hb) M hx16))<|aA M (cC M M (lb M) (svB M) M M hx17)<|aA M (mvB M M M M)<|aF M M (.one M) M (by decide) (fun hb=>(faR 9 M M M underlying50 M ti9 (lb M) M M))<|aF M M (.one M) M (by decide) (fun hb=>(aG (d:=.str _) M M (lb M) underlying9 ag9 ti9 (by decide) (svcR M hb) M (nle M) M))<|aF M M (.one M) M (by decide) (fun hb=>(faR 9 M M M underlying50 M ti9 (lb M) M M))<|aF M M (.one M) M (by decide) (fun hb=>(aG (d:=.str _) M M (lb M) underlying9 ag9 ti9 (by decide) (svcR M hb) M (nle M) M))<|aF M M (.one M) M (by decide) (fun hb=>(jC M M (lb M) (svc (d:=.str _) M hb) (svc (d:=.str _) M hb) M hx18))<|aA M (cC M M (lb M) (svB M) M M hx19)<|aA M (asB M M M M)<|aB ?_)
  refine aT ?_
  obtain rfl:=sj_ h
  refine ⟨.inr M,(.cons (sv M) .nil)⟩

theorem uE (a0:aH) (r:Int) (h:nC a0=some r):cJ prog 46 [.agg (v2 a0)] (.int .i64 r):=by
 refine bC (rs:=[.int .i64 r]) func46 M ntmps46 (nle M) M fun O hO=>?_
 show IWP _ _ _ _ ⟨[(0,.agg (v2 a0))],[]⟩ _
 unfold nC at h
 refine aC (aA M (bV (cs:=q12) 0 M M (lb M) M (svA q12 M) M M)<|aA M (aE M M (lb M) (sv (d:=.int _ 0) M))<|aB ?_)
 refine aW ?_
 refine bG ?_
 obtain ⟨x1,hx1,h⟩:=aZ h
 refine aC (aA M (faR 0 M M M underlying50 M ti5 (lb M) M M)<|aA M (aG (d:=.int _ _) M M (lb M) underlying5 ag5 ti5 (by decide) (svR M) M (nle M) M)<|aA M (aX (r:=.bool _) M M (lb M) cl78 (.cons (svI M) .nil) M (uC _ _ hx1))<|aA M (dN M M (lb M) (svB M))<|aA M (asB M M M M)<|aB ?_)
 refine aR (b:=_) M (fun hc2=>?_) (fun hc2=>?_)
 ·
  replace h:=bS h hc2
  refine aC (aA M (aE M M (lb M) (sv (d:=.int _ 12) M))<|aB ?_)
  refine aT ?_
  refine bP ?_
  refine bA ?_
  obtain rfl:=sj_ h
  refine ⟨.inr M,(.cons (sv M) .nil)⟩
 ·
  replace h:=bT h hc2
  obtain ⟨x3,hx3,h⟩:=aZ h
  refine aC (aA M (lra q12 la50 M M M M M (nle M) M)<|aA M (aX (r:=.bool _) M M (lb M) cl79 (.cons (svA q12 M) .nil) M (sQ _ _ hx3))<|aA M (dN M M (lb M) (svB M))<|aA M (asB M M M M)<|aB ?_)
  refine aR (b:=_) M (fun hc4=>?_) (fun hc4=>?_)
  ·
   replace h:=bS h hc4
   refine aC (aA M (aE M M (lb M) (sv (d:=.int _ 8) M))<|aB ?_)
   refine aT ?_
   refine bP ?_
   refine bA ?_
   obtain rfl:=sj_ h
   refine ⟨.inr M,(.cons (sv M) .nil)⟩
  ·
   replace h:=bT h hc4
   refine gP (α:=Bool) (fun z=>⟨[(1,.ref 0 0),(12,.bool z)],[(0,.blk 50 (v2 a0))]⟩) (fun z=>kR a0 z=some r) ?_ ?_
   ·
    obtain ⟨x13,hx13,h⟩:=aS h
    refine aC (aA M (faR 9 M M M underlying50 M ti9 (lb M) M M)<|aA M (aG (d:=.str _) M M (lb M) underlying9 ag9 ti9 (by decide) (svR M) M (nle M) M)<|aA M (dF M M (lb M) underlying9 (sv (d:=.str _) M) M)<|aA M (aP M M (lb M) (svI M) (sv (d:=.int _ 32) M) M hx13)<|aA M (asB M M M M)<|aB ?_)
    refine aR (b:=_) M (fun hc14=>?_) (fun hc14=>?_)
    ·
     replace h:=bS h hc14
     refine aV ?_
     refine aM ⟨x13,(fun i=>i),⟨(.sames M M),(.cons (.blk M M M) .nil),cA [0] M (by decide),fun _ _=>M⟩,?_⟩
     exact h
    ·
     replace h:=bT h hc14
     obtain ⟨x15,hx15,h⟩:=aS h
     refine bE (aA M (faR 8 M M M underlying50 M ti42 (lb M) M M)<|aA M (lrL la42 M M M M M (nle M) M)<|aA M (cN bR (l:=a0.Pairs) M M (lb M) underlying42 (svL M))<|aA M (aP M M (lb M) (svI M) (sv (d:=.int _ 4) M) M hx15)<|aA M (asB M M M M)<|cB ?_)
     refine aM ⟨x15,(fun i=>i),⟨(.sames M M),(.cons (.blk M M M) .nil),cA [0] M (by decide),fun _ _=>M⟩,?_⟩
     exact h
   ·
    rintro v8 h
    unfold kR at h
    refine aR (b:=_) M (fun hc9=>?_) (fun hc9=>?_)
    ·
     replace h:=bS h hc9
     refine aC (aA M (aE M M (lb M) (sv (d:=.int _ 5) M))<|aB ?_)
     refine aT ?_
     refine bP ?_
     refine bA ?_
     obtain rfl:=sj_ h
     refine ⟨.inr M,(.cons (sv M) .nil)⟩
    ·
     replace h:=bT h hc9
     obtain ⟨x10,hx10,h⟩:=aZ h
     obtain ⟨x11,hx11,h⟩:=aZ h
     refine dH M [⟨[1],[0],[(22,.agg (v2 a0))],[]⟩,
      ⟨[22],[],[(23,.agg (v2 x10))],[]⟩,
      ⟨[1],[],[(24,.ref 0 0)],[]⟩,
      ⟨[24],[0],[(25,.int .u8 a0.Kind)],[]⟩,
      ⟨[25],[],[(26,.agg (w39 a0.Kind false 0 0 0 0 0 0 ([]:List bL) []))],[]⟩,
      ⟨[23,26],[],[(27,.bool x11)],[]⟩,
      ⟨[27],[],[(28,.bool (!x11))],[]⟩,
      ⟨[28],[],[(21,.bool (!x11))],[]⟩] M ?_ (by kernel_rfl) ?_
     ·refine .cons (lop M M fun S hA=>(bY (cs:=q12) M M (lb M) underlying50 ag50 ti50 (by decide) (svaR hA M M) (agi hA M M) (nle M) M)) ?_
      refine .cons (lop M M fun S hA=>(aX (r:=.agg q12) M M (lb M) cl81 (.cons (svaA q12 hA M M) .nil) M (uD _ _ hx10))) ?_
      refine .cons (lop M M fun S hA=>(aO M M (lb M) underlying50 M ti5 (by decide) (svaR hA M M) (off':=0) M)) ?_
      refine .cons (lop M M fun S hA=>(aG (d:=.int _ _) M M (lb M) underlying5 ag5 ti5 (by decide) (svaR hA M M) (agi hA M M) (nle M) M)) ?_
      refine .cons (lop M M fun S hA=>(qP (d':=.agg (w39 a0.Kind false 0 0 0 0 0 0 ([]:List bL) [])) (cF (cs:=q13) M M (lb M) underlying50 ti50 pl50 M (.cons (svaI hA M M) .nil) M) (.agg (.k4 (.k4 (.cons (.nils _) (.all _))))))) ?_
      refine .cons (lop M M fun S hA=>(aX (r:=.bool _) M M (lb M) cl80 (.cons (svaA q12 hA M M) (.cons (svaA q12 hA M M) .nil)) M (aA8 _ _ _ hx11))) ?_
      refine .cons (lop M M fun S hA=>(dN M M (lb M) (svaB hA M M))) ?_
      refine .cons (lop M M fun S hA=>(aE M M (lb M) (svaB hA M M))) ?_
      exact .nil
     refine aR (b:=_) M (fun hc12=>?_) (fun hc12=>?_)
     ·
      replace h:=bS h hc12
      refine aC (aA M (aE M M (lb M) (sv (d:=.int _ 4) M))<|aB ?_)
      refine aT ?_
      refine bP ?_
      refine bA ?_
      obtain rfl:=sj_ h
      refine ⟨.inr M,(.cons (sv M) .nil)⟩
     ·
      replace h:=bT h hc12
      refine aV ?_
      refine bZ ?_
      refine aM ?_
      refine aC (aA M (aE M M (lb M) (sv (d:=.int _ 0) M))<|aB ?_)
      refine aT ?_
      obtain rfl:=sj_ h
      refine ⟨.inr M,(.cons (sv M) .nil)⟩

theorem xS (a0:(List UInt8)) (r:(aH × Int × Int)) (h:qA a0=some r):cJ prog 74 [.str a0] (retD [.agg (v2 r.1),.int .i64 r.2.1,.int .i64 r.2.2]):=by
 refine bC (rs:=[.agg (v2 r.1),.int .i64 r.2.1,.int .i64 r.2.2]) func74 M ntmps74 (nle M) M fun O hO=>?_
 show IWP _ _ _ _ ⟨[(0,.str a0)],[]⟩ _
 unfold qA at h
 refine aC (aA M (bI (cs:=q13) (cs':=(w39 0 false 0 0 0 0 0 0 ([]:List bL) [])) 0 M M (lb M) M ti50 M M (.k4 (.k4 (.cons (.nils _) (.all _)))))<|aA M (aE M M (lb M) (sv (d:=.int _ 0) M))<|aA M (aE M M (lb M) (sv (d:=.int _ 0) M))<|aB ?_)
 obtain ⟨x1,hx1,h⟩:=aZ h
 refine aC (aA M (aK M M (lb M) (sv (d:=.str _) M))<|aA M (aX (r:=.tuple q29) M M (lb M) cl108 (.cons (sv (d:=.str _) M) .nil) M (aA7 _ _ hx1))<|aA M (aK M M (lb M) (sv (d:=.tuple q29) M))<|aA M (bD (d:=.agg q12) M M (lb M) (sv (d:=.tuple q29) M) M)<|aA M (bD (d:=.int _ _) M M (lb M) (sv (d:=.tuple q29) M) M)<|aA M (bD (d:=.int _ _) M M (lb M) (sv (d:=.tuple q29) M) M)<|aA M (bD (d:=.int _ _) M M (lb M) (sv (d:=.tuple q29) M) M)<|aA M (bI (cs:=q13) (cs':=(w39 0 false 0 0 0 0 0 0 ([]:List bL) [])) 1 M M (lb M) M ti50 M M (.k4 (.k4 (.cons (.nils _) (.all _)))))<|aA M (stA q12 q12 ti50 M M M M M M M M (nle M) M)<|aA M (asI M M M M)<|aA M (asI M M M M)<|aA M (asI M M M M)<|aB ?_)
 refine aW ?_
 obtain ⟨x2,hx2,h⟩:=aS h
 refine aC (aA M (mvI M M M M)<|aA M (aP M M (lb M) (svI M) (sv (d:=.int _ 0) M) M hx2)<|aB ?_)
 refine aR (b:=_) M (fun hc3=>?_) (fun hc3=>?_)
 ·
  replace h:=bS h hc3
  refine aC (aA M (qP (d':=.agg (w39 0 false 0 0 0 0 0 0 ([]:List bL) [])) (cF (cs:=q13) M M (lb M) underlying50 ti50 pl50 M .nil M) (.agg (.k4 (.k4 (.cons (.nils _) (.all _))))))<|aA M (mvI M M M M)<|aA M (bQ (ds':=[.int _ _,.bool _,.int _ _,.int _ _,.int _ _,.int _ _,.int _ _,.int _ _,.slice false (([]:List bL).map bR.d),.str _]) M M ti50 (svR M) M (svA q12 M) M M M (nle M) M)<|aA M (aE M M (lb M) (sv (d:=.int _ 0) M))<|aA M (asI M M M M)<|aB ?_)
  refine aT ?_
  refine bA ?_
  obtain rfl:=sj_ h
  refine ⟨.inr M,(.cons (rva la50 M M (nle M) M) (.cons (sv M) (.cons (sv M) .nil)))⟩
 ·
  replace h:=bT h hc3
  refine aV ?_
  refine aM ?_
  refine aW ?_
  obtain ⟨x4,hx4,h⟩:=aZ h
  obtain ⟨x5,hx5,h⟩:=aZ h
  refine aC (aA M (aK M M (lb M) (sv (d:=.str _) M))<|aA M (mvI M M M M)<|aA M (mvI M M M M)<|aA M (jO M M (lb M) underlying9 (sv (d:=.str _) M) ⟨_,(svI M)⟩ ⟨_,(svI M)⟩ hx4)<|aA M (eN (r':=.bool x5.1) (H1':=[(1,.blk 50 (v2 x5.2))]) 2 [1] M M (lb M) cl109 (.cons (svR M) (.cons (sv (d:=.str _) M) .nil)) M M ⟨M,M,by decide,M,List.forall_mem_cons.2 ⟨⟨M,M,M,M⟩,List.forall_mem_nil _⟩⟩ (sP _ _ _ hx5) M M (List.forall_mem_cons.2 ⟨⟨M,M⟩,List.forall_mem_nil _⟩) M)<|aA M (dN M M (lb M) (svB M))<|aB ?_)
  refine aR (b:=_) M (fun hc6=>?_) (fun hc6=>?_)
  ·
   replace h:=bS h hc6
   refine aC (aA M (qP (d':=.agg (w39 0 false 0 0 0 0 0 0 ([]:List bL) [])) (cF (cs:=q13) M M (lb M) underlying50 ti50 pl50 M .nil M) (.agg (.k4 (.k4 (.cons (.nils _) (.all _))))))<|aA M (bQ (ds':=[.int _ _,.bool _,.int _ _,.int _ _,.int _ _,.int _ _,.int _ _,.int _ _,.slice false (([]:List bL).map bR.d),.str _]) M M ti50 (svR M) M (svA q12 M) M M M (nle M) M)<|aA M (aE M M (lb M) (sv (d:=.int _ 0) M))<|aA M (aE M M (lb M) (sv (d:=.int _ 4) M))<|aB ?_)
   refine aT ?_
   refine bA ?_
   obtain rfl:=sj_ h
   refine ⟨.inr M,(.cons (rva la50 M M (nle M) M) (.cons (sv M) (.cons (sv M) .nil)))⟩
  ·
   replace h:=bT h hc6
   refine aV ?_
   refine aM ?_
   refine aW ?_
   obtain ⟨x7,hx7,h⟩:=aZ h
   refine aC (aA M (lra q12 la50 M M M M M (nle M) M)<|aA M (aX (r:=.int _ _) M M (lb M) cl46 (.cons (svA q12 M) .nil) M (uE _ _ hx7))<|aA M (asI M M M M)<|aB ?_)
   obtain ⟨x8,hx8,h⟩:=aS h
   refine aC (aA M (mvI M M M M)<|aA M (aP M M (lb M) (svI M) (sv (d:=.int _ 0) M) M hx8)<|aB ?_)
   refine aR (b:=_) M (fun hc9=>?_) (fun hc9=>?_)
   ·
    replace h:=bS h hc9
    refine aC (aA M (qP (d':=.agg (w39 0 false 0 0 0 0 0 0 ([]:List bL) [])) (cF (cs:=q13) M M (lb M) underlying50 ti50 pl50 M .nil M) (.agg (.k4 (.k4 (.cons (.nils _) (.all _))))))<|aA M (mvI M M M M)<|aA M (bQ (ds':=[.int _ _,.bool _,.int _ _,.int _ _,.int _ _,.int _ _,.int _ _,.int _ _,.slice false (([]:List bL).map bR.d),.str _]) M M ti50 (svR M) M (svA q12 M) M M M (nle M) M)<|aA M (aE M M (lb M) (sv (d:=.int _ 0) M))<|aA M (asI M M M M)<|aB ?_)
    refine aT ?_
    refine bA ?_
    obtain rfl:=sj_ h
    refine ⟨.inr M,(.cons (rva la50 M M (nle M) M) (.cons (sv M) (.cons (sv M) .nil)))⟩
   ·
    replace h:=bT h hc9
    refine aV ?_
    refine aM ?_
    refine aC (aA M (lra q12 la50 M M M M M (nle M) M)<|aA M (mvI M M M M)<|aA M (stA q12 q12 ti50 M M M M M M M M (nle M) M)<|aA M (asI M M M M)<|aA M (aE M M (lb M) (sv (d:=.int _ 0) M))<|aB ?_)
    refine aT ?_
    obtain rfl:=sj_ h
    refine ⟨.inr M,(.cons (rva la50 M M (nle M) M) (.cons (sv M) (.cons (sv M) .nil)))⟩

theorem rP (a0:cE) (r:Int) (h:kH a0=some r):cJ prog 41 [.agg (v8 a0)] (.int .i64 r):=by
 refine bC (rs:=[.int .i64 r]) func41 M ntmps41 (nle M) M fun O hO=>?_
 show IWP _ _ _ _ ⟨[(0,.agg (v8 a0))],[]⟩ _
 unfold kH at h
 refine aC (aA M (bV (cs:=q24) 0 M M (lb M) M (svA q24 M) M M)<|aA M (aE M M (lb M) (sv (d:=.int _ 0) M))<|aB ?_)
 refine aW ?_
 obtain ⟨x1,hx1,h⟩:=aS h
 obtain ⟨x2,hx2,h⟩:=aS h
 obtain ⟨x3,hx3,h⟩:=aS h
 refine aC (aA M (faR 1 M M M underlying36 M ti34 (lb M) M M)<|aA M (aG (d:=.int _ _) M M (lb M) underlying34 ag34 ti34 (by decide) (svR M) M (nle M) M)<|aA M (aP M M (lb M) (svI M) (sv (d:=.int _ 0) M) M hx1)<|aA M (mvB M M M M)<|aF M M (.one M) M (by decide) (fun hb=>(faR 0 M M M underlying36 M ti9 (lb M) M M))<|aF M M (.one M) M (by decide) (fun hb=>(aG (d:=.str _) M M (lb M) underlying9 ag9 ti9 (by decide) (svcR M hb) M (nle M) M))<|aF M M (.one M) M (by decide) (fun hb=>(jC M M (lb M) (svc (d:=.str _) M hb) (sv (d:=.str []) M) M hx2))<|aA M (cC M M (lb M) (svB M) M M hx3)<|aB ?_)
 refine aR (b:=_) M (fun hc4=>?_) (fun hc4=>?_)
 ·
  replace h:=bS h hc4
  refine aC (aA M (aE M M (lb M) (sv (d:=.int _ 4) M))<|aB ?_)
  refine aT ?_
  refine bA ?_
  obtain rfl:=sj_ h
  refine ⟨.inr M,(.cons (sv M) .nil)⟩
 ·
  replace h:=bT h hc4
  refine aV ?_
  refine aM ?_
  refine aW ?_
  obtain ⟨x5,hx5,h⟩:=aZ h
  refine aC (aA M (faR 0 M M M underlying36 M ti9 (lb M) M M)<|aA M (aG (d:=.str _) M M (lb M) underlying9 ag9 ti9 (by decide) (svR M) M (nle M) M)<|aA M (aX (r:=.tuple q33) M M (lb M) cl74 (.cons (sv (d:=.str _) M) .nil) M (xS _ _ hx5))<|aA M (aK M M (lb M) (sv (d:=.tuple q33) M))<|aA M (bD (d:=.agg q12) M M (lb M) (sv (d:=.tuple q33) M) M)<|aA M (bD (d:=.int _ _) M M (lb M) (sv (d:=.tuple q33) M) M)<|aA M (bD (d:=.int _ _) M M (lb M) (sv (d:=.tuple q33) M) M)<|aA M (bI (cs:=q13) (cs':=(w39 0 false 0 0 0 0 0 0 ([]:List bL) [])) 1 M M (lb M) M ti50 M M (.k4 (.k4 (.cons (.nils _) (.all _)))))<|aA M (stA q12 q12 ti50 M M M M M M M M (nle M) M)<|aA M (asI M M M M)<|aA M (asI M M M M)<|aB ?_)
  obtain ⟨x6,hx6,h⟩:=aS h
  obtain ⟨x7,hx7,h⟩:=aS h
  obtain ⟨x8,hx8,h⟩:=aS h
  refine aC (aA M (mvI M M M M)<|aA M (aP M M (lb M) (svI M) (sv (d:=.int _ 3) M) M hx6)<|aA M (mvB M M M M)<|aF M M (.one M) M (by decide) (fun hb=>(faR 0 M M M underlying36 M ti9 (lb M) M M))<|aF M M (.one M) M (by decide) (fun hb=>(aG (d:=.str _) M M (lb M) underlying9 ag9 ti9 (by decide) (svcR M hb) M (nle M) M))<|aF M M (.one M) M (by decide) (fun hb=>(dF M M (lb M) underlying9 (svc (d:=.str _) M hb) M))<|aF M M (.one M) M (by decide) (fun hb=>(aP M M (lb M) (svcI M hb) (sv (d:=.int _ 80) M) M hx7))<|aA M (dT M M (lb M) (svB M) M M hx8)<|aB ?_)
  refine aR (b:=_) M (fun hc9=>?_) (fun hc9=>?_)
  ·
   replace h:=bS h hc9
   refine aC (aA M (aE M M (lb M) (sv (d:=.int _ 5) M))<|aB ?_)
   refine aT ?_
   refine bA ?_
   obtain rfl:=sj_ h
   refine ⟨.inr M,(.cons (sv M) .nil)⟩
  ·
   replace h:=bT h hc9
   refine aV ?_
   refine aM ?_
   refine aW ?_
   obtain ⟨x10,hx10,h⟩:=aS h
   refine aC (aA M (faR 2 M M M underlying36 M ti3 (lb M) M M)<|aA M (aG (d:=.int _ _) M M (lb M) underlying3 ag3 ti3 (by decide) (svR M) M (nle M) M)<|aA M (aP M M (lb M) (svI M) (sv (d:=.int _ 0) M) M hx10)<|aB ?_)
   refine aR (b:=_) M (fun hc11=>?_) (fun hc11=>?_)
   ·
    replace h:=bS h hc11
    refine aC (aA M (aE M M (lb M) (sv (d:=.int _ 8) M))<|aB ?_)
    refine aT ?_
    refine bA ?_
    obtain rfl:=sj_ h
    refine ⟨.inr M,(.cons (sv M) .nil)⟩
   ·
    replace h:=bT h hc11
    refine aV ?_
    refine aM ?_
    refine aC (aA M (aE M M (lb M) (sv (d:=.int _ 0) M))<|aB ?_)
    refine aT ?_
    obtain rfl:=sj_ h
    refine ⟨.inr M,(.cons (sv M) .nil)⟩

theorem eL (a0:bB) (r:Int) (h:dD a0=some r):cJ prog 16 [.agg (v0 a0)] (.int .i64 r):=by
 refine bC (rs:=[.int .i64 r]) func16 M ntmps16 (nle M) M fun O hO=>?_
 show IWP _ _ _ _ ⟨[(0,.agg (v0 a0))],[]⟩ _
 unfold dD at h
 refine aC (aA M (bV (cs:=q9) 0 M M (lb M) M (svA q9 M) M M)<|aA M (aE M M (lb M) (sv (d:=.int _ 0) M))<|aB ?_)
 refine aW ?_
 obtain ⟨x1,hx1,h⟩:=aZ h
 refine aC (aA M (faR 0 M M M underlying38 M ti28 (lb M) M M)<|aA M (lra q14 la28 M M M M M (nle M) M)<|aA M (aX (r:=.int _ _) M M (lb M) cl39 (.cons (svA q14 M) .nil) M (mC _ _ hx1))<|aA M (asI M M M M)<|aB ?_)
 obtain ⟨x2,hx2,h⟩:=aS h
 refine aC (aA M (mvI M M M M)<|aA M (aP M M (lb M) (svI M) (sv (d:=.int _ 0) M) M hx2)<|aB ?_)
 refine aR (b:=_) M (fun hc3=>?_) (fun hc3=>?_)
 ·
  replace h:=bS h hc3
  refine aC (aA M (mvI M M M M)<|aA M (asI M M M M)<|aB ?_)
  refine aT ?_
  refine bA ?_
  obtain rfl:=sj_ h
  refine ⟨.inr M,(.cons (sv M) .nil)⟩
 ·
  replace h:=bT h hc3
  refine aV ?_
  refine aM ?_
  refine aW ?_
  obtain ⟨x4,hx4,h⟩:=aZ h
  refine aC (aA M (faR 9 M M M underlying38 M ti33 (lb M) M M)<|aA M (lra q18 la33 M M M M M (nle M) M)<|aA M (aX (r:=.int _ _) M M (lb M) cl40 (.cons (svA q18 M) .nil) M (rN _ _ hx4))<|aA M (asI M M M M)<|aB ?_)
  obtain ⟨x5,hx5,h⟩:=aS h
  refine aC (aA M (mvI M M M M)<|aA M (aP M M (lb M) (svI M) (sv (d:=.int _ 0) M) M hx5)<|aB ?_)
  refine aR (b:=_) M (fun hc6=>?_) (fun hc6=>?_)
  ·
   replace h:=bS h hc6
   refine aC (aA M (mvI M M M M)<|aA M (asI M M M M)<|aB ?_)
   refine aT ?_
   refine bA ?_
   obtain rfl:=sj_ h
   refine ⟨.inr M,(.cons (sv M) .nil)⟩
  ·
   replace h:=bT h hc6
   refine aV ?_
   refine aM ?_
   refine aW ?_
   obtain ⟨x7,hx7,h⟩:=aZ h
   refine aC (aA M (faR 13 M M M underlying38 M ti36 (lb M) M M)<|aA M (lra q24 la36 M M M M M (nle M) M)<|aA M (aX (r:=.int _ _) M M (lb M) cl41 (.cons (svA q24 M) .nil) M (rP _ _ hx7))<|aA M (asI M M M M)<|aB ?_)
   obtain ⟨x8,hx8,h⟩:=aS h
   refine aC (aA M (mvI M M M M)<|aA M (aP M M (lb M) (svI M) (sv (d:=.int _ 0) M) M hx8)<|aB ?_)
   refine aR (b:=_) M (fun hc9=>?_) (fun hc9=>?_)
   ·
    replace h:=bS h hc9
    refine aC (aA M (mvI M M M M)<|aA M (asI M M M M)<|aB ?_)
    refine aT ?_
    refine bA ?_
    obtain rfl:=sj_ h
    refine ⟨.inr M,(.cons (sv M) .nil)⟩
   ·
    replace h:=bT h hc9
    refine aV ?_
    refine aM ?_
    obtain ⟨x10,hx10,h⟩:=aS h
    obtain ⟨x11,hx11,h⟩:=aS h
    refine aC (aA M (faR 0 M M M underlying38 M ti28 (lb M) M M)<|aA M (faR 5 M M M underlying28 M ti4 (lb M) M M)<|aA M (aG (d:=.bool _) M M (lb M) underlying4 ag4 ti4 (by decide) (svR M) M (nle M) M)<|aA M (mvB M M M M)<|aF M M (.one M) M (by decide) (fun hb=>(faR 9 M M M underlying38 M ti33 (lb M) M M))<|aF M M (.one M) M (by decide) (fun hb=>(aO M M (lb M) underlying33 M ti3 (by decide) (svcR M hb) (off':=12) M))<|aF M M (.one M) M (by decide) (fun hb=>(aG (d:=.int _ _) M M (lb M) underlying3 ag3 ti3 (by decide) (svcR M hb) M (nle M) M))<|aF M M (.one M) M (by decide) (fun hb=>(aP M M (lb M) (svcI M hb) (sv (d:=.int _ 0) M) M hx10))<|aA M (dT M M (lb M) (svB M) M M hx11)<|aA M (asB M M M M)<|aB ?_)
    refine aW ?_
    obtain ⟨x12,hx12,h⟩:=aS h
    obtain ⟨x13,hx13,h⟩:=aS h
    obtain ⟨x14,hx14,h⟩:=aS h
    obtain ⟨x15,hx15,h⟩:=aS h
    refine aC (aA M (mvB M M M M)<|aA M (mvB M M M M)<|aF M M (.one M) M (by decide) (fun hb=>(faR 9 M M M underlying38 M ti33 (lb M) M M))<|aF M M (.one M) M (by decide) (fun hb=>(aO M M (lb M) underlying33 M ti31 (by decide) (svcR M hb) (off':=9) M))<|aF M M (.one M) M (by decide) (fun hb=>(aO M M (lb M) underlying31 M ti9 (by decide) (svcR M hb) (off':=10) M))<|aF M M (.one M) M (by decide) (fun hb=>(aG (d:=.str _) M M (lb M) underlying9 ag9 ti9 (by decide) (svcR M hb) M (nle M) M))<|aF M M (.one M) M (by decide) (fun hb=>(jC M M (lb M) (svc (d:=.str _) M hb) (sv (d:=.str []) M) M hx12))<|aA M (dT M M (lb M) (svB M) M M hx13)<|aA M (mvB M M M M)<|aF M M (.one M) M (by decide) (fun hb=>(faR 13 M M M underlying38 M ti36 (lb M) M M))<|aF M M (.one M) M (by decide) (fun hb=>(aO M M (lb M) underlying36 M ti34 (by decide) (svcR M hb) (off':=14) M))<|aF M M (.one M) M (by decide) (fun hb=>(aG (d:=.int _ _) M M (lb M) underlying34 ag34 ti34 (by decide) (svcR M hb) M (nle M) M))<|aF M M (.one M) M (by decide) (fun hb=>(aP M M (lb M) (svcI M hb) (sv (d:=.int _ 0) M) M hx14))<|aA M (dT M M (lb M) (svB M) M M hx15)<|aB ?_)
    refine aR (b:=_) M (fun hc16=>?_) (fun hc16=>?_)
    ·
     replace h:=bS h hc16
     refine aC (aA M (aE M M (lb M) (sv (d:=.int _ 4) M))<|aB ?_)
     refine aT ?_
     refine bA ?_
     obtain rfl:=sj_ h
     refine ⟨.inr M,(.cons (sv M) .nil)⟩
    ·
     replace h:=bT h hc16
     refine aV ?_
     refine aM ?_
     refine aC (aA M (aE M M (lb M) (sv (d:=.int _ 0) M))<|aB ?_)
     refine aT ?_
     obtain rfl:=sj_ h
     refine ⟨.inr M,(.cons (sv M) .nil)⟩

theorem rM (a0:Int) (r:Bool) (h:lH a0=some r):cJ prog 21 [.int .u8 a0] (.bool r):=by
 refine bC (rs:=[.bool r]) func21 M ntmps21 (nle M) M fun O hO=>?_
 show IWP _ _ _ _ ⟨[(0,.int .u8 a0)],[]⟩ _
 unfold lH at h
 refine aC (aA M (aE M M (lb M) (sv (d:=.bool false) M))<|aB ?_)
 refine aW ?_
 refine aC (aA M (mvI M M M M)<|aB ?_)
 refine bG ?_
 refine aW ?_
 obtain ⟨x1,hx1,h⟩:=aS h
 refine aC (aA M (aP M M (lb M) (svI M) (sv (d:=.int _ 1) M) M hx1)<|aA M (asB M M M M)<|aB ?_)
 refine aR (b:=_) M (fun hc2=>?_) (fun hc2=>?_)
 ·
  replace h:=bS h hc2
  refine aV ?_
  refine aM ?_
  refine fV M hc2 ?_
  refine aC (aA M (aE M M (lb M) (sv (d:=.bool true) M))<|aB ?_)
  refine aT ?_
  refine bP ?_
  refine bA ?_
  obtain rfl:=sj_ h
  refine ⟨.inr M,(.cons (sv M) .nil)⟩
 ·
  replace h:=bT h hc2
  obtain ⟨x3,hx3,h⟩:=aS h
  refine aC (aA M (aP M M (lb M) (svI M) (sv (d:=.int _ 2) M) M hx3)<|aA M (asB M M M M)<|aB ?_)
  refine aR (b:=_) M (fun hc4=>?_) (fun hc4=>?_)
  ·
   replace h:=bS h hc4
   refine aV ?_
   refine aM ?_
   refine fV M hc4 ?_
   refine aC (aA M (aE M M (lb M) (sv (d:=.bool true) M))<|aB ?_)
   refine aT ?_
   refine bP ?_
   refine bA ?_
   obtain rfl:=sj_ h
   refine ⟨.inr M,(.cons (sv M) .nil)⟩
  ·
   replace h:=bT h hc4
   obtain ⟨x5,hx5,h⟩:=aS h
   refine aC (aA M (aP M M (lb M) (svI M) (sv (d:=.int _ 3) M) M hx5)<|aA M (asB M M M M)<|aB ?_)
   refine aR (b:=_) M (fun hc6=>?_) (fun hc6=>?_)
   ·
    replace h:=bS h hc6
    refine aV ?_
    refine aM ?_
    refine fV M hc6 ?_
    refine aC (aA M (aE M M (lb M) (sv (d:=.bool true) M))<|aB ?_)
    refine aT ?_
    refine bP ?_
    refine bA ?_
    obtain rfl:=sj_ h
    refine ⟨.inr M,(.cons (sv M) .nil)⟩
   ·
    replace h:=bT h hc6
    obtain ⟨x7,hx7,h⟩:=aS h
    refine aC (aA M (aP M M (lb M) (svI M) (sv (d:=.int _ 4) M) M hx7)<|aA M (asB M M M M)<|aB ?_)
    refine aR (b:=_) M (fun hc8=>?_) (fun hc8=>?_)
    ·
     replace h:=bS h hc8
     refine aV ?_
     refine aM ?_
     refine fV M hc8 ?_
     refine aC (aA M (aE M M (lb M) (sv (d:=.bool true) M))<|aB ?_)
     refine aT ?_
     refine bP ?_
     refine bA ?_
     obtain rfl:=sj_ h
     refine ⟨.inr M,(.cons (sv M) .nil)⟩
    ·
     replace h:=bT h hc8
     obtain ⟨x9,hx9,h⟩:=aS h
     refine aC (aA M (aP M M (lb M) (svI M) (sv (d:=.int _ 6) M) M hx9)<|aA M (asB M M M M)<|aB ?_)
     refine aR (b:=_) M (fun hc10=>?_) (fun hc10=>?_)
     ·
      replace h:=bS h hc10
      refine aV ?_
      refine aM ?_
      refine fV M hc10 ?_
      refine aC (aA M (aE M M (lb M) (sv (d:=.bool true) M))<|aB ?_)
      refine aT ?_
      refine bP ?_
      refine bA ?_
      obtain rfl:=sj_ h
      refine ⟨.inr M,(.cons (sv M) .nil)⟩
     ·
      replace h:=bT h hc10
      obtain ⟨x11,hx11,h⟩:=aS h
      refine aC (aA M (aP M M (lb M) (svI M) (sv (d:=.int _ 7) M) M hx11)<|aA M (asB M M M M)<|aB ?_)
      refine aR (b:=_) M (fun hc12=>?_) (fun hc12=>?_)
      ·
       replace h:=bS h hc12
       refine aV ?_
       refine aM ?_
       refine fV M hc12 ?_
       refine aC (aA M (aE M M (lb M) (sv (d:=.bool true) M))<|aB ?_)
       refine aT ?_
       refine bP ?_
       refine bA ?_
       obtain rfl:=sj_ h
       refine ⟨.inr M,(.cons (sv M) .nil)⟩
      ·
       replace h:=bT h hc12
       obtain ⟨x13,hx13,h⟩:=aS h
       refine bE (aA M (aP M M (lb M) (svI M) (sv (d:=.int _ 8) M) M hx13)<|aA M (asB M M M M)<|cB ?_)
       refine aM ?_
       refine aR (b:=_) M (fun hc14=>?_) (fun hc14=>?_)
       ·
        replace h:=bS h hc14
        refine aC (aA M (aE M M (lb M) (sv (d:=.bool true) M))<|aB ?_)
        refine aT ?_
        refine bP ?_
        refine bA ?_
        obtain rfl:=sj_ h
        refine ⟨.inr M,(.cons (sv M) .nil)⟩
       ·
        replace h:=bT h hc14
        refine aV ?_
        refine bZ ?_
        refine aM ?_
        refine aC (aA M (aE M M (lb M) (sv (d:=.bool false) M))<|aB ?_)
        refine aT ?_
        obtain rfl:=sj_ h
        refine ⟨.inr M,(.cons (sv M) .nil)⟩

theorem vX (a0:Int) (r:((List UInt8) × Int)) (h:oE a0=some r):cJ prog 48 [.int .i64 a0] (retD [.slice false (r.1.map iO.d),.int .i64 r.2]):=by
 refine gW (rs:=[.slice false (r.1.map iO.d),.int .i64 r.2]) func48 M ntmps48 (nle M) M fun O hO=>?_
 show IWP _ _ _ _ ⟨[(0,.int .i64 a0)],[]⟩ _
 unfold oE at h
 refine aC (aA M (aE M M (lb M) (sv (d:=.nils) M))<|aA M (aE M M (lb M) (sv (d:=.int _ 0) M))<|aB ?_)
 obtain ⟨x1,hx1,h⟩:=aZ h
 refine aC (aA M (mvI M M M M)<|aA M (aX (r:=.int _ _) M M (lb M) cl84 (.cons (svI M) .nil) M (tX _ _ hx1))<|aA M (asI M M M M)<|aB ?_)
 refine aW ?_
 obtain ⟨x2,hx2,h⟩:=aS h
 refine aC (aA M (mvI M M M M)<|aA M (aP M M (lb M) (svI M) (sv (d:=.int _ 0) M) M hx2)<|aB ?_)
 refine aR (b:=_) M (fun hc3=>?_) (fun hc3=>?_)
 ·
  replace h:=bS h hc3
  refine aC (aA M (aE M M (lb M) (sv (d:=.nils) M))<|aA M (aE M M (lb M) (sv (d:=.int _ 8) M))<|aB ?_)
  refine aT ?_
  refine bA ?_
  obtain rfl:=sj_ h
  refine ⟨.inr M,_,(.cons (sv M) (.cons (sv M) .nil)),(.cons (.nils _) (.all _))⟩
 ·
  replace h:=bT h hc3
  refine aV ?_
  refine aM ?_
  obtain ⟨x4,hx4,h⟩:=aZ h
  obtain ⟨x5,hx5,h⟩:=aZ h
  refine aC (aA M (mvI M M M M)<|aA M (uN M M (lb M) (sv (d:=.int _ 1) M) (svI M) hx4)<|aA M (aBF iO.toEnc0 (0:UInt8) 0 M M (lb M) underlying106 ti5 M M (svI M) hx5 (.all _))<|aA M (aE M M (lb M) (sv (d:=.osl _ _ _) M))<|aB ?_)
  refine aW ?_
  obtain ⟨x6,hx6,h⟩:=aS h
  refine aC (aA M (aK M M (lb M) (sv (d:=.osl _ _ _) M))<|aA M (nH M M (lb M) underlying106 (sv (d:=.osl _ _ _) M))<|aA M (bN M M (lb M) (svI M) (sv (d:=.int _ 1) M) M hx6)<|aA M (asI M M M M)<|aB ?_)
  refine bG ?_
  refine dA (α:=Nat × Int × (List UInt8) × Int) (fun z=>⟨[(0,.int .i64 z.2.1),(4,.int .i64 x1),(5,.osl 0 iO.sz z.2.2.1.length),(6,.int .i64 z.2.2.2)],[(0,.blk 5 (D.flat (z.2.2.1.map iO.d)))]⟩) (fun z=>jZ x1 z.1 z.2.1 z.2.2.1 z.2.2.2=some r) (fun z=>z.1) (fuel,a0,x5,x6) (fun i=>i) ⟨(.sames M M),(.cons (EntW.lst M) .nil),cA [0] M (by decide),fun _ _=>M⟩ ?_ ?_
  ·exact h
  ·
   rintro ⟨n0,v16,v17,v18⟩ h
   cases n0 with
   | zero=>exact absurd h (by unfold jZ; exact nofun)
   | succ n0 =>
    unfold jZ at h
    refine aW ?_
    obtain ⟨x28,hx28,h⟩:=aS h
    refine aC (aA M (mvI M M M M)<|aA M (aP M M (lb M) (svI M) (sv (d:=.int _ 0) M) M hx28)<|aB ?_)
    refine aR (b:=_) M (fun hc29=>?_) (fun hc29=>?_)
    ·
     replace h:=bS h hc29
     refine aV ?_
     refine aM ?_
     refine aW ?_
     refine bG ?_
     obtain ⟨x30,hx30,h⟩:=aS h
     obtain ⟨x31,hx31,h⟩:=aZ h
     obtain ⟨x32,hx32,h⟩:=aZ h
     obtain ⟨x33,hx33,h⟩:=aZ h
     obtain ⟨x34,hx34,h⟩:=aS h
     refine aC (aA M (aK M M (lb M) (sv (d:=.osl _ _ _) M))<|aA M (mvI M M M M)<|aA M (mvI M M M M)<|aA M (fB M M (lb M) ⟨_,underlying3⟩ underlying5 (svI M) hx30)<|aA M (jN iO.toEnc0 M M (lb M) underlying106 ti5 (sv (d:=.osl _ _ _) M) M (svI M) hx31)<|aA M (mF iO.toEnc0 (a':=x33) M M ti5 (svR M) M (aDH (svI M) (aDF hx33)) M M M hx32 (nle M) M hx34)<|aB ?_)
     obtain ⟨x35,hx35,h⟩:=aZ h
     refine bE (aA M (mvI M M M M)<|aA M (qQ M M (lb M) (svI M) (sv (d:=.int _ 8) M) hx35)<|aA M (asI M M M M)<|cB ?_)
     refine bZ ?_
     refine aM ?_
     obtain ⟨x36,hx36,h⟩:=aS h
     refine bE (aA M (mvI M M M M)<|aA M (bN M M (lb M) (svI M) (sv (d:=.int _ 1) M) M hx36)<|aA M (asI M M M M)<|cB ?_)
     refine aM ⟨(n0,x35,x34,x36),(fun i=>i),⟨(.s M M (.s M M (.cons (.same (congrArg (D.osl _ _) (rR hx34 M).symm) M) (.sames M M)))),(.cons (EntW.lst M) .nil),cA [0] M (by decide),fun _ _=>M⟩,?_,?_⟩
     exact h
     exact Nat.lt_succ_self _
    ·
     replace h:=bT h hc29
     refine cQ ?_
     refine bJ ?_
     refine bJ ?_
     refine cR ?_
     refine aM ?_
     obtain ⟨x37,hx37,h⟩:=aZ h
     obtain ⟨x38,hx38,h⟩:=aZ h
     obtain ⟨x39,hx39,h⟩:=aZ h
     obtain ⟨x40,hx40,h⟩:=aS h
     obtain ⟨x41,hx41,h⟩:=aS h
     obtain ⟨x42,hx42,h⟩:=aZ h
     obtain ⟨x43,hx43,h⟩:=aZ h
     obtain ⟨x44,hx44,h⟩:=aZ h
     obtain ⟨x45,hx45,h⟩:=aS h
     refine aC (aA M (aK M M (lb M) (sv (d:=.osl _ _ _) M))<|aA M (jN iO.toEnc0 M M (lb M) underlying106 ti5 (sv (d:=.osl _ _ _) M) M (sv (d:=.int _ 0) M) hx37)<|aA M (lJ iO.toEnc0 (d:=.int _ _) M M (lb M) underlying5 ag5 ti5 (by decide) (svR M) M hx38 (nle M) M)<|aA M (mvI M M M M)<|aA M (uN M M (lb M) (svI M) (sv (d:=.int _ 6) M) hx39)<|aA M (fB M M (lb M) ⟨_,underlying3⟩ underlying5 (svI M) hx40)<|aA M (bN M M (lb M) (svI M) (svI M) M hx41)<|aA M (jN iO.toEnc0 M M (lb M) underlying106 ti5 (sv (d:=.osl _ _ _) M) M (sv (d:=.int _ 0) M) hx42)<|aA M (mF iO.toEnc0 (a':=x44) M M ti5 (svR M) M (aDH (svI M) (aDF hx44)) M M M hx43 (nle M) M hx45)<|aB ?_)
     refine aC (aA M (aK M M (lb M) (sv (d:=.osl _ _ _) M))<|aA M (aE M M (lb M) (sv (d:=.osl _ _ _) M))<|aA M (aE M M (lb M) (sv (d:=.int _ 0) M))<|aB ?_)
     refine aT ?_
     obtain rfl:=sj_ h
     refine ⟨.inr M,_,(.cons (sv M) (.cons (sv M) .nil)),(.cons (FDT iO M (rR hx45 M)) (.all _))⟩

theorem aAA (a0:(List Int)) (r:((List UInt8) × Int)) (h:qG a0=some r):cJ prog 117 [.slice false (a0.map (eInt .i64).d)] (retD [.slice false (r.1.map iO.d),.int .i64 r.2]):=by
 refine bC (rs:=[.slice false (r.1.map iO.d),.int .i64 r.2]) func117 M ntmps117 (nle M) M fun O hO=>?_
 show IWP _ _ _ _ ⟨[(0,.slice false (a0.map (eInt .i64).d))],[]⟩ _
 unfold qG at h
 refine aC (aA M (aE M M (lb M) (sv (d:=.nils) M))<|aA M (aE M M (lb M) (sv (d:=.int _ 0) M))<|aB ?_)
 refine aC (aA M (aE M M (lb M) (sv (d:=.nils) M))<|aB ?_)
 refine aW ?_
 refine aC (aA M (mvL M M M M)<|aA M (cN (eInt .i64) (l:=a0) M M (lb M) underlying147 (svL M))<|aA M (aK M M (lb M) (sv (d:=.int _ 0) M))<|aB ?_)
 refine bG ?_
 refine dA (α:=Nat × (List UInt8) × Int) (fun z=>⟨[(4,.gsl 21 iO.sz (z.2.1.map iO.d)),(9,.slice false (a0.map (eInt .i64).d)),(10,.int .i64 (a0.length:Int)),(11,.int .i64 z.2.2)],[(21,.tail 5 iO.sz z.2.1.length)]⟩) (fun z=>jH a0 z.1 z.2.1 z.2.2=some r) (fun z=>z.1) (fuel,([]:(List UInt8)),0) (fun i=>if i=21 then 71 else i) ⟨(.cons (.nils M) (.sames M M)),(.cons (.nils M) .nil),cA [71] M (by decide),(fun i hi=>by first | rfl | (show (if _ then _ else _)=_; (repeat' split) <;> omega))⟩ ?_ ?_
 ·exact h
 ·
  rintro ⟨n0,v9,v10⟩ h
  cases n0 with
  | zero=>exact absurd h (by unfold jH; exact nofun)
  | succ n0 =>
   unfold jH at h
   obtain ⟨x19,hx19,h⟩:=aS h
   refine aC (aA M (aP M M (lb M) (svI M) (svI M) M hx19)<|aB ?_)
   refine aW ?_
   refine aR (b:=_) M (fun hc20=>?_) (fun hc20=>?_)
   ·
    replace h:=bS h hc20
    refine aV ?_
    refine aM ?_
    refine aW ?_
    refine bG ?_
    obtain ⟨x21,hx21,h⟩:=aZ h
    refine aC (aA M (dB (eInt .i64) (cs:=[.int _ _]) M M (lb M) underlying147 ti3 (svL M) (svI M) hx21 M M)<|aA M (eB M M (lb M) underlying3 ag3 ti3 (by decide) (sv (d:=.fptr [.int _ _]) M) (nle M))<|aA M (asI M M M M)<|aB ?_)
    obtain ⟨x22,hx22,h⟩:=aZ h
    refine aC (aA M (mvI M M M M)<|aA M (aX (r:=.tuple q26) M M (lb M) cl48 (.cons (svI M) .nil) M (vX _ _ hx22))<|aA M (aK M M (lb M) (sv (d:=.tuple q26) M))<|aA M (bD (d:=.slice _ _) M M (lb M) (sv (d:=.tuple q26) M) M)<|aA M (bD (d:=.int _ _) M M (lb M) (sv (d:=.tuple q26) M) M)<|aA M (aE M M (lb M) (svL M))<|aA M (asI M M M M)<|aB ?_)
    refine aW ?_
    obtain ⟨x23,hx23,h⟩:=aS h
    refine aC (aA M (mvI M M M M)<|aA M (aP M M (lb M) (svI M) (sv (d:=.int _ 0) M) M hx23)<|aB ?_)
    refine aR (b:=_) M (fun hc24=>?_) (fun hc24=>?_)
    ·
     replace h:=bS h hc24
     refine aC (aA M (mvI M M M M)<|aA M (aE M M (lb M) (sv (d:=.nils) M))<|aA M (asI M M M M)<|aB ?_)
     refine aT ?_
     refine bA ?_
     refine bP ?_
     refine bA ?_
     refine bA ?_
     refine bP ?_
     refine bA ?_
     obtain rfl:=sj_ h
     refine ⟨.inr M,(.cons (tU M M) (.cons (sv M) .nil))⟩
    ·
     replace h:=bT h hc24
     refine aV ?_
     refine aM ?_
     obtain ⟨x25,hx25,h⟩:=aZ h
     refine bE (aA M (aK M M (lb M) (sv (d:=.gsl _ _ _) M))<|aA M (mvL M M M M)<|aA M (mN iO 22 M M (lb M) underlying106 ti5 M M M M (svL M) hx25)<|aA M (aE M M (lb M) (sv (d:=.gsl _ _ _) M))<|cB ?_)
     refine bZ ?_
     refine aM ?_
     obtain ⟨x26,hx26,h⟩:=aS h
     refine bE (aA M (bN M M (lb M) (svI M) (sv (d:=.int _ 1) M) M hx26)<|aA M (mvI M M M M)<|cB ?_)
     refine aM ⟨(n0,x25,x26),(fun i=>if i=21 then 22 else i),⟨(.sames M M),(.cons (.tail M) .nil),cA [22] M (by decide),(fun i hi=>by first | rfl | (show (if _ then _ else _)=_; (repeat' split) <;> omega))⟩,?_,?_⟩
     exact h
     exact Nat.lt_succ_self _
   ·
    replace h:=bT h hc20
    refine cQ ?_
    refine bJ ?_
    refine bJ ?_
    refine cR ?_
    refine aM ?_
    refine aC (aA M (aK M M (lb M) (sv (d:=.gsl _ _ _) M))<|aA M (aE M M (lb M) (sv (d:=.gsl _ _ _) M))<|aA M (aE M M (lb M) (sv (d:=.int _ 0) M))<|aB ?_)
    refine aT ?_
    obtain rfl:=sj_ h
    refine ⟨.inr M,(.cons (yS M M) (.cons (sv M) .nil))⟩

theorem aAB (a0:(List Int)) (r:((List UInt8) × Int)) (h:mV a0=some r):cJ prog 83 [.slice false (a0.map (eInt .i64).d)] (retD [.slice false (r.1.map iO.d),.int .i64 r.2]):=by
 refine bC (rs:=[.slice false (r.1.map iO.d),.int .i64 r.2]) func83 M ntmps83 (nle M) M fun O hO=>?_
 show IWP _ _ _ _ ⟨[(0,.slice false (a0.map (eInt .i64).d))],[]⟩ _
 unfold mV at h
 refine aC (aA M (aE M M (lb M) (sv (d:=.nils) M))<|aA M (aE M M (lb M) (sv (d:=.int _ 0) M))<|aB ?_)
 obtain ⟨x1,hx1,h⟩:=aZ h
 refine aC (aA M (mvL M M M M)<|aA M (aX (r:=.tuple q26) M M (lb M) cl117 (.cons (svL M) .nil) M (aAA _ _ hx1))<|aA M (bD (d:=.slice _ _) M M (lb M) (sv (d:=.tuple q26) M) M)<|aA M (bD (d:=.int _ _) M M (lb M) (sv (d:=.tuple q26) M) M)<|aA M (aE M M (lb M) (svL M))<|aA M (asI M M M M)<|aB ?_)
 refine aT ?_
 obtain rfl:=sj_ h
 refine ⟨.inr M,(.cons (sv M) (.cons (sv M) .nil))⟩

theorem rO (a0:aH) (r:(List UInt8)) (h:iG a0=some r):cJ prog 47 [.agg (v2 a0)] (.str r):=by
 refine bC (rs:=[.str r]) func47 M ntmps47 (nle M) M fun O hO=>?_
 show IWP _ _ _ _ ⟨[(0,.agg (v2 a0))],[]⟩ _
 unfold iG at h
 refine aC (aA M (bV (cs:=q12) 0 M M (lb M) M (svA q12 M) M M)<|aA M (aE M M (lb M) (sv (d:=.str []) M))<|aB ?_)
 refine aC (aA M (aE M M (lb M) (sv (d:=.nils) M))<|aB ?_)
 refine aW ?_
 obtain ⟨x1,hx1,h⟩:=aZ h
 refine aC (aA M (eN (r':=.osl 1 (eRef 0).sz x1.length) (H1':=[(0,.blk 50 (v2 a0)),(1,.blk 150 (D.flat (x1.map (eRef 0).d)))]) 1 [0] M M (lb M) cl82 (.cons (svR M) .nil) M M ⟨M,M,by decide,M,List.forall_mem_cons.2 ⟨⟨M,M,M,M⟩,List.forall_mem_nil _⟩⟩ (kE _ _ hx1) M M (List.forall_mem_cons.2 ⟨⟨M,M⟩,List.forall_mem_cons.2 ⟨⟨M,(aD8 M)⟩,List.forall_mem_nil _⟩⟩) (by simp only [List.map_cons,List.map_nil,Ent.ren,fR,gL]; rfl))<|aA M (nH M M (lb M) underlying148 (sv (d:=.osl _ _ _) M))<|aA M (aK M M (lb M) (sv (d:=.int _ 0) M))<|aB ?_)
 refine bG ?_
 refine dA (α:=Nat × (List Int) × Int) (fun z=>⟨[(1,.ref 0 0),(3,.gsl 23 (eInt .i64).sz (z.2.1.map (eInt .i64).d)),(10,.osl 1 (eRef 0).sz x1.length),(11,.int .i64 (x1.length:Int)),(12,.int .i64 z.2.2)],[(0,.blk 50 (v2 a0)),(23,.tail 3 (eInt .i64).sz z.2.1.length),(1,.blk 150 (D.flat (x1.map (eRef 0).d)))]⟩) (fun z=>eQ a0 x1 z.1 z.2.1 z.2.2=some r) (fun z=>z.1) (fuel,([]:(List Int)),0) (fun i=>if i=23 then 75 else i) ⟨(.s M M (.cons (.nils M) (.sames M M))),(.cons (.blk M M M) (.cons (.nils M) (.cons (EntW.lstR M M) .nil))),cA [0,75,1] M (by decide),(fun i hi=>by first | rfl | (show (if _ then _ else _)=_; (repeat' split) <;> omega))⟩ ?_ ?_
 ·exact h
 ·
  rintro ⟨n0,v9,v10⟩ h
  cases n0 with
  | zero=>exact absurd h (by unfold eQ; exact nofun)
  | succ n0 =>
   unfold eQ at h
   obtain ⟨x18,hx18,h⟩:=aS h
   refine aC (aA M (aP M M (lb M) (svI M) (svI M) M hx18)<|aB ?_)
   refine aW ?_
   refine aR (b:=_) M (fun hc19=>?_) (fun hc19=>?_)
   ·
    replace h:=bS h hc19
    refine aV ?_
    refine aM ?_
    refine aW ?_
    refine bG ?_
    obtain ⟨x20,hx20,h⟩:=aZ h
    obtain ⟨x21,hx21,h⟩:=aZ h
    refine aC (aA M (jN (eRef 0) M M (lb M) underlying148 nY (sv (d:=.osl _ _ _) M) M (svI M) hx20)<|aA M (lJ (eRef 0) (d:=.ref _ _) M M (lb M) underlying150 ag150 nY (by decide) (svR M) M hx21 (nle M) M)<|aA M (aE M M (lb M) (svR M))<|aB ?_)
    obtain ⟨x22,hx22,h⟩:=aZ h
    obtain ⟨x23,hx23,h⟩:=aZ h
    refine bE (aA M (aK M M (lb M) (sv (d:=.gsl _ _ _) M))<|aA M (mvR M M M M)<|aA M (bO M M (lb M) (svR M))<|aA M (aBG M M (lb M) underlying3 ag3 ti3 (svR M) M hx22)<|aA M (oP (eInt .i64) ([x22]:(List Int)) 24 M M (lb M) underlying147 ti3 M (.cons (svI M) .nil) M M (by decide))<|aA M (mN (eInt .i64) 25 M M (lb M) underlying147 ti3 M M M M (svg M) hx23)<|aA M (aE M M (lb M) (sv (d:=.gsl _ _ _) M))<|cB ?_)
    refine bZ ?_
    refine aM ?_
    obtain ⟨x24,hx24,h⟩:=aS h
    refine bE (aA M (bN M M (lb M) (svI M) (sv (d:=.int _ 1) M) M hx24)<|aA M (mvI M M M M)<|cB ?_)
    refine aM ⟨(n0,x23,x24),(fun i=>if i=23 then 25 else i),⟨(.sames M M),(.cons (.blk M M M) (.cons (.tail M) (.cons (EntW.lstR M M) .nil))),cA [0,25,1] M (by decide),(fun i hi=>by first | rfl | (show (if _ then _ else _)=_; (repeat' split) <;> omega))⟩,?_,?_⟩
    exact h
    exact Nat.lt_succ_self _
   ·
    replace h:=bT h hc19
    refine cQ ?_
    refine bJ ?_
    refine bJ ?_
    refine cR ?_
    refine aM ?_
    refine aW ?_
    refine aC (aA M (faR 8 M M M underlying50 M ti42 (lb M) M M)<|aA M (lrL la42 M M M M M (nle M) M)<|aA M (cN bR (l:=a0.Pairs) M M (lb M) underlying42 (svL M))<|aA M (aK M M (lb M) (sv (d:=.int _ 0) M))<|aB ?_)
    refine bG ?_
    refine dA (α:=Nat × (List Int) × Int) (fun z=>⟨[(1,.ref 0 0),(3,.gsl 23 (eInt .i64).sz (z.2.1.map (eInt .i64).d)),(24,.slice false (a0.Pairs.map bR.d)),(25,.int .i64 (a0.Pairs.length:Int)),(26,.int .i64 z.2.2)],[(0,.blk 50 (v2 a0)),(23,.tail 3 (eInt .i64).sz z.2.1.length)]⟩) (fun z=>eP a0 z.1 z.2.1 z.2.2=some r) (fun z=>z.1) (fuel,v9,0) (fun i=>i) ⟨(.sames M M),(.cons (.blk M M M) (.cons (.tail M) .nil)),cA [0,23] M (by decide),fun _ _=>M⟩ ?_ ?_
    ·exact h
    ·
     rintro ⟨n1,v30,v31⟩ h
     cases n1 with
     | zero=>exact absurd h (by unfold eP; exact nofun)
     | succ n1 =>
      unfold eP at h
      obtain ⟨x37,hx37,h⟩:=aS h
      refine aC (aA M (aP M M (lb M) (svI M) (svI M) M hx37)<|aB ?_)
      refine aW ?_
      refine aR (b:=_) M (fun hc38=>?_) (fun hc38=>?_)
      ·
       replace h:=bS h hc38
       refine aV ?_
       refine aM ?_
       refine aW ?_
       refine bG ?_
       obtain ⟨x39,hx39,h⟩:=aZ h
       refine aC (aA M (dB bR (cs:=q27) M M (lb M) underlying42 rC (svL M) (svI M) hx39 M M)<|aA M (cX (cs:=q27) M M (lb M) underlying136 aC7 rC (by decide) (sv (d:=.fptr q27) M) (nle M) M)<|aA M (bI (cs:=q27) (cs':=[.int .i64 0,.int .i64 0]) 24 M M (lb M) M rC M M (.all _))<|aA M (stA q27 q27 rC M M M M M M M M (nle M) M)<|aB ?_)
       obtain ⟨x40,hx40,h⟩:=aZ h
       refine bE (aA M (aK M M (lb M) (sv (d:=.gsl _ _ _) M))<|aA M (faR 0 M M M underlying136 M ti3 (lb M) M M)<|aA M (aG (d:=.int _ _) M M (lb M) underlying3 ag3 ti3 (by decide) (svR M) M (nle M) M)<|aA M (faR 1 M M M underlying136 M ti3 (lb M) M M)<|aA M (aG (d:=.int _ _) M M (lb M) underlying3 ag3 ti3 (by decide) (svR M) M (nle M) M)<|aA M (oP (eInt .i64) ([x39.ID,x39.Value]:(List Int)) 25 M M (lb M) underlying147 ti3 M (.cons (svI M) (.cons (svI M) .nil)) M M (by decide))<|aA M (mN (eInt .i64) 26 M M (lb M) underlying147 ti3 M M M M (svg M) hx40)<|aA M (aE M M (lb M) (sv (d:=.gsl _ _ _) M))<|cB ?_)
       refine bZ ?_
       refine aM ?_
       obtain ⟨x41,hx41,h⟩:=aS h
       refine bE (aA M (bN M M (lb M) (svI M) (sv (d:=.int _ 1) M) M hx41)<|aA M (mvI M M M M)<|cB ?_)
       refine aM ⟨(n1,x40,x41),(fun i=>if i=23 then 26 else i),⟨(.sames M M),(.cons (.blk M M M) (.cons (.tail M) .nil)),cA [0,26] M (by decide),(fun i hi=>by first | rfl | (show (if _ then _ else _)=_; (repeat' split) <;> omega))⟩,?_,?_⟩
       exact h
       exact Nat.lt_succ_self _
      ·
       replace h:=bT h hc38
       refine cQ ?_
       refine bJ ?_
       refine bJ ?_
       refine cR ?_
       refine aM ?_
       obtain ⟨x42,hx42,h⟩:=aZ h
       refine aC (aA M (aK M M (lb M) (sv (d:=.gsl _ _ _) M))<|aA M (aX (r:=.tuple q26) M M (lb M) cl83 (.cons (svg M) .nil) M (aAB _ _ hx42))<|aA M (aK M M (lb M) (sv (d:=.tuple q26) M))<|aA M (bD (d:=.slice _ _) M M (lb M) (sv (d:=.tuple q26) M) M)<|aA M (bD (d:=.int _ _) M M (lb M) (sv (d:=.tuple q26) M) M)<|aA M (aE M M (lb M) (svL M))<|aA M (asI M M M M)<|aB ?_)
       obtain ⟨x43,hx43,h⟩:=aZ h
       refine aC (aA M (mvL M M M M)<|aA M (qT (l:=x42.1) M M (lb M) underlying106 underlying5 underlying9 (svL M))<|aA M (faR 9 M M M underlying50 M ti9 (lb M) M M)<|aA M (aG (d:=.str _) M M (lb M) underlying9 ag9 ti9 (by decide) (svR M) M (nle M) M)<|aA M (oC M M (lb M) (sv (d:=.str _) M) (sv (d:=.str _) M) hx43)<|aA M (aE M M (lb M) (sv (d:=.str _) M))<|aB ?_)
       refine aT ?_
       obtain rfl:=sj_ h
       refine ⟨.inr M,(.cons (sv M) .nil)⟩

theorem oW (a0:(List UInt8)) (r:(List UInt8)) (h:fK a0=some r):FnH prog 85 [.slice false (a0.map iO.d)] [] (.osl 0 iO.sz r.length) [(0,.blk 5 (D.flat (r.map iO.d)))]:=by
 refine fN (rs:=[.osl 0 iO.sz r.length]) func85 M ntmps85 (nle M) fun O hO=>?_
 show IWP _ _ _ _ ⟨[(0,.slice false (a0.map iO.d))],[]⟩ _
 unfold fK at h
 refine aC (aA M (aE M M (lb M) (sv (d:=.nils) M))<|aB ?_)
 refine aW ?_
 refine aC (aA M (mvL M M M M)<|uV M M M (by decide) underlying106 (svL M) M <| fun bn1 hbn1 =>
  aB ?_)
 refine aR (b:=_) M (fun hc2=>?_) (fun hc2=>?_)
 ·
  replace h:=aAc h (mapE (hbn1 hc2))
  refine aC (aA M (aE M M (lb M) (sv (d:=.nils) M))<|aB ?_)
  refine aT ?_
  refine bA ?_
  obtain rfl:=sj_ h
  refine ⟨.inr M,(fun i=>if i=0 then 50 else i),⟨.nil,(.cons (.nilb M) .nil),cA [50] M (by decide),(fun i hi=>by first | rfl | (show (if _ then _ else _)=_; (repeat' split) <;> omega))⟩,(.cons (svno M) .nil),M⟩
 ·
  replace h:=aAd h
  refine aV ?_
  refine aM ?_
  obtain ⟨x3,hx3,h⟩:=aZ h
  refine aC (aA M (kG iO.toEnc0 ([]:(List UInt8)) 0 M M (lb M) underlying106 ti5 M .nil M M (by decide))<|aA M (mvL M M M M)<|aA M (lQ iO.toEnc0 1 M M (lb M) underlying106 ti5 M M M M M (aAp iO (ys:=a0) (svL M)) hx3)<|aA M (aE M M (lb M) (sv (d:=.osl _ _ _) M))<|aB ?_)
  refine aT ?_
  obtain rfl:=sj_ h
  refine ⟨.inr M,(fun i=>if i=0 then 1 else i),⟨.nil,(.cons (EntW.lst M) .nil),cA [1] M (by decide),(fun i hi=>by first | rfl | (show (if _ then _ else _)=_; (repeat' split) <;> omega))⟩,(.cons (sv M) .nil),M⟩

theorem aAD (a0:Int) (a1:Int) (r:Bool) (h:oT a0 a1=some r):cJ prog 86 [.int .i64 a0,.int .i64 a1] (.bool r):=by
 refine bC (rs:=[.bool r]) func86 M ntmps86 (nle M) M fun O hO=>?_
 show IWP _ _ _ _ ⟨[(0,.int .i64 a0),(1,.int .i64 a1)],[]⟩ _
 unfold oT at h
 refine aC (aA M (aE M M (lb M) (sv (d:=.bool false) M))<|aB ?_)
 obtain ⟨x1,hx1,h⟩:=aS h
 obtain ⟨x2,hx2,h⟩:=aS h
 obtain ⟨x3,hx3,h⟩:=aS h
 obtain ⟨x4,hx4,h⟩:=aS h
 obtain ⟨x5,hx5,h⟩:=aS h
 obtain ⟨x6,hx6,h⟩:=aS h
 obtain ⟨x7,hx7,h⟩:=aZ h
 obtain ⟨x8,hx8,h⟩:=aS h
 obtain ⟨x9,hx9,h⟩:=aS h
 refine aC (aA M (mvI M M M M)<|aA M (aP M M (lb M) (svI M) (sv (d:=.int _ 0) M) M hx1)<|aA M (mvB M M M M)<|aF M M (.one M) M (by decide) (fun hb=>(mvI M M M M))<|aF M M (.one M) M (by decide) (fun hb=>(aP M M (lb M) (svcI M hb) (sv (d:=.int _ 1) M) M hx2))<|aA M (cC M M (lb M) (svB M) M M hx3)<|aA M (mvB M M M M)<|aF M M (.one M) M (by decide) (fun hb=>(mvI M M M M))<|aF M M (.one M) M (by decide) (fun hb=>(aP M M (lb M) (svcI M hb) (sv (d:=.int _ 7) M) M hx4))<|aA M (cC M M (lb M) (svB M) M M hx5)<|aA M (mvB M M M M)<|aF M M (.one M) M (by decide) (fun hb=>(mvI M M M M))<|aF M M (.one M) M (by decide) (fun hb=>(mvI M M M M))<|aF M M (.one M) M (by decide) (fun hb=>(bN M M (lb M) (sv (d:=.int _ 8) M) (svcI M hb) M hx6))<|aF M M (.one M) M (by decide) (fun hb=>(qQ M M (lb M) (svcI M hb) (svcI M hb) (gd_t hx7 hb)))<|aF M M (.one M) M (by decide) (fun hb=>(aP M M (lb M) (svcI M hb) (sv (d:=.int _ 0) M) M hx8))<|aA M (cC M M (lb M) (svB M) M M hx9)<|aA M (asB M M M M)<|aB ?_)
 refine aT ?_
 obtain rfl:=sj_ h
 refine ⟨.inr M,(.cons (sv M) .nil)⟩

theorem wA (a0:(List UInt8)) (a1:Int) (a2:Int) (r:(List UInt8)) (h:oH a0 a1 a2=some r):cJ prog 49 [.slice false (a0.map iO.d),.int .i64 a1,.int .i64 a2] (.slice false (r.map iO.d)):=by
 refine gW (rs:=[.slice false (r.map iO.d)]) func49 M ntmps49 (nle M) M fun O hO=>?_
 show IWP _ _ _ _ ⟨[(0,.slice false (a0.map iO.d)),(1,.int .i64 a1),(2,.int .i64 a2)],[]⟩ _
 unfold oH at h
 refine aC (aA M (aE M M (lb M) (sv (d:=.nils) M))<|aB ?_)
 obtain ⟨x1,hx1,h⟩:=aZ h
 refine aC (aA M (mvL M M M M)<|aA M (eN (r':=.osl 0 iO.sz x1.length) (H1':=[(0,.blk 5 (D.flat (x1.map iO.d)))]) 0 [] M M (lb M) cl85 (.cons (svL M) .nil) M M ⟨M,M,by decide,M,List.forall_mem_nil _⟩ (oW _ _ hx1) M M (List.forall_mem_cons.2 ⟨⟨M,(lL iO)⟩,List.forall_mem_nil _⟩) (by simp only [List.map_cons,List.map_nil,Ent.ren,fR,gL]; rfl))<|aA M (aE M M (lb M) (sv (d:=.osl _ _ _) M))<|aB ?_)
 refine aW ?_
 obtain ⟨x2,hx2,h⟩:=aZ h
 refine aC (aA M (mvI M M M M)<|aA M (mvI M M M M)<|aA M (aX (r:=.bool _) M M (lb M) cl86 (.cons (svI M) (.cons (svI M) .nil)) M (aAD _ _ _ hx2))<|aA M (dN M M (lb M) (svB M))<|aB ?_)
 refine aR (b:=_) M (fun hc3=>?_) (fun hc3=>?_)
 ·
  replace h:=bS h hc3
  refine aC (aA M (aK M M (lb M) (sv (d:=.osl _ _ _) M))<|aA M (aE M M (lb M) (sv (d:=.osl _ _ _) M))<|aB ?_)
  refine aT ?_
  refine bA ?_
  obtain rfl:=sj_ h
  refine ⟨.inr M,_,(.cons (sv M) .nil),(.cons (FDT iO M M) .nil)⟩
 ·
  replace h:=bT h hc3
  refine aV ?_
  refine aM ?_
  refine aW ?_
  refine aC (aA M (mvI M M M M)<|aA M (aK M M (lb M) (sv (d:=.int _ 0) M))<|aB ?_)
  refine bG ?_
  refine dA (α:=Nat × (List UInt8) × Int) (fun z=>⟨[(1,.int .i64 a1),(2,.int .i64 a2),(7,.osl 0 iO.sz z.2.1.length),(16,.int .i64 a2),(17,.int .i64 z.2.2)],[(0,.blk 5 (D.flat (z.2.1.map iO.d)))]⟩) (fun z=>lK a1 a2 z.1 z.2.1 z.2.2=some r) (fun z=>z.1) (fuel,x1,0) (fun i=>i) ⟨(.sames M M),(.cons (EntW.lst M) .nil),cA [0] M (by decide),fun _ _=>M⟩ ?_ ?_
  ·exact h
  ·
   rintro ⟨n0,v14,v15⟩ h
   cases n0 with
   | zero=>exact absurd h (by unfold lK; exact nofun)
   | succ n0 =>
    unfold lK at h
    obtain ⟨x26,hx26,h⟩:=aS h
    refine aC (aA M (aP M M (lb M) (svI M) (svI M) M hx26)<|aB ?_)
    refine aW ?_
    refine aR (b:=_) M (fun hc27=>?_) (fun hc27=>?_)
    ·
     replace h:=bS h hc27
     refine aV ?_
     refine aM ?_
     refine aW ?_
     refine bG ?_
     refine aC (aA M (mvI M M M M)<|aA M (asI M M M M)<|aB ?_)
     obtain ⟨x28,hx28,h⟩:=aS h
     obtain ⟨x29,hx29,h⟩:=aS h
     obtain ⟨x30,hx30,h⟩:=aS h
     obtain ⟨x31,hx31,h⟩:=aZ h
     obtain ⟨x32,hx32,h⟩:=aS h
     obtain ⟨x33,hx33,h⟩:=aZ h
     obtain ⟨x34,hx34,h⟩:=aZ h
     refine bE (aA M (aK M M (lb M) (sv (d:=.osl _ _ _) M))<|aA M (mvI M M M M)<|aA M (mvI M M M M)<|aA M (bN M M (lb M) (svI M) (sv (d:=.int _ 1) M) M hx28)<|aA M (mvI M M M M)<|aA M (bN M M (lb M) (svI M) (svI M) M hx29)<|aA M (bN M M (lb M) (sv (d:=.int _ 8) M) (svI M) M hx30)<|aA M (qQ M M (lb M) (svI M) (svI M) hx31)<|aA M (fB M M (lb M) ⟨_,underlying3⟩ underlying5 (svI M) hx32)<|aA M (kG iO.toEnc0 ([x33]:(List UInt8)) 1 M M (lb M) underlying106 ti5 M (.cons (aDH (svI M) (aDF hx33)) .nil) M M (by decide))<|aA M (lQ iO.toEnc0 2 M M (lb M) underlying106 ti5 M M M M M (rD iO.toEnc0 M M M) hx34)<|aA M (aE M M (lb M) (sv (d:=.osl _ _ _) M))<|cB ?_)
     refine bZ ?_
     refine aM ?_
     obtain ⟨x35,hx35,h⟩:=aS h
     refine bE (aA M (bN M M (lb M) (svI M) (sv (d:=.int _ 1) M) M hx35)<|aA M (mvI M M M M)<|cB ?_)
     refine aM ⟨(n0,x34,x35),(fun i=>if i=0 then 2 else i),⟨(.sames M M),(.cons (EntW.lst M) .nil),cA [2] M (by decide),(fun i hi=>by first | rfl | (show (if _ then _ else _)=_; (repeat' split) <;> omega))⟩,?_,?_⟩
     exact h
     exact Nat.lt_succ_self _
    ·
     replace h:=bT h hc27
     refine cQ ?_
     refine bJ ?_
     refine bJ ?_
     refine cR ?_
     refine aM ?_
     refine aC (aA M (aK M M (lb M) (sv (d:=.osl _ _ _) M))<|aA M (aE M M (lb M) (sv (d:=.osl _ _ _) M))<|aB ?_)
     refine aT ?_
     obtain rfl:=sj_ h
     refine ⟨.inr M,_,(.cons (sv M) .nil),(.cons (FDT iO M M) .nil)⟩

theorem aBv (a0:aH) (r:((List UInt8) × Int)) (h:rW a0=some r):cJ prog 22 [.agg (v2 a0)] (retD [.str r.1,.int .i64 r.2]):=by
 refine bC (rs:=[.str r.1,.int .i64 r.2]) func22 M ntmps22 (nle M) M fun O hO=>?_
 show IWP _ _ _ _ ⟨[(0,.agg (v2 a0))],[]⟩ _
 unfold rW at h
 refine aC (aA M (bV (cs:=q12) 0 M M (lb M) M (svA q12 M) M M)<|aA M (aE M M (lb M) (sv (d:=.str []) M))<|aA M (aE M M (lb M) (sv (d:=.int _ 0) M))<|aB ?_)
 refine aW ?_
 obtain ⟨x1,hx1,h⟩:=aZ h
 refine aC (aA M (lra q12 la50 M M M M M (nle M) M)<|aA M (aX (r:=.int _ _) M M (lb M) cl46 (.cons (svA q12 M) .nil) M (uE _ _ hx1))<|aA M (asI M M M M)<|aB ?_)
 obtain ⟨x2,hx2,h⟩:=aS h
 refine aC (aA M (mvI M M M M)<|aA M (aP M M (lb M) (svI M) (sv (d:=.int _ 0) M) M hx2)<|aB ?_)
 refine aR (b:=_) M (fun hc3=>?_) (fun hc3=>?_)
 ·
  replace h:=bS h hc3
  refine aC (aA M (mvI M M M M)<|aA M (aE M M (lb M) (sv (d:=.str []) M))<|aA M (asI M M M M)<|aB ?_)
  refine aT ?_
  refine bA ?_
  obtain rfl:=sj_ h
  refine ⟨.inr M,(.cons (sv M) (.cons (sv M) .nil))⟩
 ·
  replace h:=bT h hc3
  refine aV ?_
  refine aM ?_
  refine aC (aA M (aE M M (lb M) (sv (d:=.int _ 0) M))<|aB ?_)
  refine gP (α:=Int) (fun z=>⟨[(1,.ref 0 0),(5,.int .i64 z)],[(0,.blk 50 (v2 a0))]⟩) (fun z=>mH a0 z=some r) ?_ ?_
  ·
   refine aC (aA M (faR 1 M M M underlying50 M ti4 (lb M) M M)<|aA M (aG (d:=.bool _) M M (lb M) underlying4 ag4 ti4 (by decide) (svR M) M (nle M) M)<|aB ?_)
   refine aR (b:=_) M (fun hc15=>?_) (fun hc15=>?_)
   ·
    replace h:=bS h hc15
    refine bE (aA M (aE M M (lb M) (sv (d:=.int _ 1) M))<|cB ?_)
    refine aM ⟨1,(fun i=>i),⟨(.sames M M),(.cons (.blk M M M) .nil),cA [0] M (by decide),fun _ _=>M⟩,?_⟩
    exact h
   ·
    replace h:=bT h hc15
    refine aV ?_
    refine aM ⟨0,(fun i=>i),⟨(.sames M M),(.cons (.blk M M M) .nil),cA [0] M (by decide),fun _ _=>M⟩,?_⟩
    exact h
  ·
   rintro v5 h
   unfold mH at h
   obtain ⟨x6,hx6,h⟩:=aZ h
   refine aC (aA M (lra q12 la50 M M M M M (nle M) M)<|aA M (aX (r:=.str _) M M (lb M) cl47 (.cons (svA q12 M) .nil) M (rO _ _ hx6))<|aA M (aE M M (lb M) (sv (d:=.str _) M))<|aB ?_)
   obtain ⟨x7,hx7,h⟩:=aZ h
   refine aC (aA M (aK M M (lb M) (sv (d:=.str _) M))<|aA M (dF M M (lb M) underlying9 (sv (d:=.str _) M) M)<|aA M (aX (r:=.tuple q26) M M (lb M) cl48 (.cons (svI M) .nil) M (vX _ _ hx7))<|aA M (aK M M (lb M) (sv (d:=.tuple q26) M))<|aA M (bD (d:=.slice _ _) M M (lb M) (sv (d:=.tuple q26) M) M)<|aA M (bD (d:=.int _ _) M M (lb M) (sv (d:=.tuple q26) M) M)<|aA M (aE M M (lb M) (svL M))<|aA M (asI M M M M)<|aB ?_)
   refine aW ?_
   obtain ⟨x8,hx8,h⟩:=aS h
   refine aC (aA M (mvI M M M M)<|aA M (aP M M (lb M) (svI M) (sv (d:=.int _ 0) M) M hx8)<|aB ?_)
   refine aR (b:=_) M (fun hc9=>?_) (fun hc9=>?_)
   ·
    replace h:=bS h hc9
    refine aC (aA M (mvI M M M M)<|aA M (aE M M (lb M) (sv (d:=.str []) M))<|aA M (asI M M M M)<|aB ?_)
    refine aT ?_
    refine bA ?_
    obtain rfl:=sj_ h
    refine ⟨.inr M,(.cons (sv M) (.cons (sv M) .nil))⟩
   ·
    replace h:=bT h hc9
    refine aV ?_
    refine aM ?_
    obtain ⟨x10,hx10,h⟩:=aS h
    obtain ⟨x11,hx11,h⟩:=aZ h
    obtain ⟨x12,hx12,h⟩:=aZ h
    refine aC (aA M (faR 0 M M M underlying50 M ti5 (lb M) M M)<|aA M (aG (d:=.int _ _) M M (lb M) underlying5 ag5 ti5 (by decide) (svR M) M (nle M) M)<|aA M (fB M M (lb M) ⟨_,underlying5⟩ underlying3 (svI M) hx10)<|aA M (aX (r:=.slice _ _) M M (lb M) cl49 (.cons (svn M) (.cons (svI M) (.cons (sv (d:=.int _ 1) M) .nil))) M (wA _ _ _ _ hx11))<|aA M (mvI M M M M)<|aA M (aX (r:=.slice _ _) M M (lb M) cl49 (.cons (svL M) (.cons (svI M) (.cons (sv (d:=.int _ 1) M) .nil))) M (wA _ _ _ _ hx12))<|aA M (aE M M (lb M) (svL M))<|aB ?_)
    obtain ⟨x13,hx13,h⟩:=aZ h
    obtain ⟨x14,hx14,h⟩:=aZ h
    refine aC (aA M (mvL M M M M)<|aA M (qT (l:=x12) M M (lb M) underlying106 underlying5 underlying9 (svL M))<|aA M (mvL M M M M)<|aA M (qT (l:=x7.1) M M (lb M) underlying106 underlying5 underlying9 (svL M))<|aA M (oC M M (lb M) (sv (d:=.str _) M) (sv (d:=.str _) M) hx13)<|aA M (aK M M (lb M) (sv (d:=.str _) M))<|aA M (oC M M (lb M) (sv (d:=.str _) M) (sv (d:=.str _) M) hx14)<|aA M (aE M M (lb M) (sv (d:=.str _) M))<|aA M (aE M M (lb M) (sv (d:=.int _ 0) M))<|aB ?_)
    refine aT ?_
    obtain rfl:=sj_ h
    refine ⟨.inr M,(.cons (sv M) (.cons (sv M) .nil))⟩

theorem xN (a0:aY) (r:Int) (h:pP a0=some r):cJ prog 23 [.agg (v3 a0)] (.int .i64 r):=by
 refine bC (rs:=[.int .i64 r]) func23 M ntmps23 (nle M) M fun O hO=>?_
 show IWP _ _ _ _ ⟨[(0,.agg (v3 a0))],[]⟩ _
 unfold pP at h
 refine aC (aA M (bV (cs:=q14) 0 M M (lb M) M (svA q14 M) M M)<|aA M (aE M M (lb M) (sv (d:=.int _ 0) M))<|aB ?_)
 refine aW ?_
 refine aC (aA M (faR 5 M M M underlying28 M ti4 (lb M) M M)<|aA M (aG (d:=.bool _) M M (lb M) underlying4 ag4 ti4 (by decide) (svR M) M (nle M) M)<|aB ?_)
 refine aR (b:=_) M (fun hc1=>?_) (fun hc1=>?_)
 ·
  replace h:=bS h hc1
  refine aC (aA M (aE M M (lb M) (sv (d:=.int _ 0) M))<|aB ?_)
  refine aT ?_
  refine bA ?_
  obtain rfl:=sj_ h
  refine ⟨.inr M,(.cons (sv M) .nil)⟩
 ·
  replace h:=bT h hc1
  refine aV ?_
  refine aM ?_
  obtain ⟨x2,hx2,h⟩:=aS h
  refine aC (aA M (faR 1 M M M underlying28 M ti9 (lb M) M M)<|aA M (aG (d:=.str _) M M (lb M) underlying9 ag9 ti9 (by decide) (svR M) M (nle M) M)<|aA M (dF M M (lb M) underlying9 (sv (d:=.str _) M) M)<|aA M (bN M M (lb M) (sv (d:=.int _ 4096) M) (svI M) M hx2)<|aA M (asI M M M M)<|aB ?_)
  refine aT ?_
  obtain rfl:=sj_ h
  refine ⟨.inr M,(.cons (sv M) .nil)⟩

theorem lW (a0:(List aI)) (r:(List aI)) (h:eA a0=some r):cJ prog 87 [.slice false (a0.map aJ.d)] (.slice false (r.map aJ.d)):=by
 refine bC (rs:=[.slice false (r.map aJ.d)]) func87 M ntmps87 (nle M) M fun O hO=>?_
 show IWP _ _ _ _ ⟨[(0,.slice false (a0.map aJ.d))],[]⟩ _
 unfold eA at h
 refine aC (aA M (aE M M (lb M) (sv (d:=.nils) M))<|aB ?_)
 refine aW ?_
 refine aC (aA M (mvL M M M M)<|uV M M M (by decide) underlying26 (svL M) M <| fun bn1 hbn1 =>
  aB ?_)
 refine aR (b:=_) M (fun hc2=>?_) (fun hc2=>?_)
 ·
  replace h:=aAc h (mapE (hbn1 hc2))
  refine aC (aA M (aE M M (lb M) (sv (d:=.nils) M))<|aB ?_)
  refine aT ?_
  refine bA ?_
  obtain rfl:=sj_ h
  refine ⟨.inr M,(.cons (tU M M) .nil)⟩
 ·
  replace h:=aAd h
  refine aV ?_
  refine aM ?_
  obtain ⟨x3,hx3,h⟩:=aZ h
  refine aC (aA M (oP aJ ([]:(List aI)) 0 M M (lb M) underlying26 gC M .nil M M (by decide))<|aA M (mvL M M M M)<|aA M (mN aJ 1 M M (lb M) underlying26 gC M M M M (svL M) hx3)<|aA M (aE M M (lb M) (sv (d:=.gsl _ _ _) M))<|aB ?_)
  refine aT ?_
  obtain rfl:=sj_ h
  refine ⟨.inr M,(.cons (yS M M) .nil)⟩

theorem kU (a0:aY) (r:(Int × (List UInt8) × Int × (List aL) × (List aI) × Bool × Bool × Bool × Bool)) (h:fW a0=some r):FnH prog 50 [.agg (v3 a0)] [] (.agg (w41 r.1 r.2.1 r.2.2.1 (.osl 0 aD.sz r.2.2.2.1.length) r.2.2.2.2.1 r.2.2.2.2.2.1 r.2.2.2.2.2.2.1 r.2.2.2.2.2.2.2.1 r.2.2.2.2.2.2.2.2)) [(0,.blk 52 (D.flat (r.2.2.2.1.map aD.d)))]:=by
 refine fN (rs:=[.agg (w41 r.1 r.2.1 r.2.2.1 (.osl 0 aD.sz r.2.2.2.1.length) r.2.2.2.2.1 r.2.2.2.2.2.1 r.2.2.2.2.2.2.1 r.2.2.2.2.2.2.2.1 r.2.2.2.2.2.2.2.2)]) func50 M ntmps50 (nle M) fun O hO=>?_
 show IWP _ _ _ _ ⟨[(0,.agg (v3 a0))],[]⟩ _
 unfold fW at h
 refine aC (aA M (bV (cs:=q14) 0 M M (lb M) M (svA q14 M) M M)<|aA M (bI (cs:=q16) (cs':=(w40 0 [] 0 ([]:List aL) ([]:List aI) false false false false)) 1 M M (lb M) M ti28 M M (.k (.k (.k (.cons (.nils _) (.cons (.nils _) (.all _)))))))<|aB ?_)
 obtain ⟨x1,hx1,h⟩:=aZ h
 refine aC (aA M (faR 3 M M M underlying28 M ti24 (lb M) M M)<|aA M (lrL la24 M M M M M (nle M) M)<|aA M (cN aD (l:=a0.Pieces) M M (lb M) underlying24 (svL M))<|aA M (aBF aD.toEnc0 ((⟨0,0,0,false⟩:aL):aL) 2 M M (lb M) underlying24 ti52 M M (svI M) hx1 (.all _))<|aA M (aE M M (lb M) (sv (d:=.osl _ _ _) M))<|aB ?_)
 obtain ⟨x2,hx2,h⟩:=aS h
 refine aC (aA M (aK M M (lb M) (sv (d:=.osl _ _ _) M))<|aA M (faR 3 M M M underlying28 M ti24 (lb M) M M)<|aA M (lrL la24 M M M M M (nle M) M)<|aA M (aDy aD.toEnc0 M M (lb M) underlying24 ti52 M M M (aAp aD (ys:=a0.Pieces) (svL M)) hx2)<|aB ?_)
 refine aC (aA M (aK M M (lb M) (sv (d:=.osl _ _ _) M))<|aA M (faR 3 M M M underlying28 M ti24 (lb M) M M)<|aA M (bQ (ds':=q15) M M ti24 (svR M) M (sv (d:=.osl _ _ _) M) M M M (nle M) M)<|aB ?_)
 obtain ⟨x3,hx3,h⟩:=aZ h
 refine aC (aA M (faR 4 M M M underlying28 M ti26 (lb M) M M)<|aA M (lrL la26 M M M M M (nle M) M)<|aA M (aX (r:=.slice _ _) M M (lb M) cl87 (.cons (svL M) .nil) M (lW _ _ hx3))<|aA M (faR 4 M M M underlying28 M ti26 (lb M) M M)<|aA M (bQ (ds':=q15) M M ti26 (svR M) M (svL M) M M M (nle M) M)<|aB ?_)
 refine aC (aA M (lra q15 la28 M M M M M (nle M) M)<|aA M (stA q15 q15 ti28 M M M M M M M M (nle M) M)<|aB ?_)
 refine aT ?_
 obtain rfl:=sj_ h
 refine ⟨.inr M,(fun i=>if i=0 then 2 else i),⟨.nil,(.cons (EntW.lst M) .nil),cA [2] M (by decide),(fun i hi=>by first | rfl | (show (if _ then _ else _)=_; (repeat' split) <;> omega))⟩,(.cons (rva la28 M M (nle M) (by rw [← (aFR hx2 M)]; rfl)) .nil),M⟩

theorem aA1 (a0:aY) (a1:(List UInt8)) (r:(aY × Int)) (h:pO a0 a1=some r):cJ prog 24 [.agg (v3 a0),.str a1] (retD [.agg (v3 r.1),.int .i64 r.2]):=by
 refine gW (rs:=[.agg (v3 r.1),.int .i64 r.2]) func24 M ntmps24 (nle M) M fun O hO=>?_
 show IWP _ _ _ _ ⟨[(0,.agg (v3 a0)),(1,.str a1)],[]⟩ _
 unfold pO at h
 refine aC (aA M (bV (cs:=q14) 0 M M (lb M) M (svA q14 M) M M)<|aA M (bI (cs:=q16) (cs':=(w40 0 [] 0 ([]:List aL) ([]:List aI) false false false false)) 1 M M (lb M) M ti28 M M (.k (.k (.k (.cons (.nils _) (.cons (.nils _) (.all _)))))))<|aA M (aE M M (lb M) (sv (d:=.int _ 0) M))<|aB ?_)
 obtain ⟨x1,hx1,h⟩:=aZ h
 refine aC (aA M (lra q14 la28 M M M M M (nle M) M)<|aA M (eN (r':=.agg (w41 x1.1 x1.2.1 x1.2.2.1 (.osl 2 aD.sz x1.2.2.2.1.length) x1.2.2.2.2.1 x1.2.2.2.2.2.1 x1.2.2.2.2.2.2.1 x1.2.2.2.2.2.2.2.1 x1.2.2.2.2.2.2.2.2)) (H1':=[(2,.blk 52 (D.flat (x1.2.2.2.1.map aD.d)))]) 2 [] M M (lb M) cl50 (.cons (svA q14 M) .nil) M M ⟨M,M,by decide,M,List.forall_mem_nil _⟩ (kU _ _ hx1) M M (List.forall_mem_cons.2 ⟨⟨M,(lL aD)⟩,List.forall_mem_nil _⟩) (by simp only [List.map_cons,List.map_nil,Ent.ren,fR,gL]; rfl))<|aA M (bI (cs:=q16) (cs':=(w40 0 [] 0 ([]:List aL) ([]:List aI) false false false false)) 3 M M (lb M) M ti28 M M (.k (.k (.k (.cons (.nils _) (.cons (.nils _) (.all _)))))))<|aA M (stA q15 q15 ti28 M M M M M M M M (nle M) M)<|aB ?_)
 refine aW ?_
 obtain ⟨x2,hx2,h⟩:=aZ h
 obtain ⟨x3,hx3,h⟩:=aS h
 refine aC (aA M (lra q14 la28 M M M M M (nle M) M)<|aA M (aX (r:=.int _ _) M M (lb M) cl39 (.cons (svA q14 M) .nil) M (mC _ _ hx2))<|aA M (aP M M (lb M) (svI M) (sv (d:=.int _ 0) M) M hx3)<|aB ?_)
 refine aR (b:=_) M (fun hc4=>?_) (fun hc4=>?_)
 ·
  replace h:=bS h hc4
  refine aC (aA M (lra q15 la28 M M M M M (nle M) M)<|aA M (stA q15 q15 ti28 M M M M M M M M (nle M) M)<|aA M (aE M M (lb M) (sv (d:=.int _ 0) M))<|aB ?_)
  refine aT ?_
  refine bA ?_
  obtain rfl:=sj_ h
  refine ⟨.inr M,_,(.cons (rva la28 M M (nle M) M) (.cons (sv M) .nil)),(.cons (.agg (.k (.k (.k (.cons (FDT aD M M) (.all _)))))) (.all _))⟩
 ·
  replace h:=bT h hc4
  refine aV ?_
  refine aM ?_
  obtain ⟨x5,hx5,h⟩:=aZ h
  obtain ⟨x6,hx6,h⟩:=aS h
  refine aC (aA M (lra q14 la28 M M M M M (nle M) M)<|aA M (aX (r:=.int _ _) M M (lb M) cl23 (.cons (svA q14 M) .nil) M (xN _ _ hx5))<|aA M (aK M M (lb M) (sv (d:=.str _) M))<|aA M (dF M M (lb M) underlying9 (sv (d:=.str _) M) M)<|aA M (nG M M (lb M) (svI M) (svI M) hx6)<|aA M (asI M M M M)<|aB ?_)
  refine aW ?_
  obtain ⟨x7,hx7,h⟩:=aZ h
  obtain ⟨x8,hx8,h⟩:=aS h
  obtain ⟨x9,hx9,h⟩:=aS h
  refine aC (aA M (lra q14 la28 M M M M M (nle M) M)<|aA M (aX (r:=.int _ _) M M (lb M) cl51 (.cons (svA q14 M) .nil) M (fY _ _ hx7))<|aA M (mvI M M M M)<|aA M (bN M M (lb M) (sv (d:=.int _ 1099511623680) M) (svI M) M hx8)<|aA M (aP M M (lb M) (svI M) (svI M) M hx9)<|aB ?_)
  refine aR (b:=_) M (fun hc10=>?_) (fun hc10=>?_)
  ·
   replace h:=bS h hc10
   refine aC (aA M (lra q15 la28 M M M M M (nle M) M)<|aA M (stA q15 q15 ti28 M M M M M M M M (nle M) M)<|aA M (aE M M (lb M) (sv (d:=.int _ 0) M))<|aB ?_)
   refine aT ?_
   refine bA ?_
   obtain rfl:=sj_ h
   refine ⟨.inr M,_,(.cons (rva la28 M M (nle M) M) (.cons (sv M) .nil)),(.cons (.agg (.k (.k (.k (.cons (FDT aD M M) (.all _)))))) (.all _))⟩
  ·
   replace h:=bT h hc10
   refine aV ?_
   refine aM ?_
   obtain ⟨x11,hx11,h⟩:=aZ h
   obtain ⟨x12,hx12,h⟩:=aZ h
   refine dH M [⟨[6],[],[(25,.ref 3 1)],[]⟩,
    ⟨[25],[3],[(26,.str x1.2.1)],[]⟩,
    ⟨[1],[],[(27,.str a1)],[]⟩,
    ⟨[7],[],[(28,.int .i64 x6)],[]⟩,
    ⟨[27,28],[],[(29,.str x11)],[]⟩,
    ⟨[26,29],[],[(30,.str x12)],[]⟩,
    ⟨[6],[],[(31,.ref 3 1)],[]⟩,
    ⟨[30,31],[3],[],[(3,.blk 28 (w41 x1.1 x12 x1.2.2.1 (.osl 2 aD.sz x1.2.2.2.1.length) x1.2.2.2.2.1 x1.2.2.2.2.2.1 x1.2.2.2.2.2.2.1 x1.2.2.2.2.2.2.2.1 x1.2.2.2.2.2.2.2.2))]⟩] M ?_ (by kernel_rfl) ?_
   ·refine .cons (lop M M fun S hA=>(aO M M (lb M) underlying28 M ti9 (by decide) (svaR hA M M) (off':=1) M)) ?_
    refine .cons (lop M M fun S hA=>(aG (d:=.str _) M M (lb M) underlying9 ag9 ti9 (by decide) (svaR hA M M) (agi hA M M) (nle M) M)) ?_
    refine .cons (lop M M fun S hA=>(aK M M (lb M) (sv (d:=.str _) (agr hA M M)))) ?_
    refine .cons (lop M M fun S hA=>(aK M M (lb M) (svaI hA M M))) ?_
    refine .cons (lop M M fun S hA=>(jO M M (lb M) underlying9 (sv (d:=.str _) (agr hA M M)) M ⟨_,(svaI hA M M)⟩ hx11)) ?_
    refine .cons (lop M M fun S hA=>(oC M M (lb M) (sv (d:=.str _) (agr hA M M)) (sv (d:=.str _) (agr hA M M)) hx12)) ?_
    refine .cons (lop M M fun S hA=>(aO M M (lb M) underlying28 M ti9 (by decide) (svaR hA M M) (off':=1) M)) ?_
    refine .cons (lop M M fun S hA=>(bQ (ds':=q15) M M ti9 (svaR hA M M) (agi hA M M) (sv (d:=.str _) (agr hA M M)) M M M (nle M) M)) ?_
    exact .nil
   refine aC (aA M (lra q15 la28 M M M M M (nle M) M)<|aA M (mvI M M M M)<|aA M (stA q15 q15 ti28 M M M M M M M M (nle M) M)<|aA M (asI M M M M)<|aB ?_)
   refine aT ?_
   obtain rfl:=sj_ h
   refine ⟨.inr M,_,(.cons (rva la28 M M (nle M) M) (.cons (sv M) .nil)),(.cons (.agg (.k (.k (.k (.cons (FDT aD M M) (.all _)))))) (.all _))⟩

theorem pI (a0:bB) (a1:aH) (r:(bB × Int)) (h:hM a0 a1=some r):cJ prog 8 [.agg (v0 a0),.agg (v2 a1)] (retD [.agg (v0 r.1),.int .i64 r.2]):=by
 refine bC (rs:=[.agg (v0 r.1),.int .i64 r.2]) func8 M ntmps8 (nle M) M fun O hO=>?_
 show IWP _ _ _ _ ⟨[(0,.agg (v0 a0)),(1,.agg (v2 a1))],[]⟩ _
 unfold hM at h
 refine aC (aA M (bV (cs:=q9) 0 M M (lb M) M (svA q9 M) M M)<|aA M (bV (cs:=q12) 1 M M (lb M) M (svA q12 M) M M)<|aA M (bI (cs:=q10) (cs':=(w38 0 [] 0 ([]:List aL) ([]:List aI) false false false false 0 [] ([]:List aU) 0 [] 0 0)) 2 M M (lb M) M ti38 M M (.k (.k (.k (.cons (.nils _) (.cons (.nils _) (.k4 (.k (.k (.cons (.nils _) (.all _)))))))))))<|aA M (aE M M (lb M) (sv (d:=.int _ 0) M))<|aB ?_)
 refine aW ?_
 obtain ⟨x1,hx1,h⟩:=aZ h
 refine aC (aA M (lra q9 la38 M M M M M (nle M) M)<|aA M (aX (r:=.int _ _) M M (lb M) cl16 (.cons (svA q9 M) .nil) M (eL _ _ hx1))<|aA M (asI M M M M)<|aB ?_)
 obtain ⟨x2,hx2,h⟩:=aS h
 refine aC (aA M (mvI M M M M)<|aA M (aP M M (lb M) (svI M) (sv (d:=.int _ 0) M) M hx2)<|aB ?_)
 refine aR (b:=_) M (fun hc3=>?_) (fun hc3=>?_)
 ·
  replace h:=bS h hc3
  refine aC (aA M (lra q9 la38 M M M M M (nle M) M)<|aA M (mvI M M M M)<|aA M (stA q9 q9 ti38 M M M M M M M M (nle M) M)<|aA M (asI M M M M)<|aB ?_)
  refine aT ?_
  refine bA ?_
  obtain rfl:=sj_ h
  refine ⟨.inr M,(.cons (rva la38 M M (nle M) M) (.cons (sv M) .nil))⟩
 ·
  replace h:=bT h hc3
  refine aV ?_
  refine aM ?_
  refine aW ?_
  obtain ⟨x4,hx4,h⟩:=aZ h
  refine aC (aA M (faR 0 M M M underlying50 M ti5 (lb M) M M)<|aA M (aG (d:=.int _ _) M M (lb M) underlying5 ag5 ti5 (by decide) (svR M) M (nle M) M)<|aA M (aX (r:=.bool _) M M (lb M) cl21 (.cons (svI M) .nil) M (rM _ _ hx4))<|aA M (dN M M (lb M) (svB M))<|aB ?_)
  refine aR (b:=_) M (fun hc5=>?_) (fun hc5=>?_)
  ·
   replace h:=bS h hc5
   refine aC (aA M (lra q9 la38 M M M M M (nle M) M)<|aA M (stA q9 q9 ti38 M M M M M M M M (nle M) M)<|aA M (aE M M (lb M) (sv (d:=.int _ 12) M))<|aB ?_)
   refine aT ?_
   refine bA ?_
   obtain rfl:=sj_ h
   refine ⟨.inr M,(.cons (rva la38 M M (nle M) M) (.cons (sv M) .nil))⟩
  ·
   replace h:=bT h hc5
   refine aV ?_
   refine aM ?_
   obtain ⟨x6,hx6,h⟩:=aZ h
   refine aC (aA M (lra q12 la50 M M M M M (nle M) M)<|aA M (aX (r:=.tuple [.str _,.int _ _]) M M (lb M) cl22 (.cons (svA q12 M) .nil) M (aBv _ _ hx6))<|aA M (aK M M (lb M) (sv (d:=.tuple [.str _,.int _ _]) M))<|aA M (bD (d:=.str _) M M (lb M) (sv (d:=.tuple [.str _,.int _ _]) M) M)<|aA M (bD (d:=.int _ _) M M (lb M) (sv (d:=.tuple [.str _,.int _ _]) M) M)<|aA M (aE M M (lb M) (sv (d:=.str _) M))<|aA M (asI M M M M)<|aB ?_)
   refine aW ?_
   refine bG ?_
   obtain ⟨x7,hx7,h⟩:=aS h
   refine aC (aA M (mvI M M M M)<|aA M (aP M M (lb M) (svI M) (sv (d:=.int _ 0) M) M hx7)<|aA M (asB M M M M)<|aB ?_)
   refine aR (b:=_) M (fun hc8=>?_) (fun hc8=>?_)
   ·
    replace h:=bS h hc8
    refine aC (aA M (lra q9 la38 M M M M M (nle M) M)<|aA M (mvI M M M M)<|aA M (stA q9 q9 ti38 M M M M M M M M (nle M) M)<|aA M (asI M M M M)<|aB ?_)
    refine aT ?_
    refine bP ?_
    refine bA ?_
    obtain rfl:=sj_ h
    refine ⟨.inr M,(.cons (rva la38 M M (nle M) M) (.cons (sv M) .nil))⟩
   ·
    replace h:=bT h hc8
    obtain ⟨x9,hx9,h⟩:=aZ h
    obtain ⟨x10,hx10,h⟩:=aS h
    refine aC (aA M (faR 0 M M M underlying38 M ti28 (lb M) M M)<|aA M (lra q14 la28 M M M M M (nle M) M)<|aA M (aX (r:=.int _ _) M M (lb M) cl23 (.cons (svA q14 M) .nil) M (xN _ _ hx9))<|aA M (aK M M (lb M) (sv (d:=.str _) M))<|aA M (dF M M (lb M) underlying9 (sv (d:=.str _) M) M)<|aA M (aP M M (lb M) (svI M) (svI M) M hx10)<|aA M (asB M M M M)<|aB ?_)
    refine aR (b:=_) M (fun hc11=>?_) (fun hc11=>?_)
    ·
     replace h:=bS h hc11
     refine aC (aA M (lra q9 la38 M M M M M (nle M) M)<|aA M (stA q9 q9 ti38 M M M M M M M M (nle M) M)<|aA M (aE M M (lb M) (sv (d:=.int _ 7) M))<|aB ?_)
     refine aT ?_
     refine bP ?_
     refine bA ?_
     obtain rfl:=sj_ h
     refine ⟨.inr M,(.cons (rva la38 M M (nle M) M) (.cons (sv M) .nil))⟩
    ·
     replace h:=bT h hc11
     refine aV ?_
     refine bZ ?_
     refine aM ?_
     obtain ⟨x12,hx12,h⟩:=aZ h
     refine aC (aA M (faR 0 M M M underlying38 M ti28 (lb M) M M)<|aA M (lra q14 la28 M M M M M (nle M) M)<|aA M (aK M M (lb M) (sv (d:=.str _) M))<|aA M (aX (r:=.tuple [.agg q14,.int _ _]) M M (lb M) cl24 (.cons (svA q14 M) (.cons (sv (d:=.str _) M) .nil)) M (aA1 _ _ _ hx12))<|aA M (aK M M (lb M) (sv (d:=.tuple [.agg q14,.int _ _]) M))<|aA M (bD (d:=.agg q14) M M (lb M) (sv (d:=.tuple [.agg q14,.int _ _]) M) M)<|aA M (bD (d:=.int _ _) M M (lb M) (sv (d:=.tuple [.agg q14,.int _ _]) M) M)<|aA M (bI (cs:=q16) (cs':=(w40 0 [] 0 ([]:List aL) ([]:List aI) false false false false)) 3 M M (lb M) M ti28 M M (.k (.k (.k (.cons (.nils _) (.cons (.nils _) (.all _)))))))<|aA M (stA q14 q14 ti28 M M M M M M M M (nle M) M)<|aA M (asI M M M M)<|aB ?_)
     refine aW ?_
     obtain ⟨x13,hx13,h⟩:=aS h
     refine aC (aA M (mvI M M M M)<|aA M (aK M M (lb M) (sv (d:=.str _) M))<|aA M (dF M M (lb M) underlying9 (sv (d:=.str _) M) M)<|aA M (aP M M (lb M) (svI M) (svI M) M hx13)<|aB ?_)
     refine aR (b:=_) M (fun hc14=>?_) (fun hc14=>?_)
     ·
      replace h:=bS h hc14
      refine aC (aA M (lra q9 la38 M M M M M (nle M) M)<|aA M (stA q9 q9 ti38 M M M M M M M M (nle M) M)<|aA M (aE M M (lb M) (sv (d:=.int _ 7) M))<|aB ?_)
      refine aT ?_
      refine bA ?_
      obtain rfl:=sj_ h
      refine ⟨.inr M,(.cons (rva la38 M M (nle M) M) (.cons (sv M) .nil))⟩
     ·
      replace h:=bT h hc14
      refine aV ?_
      refine aM ?_
      refine aC (aA M (lra q14 la28 M M M M M (nle M) M)<|aA M (faR 0 M M M underlying38 M ti28 (lb M) M M)<|aA M (stA q14 q9 ti28 M M M M M M M M (nle M) M)<|aB ?_)
      refine aC (aA M (lra q9 la38 M M M M M (nle M) M)<|aA M (stA q9 q9 ti38 M M M M M M M M (nle M) M)<|aA M (aE M M (lb M) (sv (d:=.int _ 0) M))<|aB ?_)
      refine aT ?_
      obtain rfl:=sj_ h
      refine ⟨.inr M,(.cons (rva la38 M M (nle M) M) (.cons (sv M) .nil))⟩

theorem qX (a0:aY) (r:Bool) (h:kO a0=some r):cJ prog 56 [.agg (v3 a0)] (.bool r):=by
 refine bC (rs:=[.bool r]) func56 M ntmps56 (nle M) M fun O hO=>?_
 show IWP _ _ _ _ ⟨[(0,.agg (v3 a0))],[]⟩ _
 unfold kO at h
 refine aC (aA M (bV (cs:=q14) 0 M M (lb M) M (svA q14 M) M M)<|aA M (aE M M (lb M) (sv (d:=.bool false) M))<|aB ?_)
 refine aW ?_
 obtain ⟨x1,hx1,h⟩:=aS h
 refine aC (aA M (faR 5 M M M underlying28 M ti4 (lb M) M M)<|aA M (aG (d:=.bool _) M M (lb M) underlying4 ag4 ti4 (by decide) (svR M) M (nle M) M)<|aA M (dN M M (lb M) (svB M))<|aA M (mvB M M M M)<|aF M M (.one M) M (by decide) (fun hb=>(faR 8 M M M underlying28 M ti4 (lb M) M M))<|aF M M (.one M) M (by decide) (fun hb=>(aG (d:=.bool _) M M (lb M) underlying4 ag4 ti4 (by decide) (svcR M hb) M (nle M) M))<|aA M (dT M M (lb M) (svB M) M M hx1)<|aB ?_)
 refine aR (b:=_) M (fun hc2=>?_) (fun hc2=>?_)
 ·
  replace h:=bS h hc2
  refine aC (aA M (aE M M (lb M) (sv (d:=.bool false) M))<|aB ?_)
  refine aT ?_
  refine bA ?_
  obtain rfl:=sj_ h
  refine ⟨.inr M,(.cons (sv M) .nil)⟩
 ·
  replace h:=bT h hc2
  refine aV ?_
  refine aM ?_
  obtain ⟨x3,hx3,h⟩:=aS h
  refine aC (aA M (faR 7 M M M underlying28 M ti4 (lb M) M M)<|aA M (aG (d:=.bool _) M M (lb M) underlying4 ag4 ti4 (by decide) (svR M) M (nle M) M)<|aA M (mvB M M M M)<|aF M M (.one M) M (by decide) (fun hb=>(faR 6 M M M underlying28 M ti4 (lb M) M M))<|aF M M (.one M) M (by decide) (fun hb=>(aG (d:=.bool _) M M (lb M) underlying4 ag4 ti4 (by decide) (svcR M hb) M (nle M) M))<|aF M M (.one M) M (by decide) (fun hb=>(dN M M (lb M) (svcB M hb)))<|aA M (dT M M (lb M) (svB M) M M hx3)<|aA M (asB M M M M)<|aB ?_)
  refine aT ?_
  obtain rfl:=sj_ h
  refine ⟨.inr M,(.cons (sv M) .nil)⟩

theorem pU (a0:aY) (a1:Int) (a2:Int) (r:(aL × Bool)) (h:jP a0 a1 a2=some r):cJ prog 53 [.agg (v3 a0),.int .i64 a1,.int .i64 a2] (retD [.agg (v7 r.1),.bool r.2]):=by
 refine bC (rs:=[.agg (v7 r.1),.bool r.2]) func53 M ntmps53 (nle M) M fun O hO=>?_
 show IWP _ _ _ _ ⟨[(0,.agg (v3 a0)),(1,.int .i64 a1),(2,.int .i64 a2)],[]⟩ _
 unfold jP at h
 refine aC (aA M (bV (cs:=q14) 0 M M (lb M) M (svA q14 M) M M)<|aA M (bI (cs:=q19) (cs':=(w44 0 0 0 false)) 1 M M (lb M) M ti52 M M (.all _))<|aA M (aE M M (lb M) (sv (d:=.bool false) M))<|aB ?_)
 refine aW ?_
 obtain ⟨x1,hx1,h⟩:=aS h
 refine aC (aA M (faR 4 M M M underlying28 M ti26 (lb M) M M)<|aA M (lrL la26 M M M M M (nle M) M)<|aA M (cN aJ (l:=a0.Lost) M M (lb M) underlying26 (svL M))<|aA M (aP M M (lb M) (svI M) (sv (d:=.int _ 0) M) M hx1)<|aB ?_)
 refine aR (b:=_) M (fun hc2=>?_) (fun hc2=>?_)
 ·
  replace h:=bS h hc2
  obtain ⟨x3,hx3,h⟩:=aZ h
  refine aC (aA M (faR 4 M M M underlying28 M ti26 (lb M) M M)<|aA M (lrL la26 M M M M M (nle M) M)<|aA M (dB aJ (cs:=q27) M M (lb M) underlying26 gC (svL M) (sv (d:=.int _ 0) M) hx3 M M)<|aA M (cX (cs:=q27) M M (lb M) underlying116 yP gC (by decide) (sv (d:=.fptr q27) M) (nle M) M)<|aA M (bI (cs:=q27) (cs':=[.int .i64 0,.int .i64 0]) 2 M M (lb M) M gC M M (.all _))<|aA M (stA q27 q27 gC M M M M M M M M (nle M) M)<|aB ?_)
  obtain ⟨x4,hx4,h⟩:=aS h
  obtain ⟨x5,hx5,h⟩:=aS h
  obtain ⟨x6,hx6,h⟩:=aS h
  refine aC (aA M (faR 0 M M M underlying116 M ti3 (lb M) M M)<|aA M (aG (d:=.int _ _) M M (lb M) underlying3 ag3 ti3 (by decide) (svR M) M (nle M) M)<|aA M (faR 0 M M M underlying116 M ti3 (lb M) M M)<|aA M (aG (d:=.int _ _) M M (lb M) underlying3 ag3 ti3 (by decide) (svR M) M (nle M) M)<|aA M (mvI M M M M)<|aA M (faR 1 M M M underlying116 M ti3 (lb M) M M)<|aA M (aG (d:=.int _ _) M M (lb M) underlying3 ag3 ti3 (by decide) (svR M) M (nle M) M)<|aA M (faR 0 M M M underlying116 M ti3 (lb M) M M)<|aA M (aG (d:=.int _ _) M M (lb M) underlying3 ag3 ti3 (by decide) (svR M) M (nle M) M)<|aA M (bN M M (lb M) (svI M) (svI M) M hx4)<|aA M (nG M M (lb M) (svI M) (svI M) hx5)<|aA M (bN M M (lb M) (svI M) (svI M) M hx6)<|aA M (cF (cs:=q19) M M (lb M) underlying52 ti52 pl52 M (.cons (svI M) (.cons (svI M) .nil)) M)<|aA M (stA q19 q19 ti52 M M M M M M M M (nle M) M)<|aA M (aE M M (lb M) (sv (d:=.bool true) M))<|aB ?_)
  refine aT ?_
  refine bA ?_
  obtain rfl:=sj_ h
  refine ⟨.inr M,(.cons (rva la52 M M (nle M) M) (.cons (sv M) .nil))⟩
 ·
  replace h:=bT h hc2
  refine aV ?_
  refine aM ?_
  obtain ⟨x7,hx7,h⟩:=aZ h
  obtain ⟨x8,hx8,h⟩:=aS h
  refine dH M [⟨[3],[0],[(32,.agg (v3 a0))],[]⟩,
   ⟨[32],[],[(33,.int .i64 x7)],[]⟩,
   ⟨[3],[],[(34,.ref 0 2)],[]⟩,
   ⟨[34],[0],[(35,.int .i64 a0.Next)],[]⟩,
   ⟨[33,35],[],[(36,.int .i64 x8)],[]⟩,
   ⟨[36],[],[(9,.int .i64 x8)],[]⟩] M ?_ (by kernel_rfl) ?_
  ·refine .cons (lop M M fun S hA=>(bY (cs:=q14) M M (lb M) underlying28 ag28 ti28 (by decide) (svaR hA M M) (agi hA M M) (nle M) M)) ?_
   refine .cons (lop M M fun S hA=>(aX (r:=.int _ _) M M (lb M) cl51 (.cons (svaA q14 hA M M) .nil) M (fY _ _ hx7))) ?_
   refine .cons (lop M M fun S hA=>(aO M M (lb M) underlying28 M ti3 (by decide) (svaR hA M M) (off':=2) M)) ?_
   refine .cons (lop M M fun S hA=>(aG (d:=.int _ _) M M (lb M) underlying3 ag3 ti3 (by decide) (svaR hA M M) (agi hA M M) (nle M) M)) ?_
   refine .cons (lop M M fun S hA=>(bN M M (lb M) (svaI hA M M) (svaI hA M M) M hx8)) ?_
   refine .cons (lop M M fun S hA=>(aE M M (lb M) (svaI hA M M))) ?_
   exact .nil
  refine aW ?_
  obtain ⟨x9,hx9,h⟩:=aS h
  refine aC (aA M (mvI M M M M)<|aA M (aP M M (lb M) (svI M) (sv (d:=.int _ 0) M) M hx9)<|aB ?_)
  refine aR (b:=_) M (fun hc10=>?_) (fun hc10=>?_)
  ·
   replace h:=bS h hc10
   obtain ⟨x11,hx11,h⟩:=aS h
   obtain ⟨x12,hx12,h⟩:=aS h
   obtain ⟨x13,hx13,h⟩:=aS h
   refine aC (aA M (mvI M M M M)<|aA M (mvI M M M M)<|aA M (mvI M M M M)<|aA M (faR 2 M M M underlying28 M ti3 (lb M) M M)<|aA M (aG (d:=.int _ _) M M (lb M) underlying3 ag3 ti3 (by decide) (svR M) M (nle M) M)<|aA M (qR M M (lb M) (svI M) (svI M) hx11)<|aA M (faR 2 M M M underlying28 M ti3 (lb M) M M)<|aA M (aG (d:=.int _ _) M M (lb M) underlying3 ag3 ti3 (by decide) (svR M) M (nle M) M)<|aA M (bN M M (lb M) (svI M) (svI M) M hx12)<|aA M (aE9 M M (lb M) (svI M) (svI M) (svI M) hx13)<|aA M (asI M M M M)<|aB ?_)
   obtain ⟨x14,hx14,h⟩:=aS h
   obtain ⟨x15,hx15,h⟩:=aS h
   refine aC (aA M (faR 2 M M M underlying28 M ti3 (lb M) M M)<|aA M (aG (d:=.int _ _) M M (lb M) underlying3 ag3 ti3 (by decide) (svR M) M (nle M) M)<|aA M (faR 2 M M M underlying28 M ti3 (lb M) M M)<|aA M (aG (d:=.int _ _) M M (lb M) underlying3 ag3 ti3 (by decide) (svR M) M (nle M) M)<|aA M (mvI M M M M)<|aA M (bN M M (lb M) (svI M) (svI M) M hx14)<|aA M (cF (cs:=q19) M M (lb M) underlying52 ti52 pl52 M (.cons (svI M) (.cons (svI M) .nil)) M)<|aA M (mvI M M M M)<|aA M (aP M M (lb M) (svI M) (sv (d:=.int _ 0) M) M hx15)<|aA M (stA q19 q19 ti52 M M M M M M M M (nle M) M)<|aA M (asB M M M M)<|aB ?_)
   refine aT ?_
   refine bA ?_
   obtain rfl:=sj_ h
   refine ⟨.inr M,(.cons (rva la52 M M (nle M) M) (.cons (sv M) .nil))⟩
  ·
   replace h:=bT h hc10
   refine aV ?_
   refine aM ?_
   obtain ⟨x16,hx16,h⟩:=aZ h
   refine dH M [⟨[3],[],[(58,.ref 0 2)],[]⟩,
    ⟨[58],[0],[(59,.int .i64 a0.Next)],[]⟩,
    ⟨[3],[],[(60,.ref 0 2)],[]⟩,
    ⟨[60],[0],[(61,.int .i64 a0.Next)],[]⟩,
    ⟨[59,61],[],[(62,.agg (w44 a0.Next a0.Next 0 false))],[]⟩,
    ⟨[3],[0],[(63,.agg (v3 a0))],[]⟩,
    ⟨[63],[],[(64,.bool x16)],[]⟩,
    ⟨[6,62],[1],[],[(1,.blk 52 (w44 a0.Next a0.Next 0 false))]⟩,
    ⟨[64],[],[(7,.bool x16)],[]⟩] M ?_ (by kernel_rfl) ?_
   ·refine .cons (lop M M fun S hA=>(aO M M (lb M) underlying28 M ti3 (by decide) (svaR hA M M) (off':=2) M)) ?_
    refine .cons (lop M M fun S hA=>(aG (d:=.int _ _) M M (lb M) underlying3 ag3 ti3 (by decide) (svaR hA M M) (agi hA M M) (nle M) M)) ?_
    refine .cons (lop M M fun S hA=>(aO M M (lb M) underlying28 M ti3 (by decide) (svaR hA M M) (off':=2) M)) ?_
    refine .cons (lop M M fun S hA=>(aG (d:=.int _ _) M M (lb M) underlying3 ag3 ti3 (by decide) (svaR hA M M) (agi hA M M) (nle M) M)) ?_
    refine .cons (lop M M fun S hA=>(cF (cs:=q19) M M (lb M) underlying52 ti52 pl52 M (.cons (svaI hA M M) (.cons (svaI hA M M) .nil)) M)) ?_
    refine .cons (lop M M fun S hA=>(bY (cs:=q14) M M (lb M) underlying28 ag28 ti28 (by decide) (svaR hA M M) (agi hA M M) (nle M) M)) ?_
    refine .cons (lop M M fun S hA=>(aX (r:=.bool _) M M (lb M) cl56 (.cons (svaA q14 hA M M) .nil) M (qX _ _ hx16))) ?_
    refine .cons (lop M M fun S hA=>(bQ (ds':=q19) M M ti52 (svaR hA M M) (agi hA M M) (svaA q19 hA M M) M M M (nle M) M)) ?_
    refine .cons (lop M M fun S hA=>(aE M M (lb M) (svaB hA M M))) ?_
    exact .nil
   refine aT ?_
   obtain rfl:=sj_ h
   refine ⟨.inr M,(.cons (rva la52 M M (nle M) M) (.cons (sv M) .nil))⟩

theorem sN (a0:aL) (a1:aL) (r:Bool) (h:kT a0 a1=some r):cJ prog 95 [.agg (v7 a0),.fptr (v7 a1)] (.bool r):=by
 refine bC (rs:=[.bool r]) func95 M ntmps95 (nle M) M fun O hO=>?_
 show IWP _ _ _ _ ⟨[(0,.agg (v7 a0)),(1,.fptr (v7 a1))],[]⟩ _
 unfold kT at h
 refine aC (aA M (bV (cs:=q19) 0 M M (lb M) M (svA q19 M) M M)<|aA M (aE M M (lb M) (sv (d:=.bool false) M))<|aB ?_)
 obtain ⟨x1,hx1,h⟩:=aS h
 obtain ⟨x2,hx2,h⟩:=aS h
 obtain ⟨x3,hx3,h⟩:=aS h
 obtain ⟨x4,hx4,h⟩:=aS h
 obtain ⟨x5,hx5,h⟩:=aS h
 refine aC (aA M (faR 0 M M M underlying52 M ti3 (lb M) M M)<|aA M (aG (d:=.int _ _) M M (lb M) underlying3 ag3 ti3 (by decide) (svR M) M (nle M) M)<|aA M (cV (cs':=[.int _ _]) M M (lb M) underlying52 M ti3 (by decide) (sv (d:=.fptr q19) M) M)<|aA M (eB M M (lb M) underlying3 ag3 ti3 (by decide) (sv (d:=.fptr [.int _ _]) M) (nle M))<|aA M (aP M M (lb M) (svI M) (svI M) M hx1)<|aA M (mvB M M M M)<|aF M M (.one M) M (by decide) (fun hb=>(faR 0 M M M underlying52 M ti3 (lb M) M M))<|aF M M (.one M) M (by decide) (fun hb=>(aG (d:=.int _ _) M M (lb M) underlying3 ag3 ti3 (by decide) (svcR M hb) M (nle M) M))<|aF M M (.one M) M (by decide) (fun hb=>(cV (cs':=[.int _ _]) M M (lb M) underlying52 M ti3 (by decide) (sv (d:=.fptr q19) M) M))<|aF M M (.one M) M (by decide) (fun hb=>(eB M M (lb M) underlying3 ag3 ti3 (by decide) (svc (d:=.fptr [.int _ _]) M hb) (nle M)))<|aF M M (.one M) M (by decide) (fun hb=>(aP M M (lb M) (svcI M hb) (svcI M hb) M hx2))<|aF M M (.one M) M (by decide) (fun hb=>(aK M M (lb M) (svcB M hb)))<|aF M M (.two M) M (by decide) (fun hb=>(faR 1 M M M underlying52 M ti3 (lb M) M M))<|aF M M (.two M) M (by decide) (fun hb=>(aG (d:=.int _ _) M M (lb M) underlying3 ag3 ti3 (by decide) (svcR M hb) M (nle M) M))<|aF M M (.two M) M (by decide) (fun hb=>(cV (cs':=[.int _ _]) M M (lb M) underlying52 M ti3 (by decide) (sv (d:=.fptr q19) M) M))<|aF M M (.two M) M (by decide) (fun hb=>(eB M M (lb M) underlying3 ag3 ti3 (by decide) (svc (d:=.fptr [.int _ _]) M hb) (nle M)))<|aF M M (.two M) M (by decide) (fun hb=>(aP M M (lb M) (svcI M hb) (svcI M hb) M hx3))<|aF M M (.one M) M (by decide) (fun hb=>(pX M M (lb M) hb (svcB M hb) M M hx4))<|aA M (dT M M (lb M) (svB M) M M hx5)<|aA M (asB M M M M)<|aB ?_)
 refine aT ?_
 obtain rfl:=sj_ h
 refine ⟨.inr M,(.cons (sv M) .nil)⟩

theorem iW (a0:(List aL)) (a1:aL) (r:Int) (h:dR a0 a1=some r):cJ prog 94 [.slice false (a0.map aD.d),.fn 95 [.fptr (v7 a1)]] (.int .i64 r):=by
 refine bC (rs:=[.int .i64 r]) func94 M ntmps94 (nle M) M fun O hO=>?_
 show IWP _ _ _ _ ⟨[(0,.slice false (a0.map aD.d)),(1,.fn 95 [.fptr (v7 a1)])],[]⟩ _
 unfold dR at h
 refine aC (aA M (aE M M (lb M) (sv (d:=.int _ 0) M))<|aB ?_)
 refine aW ?_
 refine aC (aA M (mvL M M M M)<|aA M (cN aD (l:=a0) M M (lb M) underlying24 (svL M))<|aA M (aK M M (lb M) (sv (d:=.int _ 0) M))<|aB ?_)
 refine bG ?_
 refine dA (α:=Nat × Int) (fun z=>⟨[(0,.slice false (a0.map aD.d)),(1,.fn 95 [.fptr (v7 a1)]),(7,.int .i64 (a0.length:Int)),(8,.int .i64 z.2)],[]⟩) (fun z=>bU a0 a1 z.1 z.2=some r) (fun z=>z.1) (fuel,0) (fun i=>i) ⟨(.sames M M),.nil,cA [] M (by decide),fun _ _=>M⟩ ?_ ?_
 ·exact h
 ·
  rintro ⟨n0,v7⟩ h
  cases n0 with
  | zero=>exact absurd h (by unfold bU; exact nofun)
  | succ n0 =>
   unfold bU at h
   obtain ⟨x14,hx14,h⟩:=aS h
   refine aC (aA M (aP M M (lb M) (svI M) (svI M) M hx14)<|aB ?_)
   refine aW ?_
   refine aR (b:=_) M (fun hc15=>?_) (fun hc15=>?_)
   ·
    replace h:=bS h hc15
    refine aV ?_
    refine aM ?_
    refine aW ?_
    refine bG ?_
    refine aC (aA M (mvI M M M M)<|aA M (asI M M M M)<|aB ?_)
    obtain ⟨x16,hx16,h⟩:=aZ h
    obtain ⟨x17,hx17,h⟩:=aZ h
    refine aC (aA M (aK M M (lb M) (sv (d:=.fn 95 [.fptr q19]) M))<|aA M (mvL M M M M)<|aA M (mvI M M M M)<|aA M (dB aD (cs:=q19) M M (lb M) underlying24 ti52 (svL M) (svI M) hx16 M M)<|aA M (cX (cs:=q19) M M (lb M) underlying52 ag52 ti52 (by decide) (sv (d:=.fptr q19) M) (nle M) M)<|aA M (nP (r:=.bool _) M M (lb M) cl95 (sv (d:=.fn 95 [.fptr q19]) M) (.cons (svA q19 M) .nil) M (sN _ _ _ hx17))<|aB ?_)
    refine aR (b:=_) M (fun hc18=>?_) (fun hc18=>?_)
    ·
     replace h:=bS h hc18
     refine aC (aA M (mvI M M M M)<|aA M (asI M M M M)<|aB ?_)
     refine aT ?_
     refine bP ?_
     refine bA ?_
     refine bA ?_
     refine bP ?_
     refine bA ?_
     obtain rfl:=sj_ h
     refine ⟨.inr M,(.cons (sv M) .nil)⟩
    ·
     replace h:=bT h hc18
     refine aV ?_
     refine bZ ?_
     refine aM ?_
     obtain ⟨x19,hx19,h⟩:=aS h
     refine bE (aA M (bN M M (lb M) (svI M) (sv (d:=.int _ 1) M) M hx19)<|aA M (mvI M M M M)<|cB ?_)
     refine aM ⟨(n0,x19),(fun i=>i),⟨(.sames M M),.nil,cA [] M (by decide),fun _ _=>M⟩,?_,?_⟩
     exact h
     exact Nat.lt_succ_self _
   ·
    replace h:=bT h hc15
    refine cQ ?_
    refine bJ ?_
    refine bJ ?_
    refine cR ?_
    refine aM ?_
    refine aC (aA M (aE M M (lb M) (sv (d:=.int _ (-1)) M))<|aB ?_)
    refine aT ?_
    obtain rfl:=sj_ h
    refine ⟨.inr M,(.cons (sv M) .nil)⟩

theorem tZ (a0:aY) (a1:aL) (r:Int) (h:kK a0 a1=some r):cJ prog 58 [.agg (v3 a0),.agg (v7 a1)] (.int .i64 r):=by
 refine bC (rs:=[.int .i64 r]) func58 M ntmps58 (nle M) M fun O hO=>?_
 show IWP _ _ _ _ ⟨[(0,.agg (v3 a0)),(1,.agg (v7 a1))],[]⟩ _
 unfold kK at h
 refine aC (aA M (bV (cs:=q14) 0 M M (lb M) M (svA q14 M) M M)<|aA M (bV (cs:=q19) 1 M M (lb M) M (svA q19 M) M M)<|aA M (aE M M (lb M) (sv (d:=.int _ 0) M))<|aB ?_)
 obtain ⟨x1,hx1,h⟩:=aZ h
 obtain ⟨x2,hx2,h⟩:=aZ h
 obtain ⟨x3,hx3,h⟩:=aZ h
 obtain ⟨x4,hx4,h⟩:=aS h
 obtain ⟨x5,hx5,h⟩:=aZ h
 obtain ⟨x6,hx6,h⟩:=aZ h
 refine dH M [⟨[2],[],[(5,.ref 0 3)],[]⟩,
  ⟨[5],[0],[(6,.slice false (a0.Pieces.map aD.d))],[]⟩,
  ⟨[2],[],[(7,.ref 0 3)],[]⟩,
  ⟨[7],[0],[(8,.slice false (a0.Pieces.map aD.d))],[]⟩,
  ⟨[8],[],[(9,.int .i64 (a0.Pieces.length:Int))],[]⟩,
  ⟨[2],[],[(10,.ref 0 3)],[]⟩,
  ⟨[10],[0],[(11,.slice false (a0.Pieces.map aD.d))],[]⟩,
  ⟨[11],[],[(12,.int .i64 (a0.Pieces.length:Int))],[]⟩,
  ⟨[6,9,12],[],[(13,.slice true (x1.map aD.d))],[]⟩,
  ⟨[2],[0],[(14,.agg (v3 a0))],[]⟩,
  ⟨[14],[],[(15,.int .i64 x2)],[]⟩,
  ⟨[2],[0],[(16,.agg (v3 a0))],[]⟩,
  ⟨[16],[],[(17,.int .i64 x3)],[]⟩,
  ⟨[17],[],[(18,.int .i64 x4)],[]⟩,
  ⟨[15,18],[],[(19,.agg (w44 x2 x4 0 false))],[]⟩,
  ⟨[19],[2],[(20,.osl 2 aD.sz (([(⟨x2,x4,0,false⟩:aL)]:(List aL)).length))],[(2,.blk 52 (D.flat ((([(⟨x2,x4,0,false⟩:aL)]:(List aL))).map aD.d)))]⟩,
  ⟨[13,20],[2,3],[(21,.osl 3 aD.sz x5.length)],[(3,.blk 52 (D.flat (x5.map aD.d)))]⟩,
  ⟨[3],[],[(22,.fn 95 [.ref 1 0])],[]⟩,
  ⟨[21,22],[1,3],[(23,.int .i64 x6)],[]⟩,
  ⟨[23],[],[(4,.int .i64 x6)],[]⟩] M ?_ (by kernel_rfl) ?_
 ·refine .cons (lop M M fun S hA=>(aO M M (lb M) underlying28 M ti24 (by decide) (svaR hA M M) (off':=3) M)) ?_
  refine .cons (lop M M fun S hA=>(aG (d:=.slice _ _) M M (lb M) underlying24 ag24 ti24 (by decide) (svaR hA M M) (agi hA M M) (nle M) M)) ?_
  refine .cons (lop M M fun S hA=>(aO M M (lb M) underlying28 M ti24 (by decide) (svaR hA M M) (off':=3) M)) ?_
  refine .cons (lop M M fun S hA=>(aG (d:=.slice _ _) M M (lb M) underlying24 ag24 ti24 (by decide) (svaR hA M M) (agi hA M M) (nle M) M)) ?_
  refine .cons (lop M M fun S hA=>(cN aD (l:=a0.Pieces) M M (lb M) underlying24 (svaL hA M M))) ?_
  refine .cons (lop M M fun S hA=>(aO M M (lb M) underlying28 M ti24 (by decide) (svaR hA M M) (off':=3) M)) ?_
  refine .cons (lop M M fun S hA=>(aG (d:=.slice _ _) M M (lb M) underlying24 ag24 ti24 (by decide) (svaR hA M M) (agi hA M M) (nle M) M)) ?_
  refine .cons (lop M M fun S hA=>(cN aD (l:=a0.Pieces) M M (lb M) underlying24 (svaL hA M M))) ?_
  refine .cons (lop M M fun S hA=>(aDx aD M M (lb M) underlying24 ti52 (svaL hA M M) (svaI hA M M) (svaI hA M M) hx1)) ?_
  refine .cons (lop M M fun S hA=>(bY (cs:=q14) M M (lb M) underlying28 ag28 ti28 (by decide) (svaR hA M M) (agi hA M M) (nle M) M)) ?_
  refine .cons (lop M M fun S hA=>(aX (r:=.int _ _) M M (lb M) cl51 (.cons (svaA q14 hA M M) .nil) M (fY _ _ hx2))) ?_
  refine .cons (lop M M fun S hA=>(bY (cs:=q14) M M (lb M) underlying28 ag28 ti28 (by decide) (svaR hA M M) (agi hA M M) (nle M) M)) ?_
  refine .cons (lop M M fun S hA=>(aX (r:=.int _ _) M M (lb M) cl51 (.cons (svaA q14 hA M M) .nil) M (fY _ _ hx3))) ?_
  refine .cons (lop M M fun S hA=>(bN M M (lb M) (svaI hA M M) (sv (d:=.int _ 1) M) M hx4)) ?_
  refine .cons (lop M M fun S hA=>(cF (cs:=q19) M M (lb M) underlying52 ti52 pl52 M (.cons (svaI hA M M) (.cons (svaI hA M M) .nil)) M)) ?_
  refine .cons (lop M M fun S hA=>(kG aD.toEnc0 ([(⟨x2,x4,0,false⟩:aL)]:(List aL)) 2 M M (lb M) underlying24 ti52 (agi hA M M) (.cons (svaA q19 hA M M) .nil) M M (by decide))) ?_
  refine .cons (lop M M fun S hA=>(aFA aD.toEnc0 3 M M (lb M) underlying24 ti52 M (svaL hA M M) (agi hA M M) (rD aD.toEnc0 (agr hA M M) M (agi hA M M)) (by simp) hx5)) ?_
  refine .cons (lop M M fun S hA=>(lD M M (lb M) (.cons (svaR hA M M) .nil))) ?_
  refine .cons (lop M M fun S hA=>(uU (r:=.int .i64 x6) M M (lb M) cl94 (.cons (sv (d:=.osl _ _ _) (agr hA M M)) (.cons (sv (d:=.fn 95 [.ref _ _]) (agr hA M M)) .nil)) (.cons (FDT aD (agi hA M M) M) (.cons (.fn (.cons (.ref (agi hA M M) M (sJ _) M) .nil)) .nil)) M M (iW _ _ _ hx6))) ?_
  refine .cons (lop M M fun S hA=>(aE M M (lb M) (svaI hA M M))) ?_
  exact .nil
 refine aT ?_
 obtain rfl:=sj_ h
 refine ⟨.inr M,(.cons (sv M) .nil)⟩

set_option maxRecDepth 8000 in
set_option maxHeartbeats 4000000 in
theorem kY (a0:Int) (a1:List aL) (a2:List aL) (r:List aL) (h:fA a0 a1 a2=some r):FnH prog 57 [.osl 1000 aD.sz a2.length,.int .i64 a0,.slice false (a1.map aD.d)] [(1000,.blk 52 (D.flat (a2.map aD.d)))] (.osl 0 aD.sz r.length) [(0,.blk 52 (D.flat (r.map aD.d)))]:=by
 replace h:insS 32 a2 a0 a1=some r:=h
 obtain ⟨i,rfl,hi,hm,hb,hr⟩:=insS_e h
 have hX:=aD.toEnc0.flat_len a2
 have hV:=aD.toEnc0.flat_len a1
 have hp:=aD.pos
 have hvt:∀ k,a1.length ≤ k → (D.flat (a1.map aD.d)).take (min a1.length k * aD.sz)=D.flat (a1.map aD.d):=fun k hk=>by
  rw [Nat.min_eq_left hk,← hV,List.take_length]
 refine fN (rs:=[.osl 0 aD.sz r.length]) func57 M ntmps57 (nle M) fun O hO=>?_
 show IWP _ _ _ _ ⟨[(0,.osl 1000 aD.sz a2.length),(1,.int .i64 (i:Int)),(2,.slice false (a1.map aD.d))],[(1000,.blk 52 (D.flat (a2.map aD.d)))]⟩ _
 refine aAI 0 (id:=1000) (sz:=aD.sz) (n:=a2.length) M M hX (fun hn=>?_) (fun c hc hcm=>?_)
 ·
  obtain rfl:=List.length_eq_zero_iff.1 hn
  obtain rfl:i=0:=by simpa using hi
  refine aC (aA M (aE M M (lb M) (sv (d:=.nils) M)) <| aB ?_)
  refine aC (aA M (aK M M (lb M) (sv (d:=.nils) M)) <| aA M (mvI M M M M)<|aA M (uS aD (s:=[]) (r:=[]) (b:=false) M M (lb M) underlying24 ti52 (svn M) ⟨_,(svI M)⟩ M M) <| aB ?_)
  refine aC (aA M (mvL M M M M) <| aA M (cN aD (l:=a1) M M (lb M) underlying24 (svL M))<|aA M (asI M M M M) <| aB ?_)
  refine aW ?_
  refine aC (aA M (mvI M M M M) <| aA M (aP M M (lb M) (svI M) (sv (d:=.int _ 0) M) M M) <| aB ?_)
  refine aR (b:=_) M (fun h1=>?_) (fun h1=>?_)
  ·have h2:=of_decide_eq_true h1
   obtain rfl:=List.length_eq_zero_iff.1 (show a1.length=0 by omega)
   have hr':[]=r:=by simpa using hr
   subst hr'
   refine aC (aA M (aK M M (lb M) (sv (d:=.nils) M)) <| aA M (aE M M (lb M) (sv (d:=.nils) M)) <| aB ?_)
   refine aT ?_
   refine bA ?_
   refine ⟨.inr M,(fun i=>if i=0 then 50 else i),⟨.nil,(.cons (.nilb M) .nil),cA [50] M (by decide),(fun i hi=>by first | rfl | (show (if _ then _ else _)=_; (repeat' split) <;> omega))⟩,(.cons (svno M) .nil),M⟩
  ·refine aV ?_
   refine aM ?_
   refine aC (aA M (aK M M (lb M) (sv (d:=.nils) M)) <| aA M (cN aD (l:=[]) (b:=false) M M (lb M) underlying24 (svn M))<|aA M (asI M M M M) <| aB ?_)
   refine aW ?_
   refine aC (aA M (mvI M M M M) <| aA M (mvI M M M M) <| aA M (aP M M (lb M) (svI M) (svI M) M M) <| aB ?_)
   refine fV M M ?_
   have ha:app 32 ([]:List aL) a1=some r:=by
    rw [← hr]; unfold maxLen at hm; simpa using jY hm hb
   refine aC (aA M (aK M M (lb M) (sv (d:=.nils) M)) <| aA M (mvL M M M M)<|aA M (mO aD.toEnc0 0 M M (lb M) underlying24 ti52 M M M (aAp aD (ys:=a1) (svL M)) ha)<|aA M (aE M M (lb M) (sv (d:=.osl _ _ _) M)) <| aB ?_)
   refine aT ?_
   refine bA ?_
   refine ⟨.inr M,(fun i=>i),⟨.nil,(.cons (EntW.lst M) .nil),cA [0] M (by decide),fun _ _=>M⟩,(.cons (sv M) .nil),M⟩
 ·refine aC (aA M (aE M M (lb M) (sv (d:=.nils) M)) <| aB ?_)
  refine aC (aA M (aK M M (lb M) (sv (d:=.rsl _ _ _ _ _) M)) <| aA M (mvI M M M M)<|aA M (eI (sz:=aD.sz) (l:=(i:Int)) (h:=(a2.length:Int)) (m:=(c:Int)) M M (lb M) underlying24 ti52 (sv (d:=.rsl _ _ _ _ _) M) ⟨_,(svI M)⟩ M M (by simp) (by omega) (by omega) (by omega) (by omega) M) <| aB ?_)
  refine aC (aA M (mvL M M M M) <| aA M (cN aD (l:=a1) M M (lb M) underlying24 (svL M))<|aA M (asI M M M M) <| aB ?_)
  refine aW ?_
  refine aC (aA M (mvI M M M M) <| aA M (aP M M (lb M) (svI M) (sv (d:=.int _ 0) M) M M) <| aB ?_)
  refine aR (b:=_) M (fun h1=>?_) (fun h1=>?_)
  ·have h2:=of_decide_eq_true h1
   obtain rfl:=List.length_eq_zero_iff.1 (show a1.length=0 by omega)
   have hr':a2=r:=by simpa using hr
   subst hr'
   refine aC (aA M (aK M M (lb M) (sv (d:=.rsl _ _ _ _ _) M)) <| aA M (aE M M (lb M) (sv (d:=.rsl _ _ _ _ _) M)) <| aB ?_)
   refine rS 6 (id:=1000) M M hX ?_
   refine aT ?_
   refine bA ?_
   refine ⟨.inr M,(fun i=>if i=0 then 1000 else i),⟨.nil,(.cons (EntW.lst M) .nil),cA [1000] M (by decide),(fun i hi=>by first | rfl | (show (if _ then _ else _)=_; (repeat' split) <;> omega))⟩,(.cons (sv M) .nil),M⟩
  ·have h2:=of_decide_eq_false h1
   have hm0:0 < a1.length:=by omega
   refine aV ?_
   refine aM ?_
   refine aC (aA M (aK M M (lb M) (sv (d:=.rsl _ _ _ _ _) M)) <| aA M (qS M M (lb M) underlying24 (sv (d:=.rsl _ _ _ _ _) M) M)<|aA M (asI M M M M) <| aB ?_)
   refine aW ?_
   refine aC (aA M (mvI M M M M) <| aA M (mvI M M M M) <| aA M (aP M M (lb M) (svI M) (svI M) M M) <| aB ?_)
   refine aR (b:=_) M (fun h3=>?_) (fun h3=>?_)
   ·have h4:=of_decide_eq_true h3
    obtain rfl:i=a2.length:=by omega
    have hr':a2 ++ a1=r:=by simpa using hr
    have ha:app 32 a2 a1=some r:=by
     rw [← hr']; unfold maxLen at hm; exact jY hm hb
    refine aC (aA M (aK M M (lb M) (sv (d:=.rsl _ _ _ _ _) M)) <| aA M (mvL M M M M)<|aD5 23 (id:=1000) M M hX<|aA M (lQ aD.toEnc0 0 M M (lb M) underlying24 ti52 M M M M M (aAp aD (ys:=a1) (svL M)) ha)<|aA M (aE M M (lb M) (sv (d:=.osl _ _ _) M)) <| aB ?_)
    refine aT ?_
    refine bA ?_
    refine ⟨.inr M,(fun i=>i),⟨.nil,(.cons (EntW.lst M) .nil),cA [0] M (by decide),fun _ _=>M⟩,(.cons (sv M) .nil),M⟩
   ·have h4:=of_decide_eq_false h3
    have hin:i < a2.length:=by omega
    have hXt:(D.flat ((a2.take i).map aD.d)).length=i * aD.sz:=by rw [aD.toEnc0.flat_len,List.length_take,Nat.min_eq_left hi]
    have hXd:(D.flat ((a2.drop i).map aD.d)).length=(a2.length - i) * aD.sz:=by rw [aD.toEnc0.flat_len,List.length_drop]
    have hXs:D.flat (a2.map aD.d)=D.flat ((a2.take i).map aD.d) ++ D.flat ((a2.drop i).map aD.d):=by
     rw [aD.toEnc0.flat_append,List.take_append_drop]
    have hR:D.flat (r.map aD.d)=D.flat ((a2.take i).map aD.d) ++ D.flat (a1.map aD.d) ++ D.flat ((a2.drop i).map aD.d):=by
     rw [← hr,aD.toEnc0.flat_append,aD.toEnc0.flat_append]
    have hRl:(D.flat (r.map aD.d)).length=r.length * aD.sz:=aD.toEnc0.flat_len r
    have hrl:r.length=a2.length + a1.length:=by rw [← hr]; simp; omega
    refine aV ?_
    refine aM ?_
    refine aW ?_
    refine aC (aA M (mvI M M M M) <| aA M (mvI M M M M) <| aA M (bN M M (lb M) (svI M) (svI M) M (wN hm))<|aA M (aK M M (lb M) (sv (d:=.rsl _ _ _ _ _) M)) <| aA M (aB0 M M (lb M) underlying24 (sv (d:=.rsl _ _ _ _ _) M) M) <| aA M (aP M M (lb M) (svI M) (svI M) M M) <| aB ?_)
    refine aR (b:=_) M (fun h5=>?_) (fun h5=>?_)
    ·have h6:=of_decide_eq_true h5
     have hcn:c < a2.length + a1.length:=by omega
     obtain ⟨K,hK⟩:∃ K,K=a2.length + a1.length - i:=⟨_,rfl⟩
     have hKm:i + K=a2.length + a1.length:=by omega
     have w1:IntKind.wrap .i64 (((a2.length + a1.length:Nat):Int) - (i:Int))=(K:Int):=by rw [hK]; exact wS (by omega) hm
     have hD0:i * aD.sz ≤ (D.flat (a2.map aD.d) ++ List.replicate ((c - a2.length) * aD.sz) D.dead).length:=by
      rw [List.length_append,hX]; exact Nat.le_trans (Nat.mul_le_mul_right _ hi) (Nat.le_add_right _ _)
     have hT0:(D.flat (a2.map aD.d) ++ List.replicate ((c - a2.length) * aD.sz) D.dead).take (i * aD.sz)=D.flat ((a2.take i).map aD.d):=by
      rw [List.take_append_of_le_length (by rw [hX]; exact Nat.mul_le_mul_right _ hi),aD.toEnc0.flat_take]
     refine aC (aA M (aK M M (lb M) (sv (d:=.rsl _ _ _ _ _) M)) <| aA M (mvI M M M M)<|aA M (eI (sz:=aD.sz) (l:=0) (h:=(i:Int)) (m:=(c:Int)) (d:=.rsl 1000 aD.sz 0 i c) M M (lb M) underlying24 ti52 (sv (d:=.rsl _ _ _ _ _) M) M ⟨_,(svI M)⟩ M (by simp) (by omega) (by omega) (by omega) (by omega) (by simp only [Int.toNat_natCast,Int.toNat_zero,Nat.zero_mul,Nat.zero_add,Nat.sub_zero]))<|aA M (mvI M M M M) <| aA M (mvI M M M M) <| aA M (bN M M (lb M) (svI M) (svI M) M (wN hm))<|aA M (mvI M M M M) <| aA M (bN M M (lb M) (svI M) (svI M) M w1)<|aA M (aBM (sz:=aD.sz) (k:=K) 0 M M (lb M) underlying24 underlying3 ti52 M (sv (d:=.rsl _ _ _ _ _) M) M M (svI M) M (by omega) hD0 (by omega) (by rw [hKm]; exact hm) (by rw [hKm]; exact hb))<|aA M (aE M M (lb M) (sv (d:=.osl _ _ _) M)) <| aB ?_)
     have hY0:((D.flat (a2.map aD.d) ++ List.replicate ((c - a2.length) * aD.sz) D.dead).take (i * aD.sz) ++ List.replicate (K * aD.sz) D.dead).length=(i + K) * aD.sz:=by
      rw [List.length_append,List.length_take,List.length_replicate,Nat.min_eq_left hD0,Nat.add_mul]
     refine aAI 9 (id:=0) M M hY0 (fun h0=>absurd h0 (by omega)) (fun c1 hc1 hcm1=>?_)
     rw [hT0]
     rw [hT0] at hY0
     have w2:IntKind.wrap .i64 ((i:Int) + (a1.length:Int))=((i + a1.length:Nat):Int):=wN (by omega)
     have hKs:(K - a1.length) * aD.sz=(a2.length - i) * aD.sz:=by congr 1; omega
     obtain ⟨J,hJ⟩:∃ J,J=List.replicate ((c1 - (i + K)) * aD.sz) D.dead:=⟨_,rfl⟩
     obtain ⟨Z,hZ⟩:∃ Z,Z=List.replicate (K * aD.sz) D.dead:=⟨_,rfl⟩
     have hZl:Z.length=K * aD.sz:=by rw [hZ,List.length_replicate]
     have hKsp:K * aD.sz=a1.length * aD.sz + (a2.length - i) * aD.sz:=by rw [← Nat.add_mul]; congr 1; omega
     rw [← hJ,← hZ]
     have hYl:(D.flat ((a2.take i).map aD.d) ++ Z ++ J).length=i * aD.sz + K * aD.sz + J.length:=by simp only [List.length_append,hXt,hZl]
     refine aC (aA M (aK M M (lb M) (sv (d:=.rsl _ _ _ _ _) M)) <| aA M (mvI M M M M)<|aA M (eI (sz:=aD.sz) (l:=(i:Int)) (h:=((i + K:Nat):Int)) (m:=(c1:Int)) (d:=.rsl 0 aD.sz (i * aD.sz) K (c1 - i)) M M (lb M) underlying24 ti52 (sv (d:=.rsl _ _ _ _ _) M) ⟨_,(svI M)⟩ M M (by simp) (by omega) (by omega) (by omega) (by omega) (by simp only [Int.toNat_natCast,Nat.zero_add]; congr 1; omega))<|aA M (mvL M M M M)<|aA M (pC (sz:=aD.sz) (ds':=fH (D.flat ((a2.take i).map aD.d) ++ Z ++ J) (i * aD.sz) (D.flat (a1.map aD.d))) M M (lb M) underlying24 ti52 (sv (d:=.rsl _ _ _ _ _) M) M (aAp aD (ys:=a1) (svL M)) hV (vB (aD.toEnc0.one a1) _) (by rw [hYl]; omega) M (by rw [hvt _ (by omega)])) <| aB ?_)
     have e1:fH (D.flat ((a2.take i).map aD.d) ++ Z ++ J) (i * aD.sz) (D.flat (a1.map aD.d))=D.flat ((a2.take i).map aD.d) ++ D.flat (a1.map aD.d) ++ (Z.drop (a1.length * aD.sz) ++ J):=by
      have e2:D.flat ((a2.take i).map aD.d) ++ Z ++ J=D.flat ((a2.take i).map aD.d) ++ Z.take (a1.length * aD.sz) ++ (Z.drop (a1.length * aD.sz) ++ J):=by
       rw [List.append_assoc (D.flat ((a2.take i).map aD.d)),List.append_assoc (D.flat ((a2.take i).map aD.d)),← List.append_assoc (Z.take _),List.take_append_drop]
      rw [e2]; exact rE hXt (by rw [List.length_take,hZl,hV]; omega)
     have hres:=ins_new (J:=J) (Y:=D.flat ((a2.drop i).map aD.d)) hXt hV (show Z.length=a1.length * aD.sz + (D.flat ((a2.drop i).map aD.d)).length by rw [hZl,hXd,hKsp])
     have hlen1:(fH (D.flat ((a2.take i).map aD.d) ++ Z ++ J) (i * aD.sz) (D.flat (a1.map aD.d))).length=i * aD.sz + K * aD.sz + J.length:=by
      rw [e1]; simp only [List.length_append,hXt,hV,List.length_drop,hZl]; omega
     obtain ⟨Y1,hY1⟩:∃ Y1,Y1=fH (D.flat ((a2.take i).map aD.d) ++ Z ++ J) (i * aD.sz) (D.flat (a1.map aD.d)):=⟨_,rfl⟩
     rw [← hY1] at hlen1 hres ⊢
     obtain ⟨es,hes⟩:∃ es,es=((D.flat (a2.map aD.d) ++ List.replicate ((c - a2.length) * aD.sz) D.dead).drop (i * aD.sz)).take ((a2.length - i) * aD.sz):=⟨_,rfl⟩
     have hes':es=D.flat ((a2.drop i).map aD.d):=by
      rw [hes,List.drop_append_of_le_length (by rw [hX]; exact Nat.mul_le_mul_right _ hi),aD.toEnc0.flat_drop,List.take_append_of_le_length (by rw [hXd]; exact Nat.le_refl _),← hXd,List.take_length]
     have hfit2:i * aD.sz + (a2.length - i) * aD.sz ≤ (D.flat (a2.map aD.d) ++ List.replicate ((c - a2.length) * aD.sz) D.dead).length:=by
      rw [List.length_append,hX,← Nat.add_mul,show i + (a2.length - i)=a2.length by omega]; exact Nat.le_add_right _ _
     have him:(i + a1.length) * aD.sz=i * aD.sz + a1.length * aD.sz:=Nat.add_mul _ _ _
     refine dH M [⟨[9],[],[(46,.rsl 0 aD.sz 0 (i + K) c1)],[]⟩,⟨[1],[],[(47,.int .i64 (i:Int))],[]⟩,⟨[7],[],[(48,.int .i64 (a1.length:Int))],[]⟩,⟨[47,48],[],[(49,.int .i64 ((i + a1.length:Nat):Int))],[]⟩,
      ⟨[46,49],[],[(50,.rsl 0 aD.sz ((i + a1.length) * aD.sz) (K - a1.length) (c1 - (i + a1.length)))],[]⟩,⟨[0],[],[(51,.rsl 1000 aD.sz 0 a2.length c)],[]⟩,⟨[1],[],[(52,.int .i64 (i:Int))],[]⟩,⟨[51,52],[],[(53,.rsl 1000 aD.sz (i * aD.sz) (a2.length - i) (c - i))],[]⟩,
      ⟨[50,53],[0,1000],[(54,.int .i64 ((min (a2.length - i) (K - a1.length):Nat):Int))],[(0,.blk 52 (fH Y1 ((i + a1.length) * aD.sz) es))]⟩] M ?_ (by kernel_rfl) ?_
     ·refine .cons (lop M M fun S hA=>(aK M M (lb M) (sv (d:=.rsl _ _ _ _ _) (agr hA M M)))) ?_
      refine .cons (lop M M fun S hA=>(aK M M (lb M) (svaI hA M M))) ?_
      refine .cons (lop M M fun S hA=>(aK M M (lb M) (svaI hA M M))) ?_
      refine .cons (lop M M fun S hA=>(bN M M (lb M) (svaI hA M M) (svaI hA M M) M w2)) ?_
      refine .cons (lop M M fun S hA=>(eI (sz:=aD.sz) (l:=((i + a1.length:Nat):Int)) (h:=((i + K:Nat):Int)) (m:=(c1:Int)) (d:=.rsl 0 aD.sz ((i + a1.length) * aD.sz) (K - a1.length) (c1 - (i + a1.length))) M M (lb M) underlying24 ti52 (sv (d:=.rsl _ _ _ _ _) (agr hA M M)) ⟨_,(svaI hA M M)⟩ M M (by simp) (by omega) (by omega) (by omega) (by omega) (by simp only [Int.toNat_natCast,Nat.zero_add]; congr 1; omega))) ?_
      refine .cons (lop M M fun S hA=>(aK M M (lb M) (sv (d:=.rsl _ _ _ _ _) (agr hA M M)))) ?_
      refine .cons (lop M M fun S hA=>(aK M M (lb M) (svaI hA M M))) ?_
      refine .cons (lop M M fun S hA=>(eI (sz:=aD.sz) (l:=(i:Int)) (h:=(a2.length:Int)) (m:=(c:Int)) (d:=.rsl 1000 aD.sz (i * aD.sz) (a2.length - i) (c - i)) M M (lb M) underlying24 ti52 (sv (d:=.rsl _ _ _ _ _) (agr hA M M)) ⟨_,(svaI hA M M)⟩ M M (by simp) (by omega) (by omega) (by omega) (by omega) (by simp only [Int.toNat_natCast,Nat.zero_add]))) ?_
      refine .cons (lop M M fun S hA=>(pC (sz:=aD.sz) (es:=es) (ds':=fH Y1 ((i + a1.length) * aD.sz) es) M M (lb M) underlying24 ti52 (sv (d:=.rsl _ _ _ _ _) (agr hA M M)) (agi hA M M) (hes ▸ aBf (sv (d:=.rsl _ _ _ _ _) (agr hA M M)) (agi hA M M) hfit2) (by rw [hes',hXd]) (vB (by rw [hes']; exact aD.toEnc0.one _) _) (by rw [hlen1,him,hKs]; omega) M (by rw [show min (a2.length - i) (K - a1.length)=a2.length - i by omega,hes',← hXd,List.take_length]))) ?_
      exact .nil
     ·rw [hes',him,hres,← hR]
      refine aC (aA M (aK M M (lb M) (sv (d:=.rsl _ _ _ _ _) M)) <| aA M (aE M M (lb M) (sv (d:=.rsl _ _ _ _ _) M)) <| aB ?_)
      refine rS 6 (id:=0) M M (show (D.flat (r.map aD.d)).length=(i + K) * aD.sz by rw [hRl,hrl,hKm]) ?_
      refine aT ?_
      refine bA ?_
      refine ⟨.inr M,(fun i=>i),⟨.nil,(.cons (EntW.lst M) .nil),cA [0] M (by decide),fun _ _=>M⟩,(.cons (sv (congrArg (D.osl _ _) (show i + K=r.length by omega))) .nil),M⟩
    ·have h6:=of_decide_eq_false h5
     have hcn:a2.length + a1.length ≤ c:=by omega
     have w2:IntKind.wrap .i64 ((i:Int) + (a1.length:Int))=((i + a1.length:Nat):Int):=wN (by omega)
     have him:(i + a1.length) * aD.sz=i * aD.sz + a1.length * aD.sz:=Nat.add_mul _ _ _
     obtain ⟨J,hJ⟩:∃ J,J=List.replicate ((c - a2.length) * aD.sz) D.dead:=⟨_,rfl⟩
     have hJl:J.length=(c - a2.length) * aD.sz:=by rw [hJ,List.length_replicate]
     have hJm:a1.length * aD.sz ≤ J.length:=by rw [hJl]; exact Nat.mul_le_mul_right _ (by omega)
     have hni:a2.length * aD.sz=i * aD.sz + (a2.length - i) * aD.sz:=by rw [← Nat.add_mul]; congr 1; omega
     have hnm:(a2.length + a1.length - i) * aD.sz=(a2.length - i) * aD.sz + a1.length * aD.sz:=by rw [← Nat.add_mul]; congr 1; omega
     have hnm2:(a2.length + a1.length - (i + a1.length)) * aD.sz=(a2.length - i) * aD.sz:=by congr 1; omega
     rw [← hJ]
     have hD0:(D.flat (a2.map aD.d) ++ J).length=i * aD.sz + (a2.length - i) * aD.sz + J.length:=by rw [List.length_append,hX,hni]
     refine aV ?_
     refine aM ?_
     refine aC (aA M (aK M M (lb M) (sv (d:=.rsl _ _ _ _ _) M)) <| aA M (mvI M M M M) <| aA M (mvI M M M M)<|aA M (bN M M (lb M) (svI M) (svI M) M (wN hm))<|aA M (eI (sz:=aD.sz) (l:=0) (h:=((a2.length + a1.length:Nat):Int)) (m:=(c:Int)) (d:=.rsl 1000 aD.sz 0 (a2.length + a1.length) c) M M (lb M) underlying24 ti52 (sv (d:=.rsl _ _ _ _ _) M) M ⟨_,(svI M)⟩ M (by simp) (by omega) (by omega) (by omega) (by omega) (by simp only [Int.toNat_natCast,Int.toNat_zero,Nat.zero_mul,Nat.zero_add,Nat.sub_zero]))<|aA M (aE M M (lb M) (sv (d:=.rsl _ _ _ _ _) M)) <| aB ?_)
     refine aW ?_
     refine aC (aA M (mvL M M M M) <| aA M (aK M M (lb M) (sv (d:=.rsl _ _ _ _ _) M)) <| aA M (mvI M M M M) <| aA M (mvI M M M M)<|aA M (bN M M (lb M) (svI M) (svI M) M w2)<|aA M (eI (sz:=aD.sz) (l:=((i + a1.length:Nat):Int)) (h:=((a2.length + a1.length:Nat):Int)) (m:=(c:Int)) M M (lb M) underlying24 ti52 (sv (d:=.rsl _ _ _ _ _) M) ⟨_,(svI M)⟩ M M (by simp) (by omega) (by omega) (by omega) (by omega) M)<|aA M (aBE M M (lb M) ex92 underlying24 ti52 (svL M) (by intro e; have e9:=congrArg List.length e; rw [List.length_map,List.length_nil] at e9; omega) (sv (d:=.rsl _ _ _ _ _) M) M (by intro e; have:=congrArg List.length e; rw [hD0] at this; simp only [List.length_nil] at this; have h9:0 < (a2.length - i) * aD.sz:=Nat.mul_pos (Nat.sub_pos_of_lt hin) hp; clear hnm hnm2 him; omega))<|aA M (dN M M (lb M) (svB M)) <| aB ?_)
     refine fV M M ?_
     obtain ⟨es,hes⟩:∃ es,es=((D.flat (a2.map aD.d) ++ J).drop (i * aD.sz)).take ((a2.length + a1.length - i) * aD.sz):=⟨_,rfl⟩
     have hes':es.take ((a2.length - i) * aD.sz)=D.flat ((a2.drop i).map aD.d):=by
      rw [hes,List.take_take,Nat.min_eq_left (by omega),List.drop_append_of_le_length (by omega),aD.toEnc0.flat_drop,List.take_append_of_le_length (by rw [hXd]; exact Nat.le_refl _),← hXd,List.take_length]
     have hesl:es.length=(a2.length + a1.length - i) * aD.sz:=by
      rw [hes,List.length_take,List.length_drop,hD0]; omega
     have hres:=aD3 (J:=J) (Y:=D.flat ((a2.drop i).map aD.d)) hXt hV hJm
     rw [← hXs] at hres
     refine dH M [⟨[0],[],[(69,.rsl 1000 aD.sz 0 (a2.length + a1.length) c)],[]⟩,⟨[1],[],[(70,.int .i64 (i:Int))],[]⟩,⟨[7],[],[(71,.int .i64 (a1.length:Int))],[]⟩,⟨[70,71],[],[(72,.int .i64 ((i + a1.length:Nat):Int))],[]⟩,
      ⟨[69,72],[],[(73,.rsl 1000 aD.sz ((i + a1.length) * aD.sz) (a2.length + a1.length - (i + a1.length)) (c - (i + a1.length)))],[]⟩,⟨[0],[],[(74,.rsl 1000 aD.sz 0 (a2.length + a1.length) c)],[]⟩,⟨[1],[],[(75,.int .i64 (i:Int))],[]⟩,⟨[74,75],[],[(76,.rsl 1000 aD.sz (i * aD.sz) (a2.length + a1.length - i) (c - i))],[]⟩,
      ⟨[73,76],[1000],[(77,.int .i64 ((min (a2.length + a1.length - i) (a2.length + a1.length - (i + a1.length)):Nat):Int))],[(1000,.blk 52 (fH (D.flat (a2.map aD.d) ++ J) (i * aD.sz + a1.length * aD.sz) (D.flat ((a2.drop i).map aD.d))))]⟩] M ?_ (by kernel_rfl) ?_
     ·refine .cons (lop M M fun S hA=>(aK M M (lb M) (sv (d:=.rsl _ _ _ _ _) (agr hA M M)))) ?_
      refine .cons (lop M M fun S hA=>(aK M M (lb M) (svaI hA M M))) ?_
      refine .cons (lop M M fun S hA=>(aK M M (lb M) (svaI hA M M))) ?_
      refine .cons (lop M M fun S hA=>(bN M M (lb M) (svaI hA M M) (svaI hA M M) M w2)) ?_
      refine .cons (lop M M fun S hA=>(eI (sz:=aD.sz) (l:=((i + a1.length:Nat):Int)) (h:=((a2.length + a1.length:Nat):Int)) (m:=(c:Int)) (d:=.rsl 1000 aD.sz ((i + a1.length) * aD.sz) (a2.length + a1.length - (i + a1.length)) (c - (i + a1.length))) M M (lb M) underlying24 ti52 (sv (d:=.rsl _ _ _ _ _) (agr hA M M)) ⟨_,(svaI hA M M)⟩ M M (by simp) (by omega) (by omega) (by omega) (by omega) (by simp only [Int.toNat_natCast,Nat.zero_add]))) ?_
      refine .cons (lop M M fun S hA=>(aK M M (lb M) (sv (d:=.rsl _ _ _ _ _) (agr hA M M)))) ?_
      refine .cons (lop M M fun S hA=>(aK M M (lb M) (svaI hA M M))) ?_
      refine .cons (lop M M fun S hA=>(eI (sz:=aD.sz) (l:=(i:Int)) (h:=((a2.length + a1.length:Nat):Int)) (m:=(c:Int)) (d:=.rsl 1000 aD.sz (i * aD.sz) (a2.length + a1.length - i) (c - i)) M M (lb M) underlying24 ti52 (sv (d:=.rsl _ _ _ _ _) (agr hA M M)) ⟨_,(svaI hA M M)⟩ M M (by simp) (by omega) (by omega) (by omega) (by omega) (by simp only [Int.toNat_natCast,Nat.zero_add]))) ?_
      refine .cons (lop M M fun S hA=>(pC (sz:=aD.sz) (es:=es) (ds':=fH (D.flat (a2.map aD.d) ++ J) (i * aD.sz + a1.length * aD.sz) (D.flat ((a2.drop i).map aD.d))) M M (lb M) underlying24 ti52 (sv (d:=.rsl _ _ _ _ _) (agr hA M M)) (agi hA M M) (hes ▸ aBf (sv (d:=.rsl _ _ _ _ _) (agr hA M M)) (agi hA M M) (by rw [hD0]; omega)) hesl (by rw [show min (a2.length + a1.length - i) (a2.length + a1.length - (i + a1.length))=a2.length - i by omega,hes']; exact aD.toEnc0.one _) (by rw [hD0,him,hnm2]; omega) M (by rw [show min (a2.length + a1.length - i) (a2.length + a1.length - (i + a1.length))=a2.length - i by omega,hes',him]))) ?_
      exact .nil
     ·refine aC (aA M (aK M M (lb M) (sv (d:=.rsl _ _ _ _ _) M)) <| aA M (mvI M M M M)<|aA M (eI (sz:=aD.sz) (l:=(i:Int)) (h:=((a2.length + a1.length:Nat):Int)) (m:=(c:Int)) (d:=.rsl 1000 aD.sz (i * aD.sz) (a2.length + a1.length - i) (c - i)) M M (lb M) underlying24 ti52 (sv (d:=.rsl _ _ _ _ _) M) ⟨_,(svI M)⟩ M M (by simp) (by omega) (by omega) (by omega) (by omega) (by simp only [Int.toNat_natCast,Nat.zero_add]))<|aA M (mvL M M M M)<|aA M (pC (sz:=aD.sz) (ds':=D.flat (r.map aD.d) ++ J.drop (a1.length * aD.sz)) M M (lb M) underlying24 ti52 (sv (d:=.rsl _ _ _ _ _) M) M (aAp aD (ys:=a1) (svL M)) hV (vB (aD.toEnc0.one a1) _) (by rw [sY,hD0]; omega; rw [hD0,hXd]; omega) M (by rw [hvt _ (by omega),hres,hR])) <| aB ?_)
      refine aC (aA M (aK M M (lb M) (sv (d:=.rsl _ _ _ _ _) M)) <| aA M (aE M M (lb M) (sv (d:=.rsl _ _ _ _ _) M)) <| aB ?_)
      refine rS 6 (id:=1000) M M (show (D.flat (r.map aD.d)).length=(a2.length + a1.length) * aD.sz by rw [hRl,hrl]) ?_
      refine aT ?_
      refine bA ?_
      refine ⟨.inr M,(fun i=>if i=0 then 1000 else i),⟨.nil,(.cons (EntW.lst M) .nil),cA [1000] M (by decide),(fun i hi=>by first | rfl | (show (if _ then _ else _)=_; (repeat' split) <;> omega))⟩,(.cons (sv (congrArg (D.osl _ _) hrl.symm)) .nil),M⟩

theorem aBm (a0:aY) (a1:Int) (a2:Int) (a3:Int) (r:(aY × aL × (List UInt8) × Bool)) (h:nI a0 a1 a2 a3=some r):cJ prog 27 [.agg (v3 a0),.int .i64 a1,.int .i64 a2,.int .i64 a3] (retD [.agg (v3 r.1),.agg (v7 r.2.1),.str r.2.2.1,.bool r.2.2.2]):=by
 refine gW (rs:=[.agg (v3 r.1),.agg (v7 r.2.1),.str r.2.2.1,.bool r.2.2.2]) func27 M ntmps27 (nle M) M fun O hO=>?_
 show IWP _ _ _ _ ⟨[(0,.agg (v3 a0)),(1,.int .i64 a1),(2,.int .i64 a2),(3,.int .i64 a3)],[]⟩ _
 unfold nI at h
 refine aC (aA M (bV (cs:=q14) 0 M M (lb M) M (svA q14 M) M M)<|aA M (bI (cs:=q16) (cs':=(w40 0 [] 0 ([]:List aL) ([]:List aI) false false false false)) 1 M M (lb M) M ti28 M M (.k (.k (.k (.cons (.nils _) (.cons (.nils _) (.all _)))))))<|aA M (bI (cs:=q19) (cs':=(w44 0 0 0 false)) 2 M M (lb M) M ti52 M M (.all _))<|aA M (aE M M (lb M) (sv (d:=.str []) M))<|aA M (aE M M (lb M) (sv (d:=.bool false) M))<|aB ?_)
 obtain ⟨x1,hx1,h⟩:=aZ h
 refine aC (aA M (lra q14 la28 M M M M M (nle M) M)<|aA M (eN (r':=.agg (w41 x1.1 x1.2.1 x1.2.2.1 (.osl 3 aD.sz x1.2.2.2.1.length) x1.2.2.2.2.1 x1.2.2.2.2.2.1 x1.2.2.2.2.2.2.1 x1.2.2.2.2.2.2.2.1 x1.2.2.2.2.2.2.2.2)) (H1':=[(3,.blk 52 (D.flat (x1.2.2.2.1.map aD.d)))]) 3 [] M M (lb M) cl50 (.cons (svA q14 M) .nil) M M ⟨M,M,by decide,M,List.forall_mem_nil _⟩ (kU _ _ hx1) M M (List.forall_mem_cons.2 ⟨⟨M,(lL aD)⟩,List.forall_mem_nil _⟩) (by simp only [List.map_cons,List.map_nil,Ent.ren,fR,gL]; rfl))<|aA M (bI (cs:=q16) (cs':=(w40 0 [] 0 ([]:List aL) ([]:List aI) false false false false)) 4 M M (lb M) M ti28 M M (.k (.k (.k (.cons (.nils _) (.cons (.nils _) (.all _)))))))<|aA M (stA q15 q15 ti28 M M M M M M M M (nle M) M)<|aB ?_)
 refine aW ?_
 obtain ⟨x2,hx2,h⟩:=aZ h
 obtain ⟨x3,hx3,h⟩:=aS h
 obtain ⟨x4,hx4,h⟩:=aS h
 obtain ⟨x5,hx5,h⟩:=aZ h
 obtain ⟨x6,hx6,h⟩:=aS h
 obtain ⟨x7,hx7,h⟩:=aS h
 refine aC (aA M (mvI M M M M)<|aA M (aX (r:=.bool _) M M (lb M) cl52 (.cons (svI M) .nil) M (xM _ _ hx2))<|aA M (dN M M (lb M) (svB M))<|aA M (mvB M M M M)<|aF M M (.one M) M (by decide) (fun hb=>(mvI M M M M))<|aF M M (.one M) M (by decide) (fun hb=>(aP M M (lb M) (svcI M hb) (sv (d:=.int _ 1) M) M hx3))<|aA M (dT M M (lb M) (svB M) M M hx4)<|aA M (mvB M M M M)<|aF M M (.one M) M (by decide) (fun hb=>(lra q14 la28 M M M M M (nle M) M))<|aF M M (.one M) M (by decide) (fun hb=>(aX (r:=.int _ _) M M (lb M) cl39 (.cons (svcA (v3 a0) M hb) .nil) M (mC _ _ (gd_t hx5 hb))))<|aF M M (.one M) M (by decide) (fun hb=>(aP M M (lb M) (svcI M hb) (sv (d:=.int _ 0) M) M hx6))<|aA M (dT M M (lb M) (svB M) M M hx7)<|aB ?_)
 refine aR (b:=_) M (fun hc8=>?_) (fun hc8=>?_)
 ·
  replace h:=bS h hc8
  refine aC (aA M (lra q15 la28 M M M M M (nle M) M)<|aA M (cF (cs:=q19) M M (lb M) underlying52 ti52 pl52 M .nil M)<|aA M (stA q15 q15 ti28 M M M M M M M M (nle M) M)<|aA M (stA q19 q19 ti52 M M M M M M M M (nle M) M)<|aA M (aE M M (lb M) (sv (d:=.str []) M))<|aA M (aE M M (lb M) (sv (d:=.bool false) M))<|aB ?_)
  refine aT ?_
  refine bA ?_
  obtain rfl:=sj_ h
  refine ⟨.inr M,_,(.cons (rva la28 M M (nle M) M) (.cons (rva la52 M M (nle M) M) (.cons (sv M) (.cons (sv M) .nil)))),(.cons (.agg (.k (.k (.k (.cons (FDT aD M M) (.all _)))))) (.all _))⟩
 ·
  replace h:=bT h hc8
  refine aV ?_
  refine aM ?_
  obtain ⟨x9,hx9,h⟩:=aZ h
  refine aC (aA M (lra q14 la28 M M M M M (nle M) M)<|aA M (mvI M M M M)<|aA M (mvI M M M M)<|aA M (aX (r:=.tuple q36) M M (lb M) cl53 (.cons (svA q14 M) (.cons (svI M) (.cons (svI M) .nil))) M (pU _ _ _ _ hx9))<|aA M (aK M M (lb M) (sv (d:=.tuple q36) M))<|aA M (bD (d:=.agg q19) M M (lb M) (sv (d:=.tuple q36) M) M)<|aA M (bD (d:=.bool _) M M (lb M) (sv (d:=.tuple q36) M) M)<|aA M (bI (cs:=q19) (cs':=(w44 0 0 0 false)) 5 M M (lb M) M ti52 M M (.all _))<|aA M (stA q19 q19 ti52 M M M M M M M M (nle M) M)<|aA M (asB M M M M)<|aB ?_)
  refine aW ?_
  refine aC (aA M (mvB M M M M)<|aA M (dN M M (lb M) (svB M))<|aB ?_)
  refine aR (b:=_) M (fun hc10=>?_) (fun hc10=>?_)
  ·
   replace h:=bS h hc10
   refine aC (aA M (lra q15 la28 M M M M M (nle M) M)<|aA M (cF (cs:=q19) M M (lb M) underlying52 ti52 pl52 M .nil M)<|aA M (stA q15 q15 ti28 M M M M M M M M (nle M) M)<|aA M (stA q19 q19 ti52 M M M M M M M M (nle M) M)<|aA M (aE M M (lb M) (sv (d:=.str []) M))<|aA M (aE M M (lb M) (sv (d:=.bool false) M))<|aB ?_)
   refine aT ?_
   refine bA ?_
   obtain rfl:=sj_ h
   refine ⟨.inr M,_,(.cons (rva la28 M M (nle M) M) (.cons (rva la52 M M (nle M) M) (.cons (sv M) (.cons (sv M) .nil)))),(.cons (.agg (.k (.k (.k (.cons (FDT aD M M) (.all _)))))) (.all _))⟩
  ·
   replace h:=bT h hc10
   refine aV ?_
   refine aM ?_
   refine aC (aA M (mvI M M M M)<|aA M (faR 2 M M M underlying52 M ti3 (lb M) M M)<|aA M (bQ (ds':=q19) M M ti3 (svR M) M (svI M) M M M (nle M) M)<|aB ?_)
   obtain ⟨x11,hx11,h⟩:=aS h
   refine aC (aA M (faR 2 M M M underlying28 M ti3 (lb M) M M)<|aA M (aG (d:=.int _ _) M M (lb M) underlying3 ag3 ti3 (by decide) (svR M) M (nle M) M)<|aA M (faR 1 M M M underlying52 M ti3 (lb M) M M)<|aA M (aG (d:=.int _ _) M M (lb M) underlying3 ag3 ti3 (by decide) (svR M) M (nle M) M)<|aA M (qR M M (lb M) (svI M) (svI M) hx11)<|aA M (faR 2 M M M underlying28 M ti3 (lb M) M M)<|aA M (bQ (ds':=q15) M M ti3 (svR M) M (svI M) M M M (nle M) M)<|aB ?_)
   refine gP (α:=(List aI)) (fun z=>⟨[(4,.ref 0 0),(8,.ref 1 0),(9,.ref 2 0),(12,.ref 4 0),(13,.ref 5 0)],[(0,.blk 28 (v3 a0)),(1,.blk 28 (w40 0 [] 0 ([]:List aL) ([]:List aI) false false false false)),(2,.blk 52 (w44 0 0 0 false)),(4,.blk 28 (w41 x1.1 x1.2.1 x11 (.osl 3 aD.sz x1.2.2.2.1.length) z x1.2.2.2.2.2.1 x1.2.2.2.2.2.2.1 x1.2.2.2.2.2.2.2.1 x1.2.2.2.2.2.2.2.2)),(5,.blk 52 (w44 x9.1.From x9.1.To a1 x9.1.Fin)),(3,.blk 52 (D.flat (x1.2.2.2.1.map aD.d)))]⟩) (fun z=>lZ a0 a1 x1 x9 x11 z=some r) ?_ ?_
   ·
    obtain ⟨x35,hx35,h⟩:=aS h
    refine aC (aA M (faR 0 M M M underlying52 M ti3 (lb M) M M)<|aA M (aG (d:=.int _ _) M M (lb M) underlying3 ag3 ti3 (by decide) (svR M) M (nle M) M)<|aA M (faR 1 M M M underlying52 M ti3 (lb M) M M)<|aA M (aG (d:=.int _ _) M M (lb M) underlying3 ag3 ti3 (by decide) (svR M) M (nle M) M)<|aA M (aP M M (lb M) (svI M) (svI M) M hx35)<|aB ?_)
    refine aR (b:=_) M (fun hc36=>?_) (fun hc36=>?_)
    ·
     replace h:=bS h hc36
     obtain ⟨x37,hx37,h⟩:=aZ h
     obtain ⟨x38,hx38,h⟩:=aZ h
     refine qO M [⟨[12],[],[(55,.ref 4 4)],[]⟩,
      ⟨[55],[4],[(56,.slice false (x1.2.2.2.2.1.map aJ.d))],[]⟩,
      ⟨[13],[5],[(57,.agg (w44 x9.1.From x9.1.To a1 x9.1.Fin))],[]⟩,
      ⟨[57],[],[(58,.agg [.int .i64 x37.From,.int .i64 x37.To])],[]⟩,
      ⟨[56,58],[],[(59,.slice false (x38.map aJ.d))],[]⟩,
      ⟨[12],[],[(60,.ref 4 4)],[]⟩,
      ⟨[59,60],[4],[],[(4,.blk 28 (w41 x1.1 x1.2.1 x11 (.osl 3 aD.sz x1.2.2.2.1.length) x38 x1.2.2.2.2.2.1 x1.2.2.2.2.2.2.1 x1.2.2.2.2.2.2.2.1 x1.2.2.2.2.2.2.2.2))]⟩] M ?_ (by kernel_rfl) ?_
     ·refine .cons (lop M M fun S hA=>(aO M M (lb M) underlying28 M ti26 (by decide) (svaR hA M M) (off':=4) M)) ?_
      refine .cons (lop M M fun S hA=>(aG (d:=.slice _ _) M M (lb M) underlying26 ag26 ti26 (by decide) (svaR hA M M) (agi hA M M) (nle M) M)) ?_
      refine .cons (lop M M fun S hA=>(bY (cs:=q19) M M (lb M) underlying52 ag52 ti52 (by decide) (svaR hA M M) (agi hA M M) (nle M) M)) ?_
      refine .cons (lop M M fun S hA=>(aX (r:=.agg q27) M M (lb M) cl55 (.cons (svaA q19 hA M M) .nil) M (lI _ _ hx37))) ?_
      refine .cons (lop M M fun S hA=>(aX (r:=.slice _ _) M M (lb M) cl54 (.cons (svaL hA M M) (.cons (svaA q27 hA M M) .nil)) M (tJ _ _ _ hx38))) ?_
      refine .cons (lop M M fun S hA=>(aO M M (lb M) underlying28 M ti26 (by decide) (svaR hA M M) (off':=4) M)) ?_
      refine .cons (lop M M fun S hA=>(bQ (ds':=q15) M M ti26 (svaR hA M M) (agi hA M M) (svaL hA M M) M M M (nle M) M)) ?_
      exact .nil
     refine aM ⟨x38,(fun i=>i),⟨(.sames M M),(.cons (.blk M M M) (.cons (.blk M M M) (.cons (.blk M M M) (.cons (.blk M M M) (.cons (.blk M M M) (.cons (EntW.lst M) .nil)))))),cA [0,1,2,4,5,3] M (by decide),fun _ _=>M⟩,?_⟩
     exact h
    ·
     replace h:=bT h hc36
     refine aV ?_
     refine aM ⟨x1.2.2.2.2.1,(fun i=>i),⟨(.sames M M),(.cons (.blk M M M) (.cons (.blk M M M) (.cons (.blk M M M) (.cons (.blk M M M) (.cons (.blk M M M) (.cons (EntW.lst M) .nil)))))),cA [0,1,2,4,5,3] M (by decide),fun _ _=>M⟩,?_⟩
     exact h
   ·
    rintro v16 h
    unfold lZ at h
    refine gP (α:=Bool × Bool × Bool) (fun z=>⟨[(4,.ref 0 0),(8,.ref 1 0),(9,.ref 2 0),(12,.ref 4 0),(13,.ref 5 0)],[(0,.blk 28 (v3 a0)),(1,.blk 28 (w40 0 [] 0 ([]:List aL) ([]:List aI) false false false false)),(2,.blk 52 (w44 0 0 0 false)),(4,.blk 28 (w41 x1.1 x1.2.1 x11 (.osl 3 aD.sz x1.2.2.2.1.length) v16 x1.2.2.2.2.2.1 z.1 z.2.1 x1.2.2.2.2.2.2.2.2)),(5,.blk 52 (w44 x9.1.From x9.1.To a1 z.2.2)),(3,.blk 52 (D.flat (x1.2.2.2.1.map aD.d)))]⟩) (fun z=>jV a0 a1 x1 x9 x11 v16 z.1 z.2.1 z.2.2=some r) ?_ ?_
    ·
     obtain ⟨x30,hx30,h⟩:=aZ h
     obtain ⟨x31,hx31,h⟩:=aS h
     obtain ⟨x32,hx32,h⟩:=aZ h
     obtain ⟨x33,hx33,h⟩:=aS h
     refine dH M [⟨[13],[],[(61,.ref 5 1)],[]⟩,
      ⟨[61],[5],[(62,.int .i64 x9.1.To)],[]⟩,
      ⟨[4],[0],[(63,.agg (v3 a0))],[]⟩,
      ⟨[63],[],[(64,.int .i64 x30)],[]⟩,
      ⟨[62,64],[],[(65,.bool x31)],[]⟩,
      ⟨[65],[],[(66,.bool x31)],[]⟩,
      ⟨[4,66],[0],[(67,.cnd (x31 == true) (.agg (v3 a0)))],[]⟩,
      ⟨[66,67],[],[(68,.cnd (x31 == true) (.bool x32))],[]⟩,
      ⟨[66,68],[],[(69,.bool x33)],[]⟩,
      ⟨[13],[],[(70,.ref 5 3)],[]⟩,
      ⟨[69,70],[5],[],[(5,.blk 52 (w44 x9.1.From x9.1.To a1 x33))]⟩] M ?_ (by kernel_rfl) ?_
     ·refine .cons (lop M M fun S hA=>(aO M M (lb M) underlying52 M ti3 (by decide) (svaR hA M M) (off':=1) M)) ?_
      refine .cons (lop M M fun S hA=>(aG (d:=.int _ _) M M (lb M) underlying3 ag3 ti3 (by decide) (svaR hA M M) (agi hA M M) (nle M) M)) ?_
      refine .cons (lop M M fun S hA=>(bY (cs:=q14) M M (lb M) underlying28 ag28 ti28 (by decide) (svaR hA M M) (agi hA M M) (nle M) M)) ?_
      refine .cons (lop M M fun S hA=>(aX (r:=.int _ _) M M (lb M) cl51 (.cons (svaA q14 hA M M) .nil) M (fY _ _ hx30))) ?_
      refine .cons (lop M M fun S hA=>(aP M M (lb M) (svaI hA M M) (svaI hA M M) M hx31)) ?_
      refine .cons (lop M M fun S hA=>(aK M M (lb M) (svaB hA M M))) ?_
      refine .cons (lopg M M M M (by decide) (fun S hA=>grd1 hA M M) (fun S hA hb=>(bY (cs:=q14) M M (lb M) underlying28 ag28 ti28 (by decide) (svaR hA M M) (agi hA M M) (nle M) M))) ?_
      refine .cons (lopg M M M M (by decide) (fun S hA=>grd1 hA M M) (fun S hA hb=>(aX (r:=.bool _) M M (lb M) cl56 (.cons (svc (d:=.agg (v3 a0)) (agr hA M M) hb) .nil) M (qX _ _ (gd_t hx32 hb))))) ?_
      refine .cons (lop M M fun S hA=>(cC M M (lb M) (svaB hA M M) (agr hA M M) M hx33)) ?_
      refine .cons (lop M M fun S hA=>(aO M M (lb M) underlying52 M ti4 (by decide) (svaR hA M M) (off':=3) M)) ?_
      refine .cons (lop M M fun S hA=>(bQ (ds':=q19) M M ti4 (svaR hA M M) (agi hA M M) (svaB hA M M) M M M (nle M) M)) ?_
      exact .nil
     refine aC (aA M (faR 3 M M M underlying52 M ti4 (lb M) M M)<|aA M (aG (d:=.bool _) M M (lb M) underlying4 ag4 ti4 (by decide) (svR M) M (nle M) M)<|aB ?_)
     refine aR (b:=_) M (fun hc34=>?_) (fun hc34=>?_)
     ·
      replace h:=bS h hc34
      refine bE (aA M (faR 6 M M M underlying28 M ti4 (lb M) M M)<|aA M (bQ (ds':=q15) M M ti4 (svR M) M (sv (d:=.bool true) M) M M M (nle M) M)<|aA M (faR 7 M M M underlying28 M ti4 (lb M) M M)<|aA M (bQ (ds':=q15) M M ti4 (svR M) M (sv (d:=.bool false) M) M M M (nle M) M)<|cB ?_)
      refine aM ⟨(true,false,x33),(fun i=>i),⟨(.sames M M),(.cons (.blk M M M) (.cons (.blk M M M) (.cons (.blk M M M) (.cons (.blk M M M) (.cons (.blk M M M) (.cons (EntW.lst M) .nil)))))),cA [0,1,2,4,5,3] M (by decide),fun _ _=>M⟩,?_⟩
      exact h
     ·
      replace h:=bT h hc34
      refine aV ?_
      refine aM ⟨(x1.2.2.2.2.2.2.1,x1.2.2.2.2.2.2.2.1,x33),(fun i=>i),⟨(.sames M M),(.cons (.blk M M M) (.cons (.blk M M M) (.cons (.blk M M M) (.cons (.blk M M M) (.cons (.blk M M M) (.cons (EntW.lst M) .nil)))))),cA [0,1,2,4,5,3] M (by decide),fun _ _=>M⟩,?_⟩
      exact h
    ·
     rintro ⟨v22,v23,v24⟩ h
     unfold jV at h
     obtain ⟨x25,hx25,h⟩:=aZ h
     obtain ⟨x26,hx26,h⟩:=aZ h
     refine dH M [⟨[12],[],[(75,.ref 4 3)],[]⟩,
      ⟨[75],[4],[(76,.osl 3 aD.sz x1.2.2.2.1.length)],[]⟩,
      ⟨[4],[0],[(77,.agg (v3 a0))],[]⟩,
      ⟨[13],[5],[(78,.agg (w44 x9.1.From x9.1.To a1 v24))],[]⟩,
      ⟨[77,78],[],[(79,.int .i64 x25)],[]⟩,
      ⟨[13],[5],[(80,.agg (w44 x9.1.From x9.1.To a1 v24))],[]⟩,
      ⟨[80],[6],[(81,.gsl 6 aD.sz ((([(⟨x9.1.From,x9.1.To,a1,v24⟩:aL)]:(List aL))).map aD.d))],[(6,.tail 52 aD.sz (([(⟨x9.1.From,x9.1.To,a1,v24⟩:aL)]:(List aL))).length)]⟩,
      ⟨[76,79,81],[3,7],[(82,.osl 7 aD.sz x26.length)],[(7,.blk 52 (D.flat (x26.map aD.d))),(3,.none)]⟩,
      ⟨[12],[],[(83,.ref 4 3)],[]⟩,
      ⟨[82,83],[4],[],[(4,.blk 28 (w41 x1.1 x1.2.1 x11 (.osl 7 aD.sz x26.length) v16 x1.2.2.2.2.2.1 v22 v23 x1.2.2.2.2.2.2.2.2))]⟩] M ?_ (by kernel_rfl) ?_
     ·refine .cons (lop M M fun S hA=>(aO M M (lb M) underlying28 M ti24 (by decide) (svaR hA M M) (off':=3) M)) ?_
      refine .cons (lop M M fun S hA=>(aG (d:=.osl _ _ _) M M (lb M) underlying24 ag24 ti24 (by decide) (svaR hA M M) (agi hA M M) (nle M) M)) ?_
      refine .cons (lop M M fun S hA=>(bY (cs:=q14) M M (lb M) underlying28 ag28 ti28 (by decide) (svaR hA M M) (agi hA M M) (nle M) M)) ?_
      refine .cons (lop M M fun S hA=>(bY (cs:=q19) M M (lb M) underlying52 ag52 ti52 (by decide) (svaR hA M M) (agi hA M M) (nle M) M)) ?_
      refine .cons (lop M M fun S hA=>(aX (r:=.int _ _) M M (lb M) cl58 (.cons (svaA q14 hA M M) (.cons (svaA q19 hA M M) .nil)) M (tZ _ _ _ hx25))) ?_
      refine .cons (lop M M fun S hA=>(bY (cs:=q19) M M (lb M) underlying52 ag52 ti52 (by decide) (svaR hA M M) (agi hA M M) (nle M) M)) ?_
      refine .cons (lop M M fun S hA=>(oP aD ([(⟨x9.1.From,x9.1.To,a1,v24⟩:aL)]:(List aL)) 6 M M (lb M) underlying24 ti52 (agi hA M M) (.cons (svaA q19 hA M M) .nil) M M (by decide))) ?_
      refine .cons (lop M M fun S hA=>(aD0 (r':=.osl 7 aD.sz x26.length) (U:=[(7,.blk 52 (D.flat (x26.map aD.d))),(3,.none)]) 7 1 [3] M M (lb M) cl57 (.cons (sv (d:=.osl _ _ _) (agr hA M M)) (.cons (svaI hA M M) (.cons (svg (agr hA M M)) .nil))) M M M (List.forall_mem_cons.2 ⟨(agi hA M M),List.forall_mem_nil _⟩) ⟨by decide,M,List.forall_mem_cons.2 ⟨⟨M,M,(aB1 aD (agi hA M M)),(lL aD)⟩,List.forall_mem_nil _⟩⟩ (kY _ _ _ _ hx26) M M (List.forall_mem_cons.2 ⟨⟨M,(lL aD)⟩,List.forall_mem_nil _⟩) (by simp only [List.map_cons,List.map_nil,Ent.ren,fR,gL]; rfl))) ?_
      refine .cons (lop M M fun S hA=>(aO M M (lb M) underlying28 M ti24 (by decide) (svaR hA M M) (off':=3) M)) ?_
      refine .cons (lop M M fun S hA=>(bQ (ds':=q15) M M ti24 (svaR hA M M) (agi hA M M) (sv (d:=.osl _ _ _) (agr hA M M)) M M M (nle M) M)) ?_
      exact .nil
     obtain ⟨x27,hx27,h⟩:=aS h
     obtain ⟨x28,hx28,h⟩:=aS h
     obtain ⟨x29,hx29,h⟩:=aZ h
     refine dH M [⟨[12],[4],[(84,.agg (w41 x1.1 x1.2.1 x11 (.osl 7 aD.sz x26.length) v16 x1.2.2.2.2.2.1 v22 v23 x1.2.2.2.2.2.2.2.2))],[]⟩,
      ⟨[13],[5],[(85,.agg (w44 x9.1.From x9.1.To a1 v24))],[]⟩,
      ⟨[4],[],[(86,.ref 0 1)],[]⟩,
      ⟨[86],[0],[(87,.str a0.Data)],[]⟩,
      ⟨[13],[],[(88,.ref 5 0)],[]⟩,
      ⟨[88],[5],[(89,.int .i64 x9.1.From)],[]⟩,
      ⟨[4],[],[(90,.ref 0 0)],[]⟩,
      ⟨[90],[0],[(91,.int .i64 a0.Base)],[]⟩,
      ⟨[89,91],[],[(92,.int .i64 x27)],[]⟩,
      ⟨[13],[],[(93,.ref 5 1)],[]⟩,
      ⟨[93],[5],[(94,.int .i64 x9.1.To)],[]⟩,
      ⟨[4],[],[(95,.ref 0 0)],[]⟩,
      ⟨[95],[0],[(96,.int .i64 a0.Base)],[]⟩,
      ⟨[94,96],[],[(97,.int .i64 x28)],[]⟩,
      ⟨[87,92,97],[],[(98,.str x29)],[]⟩,
      ⟨[8,84],[1],[],[(1,.blk 28 (w41 x1.1 x1.2.1 x11 (.osl 7 aD.sz x26.length) v16 x1.2.2.2.2.2.1 v22 v23 x1.2.2.2.2.2.2.2.2))]⟩,
      ⟨[9,85],[2],[],[(2,.blk 52 (w44 x9.1.From x9.1.To a1 v24))]⟩,
      ⟨[98],[],[(10,.str x29)],[]⟩,
      ⟨[],[],[(11,.bool true)],[]⟩] M ?_ (by kernel_rfl) ?_
     ·refine .cons (lop M M fun S hA=>(bY (cs:=q15) M M (lb M) underlying28 ag28 ti28 (by decide) (svaR hA M M) (agi hA M M) (nle M) M)) ?_
      refine .cons (lop M M fun S hA=>(bY (cs:=q19) M M (lb M) underlying52 ag52 ti52 (by decide) (svaR hA M M) (agi hA M M) (nle M) M)) ?_
      refine .cons (lop M M fun S hA=>(aO M M (lb M) underlying28 M ti9 (by decide) (svaR hA M M) (off':=1) M)) ?_
      refine .cons (lop M M fun S hA=>(aG (d:=.str _) M M (lb M) underlying9 ag9 ti9 (by decide) (svaR hA M M) (agi hA M M) (nle M) M)) ?_
      refine .cons (lop M M fun S hA=>(aO M M (lb M) underlying52 M ti3 (by decide) (svaR hA M M) (off':=0) M)) ?_
      refine .cons (lop M M fun S hA=>(aG (d:=.int _ _) M M (lb M) underlying3 ag3 ti3 (by decide) (svaR hA M M) (agi hA M M) (nle M) M)) ?_
      refine .cons (lop M M fun S hA=>(aO M M (lb M) underlying28 M ti3 (by decide) (svaR hA M M) (off':=0) M)) ?_
      refine .cons (lop M M fun S hA=>(aG (d:=.int _ _) M M (lb M) underlying3 ag3 ti3 (by decide) (svaR hA M M) (agi hA M M) (nle M) M)) ?_
      refine .cons (lop M M fun S hA=>(bN M M (lb M) (svaI hA M M) (svaI hA M M) M hx27)) ?_
      refine .cons (lop M M fun S hA=>(aO M M (lb M) underlying52 M ti3 (by decide) (svaR hA M M) (off':=1) M)) ?_
      refine .cons (lop M M fun S hA=>(aG (d:=.int _ _) M M (lb M) underlying3 ag3 ti3 (by decide) (svaR hA M M) (agi hA M M) (nle M) M)) ?_
      refine .cons (lop M M fun S hA=>(aO M M (lb M) underlying28 M ti3 (by decide) (svaR hA M M) (off':=0) M)) ?_
      refine .cons (lop M M fun S hA=>(aG (d:=.int _ _) M M (lb M) underlying3 ag3 ti3 (by decide) (svaR hA M M) (agi hA M M) (nle M) M)) ?_
      refine .cons (lop M M fun S hA=>(bN M M (lb M) (svaI hA M M) (svaI hA M M) M hx28)) ?_
      refine .cons (lop M M fun S hA=>(jO M M (lb M) underlying9 (sv (d:=.str _) (agr hA M M)) ⟨_,(svaI hA M M)⟩ ⟨_,(svaI hA M M)⟩ hx29)) ?_
      refine .cons (lop M M fun S hA=>(bQ (ds':=q15) M M ti28 (svaR hA M M) (agi hA M M) (svaA q15 hA M M) M M M (nle M) M)) ?_
      refine .cons (lop M M fun S hA=>(bQ (ds':=q19) M M ti52 (svaR hA M M) (agi hA M M) (svaA q19 hA M M) M M M (nle M) M)) ?_
      refine .cons (lop M M fun S hA=>(aE M M (lb M) (sv (d:=.str _) (agr hA M M)))) ?_
      refine .cons (lop M M fun S hA=>(aE M M (lb M) (sv (d:=.bool true) M))) ?_
      exact .nil
     refine aT ?_
     obtain rfl:=sj_ h
     refine ⟨.inr M,_,(.cons (rva la28 M M (nle M) M) (.cons (rva la52 M M (nle M) M) (.cons (sv M) (.cons (sv M) .nil)))),(.cons (.agg (.k (.k (.k (.cons (FDT aD M M) (.all _)))))) (.all _))⟩

theorem uF (a0:aY) (a1:Int) (a2:Int) (a3:aL) (a4:(List UInt8)) (a5:Bool) (r:(aY × aL × (List UInt8) × Bool)) (h:lR a0 a1 a2 a3 a4 a5=some r):FnH prog 26 [.agg (v3 a0),.ref 1000 0,.ref 1001 0,.ref 1002 0,.ref 1003 0,.ref 1004 0] [(1000,.blk 3 [.int .i64 a1]),(1001,.blk 3 [.int .i64 a2]),(1002,.blk 52 (v7 a3)),(1003,.blk 9 [.str a4]),(1004,.blk 4 [.bool a5])] (.agg (v3 r.1)) [(1000,.blk 3 [.int .i64 a1]),(1001,.blk 3 [.int .i64 a2]),(1002,.blk 52 (v7 r.2.1)),(1003,.blk 9 [.str r.2.2.1]),(1004,.blk 4 [.bool r.2.2.2])]:=by
 refine fN (rs:=[.agg (v3 r.1)]) func26 M ntmps26 (nle M) fun O hO=>?_
 show IWP _ _ _ _ ⟨[(0,.agg (v3 a0)),(1,.ref 1000 0),(2,.ref 1001 0),(3,.ref 1002 0),(4,.ref 1003 0),(5,.ref 1004 0)],[(1000,.blk 3 [.int .i64 a1]),(1001,.blk 3 [.int .i64 a2]),(1002,.blk 52 (v7 a3)),(1003,.blk 9 [.str a4]),(1004,.blk 4 [.bool a5])]⟩ _
 unfold lR at h
 refine aC (aA M (bV (cs:=q14) 0 M M (lb M) M (svA q14 M) M M)<|aA M (bI (cs:=q16) (cs':=(w40 0 [] 0 ([]:List aL) ([]:List aI) false false false false)) 1 M M (lb M) M ti28 M M (.k (.k (.k (.cons (.nils _) (.cons (.nils _) (.all _)))))))<|aB ?_)
 obtain ⟨x1,hx1,h⟩:=aZ h
 refine aC (aA M (lra q14 la28 M M M M M (nle M) M)<|aA M (aG (d:=.int _ _) M M (lb M) underlying3 ag3 ti3 (by decide) (svR M) M (nle M) M)<|aA M (aG (d:=.int _ _) M M (lb M) underlying3 ag3 ti3 (by decide) (svR M) M (nle M) M)<|aA M (aX (r:=.tuple q30) M M (lb M) cl27 (.cons (svA q14 M) (.cons (svI M) (.cons (svI M) (.cons (sv (d:=.int _ 1099511627776) M) .nil)))) M (aBm _ _ _ _ _ hx1))<|aA M (aK M M (lb M) (sv (d:=.tuple q30) M))<|aA M (bD (d:=.agg q14) M M (lb M) (sv (d:=.tuple q30) M) M)<|aA M (bD (d:=.agg q19) M M (lb M) (sv (d:=.tuple q30) M) M)<|aA M (bD (d:=.str _) M M (lb M) (sv (d:=.tuple q30) M) M)<|aA M (bD (d:=.bool _) M M (lb M) (sv (d:=.tuple q30) M) M)<|aA M (stA q14 q14 ti28 M M M M M M M M (nle M) M)<|aA M (stA q19 q19 ti52 M M M M M M M M (nle M) M)<|aA M (bQ (ds':=[.str _]) M M ti9 (svR M) M (sv (d:=.str _) M) M M M (nle M) M)<|aA M (bQ (ds':=[.bool _]) M M ti4 (svR M) M (svB M) M M M (nle M) M)<|aB ?_)
 refine aC (aA M (lra q14 la28 M M M M M (nle M) M)<|aA M (stA q14 q14 ti28 M M M M M M M M (nle M) M)<|aB ?_)
 refine aT ?_
 obtain rfl:=sj_ h
 refine ⟨.inr M,(fun i=>i),⟨.nil,(.cons (.blk M M M) (.cons (.blk M M M) (.cons (.blk M M M) (.cons (.blk M M M) (.cons (.blk M M M) .nil))))),cA [1000,1001,1002,1003,1004] M (by decide),fun _ _=>M⟩,(.cons (rva la28 M M (nle M) M) .nil),M⟩

theorem nS (a0:bB) (a1:Int) (a2:Int) (a3:aL) (a4:(List UInt8)) (a5:Bool) (r:(bB × aL × (List UInt8) × Bool)) (h:fT a0 a1 a2 a3 a4 a5=some r):FnH prog 25 [.agg (v0 a0),.fn 26 [.ref 1000 0,.ref 1001 0,.ref 1002 0,.ref 1003 0,.ref 1004 0]] [(1000,.blk 3 [.int .i64 a1]),(1001,.blk 3 [.int .i64 a2]),(1002,.blk 52 (v7 a3)),(1003,.blk 9 [.str a4]),(1004,.blk 4 [.bool a5])] (.agg (v0 r.1)) [(1000,.blk 3 [.int .i64 a1]),(1001,.blk 3 [.int .i64 a2]),(1002,.blk 52 (v7 r.2.1)),(1003,.blk 9 [.str r.2.2.1]),(1004,.blk 4 [.bool r.2.2.2])]:=by
 refine fN (rs:=[.agg (v0 r.1)]) func25 M ntmps25 (nle M) fun O hO=>?_
 show IWP _ _ _ _ ⟨[(0,.agg (v0 a0)),(1,.fn 26 [.ref 1000 0,.ref 1001 0,.ref 1002 0,.ref 1003 0,.ref 1004 0])],[(1000,.blk 3 [.int .i64 a1]),(1001,.blk 3 [.int .i64 a2]),(1002,.blk 52 (v7 a3)),(1003,.blk 9 [.str a4]),(1004,.blk 4 [.bool a5])]⟩ _
 unfold fT at h
 refine aC (aA M (bV (cs:=q9) 0 M M (lb M) M (svA q9 M) M M)<|aA M (bI (cs:=q10) (cs':=(w38 0 [] 0 ([]:List aL) ([]:List aI) false false false false 0 [] ([]:List aU) 0 [] 0 0)) 1 M M (lb M) M ti38 M M (.k (.k (.k (.cons (.nils _) (.cons (.nils _) (.k4 (.k (.k (.cons (.nils _) (.all _)))))))))))<|aB ?_)
 refine aW ?_
 obtain ⟨x1,hx1,h⟩:=aZ h
 obtain ⟨x2,hx2,h⟩:=aS h
 refine aC (aA M (lra q9 la38 M M M M M (nle M) M)<|aA M (aX (r:=.int _ _) M M (lb M) cl16 (.cons (svA q9 M) .nil) M (eL _ _ hx1))<|aA M (aP M M (lb M) (svI M) (sv (d:=.int _ 0) M) M hx2)<|aB ?_)
 refine aR (b:=_) M (fun hc3=>?_) (fun hc3=>?_)
 ·
  replace h:=bS h hc3
  obtain ⟨x4,hx4,h⟩:=aZ h
  refine bE (aA M (aK M M (lb M) (sv (d:=.fn 26 q17) M))<|aA M (faR 0 M M M underlying38 M ti28 (lb M) M M)<|aA M (lra q14 la28 M M M M M (nle M) M)<|aA M (tM (r':=.agg (v3 x4.1)) (H1':=[(1000,.blk 3 [.int .i64 a1]),(1001,.blk 3 [.int .i64 a2]),(1002,.blk 52 (v7 x4.2.1)),(1003,.blk 9 [.str x4.2.2.1]),(1004,.blk 4 [.bool x4.2.2.2])]) 2 [1000,1001,1002,1003,1004] M M (lb M) cl26 (sv (d:=.fn 26 q17) M) (.cons (svA q14 M) .nil) M M ⟨M,M,by decide,M,List.forall_mem_cons.2 ⟨⟨M,M,M,M⟩,List.forall_mem_cons.2 ⟨⟨M,M,M,M⟩,List.forall_mem_cons.2 ⟨⟨M,M,M,M⟩,List.forall_mem_cons.2 ⟨⟨M,M,M,M⟩,List.forall_mem_cons.2 ⟨⟨M,M,M,M⟩,List.forall_mem_nil _⟩⟩⟩⟩⟩⟩ (uF _ _ _ _ _ _ _ hx4) M M (List.forall_mem_cons.2 ⟨⟨M,M⟩,List.forall_mem_cons.2 ⟨⟨M,M⟩,List.forall_mem_cons.2 ⟨⟨M,M⟩,List.forall_mem_cons.2 ⟨⟨M,M⟩,List.forall_mem_cons.2 ⟨⟨M,M⟩,List.forall_mem_nil _⟩⟩⟩⟩⟩) M)<|aA M (faR 0 M M M underlying38 M ti28 (lb M) M M)<|aA M (stA q14 q9 ti28 M M M M M M M M (nle M) M)<|cB ?_)
  refine aM ?_
  refine aC (aA M (lra q9 la38 M M M M M (nle M) M)<|aA M (stA q9 q9 ti38 M M M M M M M M (nle M) M)<|aB ?_)
  refine aT ?_
  obtain rfl:=sj_ h
  refine ⟨.inr M,(fun i=>i),⟨.nil,(.cons (.blk M M M) (.cons (.blk M M M) (.cons (.blk M M M) (.cons (.blk M M M) (.cons (.blk M M M) .nil))))),cA [1000,1001,1002,1003,1004] M (by decide),fun _ _=>M⟩,(.cons (rva la38 M M (nle M) M) .nil),M⟩
 ·
  replace h:=bT h hc3
  refine aV ?_
  refine aM ?_
  refine aC (aA M (lra q9 la38 M M M M M (nle M) M)<|aA M (stA q9 q9 ti38 M M M M M M M M (nle M) M)<|aB ?_)
  refine aT ?_
  obtain rfl:=sj_ h
  refine ⟨.inr M,(fun i=>i),⟨.nil,(.cons (.blk M M M) (.cons (.blk M M M) (.cons (.blk M M M) (.cons (.blk M M M) (.cons (.blk M M M) .nil))))),cA [1000,1001,1002,1003,1004] M (by decide),fun _ _=>M⟩,(.cons (rva la38 M M (nle M) M) .nil),M⟩

theorem nF (a0:bB) (a1:Int) (a2:Int) (r:(bB × aL × (List UInt8) × Bool)) (h:jF a0 a1 a2=some r):cJ prog 9 [.agg (v0 a0),.int .i64 a1,.int .i64 a2] (retD [.agg (v0 r.1),.agg (v7 r.2.1),.str r.2.2.1,.bool r.2.2.2]):=by
 refine bC (rs:=[.agg (v0 r.1),.agg (v7 r.2.1),.str r.2.2.1,.bool r.2.2.2]) func9 M ntmps9 (nle M) M fun O hO=>?_
 show IWP _ _ _ _ ⟨[(0,.agg (v0 a0)),(1,.int .i64 a1),(2,.int .i64 a2)],[]⟩ _
 unfold jF at h
 refine aC (aA M (bV (cs:=q9) 0 M M (lb M) M (svA q9 M) M M)<|aA M (bV (cs:=[.int _ _]) 1 M M (lb M) M (svI M) M M)<|aA M (bV (cs:=[.int _ _]) 2 M M (lb M) M (svI M) M M)<|aA M (bI (cs:=q10) (cs':=(w38 0 [] 0 ([]:List aL) ([]:List aI) false false false false 0 [] ([]:List aU) 0 [] 0 0)) 3 M M (lb M) M ti38 M M (.k (.k (.k (.cons (.nils _) (.cons (.nils _) (.k4 (.k (.k (.cons (.nils _) (.all _)))))))))))<|aA M (bI (cs:=q19) (cs':=(w44 0 0 0 false)) 4 M M (lb M) M ti52 M M (.all _))<|aA M (aE M M (lb M) (sv (d:=.str []) M))<|aA M (aE M M (lb M) (sv (d:=.bool false) M))<|aB ?_)
 refine aC (aA M (bI (cs:=q19) (cs':=(w44 0 0 0 false)) 5 M M (lb M) M ti52 M M (.all _))<|aB ?_)
 refine aC (aA M (bI (cs:=[.str _]) (cs':=[.str []]) 6 M M (lb M) M ti9 M M (.all _))<|aA M (bI (cs:=[.bool _]) (cs':=[.bool false]) 7 M M (lb M) M ti4 M M (.all _))<|aA M (bQ (ds':=[.str _]) M M ti9 (svR M) M (sv (d:=.str []) M) M M M (nle M) M)<|aA M (bQ (ds':=[.bool _]) M M ti4 (svR M) M (sv (d:=.bool false) M) M M M (nle M) M)<|aB ?_)
 obtain ⟨x1,hx1,h⟩:=aZ h
 refine aC (aA M (lra q9 la38 M M M M M (nle M) M)<|aA M (lD M M (lb M) (.cons (svR M) (.cons (svR M) (.cons (svR M) (.cons (svR M) (.cons (svR M) .nil))))))<|aA M (eN (r':=.agg (v0 x1.1)) (H1':=[(1,.blk 3 [.int .i64 a1]),(2,.blk 3 [.int .i64 a2]),(5,.blk 52 (v7 x1.2.1)),(6,.blk 9 [.str x1.2.2.1]),(7,.blk 4 [.bool x1.2.2.2])]) 8 [1,2,5,6,7] M M (lb M) cl25 (.cons (svA q9 M) (.cons (sv (d:=.fn 26 q17) M) .nil)) M M ⟨M,M,by decide,M,List.forall_mem_cons.2 ⟨⟨M,M,M,M⟩,List.forall_mem_cons.2 ⟨⟨M,M,M,M⟩,List.forall_mem_cons.2 ⟨⟨M,M,M,M⟩,List.forall_mem_cons.2 ⟨⟨M,M,M,M⟩,List.forall_mem_cons.2 ⟨⟨M,M,M,M⟩,List.forall_mem_nil _⟩⟩⟩⟩⟩⟩ (nS _ _ _ _ _ _ _ hx1) M M (List.forall_mem_cons.2 ⟨⟨M,M⟩,List.forall_mem_cons.2 ⟨⟨M,M⟩,List.forall_mem_cons.2 ⟨⟨M,M⟩,List.forall_mem_cons.2 ⟨⟨M,M⟩,List.forall_mem_cons.2 ⟨⟨M,M⟩,List.forall_mem_nil _⟩⟩⟩⟩⟩) M)<|aA M (stA q9 q9 ti38 M M M M M M M M (nle M) M)<|aB ?_)
 refine dH M [⟨[3],[0],[(16,.agg (v0 x1.1))],[]⟩,
  ⟨[10],[5],[(17,.agg (v7 x1.2.1))],[]⟩,
  ⟨[11],[6],[(18,.str x1.2.2.1)],[]⟩,
  ⟨[12],[7],[(19,.bool x1.2.2.2)],[]⟩,
  ⟨[6,16],[3],[],[(3,.blk 38 (v0 x1.1))]⟩,
  ⟨[7,17],[4],[],[(4,.blk 52 (v7 x1.2.1))]⟩,
  ⟨[18],[],[(8,.str x1.2.2.1)],[]⟩,
  ⟨[19],[],[(9,.bool x1.2.2.2)],[]⟩] M ?_ (by kernel_rfl) ?_
 ·refine .cons (lop M M fun S hA=>(bY (cs:=q9) M M (lb M) underlying38 ag38 ti38 (by decide) (svaR hA M M) (agi hA M M) (nle M) M)) ?_
  refine .cons (lop M M fun S hA=>(bY (cs:=q19) M M (lb M) underlying52 ag52 ti52 (by decide) (svaR hA M M) (agi hA M M) (nle M) M)) ?_
  refine .cons (lop M M fun S hA=>(aG (d:=.str _) M M (lb M) underlying9 ag9 ti9 (by decide) (svaR hA M M) (agi hA M M) (nle M) M)) ?_
  refine .cons (lop M M fun S hA=>(aG (d:=.bool _) M M (lb M) underlying4 ag4 ti4 (by decide) (svaR hA M M) (agi hA M M) (nle M) M)) ?_
  refine .cons (lop M M fun S hA=>(bQ (ds':=q9) M M ti38 (svaR hA M M) (agi hA M M) (svaA q9 hA M M) M M M (nle M) M)) ?_
  refine .cons (lop M M fun S hA=>(bQ (ds':=q19) M M ti52 (svaR hA M M) (agi hA M M) (svaA q19 hA M M) M M M (nle M) M)) ?_
  refine .cons (lop M M fun S hA=>(aE M M (lb M) (sv (d:=.str _) (agr hA M M)))) ?_
  refine .cons (lop M M fun S hA=>(aE M M (lb M) (svaB hA M M))) ?_
  exact .nil
 refine aT ?_
 obtain rfl:=sj_ h
 refine ⟨.inr M,(.cons (rva la38 M M (nle M) M) (.cons (rva la52 M M (nle M) M) (.cons (sv M) (.cons (sv M) .nil))))⟩

theorem oL (a0:gE) (r:Bool) (h:iA a0=some r):cJ prog 96 [.agg (v4 a0)] (.bool r):=by
 refine bC (rs:=[.bool r]) func96 M ntmps96 (nle M) M fun O hO=>?_
 show IWP _ _ _ _ ⟨[(0,.agg (v4 a0))],[]⟩ _
 unfold iA at h
 refine aC (aA M (bV (cs:=q18) 0 M M (lb M) M (svA q18 M) M M)<|aA M (aE M M (lb M) (sv (d:=.bool false) M))<|aB ?_)
 obtain ⟨x1,hx1,h⟩:=aS h
 refine aC (aA M (faR 3 M M M underlying121 M ti3 (lb M) M M)<|aA M (aG (d:=.int _ _) M M (lb M) underlying3 ag3 ti3 (by decide) (svR M) M (nle M) M)<|aA M (aP M M (lb M) (svI M) (sv (d:=.int _ 0) M) M hx1)<|aA M (asB M M M M)<|aB ?_)
 refine aT ?_
 obtain rfl:=sj_ h
 refine ⟨.inr M,(.cons (sv M) .nil)⟩

theorem sO (a0:gE) (a1:Int) (a2:Bool) (r:Bool) (h:iV a0 a1 a2=some r):cJ prog 60 [.agg (v4 a0),.int .i64 a1,.bool a2] (.bool r):=by
 refine bC (rs:=[.bool r]) func60 M ntmps60 (nle M) M fun O hO=>?_
 show IWP _ _ _ _ ⟨[(0,.agg (v4 a0)),(1,.int .i64 a1),(2,.bool a2)],[]⟩ _
 unfold iV at h
 refine aC (aA M (bV (cs:=q18) 0 M M (lb M) M (svA q18 M) M M)<|aA M (aE M M (lb M) (sv (d:=.bool false) M))<|aB ?_)
 refine aW ?_
 obtain ⟨x1,hx1,h⟩:=aZ h
 refine aC (aA M (lra q18 aE3 M M M M M (nle M) M)<|aA M (aX (r:=.bool _) M M (lb M) cl96 (.cons (svA q18 M) .nil) M (oL _ _ hx1))<|aB ?_)
 refine aR (b:=_) M (fun hc2=>?_) (fun hc2=>?_)
 ·
  replace h:=bS h hc2
  obtain ⟨x3,hx3,h⟩:=aS h
  obtain ⟨x4,hx4,h⟩:=aS h
  obtain ⟨x5,hx5,h⟩:=aS h
  obtain ⟨x6,hx6,h⟩:=aS h
  refine aC (aA M (mvI M M M M)<|aA M (faR 3 M M M underlying121 M ti3 (lb M) M M)<|aA M (aG (d:=.int _ _) M M (lb M) underlying3 ag3 ti3 (by decide) (svR M) M (nle M) M)<|aA M (aP M M (lb M) (svI M) (svI M) M hx3)<|aA M (mvB M M M M)<|aF M M (.one M) M (by decide) (fun hb=>(mvB M M M M))<|aF M M (.one M) M (by decide) (fun hb=>(aK M M (lb M) (svcB M hb)))<|aF M M (.two M) M (by decide) (fun hb=>(mvI M M M M))<|aF M M (.two M) M (by decide) (fun hb=>(faR 3 M M M underlying121 M ti3 (lb M) M M))<|aF M M (.two M) M (by decide) (fun hb=>(aG (d:=.int _ _) M M (lb M) underlying3 ag3 ti3 (by decide) (svcR M hb) M (nle M) M))<|aF M M (.two M) M (by decide) (fun hb=>(aP M M (lb M) (svcI M hb) (svcI M hb) M hx4))<|aF M M (.one M) M (by decide) (fun hb=>(pX M M (lb M) hb (svcB M hb) M M hx5))<|aA M (dT M M (lb M) (svB M) M M hx6)<|aA M (asB M M M M)<|aB ?_)
  refine aT ?_
  refine bA ?_
  obtain rfl:=sj_ h
  refine ⟨.inr M,(.cons (sv M) .nil)⟩
 ·
  replace h:=bT h hc2
  refine aV ?_
  refine aM ?_
  obtain ⟨x7,hx7,h⟩:=aZ h
  obtain ⟨x8,hx8,h⟩:=aS h
  obtain ⟨x9,hx9,h⟩:=aS h
  refine aC (aA M (mvB M M M M)<|aA M (mvB M M M M)<|aF M M (.one M) M (by decide) (fun hb=>(mvI M M M M))<|aF M M (.one M) M (by decide) (fun hb=>(lra q18 aE3 M M M M M (nle M) M))<|aF M M (.one M) M (by decide) (fun hb=>(aX (r:=.int _ _) M M (lb M) cl97 (.cons (svcA (v4 a0) M hb) .nil) M (pA _ _ (gd_t hx7 hb))))<|aF M M (.one M) M (by decide) (fun hb=>(aP M M (lb M) (svcI M hb) (svcI M hb) M hx8))<|aA M (cC M M (lb M) (svB M) M M hx9)<|aA M (asB M M M M)<|aB ?_)
  refine aT ?_
  obtain rfl:=sj_ h
  refine ⟨.inr M,(.cons (sv M) .nil)⟩

theorem gX (a0:(List aU)) (r:(List aU)) (h:dO a0=some r):cJ prog 98 [.slice false (a0.map aN.d)] (.slice false (r.map aN.d)):=by
 refine bC (rs:=[.slice false (r.map aN.d)]) func98 M ntmps98 (nle M) M fun O hO=>?_
 show IWP _ _ _ _ ⟨[(0,.slice false (a0.map aN.d))],[]⟩ _
 unfold dO at h
 refine aC (aA M (aE M M (lb M) (sv (d:=.nils) M))<|aB ?_)
 refine aW ?_
 refine aC (aA M (mvL M M M M)<|uV M M M (by decide) underlying29 (svL M) M <| fun bn1 hbn1 =>
  aB ?_)
 refine aR (b:=_) M (fun hc2=>?_) (fun hc2=>?_)
 ·
  replace h:=aAc h (mapE (hbn1 hc2))
  refine aC (aA M (aE M M (lb M) (sv (d:=.nils) M))<|aB ?_)
  refine aT ?_
  refine bA ?_
  obtain rfl:=sj_ h
  refine ⟨.inr M,(.cons (tU M M) .nil)⟩
 ·
  replace h:=aAd h
  refine aV ?_
  refine aM ?_
  obtain ⟨x3,hx3,h⟩:=aZ h
  refine aC (aA M (oP aN ([]:(List aU)) 0 M M (lb M) underlying29 gR M .nil M M (by decide))<|aA M (mvL M M M M)<|aA M (mN aN 1 M M (lb M) underlying29 gR M M M M (svL M) hx3)<|aA M (aE M M (lb M) (sv (d:=.gsl _ _ _) M))<|aB ?_)
  refine aT ?_
  obtain rfl:=sj_ h
  refine ⟨.inr M,(.cons (yS M M) .nil)⟩

theorem vY (a0:bM) (r:Int) (h:pS a0=some r):cJ prog 100 [.agg (v6 a0)] (.int .i64 r):=by
 refine bC (rs:=[.int .i64 r]) func100 M ntmps100 (nle M) M fun O hO=>?_
 show IWP _ _ _ _ ⟨[(0,.agg (v6 a0))],[]⟩ _
 unfold pS at h
 refine aC (aA M (bV (cs:=q21) 0 M M (lb M) M (svA q21 M) M M)<|aA M (aE M M (lb M) (sv (d:=.int _ 0) M))<|aB ?_)
 refine aC (aA M (faR 1 M M M underlying31 M ti9 (lb M) M M)<|aA M (aG (d:=.str _) M M (lb M) underlying9 ag9 ti9 (by decide) (svR M) M (nle M) M)<|aA M (dF M M (lb M) underlying9 (sv (d:=.str _) M) M)<|aA M (asI M M M M)<|aB ?_)
 refine aW ?_
 refine aC (aA M (faR 2 M M M underlying31 M ti29 (lb M) M M)<|aA M (lrL la29 M M M M M (nle M) M)<|aA M (cN aN (l:=a0.Parts) M M (lb M) underlying29 (svL M))<|aA M (aK M M (lb M) (sv (d:=.int _ 0) M))<|aB ?_)
 refine bG ?_
 refine dA (α:=Nat × Int × Int) (fun z=>⟨[(3,.int .i64 z.2.1),(10,.slice false (a0.Parts.map aN.d)),(11,.int .i64 (a0.Parts.length:Int)),(12,.int .i64 z.2.2)],[]⟩) (fun z=>iU a0 z.1 z.2.1 z.2.2=some r) (fun z=>z.1) (fuel,(a0.Ready.length:Int),0) (fun i=>i) ⟨(.sames M M),.nil,cA [] M (by decide),fun _ _=>M⟩ ?_ ?_
 ·exact h
 ·
  rintro ⟨n0,v6,v7⟩ h
  cases n0 with
  | zero=>exact absurd h (by unfold iU; exact nofun)
  | succ n0 =>
   unfold iU at h
   obtain ⟨x13,hx13,h⟩:=aS h
   refine aC (aA M (aP M M (lb M) (svI M) (svI M) M hx13)<|aB ?_)
   refine aW ?_
   refine aR (b:=_) M (fun hc14=>?_) (fun hc14=>?_)
   ·
    replace h:=bS h hc14
    refine aV ?_
    refine aM ?_
    refine aW ?_
    refine bG ?_
    obtain ⟨x15,hx15,h⟩:=aZ h
    refine aC (aA M (dB aN (cs:=q28) M M (lb M) underlying29 gR (svL M) (svI M) hx15 M M)<|aA M (cX (cs:=q28) M M (lb M) underlying165 vC gR (by decide) (sv (d:=.fptr q28) M) (nle M) M)<|aA M (bI (cs:=q28) (cs':=[.int .i64 0,.str []]) 0 M M (lb M) M gR M M (.all _))<|aA M (stA q28 q28 gR M M M M M M M M (nle M) M)<|aB ?_)
    obtain ⟨x16,hx16,h⟩:=aS h
    refine bE (aA M (mvI M M M M)<|aA M (faR 1 M M M underlying165 M ti9 (lb M) M M)<|aA M (aG (d:=.str _) M M (lb M) underlying9 ag9 ti9 (by decide) (svR M) M (nle M) M)<|aA M (dF M M (lb M) underlying9 (sv (d:=.str _) M) M)<|aA M (bN M M (lb M) (svI M) (svI M) M hx16)<|aA M (asI M M M M)<|cB ?_)
    refine bZ ?_
    refine aM ?_
    obtain ⟨x17,hx17,h⟩:=aS h
    refine bE (aA M (bN M M (lb M) (svI M) (sv (d:=.int _ 1) M) M hx17)<|aA M (mvI M M M M)<|cB ?_)
    refine aM ⟨(n0,x16,x17),(fun i=>i),⟨(.sames M M),.nil,cA [] M (by decide),fun _ _=>M⟩,?_,?_⟩
    exact h
    exact Nat.lt_succ_self _
   ·
    replace h:=bT h hc14
    refine cQ ?_
    refine bJ ?_
    refine bJ ?_
    refine cR ?_
    refine aM ?_
    refine aC (aA M (mvI M M M M)<|aA M (asI M M M M)<|aB ?_)
    refine aT ?_
    obtain rfl:=sj_ h
    refine ⟨.inr M,(.cons (sv M) .nil)⟩

theorem yH (a0:(List aU)) (a1:aU) (r:(List aU)) (h:nK a0 a1=some r):FnH prog 101 [.slice false (a0.map aN.d),.agg [.int .i64 a1.At,.str a1.Data]] [] (.osl 0 aN.sz r.length) [(0,.blk 165 (D.flat (r.map aN.d)))]:=by
 refine fN (rs:=[.osl 0 aN.sz r.length]) func101 M ntmps101 (nle M) fun O hO=>?_
 show IWP _ _ _ _ ⟨[(0,.slice false (a0.map aN.d)),(1,.agg [.int .i64 a1.At,.str a1.Data])],[]⟩ _
 unfold nK at h
 refine aC (aA M (bV (cs:=q28) 0 M M (lb M) M (svA q28 M) M M)<|aA M (aE M M (lb M) (sv (d:=.nils) M))<|aB ?_)
 refine aDu ?_
 refine aC (aA M (aE M M (lb M) (sv (d:=.nils) M))<|aB ?_)
 refine aC (aA M (aE M M (lb M) (sv (d:=.int _ 0) M))<|aB ?_)
 refine aW ?_
 refine bG ?_
 refine dA (α:=Nat × (List aU) × Int) (fun z=>⟨[(0,.slice false (a0.map aN.d)),(3,.ref 0 0),(5,.osl 22 aN.sz z.2.1.length),(6,.int .i64 z.2.2)],[(0,.blk 165 [.int .i64 a1.At,.str a1.Data]),(22,.blk 165 (D.flat (z.2.1.map aN.d)))]⟩) (fun z=>gF a0 a1 z.1 z.2.1 z.2.2=some r) (fun z=>z.1) (fuel,([]:(List aU)),0) (fun i=>if i=22 then 73 else i) ⟨(.s M M (.s M M (.cons (.nilo M) (.sames M M)))),(.cons (.blk M M M) (.cons (.nilb M) .nil)),cA [0,73] M (by decide),(fun i hi=>by first | rfl | (show (if _ then _ else _)=_; (repeat' split) <;> omega))⟩ ?_ ?_
 ·exact h
 ·
  rintro ⟨n0,v10,v11⟩ h
  cases n0 with
  | zero=>exact absurd h (by unfold gF; exact nofun)
  | succ n0 =>
   unfold gF at h
   refine aW ?_
   obtain ⟨x21,hx21,h⟩:=aS h
   obtain ⟨x22,hx22,h⟩:=aZ h
   obtain ⟨x23,hx23,h⟩:=aZ h
   obtain ⟨x24,hx24,h⟩:=aS h
   obtain ⟨x25,hx25,h⟩:=aS h
   refine dH M [⟨[6],[],[(8,.int .i64 v11)],[]⟩,
    ⟨[0],[],[(9,.slice false (a0.map aN.d))],[]⟩,
    ⟨[9],[],[(10,.int .i64 (a0.length:Int))],[]⟩,
    ⟨[8,10],[],[(11,.bool x21)],[]⟩,
    ⟨[11],[],[(12,.bool x21)],[]⟩,
    ⟨[0,12],[],[(13,.cnd (x21 == true) (.slice false (a0.map aN.d)))],[]⟩,
    ⟨[6,12],[],[(14,.cnd (x21 == true) (.int .i64 v11))],[]⟩,
    ⟨[12,13,14],[],[(15,.cnd (x21 == true) (.fptr [.int .i64 x22.At,.str x22.Data]))],[]⟩,
    ⟨[12,15],[],[(16,.cnd (x21 == true) (.agg [.int .i64 x22.At,.str x22.Data]))],[]⟩,
    ⟨[12,16],[],[(17,.cnd (x21 == true) (.int .i64 x23))],[]⟩,
    ⟨[3,12],[],[(18,.cnd (x21 == true) (.ref 0 0))],[]⟩,
    ⟨[12,18],[0],[(19,.cnd (x21 == true) (.int .i64 a1.At))],[]⟩,
    ⟨[12,17,19],[],[(20,.cnd (x21 == true) (.bool x24))],[]⟩,
    ⟨[12,20],[],[(21,.bool x25)],[]⟩] M ?_ (by kernel_rfl) ?_
   ·refine .cons (lop M M fun S hA=>(aK M M (lb M) (svaI hA M M))) ?_
    refine .cons (lop M M fun S hA=>(aK M M (lb M) (svaL hA M M))) ?_
    refine .cons (lop M M fun S hA=>(cN aN (l:=a0) M M (lb M) underlying29 (svaL hA M M))) ?_
    refine .cons (lop M M fun S hA=>(aP M M (lb M) (svaI hA M M) (svaI hA M M) M hx21)) ?_
    refine .cons (lop M M fun S hA=>(aK M M (lb M) (svaB hA M M))) ?_
    refine .cons (lopg M M M M (by decide) (fun S hA=>grd1 hA M M) (fun S hA hb=>(aK M M (lb M) (svaL hA M M)))) ?_
    refine .cons (lopg M M M M (by decide) (fun S hA=>grd1 hA M M) (fun S hA hb=>(aK M M (lb M) (svaI hA M M)))) ?_
    refine .cons (lopg M M M M (by decide) (fun S hA=>grd1 hA M M) (fun S hA hb=>(dB aN (cs:=q28) M M (lb M) underlying29 gR (svc (d:=.slice _ _) (agr hA M M) hb) (svc (d:=.int _ _) (agr hA M M) hb) (gd_t hx22 hb) M M))) ?_
    refine .cons (lopg M M M M (by decide) (fun S hA=>grd1 hA M M) (fun S hA hb=>(cX (cs:=q28) M M (lb M) underlying165 vC gR (by decide) (svc (d:=.fptr q28) (agr hA M M) hb) (nle M) M))) ?_
    refine .cons (lopg M M M M (by decide) (fun S hA=>grd1 hA M M) (fun S hA hb=>(aX (r:=.int _ _) M M (lb M) aC4 (.cons (svc (d:=.agg [.int .i64 x22.At,.str x22.Data]) (agr hA M M) hb) .nil) M (iP _ _ (gd_t hx23 hb))))) ?_
    refine .cons (lopg M M M M (by decide) (fun S hA=>grd1 hA M M) (fun S hA hb=>(aO M M (lb M) underlying165 M ti3 (by decide) (svaR hA M M) (off':=0) M))) ?_
    refine .cons (lopg M M M M (by decide) (fun S hA=>grd1 hA M M) (fun S hA hb=>(aG (d:=.int _ _) M M (lb M) underlying3 ag3 ti3 (by decide) (svc (d:=.ref _ _) (agr hA M M) hb) (agi hA M M) (nle M) M))) ?_
    refine .cons (lopg M M M M (by decide) (fun S hA=>grd1 hA M M) (fun S hA hb=>(aP M M (lb M) (svc (d:=.int _ _) (agr hA M M) hb) (svc (d:=.int _ _) (agr hA M M) hb) M hx24))) ?_
    refine .cons (lop M M fun S hA=>(cC M M (lb M) (svaB hA M M) (agr hA M M) M hx25)) ?_
    exact .nil
   refine aR (b:=_) M (fun hc26=>?_) (fun hc26=>?_)
   ·
    replace h:=bS h hc26
    refine aV ?_
    refine aM ?_
    refine aW ?_
    refine bG ?_
    obtain ⟨x27,hx27,h⟩:=aZ h
    obtain ⟨x28,hx28,h⟩:=aZ h
    refine bE (aA M (aK M M (lb M) (sv (d:=.osl _ _ _) M))<|aA M (mvL M M M M)<|aA M (mvI M M M M)<|aA M (dB aN (cs:=q28) M M (lb M) underlying29 gR (svL M) (svI M) hx27 M M)<|aA M (cX (cs:=q28) M M (lb M) underlying165 vC gR (by decide) (sv (d:=.fptr q28) M) (nle M) M)<|aA M (kG aN.toEnc0 ([x27]:(List aU)) 23 M M (lb M) underlying29 gR M (.cons (svA q28 M) .nil) M M (by decide))<|aA M (lQ aN.toEnc0 24 M M (lb M) underlying29 gR M M M M M (rD aN.toEnc0 M M M) hx28)<|aA M (aE M M (lb M) (sv (d:=.osl _ _ _) M))<|cB ?_)
    refine bZ ?_
    refine aM ?_
    obtain ⟨x29,hx29,h⟩:=aS h
    refine bE (aA M (mvI M M M M)<|aA M (bN M M (lb M) (svI M) (sv (d:=.int _ 1) M) M hx29)<|aA M (asI M M M M)<|cB ?_)
    refine aM ⟨(n0,x28,x29),(fun i=>if i=22 then 24 else i),⟨(.sames M M),(.cons (.blk M M M) (.cons (EntW.lst M) .nil)),cA [0,24] M (by decide),(fun i hi=>by first | rfl | (show (if _ then _ else _)=_; (repeat' split) <;> omega))⟩,?_,?_⟩
    exact h
    exact Nat.lt_succ_self _
   ·
    replace h:=bT h hc26
    refine cQ ?_
    refine bJ ?_
    refine bJ ?_
    refine cR ?_
    refine aM ?_
    refine aW ?_
    refine aDv ?_
    refine aM ?_
    refine gP (α:=Int × Int × (List UInt8)) (fun z=>⟨[(0,.slice false (a0.map aN.d)),(3,.ref 0 0),(5,.osl 22 aN.sz v10.length),(6,.int .i64 z.1)],[(0,.blk 165 [.int .i64 z.2.1,.str z.2.2]),(22,.blk 165 (D.flat (v10.map aN.d)))]⟩) (fun z=>jQ a0 v10 z.1 z.2.1 z.2.2=some r) ?_ ?_
    ·
     refine bG ?_
     refine dA (α:=Nat × Int × Int × (List UInt8)) (fun z=>⟨[(0,.slice false (a0.map aN.d)),(3,.ref 0 0),(5,.osl 22 aN.sz v10.length),(6,.int .i64 z.2.1)],[(0,.blk 165 [.int .i64 z.2.2.1,.str z.2.2.2]),(22,.blk 165 (D.flat (v10.map aN.d)))]⟩) (fun z=>fD a0 v10 z.1 z.2.1 z.2.2.1 z.2.2.2=some r) (fun z=>z.1) (fuel,v11,a1.At,a1.Data) (fun i=>i) ⟨(.sames M M),(.cons (.blk M M M) (.cons (EntW.lst M) .nil)),cA [0,22] M (by decide),fun _ _=>M⟩ ?_ ?_
     ·exact h
     ·
      rintro ⟨n3,v131,v132,v133⟩ h
      cases n3 with
      | zero=>exact absurd h (by unfold fD; exact nofun)
      | succ n3 =>
       unfold fD at h
       refine aW ?_
       obtain ⟨x157,hx157,h⟩:=aS h
       refine aC (aA M (mvI M M M M)<|aA M (mvL M M M M)<|aA M (cN aN (l:=a0) M M (lb M) underlying29 (svL M))<|aA M (aP M M (lb M) (svI M) (svI M) M hx157)<|aB ?_)
       refine aR (b:=_) M (fun hc158=>?_) (fun hc158=>?_)
       ·
        replace h:=bS h hc158
        refine aV ?_
        refine aM ?_
        refine aW ?_
        refine bG ?_
        obtain ⟨x159,hx159,h⟩:=aZ h
        refine aC (aA M (mvL M M M M)<|aA M (mvI M M M M)<|aA M (dB aN (cs:=q28) M M (lb M) underlying29 gR (svL M) (svI M) hx159 M M)<|aA M (cX (cs:=q28) M M (lb M) underlying165 vC gR (by decide) (sv (d:=.fptr q28) M) (nle M) M)<|aA M (bI (cs:=q28) (cs':=[.int .i64 0,.str []]) 23 M M (lb M) M gR M M (.all _))<|aA M (stA q28 q28 gR M M M M M M M M (nle M) M)<|aB ?_)
        refine bG ?_
        obtain ⟨x160,hx160,h⟩:=aZ h
        obtain ⟨x161,hx161,h⟩:=aS h
        refine dH M [⟨[7],[],[(67,.ref 23 0)],[]⟩,
         ⟨[67],[23],[(68,.int .i64 x159.At)],[]⟩,
         ⟨[3],[0],[(69,.agg [.int .i64 v132,.str v133])],[]⟩,
         ⟨[69],[],[(70,.int .i64 x160)],[]⟩,
         ⟨[68,70],[],[(71,.bool x161)],[]⟩,
         ⟨[71],[],[(66,.bool x161)],[]⟩] M ?_ (by kernel_rfl) ?_
        ·refine .cons (lop M M fun S hA=>(aO M M (lb M) underlying165 M ti3 (by decide) (svaR hA M M) (off':=0) M)) ?_
         refine .cons (lop M M fun S hA=>(aG (d:=.int _ _) M M (lb M) underlying3 ag3 ti3 (by decide) (svaR hA M M) (agi hA M M) (nle M) M)) ?_
         refine .cons (lop M M fun S hA=>(bY (cs:=q28) M M (lb M) underlying165 vC gR (by decide) (svaR hA M M) (agi hA M M) (nle M) M)) ?_
         refine .cons (lop M M fun S hA=>(aX (r:=.int _ _) M M (lb M) aC4 (.cons (svaA q28 hA M M) .nil) M (iP _ _ hx160))) ?_
         refine .cons (lop M M fun S hA=>(aP M M (lb M) (svaI hA M M) (svaI hA M M) M hx161)) ?_
         refine .cons (lop M M fun S hA=>(aE M M (lb M) (svaB hA M M))) ?_
         exact .nil
        refine aR (b:=_) M (fun hc162=>?_) (fun hc162=>?_)
        ·
         replace h:=bS h hc162
         refine cQ ?_
         refine cT M ?_
         refine cT M ?_
         refine bJ ?_
         refine bJ ?_
         refine cR ?_
         refine aM ⟨(v131,v132,v133),(fun i=>i),⟨(.sames M M),(.cons (.blk M M M) (.cons (EntW.lst M) .nil)),cA [0,22] M (by decide),fun _ _=>M⟩,?_⟩
         exact h
        ·
         replace h:=bT h hc162
         obtain ⟨x163,hx163,h⟩:=aS h
         refine aC (aA M (faR 0 M M M underlying165 M ti3 (lb M) M M)<|aA M (aG (d:=.int _ _) M M (lb M) underlying3 ag3 ti3 (by decide) (svR M) M (nle M) M)<|aA M (faR 0 M M M underlying165 M ti3 (lb M) M M)<|aA M (aG (d:=.int _ _) M M (lb M) underlying3 ag3 ti3 (by decide) (svR M) M (nle M) M)<|aA M (aP M M (lb M) (svI M) (svI M) M hx163)<|aA M (asB M M M M)<|aB ?_)
         refine aR (b:=_) M (fun hc164=>?_) (fun hc164=>?_)
         ·
          replace h:=bS h hc164
          obtain ⟨x165,hx165,h⟩:=aZ h
          obtain ⟨x166,hx166,h⟩:=aS h
          obtain ⟨x167,hx167,h⟩:=aS h
          obtain ⟨x168,hx168,h⟩:=aZ h
          obtain ⟨x169,hx169,h⟩:=aZ h
          refine qO M [⟨[7],[],[(78,.ref 23 0)],[]⟩,
           ⟨[78],[23],[(79,.int .i64 x159.At)],[]⟩,
           ⟨[7],[],[(80,.ref 23 1)],[]⟩,
           ⟨[80],[23],[(81,.str x159.Data)],[]⟩,
           ⟨[3],[],[(82,.ref 0 1)],[]⟩,
           ⟨[82],[0],[(83,.str v133)],[]⟩,
           ⟨[3],[],[(84,.ref 0 1)],[]⟩,
           ⟨[84],[0],[(85,.str v133)],[]⟩,
           ⟨[85],[],[(86,.int .i64 (v133.length:Int))],[]⟩,
           ⟨[7],[23],[(87,.agg [.int .i64 x159.At,.str x159.Data])],[]⟩,
           ⟨[87],[],[(88,.int .i64 x165)],[]⟩,
           ⟨[3],[],[(89,.ref 0 0)],[]⟩,
           ⟨[89],[0],[(90,.int .i64 v132)],[]⟩,
           ⟨[88,90],[],[(91,.int .i64 x166)],[]⟩,
           ⟨[86,91],[],[(92,.int .i64 x167)],[]⟩,
           ⟨[83,92],[],[(93,.str x168)],[]⟩,
           ⟨[81,93],[],[(94,.str x169)],[]⟩,
           ⟨[79,94],[],[(95,.agg [.int .i64 x159.At,.str x169])],[]⟩,
           ⟨[3,95],[0],[],[(0,.blk 165 [.int .i64 x159.At,.str x169])]⟩] M ?_ (by kernel_rfl) ?_
          ·refine .cons (lop M M fun S hA=>(aO M M (lb M) underlying165 M ti3 (by decide) (svaR hA M M) (off':=0) M)) ?_
           refine .cons (lop M M fun S hA=>(aG (d:=.int _ _) M M (lb M) underlying3 ag3 ti3 (by decide) (svaR hA M M) (agi hA M M) (nle M) M)) ?_
           refine .cons (lop M M fun S hA=>(aO M M (lb M) underlying165 M ti9 (by decide) (svaR hA M M) (off':=1) M)) ?_
           refine .cons (lop M M fun S hA=>(aG (d:=.str _) M M (lb M) underlying9 ag9 ti9 (by decide) (svaR hA M M) (agi hA M M) (nle M) M)) ?_
           refine .cons (lop M M fun S hA=>(aO M M (lb M) underlying165 M ti9 (by decide) (svaR hA M M) (off':=1) M)) ?_
           refine .cons (lop M M fun S hA=>(aG (d:=.str _) M M (lb M) underlying9 ag9 ti9 (by decide) (svaR hA M M) (agi hA M M) (nle M) M)) ?_
           refine .cons (lop M M fun S hA=>(aO M M (lb M) underlying165 M ti9 (by decide) (svaR hA M M) (off':=1) M)) ?_
           refine .cons (lop M M fun S hA=>(aG (d:=.str _) M M (lb M) underlying9 ag9 ti9 (by decide) (svaR hA M M) (agi hA M M) (nle M) M)) ?_
           refine .cons (lop M M fun S hA=>(dF M M (lb M) underlying9 (sv (d:=.str _) (agr hA M M)) M)) ?_
           refine .cons (lop M M fun S hA=>(bY (cs:=q28) M M (lb M) underlying165 vC gR (by decide) (svaR hA M M) (agi hA M M) (nle M) M)) ?_
           refine .cons (lop M M fun S hA=>(aX (r:=.int _ _) M M (lb M) aC4 (.cons (svaA q28 hA M M) .nil) M (iP _ _ hx165))) ?_
           refine .cons (lop M M fun S hA=>(aO M M (lb M) underlying165 M ti3 (by decide) (svaR hA M M) (off':=0) M)) ?_
           refine .cons (lop M M fun S hA=>(aG (d:=.int _ _) M M (lb M) underlying3 ag3 ti3 (by decide) (svaR hA M M) (agi hA M M) (nle M) M)) ?_
           refine .cons (lop M M fun S hA=>(bN M M (lb M) (svaI hA M M) (svaI hA M M) M hx166)) ?_
           refine .cons (lop M M fun S hA=>(nG M M (lb M) (svaI hA M M) (svaI hA M M) hx167)) ?_
           refine .cons (lop M M fun S hA=>(jO M M (lb M) underlying9 (sv (d:=.str _) (agr hA M M)) ⟨_,(svaI hA M M)⟩ M hx168)) ?_
           refine .cons (lop M M fun S hA=>(oC M M (lb M) (sv (d:=.str _) (agr hA M M)) (sv (d:=.str _) (agr hA M M)) hx169)) ?_
           refine .cons (lop M M fun S hA=>(cF (cs:=q28) M M (lb M) underlying165 gR pl165 M (.cons (svaI hA M M) (.cons (sv (d:=.str _) (agr hA M M)) .nil)) M)) ?_
           refine .cons (lop M M fun S hA=>(bQ (ds':=q28) M M gR (svaR hA M M) (agi hA M M) (svaA q28 hA M M) M M M (nle M) M)) ?_
           exact .nil
          refine bZ ?_
          refine bZ ?_
          refine aM ?_
          obtain ⟨x170,hx170,h⟩:=aS h
          refine bE (aA M (mvI M M M M)<|aA M (bN M M (lb M) (svI M) (sv (d:=.int _ 1) M) M hx170)<|aA M (asI M M M M)<|cB ?_)
          refine aM ⟨(n3,x170,x159.At,x169),(fun i=>i),⟨(.sames M M),(.cons (.blk M M M) (.cons (EntW.lst M) .nil)),cA [0,22] M (by decide),fun _ _=>M⟩,?_,?_⟩
          exact h
          exact Nat.lt_succ_self _
         ·
          replace h:=bT h hc164
          obtain ⟨x171,hx171,h⟩:=aS h
          obtain ⟨x172,hx172,h⟩:=aZ h
          obtain ⟨x173,hx173,h⟩:=aZ h
          obtain ⟨x174,hx174,h⟩:=aZ h
          obtain ⟨x175,hx175,h⟩:=aS h
          obtain ⟨x176,hx176,h⟩:=aS h
          obtain ⟨x177,hx177,h⟩:=aZ h
          obtain ⟨x178,hx178,h⟩:=aZ h
          refine qO M [⟨[3],[],[(41,.ref 0 1)],[]⟩,
           ⟨[41],[0],[(42,.str v133)],[]⟩,
           ⟨[7],[],[(43,.ref 23 0)],[]⟩,
           ⟨[43],[23],[(44,.int .i64 x159.At)],[]⟩,
           ⟨[3],[],[(45,.ref 0 0)],[]⟩,
           ⟨[45],[0],[(46,.int .i64 v132)],[]⟩,
           ⟨[44,46],[],[(47,.int .i64 x171)],[]⟩,
           ⟨[42,47],[],[(48,.str x172)],[]⟩,
           ⟨[7],[],[(49,.ref 23 1)],[]⟩,
           ⟨[49],[23],[(50,.str x159.Data)],[]⟩,
           ⟨[48,50],[],[(51,.str x173)],[]⟩,
           ⟨[3],[],[(52,.ref 0 1)],[]⟩,
           ⟨[52],[0],[(53,.str v133)],[]⟩,
           ⟨[3],[],[(54,.ref 0 1)],[]⟩,
           ⟨[54],[0],[(55,.str v133)],[]⟩,
           ⟨[55],[],[(56,.int .i64 (v133.length:Int))],[]⟩,
           ⟨[7],[23],[(57,.agg [.int .i64 x159.At,.str x159.Data])],[]⟩,
           ⟨[57],[],[(58,.int .i64 x174)],[]⟩,
           ⟨[3],[],[(59,.ref 0 0)],[]⟩,
           ⟨[59],[0],[(60,.int .i64 v132)],[]⟩,
           ⟨[58,60],[],[(61,.int .i64 x175)],[]⟩,
           ⟨[56,61],[],[(62,.int .i64 x176)],[]⟩,
           ⟨[53,62],[],[(63,.str x177)],[]⟩,
           ⟨[51,63],[],[(64,.str x178)],[]⟩,
           ⟨[3],[],[(65,.ref 0 1)],[]⟩,
           ⟨[64,65],[0],[],[(0,.blk 165 [.int .i64 v132,.str x178])]⟩] M ?_ (by kernel_rfl) ?_
          ·refine .cons (lop M M fun S hA=>(aO M M (lb M) underlying165 M ti9 (by decide) (svaR hA M M) (off':=1) M)) ?_
           refine .cons (lop M M fun S hA=>(aG (d:=.str _) M M (lb M) underlying9 ag9 ti9 (by decide) (svaR hA M M) (agi hA M M) (nle M) M)) ?_
           refine .cons (lop M M fun S hA=>(aO M M (lb M) underlying165 M ti3 (by decide) (svaR hA M M) (off':=0) M)) ?_
           refine .cons (lop M M fun S hA=>(aG (d:=.int _ _) M M (lb M) underlying3 ag3 ti3 (by decide) (svaR hA M M) (agi hA M M) (nle M) M)) ?_
           refine .cons (lop M M fun S hA=>(aO M M (lb M) underlying165 M ti3 (by decide) (svaR hA M M) (off':=0) M)) ?_
           refine .cons (lop M M fun S hA=>(aG (d:=.int _ _) M M (lb M) underlying3 ag3 ti3 (by decide) (svaR hA M M) (agi hA M M) (nle M) M)) ?_
           refine .cons (lop M M fun S hA=>(bN M M (lb M) (svaI hA M M) (svaI hA M M) M hx171)) ?_
           refine .cons (lop M M fun S hA=>(jO M M (lb M) underlying9 (sv (d:=.str _) (agr hA M M)) M ⟨_,(svaI hA M M)⟩ hx172)) ?_
           refine .cons (lop M M fun S hA=>(aO M M (lb M) underlying165 M ti9 (by decide) (svaR hA M M) (off':=1) M)) ?_
           refine .cons (lop M M fun S hA=>(aG (d:=.str _) M M (lb M) underlying9 ag9 ti9 (by decide) (svaR hA M M) (agi hA M M) (nle M) M)) ?_
           refine .cons (lop M M fun S hA=>(oC M M (lb M) (sv (d:=.str _) (agr hA M M)) (sv (d:=.str _) (agr hA M M)) hx173)) ?_
           refine .cons (lop M M fun S hA=>(aO M M (lb M) underlying165 M ti9 (by decide) (svaR hA M M) (off':=1) M)) ?_
           refine .cons (lop M M fun S hA=>(aG (d:=.str _) M M (lb M) underlying9 ag9 ti9 (by decide) (svaR hA M M) (agi hA M M) (nle M) M)) ?_
           refine .cons (lop M M fun S hA=>(aO M M (lb M) underlying165 M ti9 (by decide) (svaR hA M M) (off':=1) M)) ?_
           refine .cons (lop M M fun S hA=>(aG (d:=.str _) M M (lb M) underlying9 ag9 ti9 (by decide) (svaR hA M M) (agi hA M M) (nle M) M)) ?_
           refine .cons (lop M M fun S hA=>(dF M M (lb M) underlying9 (sv (d:=.str _) (agr hA M M)) M)) ?_
           refine .cons (lop M M fun S hA=>(bY (cs:=q28) M M (lb M) underlying165 vC gR (by decide) (svaR hA M M) (agi hA M M) (nle M) M)) ?_
           refine .cons (lop M M fun S hA=>(aX (r:=.int _ _) M M (lb M) aC4 (.cons (svaA q28 hA M M) .nil) M (iP _ _ hx174))) ?_
           refine .cons (lop M M fun S hA=>(aO M M (lb M) underlying165 M ti3 (by decide) (svaR hA M M) (off':=0) M)) ?_
           refine .cons (lop M M fun S hA=>(aG (d:=.int _ _) M M (lb M) underlying3 ag3 ti3 (by decide) (svaR hA M M) (agi hA M M) (nle M) M)) ?_
           refine .cons (lop M M fun S hA=>(bN M M (lb M) (svaI hA M M) (svaI hA M M) M hx175)) ?_
           refine .cons (lop M M fun S hA=>(nG M M (lb M) (svaI hA M M) (svaI hA M M) hx176)) ?_
           refine .cons (lop M M fun S hA=>(jO M M (lb M) underlying9 (sv (d:=.str _) (agr hA M M)) ⟨_,(svaI hA M M)⟩ M hx177)) ?_
           refine .cons (lop M M fun S hA=>(oC M M (lb M) (sv (d:=.str _) (agr hA M M)) (sv (d:=.str _) (agr hA M M)) hx178)) ?_
           refine .cons (lop M M fun S hA=>(aO M M (lb M) underlying165 M ti9 (by decide) (svaR hA M M) (off':=1) M)) ?_
           refine .cons (lop M M fun S hA=>(bQ (ds':=q28) M M ti9 (svaR hA M M) (agi hA M M) (sv (d:=.str _) (agr hA M M)) M M M (nle M) M)) ?_
           exact .nil
          refine bZ ?_
          refine bZ ?_
          refine aM ?_
          obtain ⟨x179,hx179,h⟩:=aS h
          refine bE (aA M (mvI M M M M)<|aA M (bN M M (lb M) (svI M) (sv (d:=.int _ 1) M) M hx179)<|aA M (asI M M M M)<|cB ?_)
          refine aM ⟨(n3,x179,v132,x178),(fun i=>i),⟨(.sames M M),(.cons (.blk M M M) (.cons (EntW.lst M) .nil)),cA [0,22] M (by decide),fun _ _=>M⟩,?_,?_⟩
          exact h
          exact Nat.lt_succ_self _
       ·
        replace h:=bT h hc158
        refine cQ ?_
        refine bJ ?_
        refine bJ ?_
        refine cR ?_
        refine aM ⟨(v131,v132,v133),(fun i=>i),⟨(.sames M M),(.cons (.blk M M M) (.cons (EntW.lst M) .nil)),cA [0,22] M (by decide),fun _ _=>M⟩,?_⟩
        exact h
    ·
     rintro ⟨v102,v103,v104⟩ h
     unfold jQ at h
     obtain ⟨x105,hx105,h⟩:=aZ h
     obtain ⟨x106,hx106,h⟩:=aZ h
     obtain ⟨x107,hx107,h⟩:=aZ h
     refine dH M [⟨[5],[],[(96,.osl 22 aN.sz v10.length)],[]⟩,
      ⟨[3],[0],[(97,.agg [.int .i64 v103,.str v104])],[]⟩,
      ⟨[97],[23],[(98,.osl 23 aN.sz (([(⟨v103,v104⟩:aU)]:(List aU)).length))],[(23,.blk 165 (D.flat ((([(⟨v103,v104⟩:aU)]:(List aU))).map aN.d)))]⟩,
      ⟨[96,98],[22,23,24],[(99,.osl 24 aN.sz x105.length)],[(24,.blk 165 (D.flat (x105.map aN.d))),(22,.none)]⟩,
      ⟨[0],[],[(100,.slice false (a0.map aN.d))],[]⟩,
      ⟨[6],[],[(101,.int .i64 v102)],[]⟩,
      ⟨[100,101],[],[(102,.slice false (x106.map aN.d))],[]⟩,
      ⟨[99,102],[24,25],[(103,.osl 25 aN.sz x107.length)],[(25,.blk 165 (D.flat (x107.map aN.d))),(24,.none)]⟩,
      ⟨[103],[],[(4,.osl 25 aN.sz x107.length)],[]⟩] M ?_ (by kernel_rfl) ?_
     ·refine .cons (lop M M fun S hA=>(aK M M (lb M) (sv (d:=.osl _ _ _) (agr hA M M)))) ?_
      refine .cons (lop M M fun S hA=>(bY (cs:=q28) M M (lb M) underlying165 vC gR (by decide) (svaR hA M M) (agi hA M M) (nle M) M)) ?_
      refine .cons (lop M M fun S hA=>(kG aN.toEnc0 ([(⟨v103,v104⟩:aU)]:(List aU)) 23 M M (lb M) underlying29 gR (agi hA M M) (.cons (svaA q28 hA M M) .nil) M M (by decide))) ?_
      refine .cons (lop M M fun S hA=>(lQ aN.toEnc0 24 M M (lb M) underlying29 gR M (agr hA M M) M (agi hA M M) (agi hA M M) (rD aN.toEnc0 (agr hA M M) M (agi hA M M)) hx105)) ?_
      refine .cons (lop M M fun S hA=>(aK M M (lb M) (svaL hA M M))) ?_
      refine .cons (lop M M fun S hA=>(aK M M (lb M) (svaI hA M M))) ?_
      refine .cons (lop M M fun S hA=>(uS aN M M (lb M) underlying29 gR (svaL hA M M) ⟨_,(svaI hA M M)⟩ M hx106)) ?_
      refine .cons (lop M M fun S hA=>(lQ aN.toEnc0 25 M M (lb M) underlying29 gR M (agr hA M M) M (agi hA M M) (agi hA M M) (aAp aN (ys:=x106) (svaL hA M M)) hx107)) ?_
      refine .cons (lop M M fun S hA=>(aE M M (lb M) (sv (d:=.osl _ _ _) (agr hA M M)))) ?_
      exact .nil
     refine aT ?_
     refine aEm ?_
     obtain rfl:=sj_ h
     refine ⟨.inr M,(fun i=>if i=0 then 25 else i),⟨.nil,(.cons (EntW.lst M) .nil),cA [25] M (by decide),(fun i hi=>by first | rfl | (show (if _ then _ else _)=_; (repeat' split) <;> omega))⟩,(.cons (sv M) .nil),M⟩
end Go.Proofs.YtfaflcdfgaoehaaGreat
